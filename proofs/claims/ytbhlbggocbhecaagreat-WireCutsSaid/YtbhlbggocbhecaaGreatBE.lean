/-
  Data, part yE: a RRSIG's data read. Sort, part B: comparing, sorting by insertion, at numbers of sixteen bits. Sort, part C: the heap's sort, at numbers of sixteen bits. Sort, part D: choosing a pivot, at numbers of sixteen bits. Sort, part E: turning a range about, breaking patterns, at numbers of sixteen bits. Sort, part F: parting a range, at numbers of sixteen bits. Sort, part G: sorting a little, at numbers of sixteen bits. Types, part A: bitmaps of types, sorted and clean lists of types, in plain Lean: what is written is read again, and nothing else is. Sort, part H: the sort itself, at numbers of sixteen bits. Sort, part I: what a slice's iterator gives, collected, at numbers of sixteen bits (the kit's own walk, for ranges over a function). Sort, part J: sorted, out of an iterator, at numbers of sixteen bits. Sort, part K: doubles struck, at numbers of sixteen bits. Types, part B: types as texts, in plain Lean: what is written is read again. Types, part L: bytes held against each other. Types, part M: rows of types; rising rows, as the program and the document make them. Types, part N: bitmaps, as the program writes them. Types, part O: bitmaps, as the document writes them. Types, part P: bitmaps, read by the program.
-/
import Derived.Test.YtbhlbggocbhecaaGreatBD
import Derived.RangeFuncBox
import Derived.RangeFuncLeaves
import Derived.Shelf.Abstract
import Derived.WalkKit
import Derived.OwnWalkIn
import Derived.TacticsInMore
import Derived.LoopNIn
import Derived.LoopIn
import Derived.Maps.AppendAt
import Derived.Test.YtbhlbggocbhecaaGreatProg
import Derived.KernelRfl
import Derived.Test.YtbhlbggocbhecaaGreatBC
namespace Go.AX.D5
open Go Go.Proofs
set_option maxRecDepth 20000
theorem st9 (a0 a1 a2 a3 a4 a5 a6 a7 a8 b0 b1 b2 b3 b4 b5 b6 b7 b8:AV):dV [a0,a1,a2,a3,a4,a5,a6,a7,a8] 0 [b0,b1,b2,b3,b4,b5,b6,b7,b8]=[b0,b1,b2,b3,b4,b5,b6,b7,b8]:=(rfl)
theorem fCn (a0 a1 a2 a3 a4 a5 a6 a7 a8:AV):AV.ids (.agg [a0,a1,a2,a3,a4,a5,a6,a7,a8])=max a0.ids (max a1.ids (max a2.ids (max a3.ids (max a4.ids (max a5.ids (max a6.ids (max a7.ids (max a8.ids 0)))))))):=(rfl)
attribute [go_sem] st9
def is9:Option AO→Bool
 |some (.cells [_,_,_,_,_,_,_,_,_] true)=>true
 |_=>false
theorem eYw {o:Option AO} (h:is9 o=true): ∃x0 x1 x2 x3 x4 x5 x6 x7 x8,o=some (.cells [x0,x1,x2,x3,x4,x5,x6,x7,x8] true):=by
 unfold is9 at h
 split at h
 ·exact⟨_,_,_,_,_,_,_,_,_,rfl⟩
 cases h
theorem fGi (x0 x1 x2 x3 x4 x5 x6 x7 x8:AV):is9 (some (.cells [x0,x1,x2,x3,x4,x5,x6,x7,x8] true))=true:=(rfl)
attribute [go_sem] fGi
def eUr (l:List B8) (n:Nm) (p:Nat):AV:=.agg [.w16 ((fRs (l.take 2)).setWidth 16),.w8 (l.getD 2 0#8),.w8 (l.getD 3 0#8),.w32 (dX l 4),.w32 (dX l 8),.w32 (dX l 12),.w16 ((fRs ((l.drop 16).take 2)).setWidth 16),.sl n.length (cS n),.sl (l.length-p) (c8 (l.drop p))]
def eRg (l:List B8):Option (Nm×Nat)→Option (AV×List AV)
 |none=>none
 |some (n,s)=>some (eUr l n (18+s),[.sl l.length (c8 l),.i (l.length:Int)])
def eY (l:List B8):Option (AV×List AV):=if 18≤l.length then eRg l (nmO (l.drop 18))else none
def eLz:List AV→List AV→Option (Option (AV×List AV))
 |[.op _ 0],[.sl n xs,.i 0]=>aK (fHq xs) fun l=>aN (l.length=n∧n≤100000) (some (eY l))
 |_,_=>none
theorem eUt (id n:Nat) (xs:List AV):eLz [.op id 0] [.sl n xs,.i 0]=aK (fHq xs) fun l=>aN (l.length=n∧n≤100000) (some (eY l)):=(rfl)
attribute [go_sem] eUt
theorem eMb (l:List B8):eY l=none∨∃(v1:BitVec 16) (v2 v3:B8) (v4 v5 v6:BitVec 32) (v7:BitVec 16) (v8:Nm) (v9:List B8) (p:Nat),eY l=some (.agg [.w16 v1,.w8 v2,.w8 v3,.w32 v4,.w32 v5,.w32 v6,.w16 v7,.sl v8.length (cS v8),.sl v9.length (c8 v9)],[.sl l.length (c8 l),.i (p:Int)]):=by
 unfold eY
 split
 ·rcases nmO (l.drop 18)with _|⟨n,s⟩
  ·exact .inl rfl
  exact .inr ⟨_,_,_,_,_,_,_,n,l.drop (18+s),l.length,by simp only[eRg,eUr,List.length_drop];rfl⟩
 exact .inl rfl
set_option maxHeartbeats 8000000 in
theorem eOc:fHs Tryz.prog GLh 81 (rdH eLz)∧dE Tryz.prog GLh 81 chM (rdP eLz):=by
 refine dT Tryz.func81 (aT rfl) ?_
 intro id off rest nx xs o hg
 unfold eLz at hg
 split at hg
 ·rename_i id2 n xs2 heq
  simp only[List.cons.injEq,AV.op.injEq]at heq
  obtain⟨⟨rfl,rfl⟩,rfl⟩:=heq
  replace hg:=aJ hg;obtain⟨l,hl,hg⟩:=hg
  replace hg:=aP hg;obtain⟨⟨rfl,hnb⟩,hg⟩:=hg
  obtain rfl:=J0 hg
  have:=bW hl;subst this
  refine⟨J1 rfl,fun hid=>?_⟩
  clear hl hg
  obtain⟨ans,hans⟩: ∃a,eY l=a:=⟨_,rfl⟩
  rw[hans]
  unfold eY at hans
  refine ySq (yRn [0,2] fun K hK=>?_)
  simp(disch:=omega) only[go_sem]
  refine hK _ (aB ?_)
  by_cases q2:2≤l.length
  ·have n0:rL l 2 0=some (.w32 (fRs (l.take 2)),[.sl l.length (c8 l),.i 2]):=fGd (by omega)
   by_cases q3:3≤l.length
   ·have n2:rL l 1 2=some (.w32 ((l.getD 2 0#8).setWidth 32),[.sl l.length (c8 l),.i 3]):=eSx (by omega)
    by_cases q4:4≤l.length
    ·have n3:rL l 1 3=some (.w32 ((l.getD 3 0#8).setWidth 32),[.sl l.length (c8 l),.i 4]):=eSx (by omega)
     refine ySq (yRg [0,2,3] (aH fL aO) fun K hK=>?_)
     simp(disch:=omega) only[go_sem,n0,n2,n3,sw8]
     refine hK _ (aB ?_)
     by_cases q8:8≤l.length
     ·have n4:rL l 4 4=some (.w32 (dX l 4),[.sl l.length (c8 l),.i 8]):=eKt (by omega)
      by_cases q12:12≤l.length
      ·have n8:rL l 4 8=some (.w32 (dX l 8),[.sl l.length (c8 l),.i 12]):=eKt (by omega)
       by_cases q16:16≤l.length
       ·have n12:rL l 4 12=some (.w32 (dX l 12),[.sl l.length (c8 l),.i 16]):=eKt (by omega)
        refine ySq (yRg [0,2,3] (aH fL aO) fun K hK=>?_)
        simp(disch:=omega) only[go_sem,n4,n8,n12]
        refine hK _ (aB ?_)
        by_cases q18:18≤l.length
        ·have n16:rL l 2 16=some (.w32 (fRs ((l.drop 16).take 2)),[.sl l.length (c8 l),.i 18]):=eKs (by omega)
         rw[J4 q18]at hans
         rcases h1:nmO (l.drop 18)with _|⟨n,s⟩
         ·rw[h1]at hans;subst hans
          refine ySq (dCn 4 (rM) eLi (aH fL (aH eLo (aH eMl aO))) rfl rfl rfl (fun Z hZ=>?_))
          simp(disch:=omega) only[go_sem,bG,eq_self,true_and,bP,List.map_cons,List.map_nil,List.append_nil,n16,eOx (l:=l) (a:=18) h1,U0,U1]
          refine hZ _ ?_;clear hZ Z
          exact rfl
         have e1:=eMp (l:=l) (a:=18) h1
         have hs:=eOw h1
         rw[List.length_drop]at hs
         rw[h1]at hans;subst hans
         have hdl:(l.drop (18+s)).length=l.length-(18+s):=List.length_drop ..
         refine ySq (yRg [2,3] (aH fL (aH eLo (aH eMl aO))) fun K hK=>?_)
         simp(disch:=omega) only[go_sem,n16,e1,U2,rA]
         refine hK _ (aB ?_)
         unfold eRg eUr
         refine ySq (yRn [2] fun K hK=>?_)
         simp(disch:=omega) only[go_sem]
         refine hK _ (aB ?_)
         refine aS rfl (⟨by simp(disch:=omega) only[bV,bK,bQ,go_sem,aV,eq_self],by simp(disch:=omega) only[aV,bY,↓reduceIte,eq_self],?_,?_⟩)
         ·simp only[fCn,eKy,eLf];rfl
         exact fVp _ _ _
        rw[J3 (by omega)]at hans;subst hans
        refine ySq (dCn 1 (dK) fSe (aH fL (aH eLo (aH eMl aO))) rfl rfl rfl (fun Z hZ=>?_))
        simp(disch:=omega) only[go_sem,bG,eq_self,true_and,bP,List.map_cons,List.map_nil,List.append_nil,fPs (l:=l) (k:=2) (a:=16) (by omega),U0,U1]
        refine hZ _ ?_;clear hZ Z
        exact rfl
       rw[J3 (by omega)]at hans;subst hans
       refine ySq (dCn 5 (dK) fSe (aH fL aO) rfl rfl rfl (fun Z hZ=>?_))
       simp(disch:=omega) only[go_sem,bG,eq_self,true_and,bP,List.map_cons,List.map_nil,List.append_nil,n4,n8,fPs (l:=l) (k:=4) (a:=12) (by omega),U0,U1]
       refine hZ _ ?_;clear hZ Z
       exact rfl
      rw[J3 (by omega)]at hans;subst hans
      refine ySq (dCn 3 (dK) fSe (aH fL aO) rfl rfl rfl (fun Z hZ=>?_))
      simp(disch:=omega) only[go_sem,bG,eq_self,true_and,bP,List.map_cons,List.map_nil,List.append_nil,n4,fPs (l:=l) (k:=4) (a:=8) (by omega),U0,U1]
      refine hZ _ ?_;clear hZ Z
      exact rfl
     rw[J3 (by omega)]at hans;subst hans
     refine ySq (dCn 1 (dK) fSe (aH fL aO) rfl rfl rfl (fun Z hZ=>?_))
     simp(disch:=omega) only[go_sem,bG,eq_self,true_and,bP,List.map_cons,List.map_nil,List.append_nil,fPs (l:=l) (k:=4) (a:=4) (by omega),U0,U1]
     refine hZ _ ?_;clear hZ Z
     exact rfl
    rw[J3 (by omega)]at hans;subst hans
    refine ySq (dCn 7 (dK) fSe (aH fL aO) rfl rfl rfl (fun Z hZ=>?_))
    simp(disch:=omega) only[go_sem,bG,eq_self,true_and,bP,List.map_cons,List.map_nil,List.append_nil,n0,n2,fPs (l:=l) (k:=1) (a:=3) (by omega),sw8,U0,U1]
    refine hZ _ ?_;clear hZ Z
    exact rfl
   rw[J3 (by omega)]at hans;subst hans
   refine ySq (dCn 4 (dK) fSe (aH fL aO) rfl rfl rfl (fun Z hZ=>?_))
   simp(disch:=omega) only[go_sem,bG,eq_self,true_and,bP,List.map_cons,List.map_nil,List.append_nil,n0,fPs (l:=l) (k:=1) (a:=2) (by omega),U0,U1]
   refine hZ _ ?_;clear hZ Z
   exact rfl
  rw[J3 (by omega)]at hans;subst hans
  refine ySq (dCn 1 (dK) fSe (aH fL aO) rfl rfl rfl (fun Z hZ=>?_))
  simp(disch:=omega) only[go_sem,bG,eq_self,true_and,bP,List.map_cons,List.map_nil,List.append_nil,fPs (l:=l) (k:=2) (a:=0) (by omega),U0,U1]
  refine hZ _ ?_;clear hZ Z
  exact rfl
 cases hg
theorem eUs:dE Tryz.prog GLh 81 chM (rdP eLz):=eOc.2
theorem dWt:fHm Tryz.prog 81:=⟨_,Tryz.func81,rfl,rfl⟩
theorem fFk:bX Tryz.prog GLh 81 (.heap (rdH eLz)):=⟨⟨_,Tryz.func81,rfl,rfl⟩,eOc.1⟩
theorem fCt (vals:Array Value) (w:World) (hs:vals.size=2):CallsD Tryz.prog 95 vals .returning w fun e u1 w'=>e=.returned (.tuple #[])∧u1=.returning∧w'=w:=by
 obtain⟨l⟩:=vals
 match l,hs with
 |[a,b],_=>
  refine callsD_of_wpS Tryz.func95 rfl fun c₀ cs hu=>?_
  apply wpS_seq
  apply wpS_region
  simp[wpOpsS,go_sem,recoverD,hu,Tryz.ntmps95,Exit.thenS]
  apply wpS_seq
  apply wpS_region
  simp[wpOpsS,go_sem,Exit.thenS]
  refine wpS_cond (t:=false) (by simp[Act.eval,Array.replicate]) ?_
  simp only[Bool.false_eq_true,if_false]
  refine wpS_of_wp (wp_skip ?_)
  cases c₀
  simp_all [bodyPostS,results,Tryz.results95]
theorem fHb:bSj Tryz.prog GLh 95 .returning .returning (fQc 2):=dPj fCt
theorem fDq:fHm Tryz.prog 95:=⟨_,Tryz.func95,rfl,rfl⟩
def fAm:List AV→H→Nat→Option (H×Nat)
 |[.op i1 0,.op i2 0],hp,nx=>aN ((is9 (hp i1)=true∧fWn (hp i2)=true)∧i1≠i2∧i1<nx∧i2<nx) (some (upd (upd hp i1 (.cells [.w16 0#16,.w8 0#8,.w8 0#8,.w32 0#32,.w32 0#32,.w32 0#32,.w16 0#16,.v (.slice none 0 0),.v (.slice none 0 0)] true)) i2 (.cells [.i 50] true),nx+30))
 |_,_,_=>none
theorem fAl (i1 i2 nx:Nat) (hp:H):fAm [.op i1 0,.op i2 0] hp nx=aN ((is9 (hp i1)=true∧fWn (hp i2)=true)∧i1≠i2∧i1<nx∧i2<nx) (some (upd (upd hp i1 (.cells [.w16 0#16,.w8 0#8,.w8 0#8,.w32 0#32,.w32 0#32,.w32 0#32,.w16 0#16,.v (.slice none 0 0),.v (.slice none 0 0)] true)) i2 (.cells [.i 50] true),nx+30)):=(rfl)
attribute [go_sem] fAl
set_option maxHeartbeats 4000000 in
theorem fAk:bSj Tryz.prog GLh 95 (.panicking chM) (.panicking [{v:=.iface 154 (.agg #[]),recovered:=true}]) fAm:=by
 refine fZ (rest:=(cr (aE Tryz.f95))) (rv:=.iface 154 (.agg #[])) (a:=6) (b:=2) Tryz.func95 rfl (.inl rfl) ⟨J1 rfl,J1 rfl⟩ ?_
 intro args hp nx hp' nx' hg
 unfold fAm at hg
 split at hg
 ·rename_i i1 i2
  replace hg:=aP hg;obtain⟨⟨⟨o1,o2⟩,n12,l1,l2⟩,hg⟩:=hg
  simp only[Option.some.injEq,Prod.mk.injEq]at hg;obtain⟨rfl,rfl⟩:=hg
  obtain⟨x0,x1,x2,x3,x4,x5,x6,x7,x8,h1⟩:=eYw o1
  obtain⟨y,h2⟩:=fSn o2
  refine⟨J1 rfl,Nat.le_add_right _ _,fun hno=>?_⟩
  simp only[aOo]
  refine ySq (yRn [8,0,1,2] fun K hK=>?_)
  simp(disch:=omega) only[go_sem]
  refine hK _ (aB ?_)
  refine gLc rfl (fun h=>?_) (fun h=>?_)
  ·refine yDr (ySq (ySq (yRn [0,1,2,4] fun K hK=>?_)))
   simp(disch:=omega) only[go_sem]
   refine hK _ (aB ?_)
   refine ySq (yRn [15,0,1,2] fun K hK=>?_)
   simp(disch:=omega) only[go_sem]
   refine hK _ (aB ?_)
   refine iFd (ySk (aB (ySq (yRn [0,1,5] fun K hK=>?_))))
   simp(disch:=omega) only[go_sem]
   refine hK _ (aB ?_)
   refine yRn [] fun K hK=>?_
   simp(disch:=omega) only[go_sem,h1,h2]
   refine hK _ ?_
   exact⟨rfl,eKv hno (by omega) (by omega),by simp only;omega⟩
  refine yDr ?_
  cases h
 cases hg
def eMz:List AV→Option AV
 |[.sl n xs,.fn 81 []]=>aK (fHq xs) fun l=>aN (l.length=n∧n≤100000) (some (rdT (.agg [.w16 0#16,.w8 0#8,.w8 0#8,.w32 0#32,.w32 0#32,.w32 0#32,.w16 0#16,.sl 0 [],.sl 0 []]) l.length (eY l)))
 |_=>none
theorem eSo (n:Nat) (xs:List AV):eMz [.sl n xs,.fn 81 []]=aK (fHq xs) fun l=>aN (l.length=n∧n≤100000) (some (rdT (.agg [.w16 0#16,.w8 0#8,.w8 0#8,.w32 0#32,.w32 0#32,.w32 0#32,.w16 0#16,.sl 0 [],.sl 0 []]) l.length (eY l))):=(rfl)
attribute [go_sem] eSo
set_option maxHeartbeats 4000000 in
theorem eVa:fHn Tryz.prog GLh 80 eMz:=by
 refine cUy (r0:=(cl (aE Tryz.f80))) (C:=(cr (cr (aE Tryz.f80)))) (k:=7) (d:=95) (caps:= #[.tmp 4,.tmp 5]) Tryz.func80 rfl (J1 rfl) fDq fHb fAk rfl ?_
 intro args r hg
 unfold eMz at hg
 split at hg
 ·rename_i n xs
  replace hg:=aJ hg;obtain⟨l,hl,hg⟩:=hg
  replace hg:=aP hg;obtain⟨⟨rfl,hnb⟩,hg⟩:=hg
  obtain rfl:=J0 hg
  have:=bW hl;subst this
  refine⟨J1 rfl,fun nx=>⟨[.op nx 0,.op (nx+1) 0],?_⟩⟩
  clear hl hg
  have hcs:=eMb l
  refine yRn [0,1,4,5] fun K hK=>?_
  simp(disch:=omega) only[go_sem]
  refine hK _ ?_
  refine⟨rfl,?_⟩
  simp only[dBa]
  refine ySq (yRn [0,1,4,5,6] fun K hK=>?_)
  simp(disch:=omega) only[go_sem]
  refine hK _ (aB ?_)
  rcases hcs with e2|⟨v1,v2,v3,v4,v5,v6,v7,v8,v9,p,e2⟩
  ·refine ySq (dCn (Γ:=aL) 2 (eUs) dWt (aD _ _) rfl rfl rfl (fun Z hZ=>?_))
   simp(disch:=omega) only[go_sem,bG,eq_self,true_and,bP,List.map_cons,List.map_nil,List.append_nil,e2,U0,U1]
   refine hZ _ ?_;clear hZ Z
   refine fMe (gI:=fQc 2) (p:=_) (by simp(disch:=omega) only[go_sem,aV,kE,bY];rfl) ?_
   rw[e2,eOd]
   simp(disch:=omega) only[bV,bK,bQ,go_sem,aV,bY]
  refine ySq (yRg [0,4,5,6] (aH fFk aO) fun K hK=>?_)
  simp(disch:=omega) only[go_sem,e2]
  refine hK _ (aB ?_)
  by_cases hp:(p:Int)=(l.length:Int)
  ·have hd:decide ((p:Int)=(l.length:Int))=true:=J5 hp
   refine ySq (yRg [4,5] (aH rP aO) fun K hK=>?_)
   simp(disch:=omega) only[go_sem,hd]
   refine hK _ (aB ?_)
   refine ySq (yRn [4,5] fun K hK=>?_)
   simp(disch:=omega) only[go_sem]
   refine hK _ (aB ?_)
   refine aS rfl (rO (gP:=fAm) (ch:=chM) (p:=_) (eKm _ _ _ _) ?_)
   rw[e2,fO _ _ _ hp]
   simp(disch:=omega) only[bV,bK,bQ,go_sem,aV,bY]
  have hd:decide ((p:Int)=(l.length:Int))=false:=J6 hp
  refine ySq (dCn 7 (fPd) rD (aH rP aO) rfl rfl rfl (fun Z hZ=>?_))
  simp(disch:=omega) only[go_sem,bG,eq_self,true_and,bP,List.map_cons,List.map_nil,List.append_nil,hd,U0,U1]
  refine hZ _ ?_;clear hZ Z
  refine fMe (gI:=fQc 2) (p:=_) (by simp(disch:=omega) only[go_sem,aV,bY];rfl) ?_
  rw[e2,iD _ _ _ hp]
  simp(disch:=omega) only[bV,bK,bQ,go_sem,aV,bY]
 cases hg
theorem ok54:bX Tryz.prog GLh 80 (.pure false eMz):=⟨⟨_,Tryz.func80,rfl,rfl⟩,eVa⟩
end Go.AX.D5

namespace Go.AX.D5
open Go Go.Proofs
structure SDC where
 k:Nat
 d:Array T16
 c:Nat
theorem cMm (x y:T16):decide (x<y)=ltN x y:=by
 unfold ltN;rw[decide_eq_decide,BitVec.lt_def]
def bKh:List AV→Option AV
 |[.w16 _]=>some (.b false)
 |_=>none
theorem bWy (x:T16):bKh [.w16 x]=some (.b false):=(rfl)
def dY:List AV→Option AV
 |[.w16 x,.w16 y]=>some (.b (ltN x y))
 |_=>none
theorem bLn (x y:T16):dY [.w16 x,.w16 y]=some (.b (ltN x y)):=(rfl)
attribute [go_sem] bWy bLn
set_option maxHeartbeats 1000000 in
theorem cLo:fHn Tryz.prog GLh 130 bKh:=by
 refine zK Tryz.func130 (aT rfl) ?_
 intro args r hg
 unfold bKh at hg
 split at hg
 ·rename_i x
  obtain rfl:=J0 hg
  refine⟨J1 rfl,fun nx=>?_⟩
  refine ySq (yRn [0] fun K hK=>?_)
  simp(disch:=omega) only[go_sem]
  refine hK _ (aB ?_)
  refine ySq (yRn [2] fun K hK=>?_)
  simp(disch:=omega) only[go_sem,decide_true,Bool.not_true]
  refine hK _ (aB ?_)
  refine aS rfl ?_
  simp(disch:=omega) only[fHo,bV,bK,bQ,go_sem]
 cases hg
theorem fFr:bX Tryz.prog GLh 130 (.pure true bKh):=⟨⟨_,Tryz.func130,rfl,rfl⟩,cLo⟩
set_option maxHeartbeats 1000000 in
theorem bXs:fHn Tryz.prog GLh 120 dY:=by
 refine zK Tryz.func120 (aT rfl) ?_
 intro args r hg
 unfold dY at hg
 split at hg
 ·rename_i x y
  obtain rfl:=J0 hg
  refine⟨J1 rfl,fun nx=>?_⟩
  refine ySq (yRn [0,1] fun K hK=>?_)
  simp(disch:=omega) only[go_sem]
  refine hK _ (aB ?_)
  refine ySq (yRg [4] (aH fFr aO) fun K hK=>?_)
  simp(disch:=omega) only[go_sem,cMm]
  refine hK _ (aB ?_)
  refine aS rfl ?_
  simp(disch:=omega) only[fHo,bV,bK,bQ,go_sem]
 cases hg
theorem rC:bX Tryz.prog GLh 120 (.pure true dY):=⟨⟨_,Tryz.func120,rfl,rfl⟩,bXs⟩
def bMq:List AV→List AV→Option (AV×List AV)
 |[.os _ 0 n 1 _,.i a,.i b],xs=>aK (unA xs) fun l=>aN (l.length=n∧0≤a∧a≤b∧b≤n∧n≤1000000) (some (.tup [],cA (Sort.insertionSort ltN l.toArray a.toNat b.toNat)))
 |_,_=>none
theorem bYt (id n:Nat) (gg:Bool) (a b:Int) (xs:List AV):bMq [.os id 0 n 1 gg,.i a,.i b] xs=aK (unA xs) fun l=>aN (l.length=n∧0≤a∧a≤b∧b≤n∧n≤1000000) (some (.tup [],cA (Sort.insertionSort ltN l.toArray a.toNat b.toNat))):=(rfl)
attribute [go_sem] bYt
theorem bMp (a j:Nat) (d:Array T16):Sort.insInner ltN a (j+1) d=if j+1>a&&ltN d[j+1]! d[j]! then Sort.insInner ltN a j (Sort.swp d (j+1) j)else d:=by rw[Sort.insInner]
set_option maxHeartbeats 1000000 in
theorem cNh:fHs Tryz.prog GLh 114 (dP bMq):=by
 refine eS Tryz.func114 (aT rfl) ?_
 intro id off n e gg rest nx xs r ys hg
 unfold bMq at hg
 split at hg
 ·rename_i id2 n2 gg2 a0 b0 heq
  simp only[List.cons.injEq,AV.os.injEq]at heq
  obtain⟨⟨rfl,rfl,rfl,rfl,rfl⟩,rfl⟩:=heq
  replace hg:=aJ hg;obtain⟨l,hl,hg⟩:=hg
  replace hg:=aP hg;obtain⟨⟨hn,ha,hab,hbn,hbig⟩,hg⟩:=hg
  simp only[Option.some.injEq,Prod.mk.injEq]at hg;obtain⟨rfl,rfl⟩:=hg
  have:=dO hl;subst this
  obtain⟨a,rfl⟩:=Int.eq_ofNat_of_zero_le ha
  obtain⟨b,rfl⟩:=Int.eq_ofNat_of_zero_le (show 0≤b0 by omega)
  simp only[U2]at*
  obtain⟨d,hd⟩: ∃d,l.toArray=d:=⟨_,rfl⟩
  have hds:d.size=n:=by rw[←hd];simpa using hn
  rw[hd]
  refine⟨J1 rfl,fun hid=>?_⟩
  obtain⟨R,hR⟩: ∃R,Sort.insertionSort ltN d a b=R:=⟨_,rfl⟩
  have hR0:Sort.insOuter ltN a b (a+1) d=R:=hR
  rw[hR]
  have hab2:a≤b:=by omega
  have hbn2:b≤n:=by omega
  clear hR hl hn ha hab hbn
  refine ySq (yRn [0,1,2,6] fun K hK=>?_)
  simp(disch:=omega) only[go_sem]
  refine hK _ (aB ?_)
  refine yBl 0 ?_
  refine bR (fun p:SDC=> {fr:=[(0,.os id 0 n 1 gg),(1,.i a),(2,.i b),(6,.i p.k)],hp:=upd (fun _=>none) id (.cells (cA p.d) true),nx:=0,cx:=p.c}) (fun p=>Sort.insOuter ltN a b p.k p.d=R∧p.d.size=n∧a<p.k∧id<p.c) (fun p=>b-p.k) rfl ⟨⟨a+1,d,_⟩,⟨hR0,hds,Nat.lt_succ_self _,by simp only;omega⟩,bD (by simp only[Int.natCast_add,Int.natCast_one]) rfl (U3 _)⟩ ?_
  rintro⟨k,d1,c⟩ ⟨hr1,hs1,hk,hc⟩ n0
  simp only at hr1 hs1 hk hc⊢
  refine ySq (ySq (yRn [12,0,1,2,6] fun K hK=>?_))
  simp(disch:=omega) only[go_sem]
  refine hK _ (aB ?_)
  refine gLb rfl (fun h=>?_) (fun h=>?_)
  ·refine yDr ?_
   have hkb:k<b:=by omega
   rw[Sort.insOuter,J4 hkb]at hr1
   obtain⟨R2,hR2⟩: ∃R2,Sort.insInner ltN a k d1=R2:=⟨_,rfl⟩
   rw[hR2]at hr1
   refine ySk (aB (ySq (yBl 1 (ySq (yRn [0,1,2,6,7] fun K hK=>?_)))))
   simp(disch:=omega) only[go_sem]
   refine hK _ (aB ?_)
   refine yBl 2 ?_
   refine bR (fun q:SDC=> {fr:=[(0,.os id 0 n 1 gg),(1,.i a),(2,.i b),(6,.i k),(7,.i q.k)],hp:=upd (fun _=>none) id (.cells (cA q.d) true),nx:=0,cx:=q.c}) (fun q=>Sort.insInner ltN a q.k q.d=R2∧q.d.size=n∧q.k≤k∧id<q.c) (fun q=>q.k) rfl ⟨⟨k,d1,_⟩,⟨hR2,hs1,U3 _,by simp only;omega⟩,bD rfl rfl (U3 _)⟩ ?_
   rintro⟨j,d2,c2⟩ ⟨hr2,hs2,hj,hc2⟩ n0
   simp only at hr2 hs2 hj hc2⊢
   by_cases hja:a<j
   ·obtain⟨i,rfl⟩: ∃i,j=i+1:=⟨j-1,by omega⟩
    have hd1:decide ((a:Int)<((i+1:Nat):Int))=true:=J5 (by omega)
    have e1:((i+1:Nat):Int)-1=(i:Int):=by omega
    have hgt:(decide (i+1>a))=true:=J5 (by omega)
    rw[bMp,hgt,Bool.true_and]at hr2
    obtain⟨v,hv⟩: ∃v,ltN d2[i+1]! d2[i]! =v:=⟨_,rfl⟩
    rw[hv]at hr2
    refine ySq (ySq (bB (Γ:=bC [(120,.pure true dY)]) (fun k=>if k=13 then 0 else 2) [30,0,1,2,6,7] bZ (aH rC aO) rfl rfl rfl (by kernel_rfl) (fun K hK=>?_)))
    simp(disch:=omega) only[go_sem,hd1,e1,hv,U2]
    refine hK _ (aB ?_)
    cases v
    ·simp only[Bool.false_eq_true,if_false]at hr2
     refine iFd (yEx 2 (aY (aZ (bE (bU (aB ?_))))))
     subst hr2
     refine yRn [0,1,2,6] fun K hK=>?_
     simp(disch:=omega) only[go_sem]
     refine hK _ (bT ?_)
     refine⟨⟨k+1,d2,_⟩,⟨hr1,hs2,by simp only;omega,by simp only;omega⟩,by simp only;omega,bD (by simp only[Int.natCast_add,Int.natCast_one]) rfl (U3 _)⟩
    simp only[if_true]at hr2
    have hsw:(d2.setIfInBounds (i+1) d2[i]!).setIfInBounds i d2[i+1]! =Sort.swp d2 (i+1) i:=rfl
    refine iT (ySk (aB (ySq (yBl 3 (bB (Γ:=aL) (fun _=>2) [0,1,2,6,7] bZ (aD _ _) rfl rfl rfl (by kernel_rfl) (fun K hK=>?_))))))
    simp(disch:=omega) only[go_sem,e1,hsw,U2]
    refine hK _ (bU (aB ?_))
    refine yRn [0,1,2,6,7] fun K hK=>?_
    simp(disch:=omega) only[go_sem,e1]
    refine hK _ (bT ?_)
    refine⟨⟨i,Sort.swp d2 (i+1) i,_⟩,⟨hr2,by simp only[cW];exact hs2,by simp only;omega,by simp only;omega⟩,by simp only;omega,⟨fun _=> .inr rfl,bS (by simp(disch:=omega) only[aV,↓reduceIte,eq_self]) fKa,U3 _⟩⟩
   have hd1:decide ((a:Int)<(j:Int))=false:=J6 (by omega)
   have hr3:d2=R2:=by
    rw[←hr2]
    cases j with
    |zero=>rfl
    |succ i=>
     have hgt:(decide (i+1>a))=false:=J6 (by omega)
     rw[bMp,hgt];rfl
   subst hr3
   refine ySq (ySq (bB (Γ:=bC [(120,.pure true dY)]) (fun k=>if k=13 then 0 else 2) [30,0,1,2,6,7] bZ (aH rC aO) rfl rfl rfl (by kernel_rfl) (fun K hK=>?_)))
   simp(disch:=omega) only[go_sem,hd1]
   refine hK _ (aB ?_)
   refine iFd (yEx 2 (aY (aZ (bE (bU (aB (yRn [0,1,2,6] fun K hK=>?_)))))))
   simp(disch:=omega) only[go_sem]
   refine hK _ (bT ?_)
   refine⟨⟨k+1,d2,_⟩,⟨hr1,hs2,by simp only;omega,by simp only;omega⟩,by simp only;omega,bD (by simp only[Int.natCast_add,Int.natCast_one]) rfl (U3 _)⟩
  refine yDr (yEx 0 (aY (aZ (bE ?_))))
  have hkb: ¬k<b:=by omega
  rw[Sort.insOuter,J3 hkb]at hr1
  subst hr1
  exact⟨rfl,by simp only[aV,if_true],rfl,dZ _⟩
 cases hg
theorem ok93:bX Tryz.prog GLh 114 (.heap (dP bMq)):=⟨⟨_,Tryz.func114,rfl,rfl⟩,cNh⟩
end Go.AX.D5

namespace Go.AX.D5
open Go Go.Proofs
theorem aMf (hi first root:Nat) (d:Array T16) (h:hi≤2*root+1):Sort.siftDown ltN hi first root d=d:=by rw[Sort.siftDown,dif_pos h]
theorem bGr (hi first root:Nat) (d:Array T16) (h:2*root+2<hi) (hl:ltN d[first+(2*root+1)]! d[first+(2*root+2)]! =true):Sort.siftDown ltN hi first root d=if !ltN d[first+root]! d[first+(2*root+2)]! then d else Sort.siftDown ltN hi first (2*root+2) (Sort.swp d (first+root) (first+(2*root+2))):=by
 rw[Sort.siftDown,dif_neg (by omega),J4 (by rw[show first+(2*root+1)+1=first+(2*root+2)by omega,hl,Bool.and_true];exact J5 (by omega)),dif_pos h]
theorem aMe (hi first root:Nat) (d:Array T16) (h:2*root+1<hi) (hl:(decide (2*root+2<hi)&&ltN d[first+(2*root+1)]! d[first+(2*root+2)]!)=false):Sort.siftDown ltN hi first root d=if !ltN d[first+root]! d[first+(2*root+1)]! then d else Sort.siftDown ltN hi first (2*root+1) (Sort.swp d (first+root) (first+(2*root+1))):=by
 rw[Sort.siftDown,dif_neg (by omega),J3 (by rw[show first+(2*root+1)+1=first+(2*root+2)by omega,show 2*root+1+1=2*root+2 by omega,hl];simp)]
def aYx:List AV→List AV→Option (AV×List AV)
 |[.os _ 0 n 1 _,.i lo,.i hi,.i first],xs=>aK (unA xs) fun l=>aN (l.length=n∧0≤lo∧lo≤n∧0≤hi∧0≤first∧first+hi≤n∧n≤1000000) (some (.tup [],cA (Sort.siftDown ltN hi.toNat first.toNat lo.toNat l.toArray)))
 |_,_=>none
theorem bUa (id n:Nat) (gg:Bool) (lo hi first:Int) (xs:List AV):aYx [.os id 0 n 1 gg,.i lo,.i hi,.i first] xs=aK (unA xs) fun l=>aN (l.length=n∧0≤lo∧lo≤n∧0≤hi∧0≤first∧first+hi≤n∧n≤1000000) (some (.tup [],cA (Sort.siftDown ltN hi.toNat first.toNat lo.toNat l.toArray))):=(rfl)
attribute [go_sem] bUa
set_option maxHeartbeats 2000000 in
theorem cHq:fHs Tryz.prog GLh 125 (dP aYx):=by
 refine eS Tryz.func125 (aT rfl) ?_
 intro id off n e gg rest nx xs r ys hg
 unfold aYx at hg
 split at hg
 ·rename_i id2 n2 gg2 lo0 hi0 first0 heq
  simp only[List.cons.injEq,AV.os.injEq]at heq
  obtain⟨⟨rfl,rfl,rfl,rfl,rfl⟩,rfl⟩:=heq
  replace hg:=aJ hg;obtain⟨l,hl,hg⟩:=hg
  replace hg:=aP hg;obtain⟨⟨hn,hlo,hlon,hhi,hfi,hfn,hbig⟩,hg⟩:=hg
  simp only[Option.some.injEq,Prod.mk.injEq]at hg;obtain⟨rfl,rfl⟩:=hg
  have:=dO hl;subst this
  obtain⟨lo,rfl⟩:=Int.eq_ofNat_of_zero_le hlo
  obtain⟨hi,rfl⟩:=Int.eq_ofNat_of_zero_le hhi
  obtain⟨first,rfl⟩:=Int.eq_ofNat_of_zero_le hfi
  simp only[U2]at*
  obtain⟨d,hd⟩: ∃d,l.toArray=d:=⟨_,rfl⟩
  have hds:d.size=n:=by rw[←hd];simpa using hn
  have hlon2:lo≤n:=by omega
  have hfn2:first+hi≤n:=by omega
  rw[hd]
  refine⟨J1 rfl,fun hid=>?_⟩
  obtain⟨R,hR⟩: ∃R,Sort.siftDown ltN hi first lo d=R:=⟨_,rfl⟩
  rw[hR]
  clear hl hn hlo hlon hhi hfi hfn
  refine ySq (yRn [0,2,3,8] fun K hK=>?_)
  simp(disch:=omega) only[go_sem]
  refine hK _ (aB ?_)
  refine yBl 0 ?_
  refine bR (fun p:SDC=> {fr:=[(0,.os id 0 n 1 gg),(2,.i hi),(3,.i first),(8,.i p.k)],hp:=upd (fun _=>none) id (.cells (cA p.d) true),nx:=0,cx:=p.c}) (fun p=>Sort.siftDown ltN hi first p.k p.d=R∧p.d.size=n∧p.k≤n∧id<p.c) (fun p=>2*n-p.k) rfl ⟨⟨lo,d,_⟩,⟨hR,hds,hlon2,by simp only;omega⟩,bD rfl rfl (U3 _)⟩ ?_
  rintro⟨k,d1,c⟩ ⟨hr1,hs1,hk,hc⟩ n0
  simp only at hr1 hs1 hk hc⊢
  refine yBl 1 (ySq (yRn [0,2,3,8,9] fun K hK=>?_))
  simp(disch:=omega) only[go_sem]
  refine hK _ (aB ?_)
  refine ySq (ySq (yRn [16,0,2,3,8,9] fun K hK=>?_))
  simp(disch:=omega) only[go_sem]
  refine hK _ (aB ?_)
  refine gLb rfl (fun h=>?_) (fun h=>?_)
  ·refine yDr ?_
   have hke:hi≤2*k+1:=by omega
   rw[aMf _ _ _ _ hke]at hr1
   subst hr1
   refine yEx 0 (aY (mW (aZ (bE ?_)) rfl))
   exact⟨rfl,by simp only[aV,if_true],rfl,dZ _⟩
  refine yDr (ySk (aB (ySq (ySq ?_))))
  have hk1:2*k+1<hi:=by omega
  clear h
  have e9:(first:Int)+(2*(k:Int)+1)=((first+(2*k+1):Nat):Int):=by omega
  have e9b:((first+(2*k+1):Nat):Int)+1=((first+(2*k+2):Nat):Int):=by omega
  by_cases hk2:2*k+2<hi
  ·have hd1:decide (2*(k:Int)+1+1<(hi:Int))=true:=J5 (by omega)
   have hb1:first+(2*k+1)<n:=by omega
   have hb2:first+(2*k+2)<n:=by omega
   obtain⟨u,hu⟩: ∃u,ltN d1[first+(2*k+1)]! d1[first+(2*k+2)]! =u:=⟨_,rfl⟩
   refine bB (Γ:=bC [(120,.pure true dY)]) (fun k=>if k=18 then 0 else 2) [36,0,2,3,8,9] bZ (aH rC aO) rfl rfl rfl (by kernel_rfl) (fun K hK=>?_)
   simp(disch:=omega) only[go_sem,hd1,e9,e9b,hu,U2]
   refine hK _ (aB ?_)
   cases u
   ·rw[aMe _ _ _ _ hk1 (by rw[hu,Bool.and_false])]at hr1
    refine gLc rfl (fun h=>?_) (fun h=>?_)
    ·refine yDr ?_
     cases h
    refine yDr (ySk (aB (ySq (ySq ?_))))
    obtain⟨ch,hch⟩: ∃ch,2*k+1=ch:=⟨_,rfl⟩
    have ech:2*(k:Int)+1=(ch:Int):=by omega
    rw[hch]at hr1
    rw[ech]
    clear e9 e9b hu
    have hchn:first+ch<n:=by omega
    have hkn:first+k<n:=by omega
    obtain⟨v,hv⟩: ∃v,ltN d1[first+k]! d1[first+ch]! =v:=⟨_,rfl⟩
    rw[hv]at hr1
    have e2:((first:Int)+(k:Int)).toNat=first+k:=by omega
    have e3:((first:Int)+(ch:Int)).toNat=first+ch:=by omega
    refine bB (Γ:=bC [(120,.pure true dY)]) (fun k=>if k=12 then 0 else 2) [52,0,2,3,8,9] bZ (aH rC aO) rfl rfl rfl (by kernel_rfl) (fun K hK=>?_)
    simp(disch:=omega) only[go_sem,e2,e3,hv]
    refine hK _ (aB ?_)
    cases v
    ·simp only[Bool.not_false,if_true]at hr1
     subst hr1
     exact iTd (aS rfl (bI (bN (dF (bN (⟨rfl,by simp only[aV,if_true],rfl,dZ _⟩))))))
    simp only[Bool.not_true,Bool.false_eq_true,if_false]at hr1
    refine iF (ySk (aB (ySq ?_)))
    have hsw:(d1.setIfInBounds (first+k) d1[first+ch]!).setIfInBounds (first+ch) d1[first+k]! =Sort.swp d1 (first+k) (first+ch):=rfl
    refine bB (Γ:=aL) (fun _=>2) [0,2,3,9] bZ (aD _ _) rfl rfl rfl (by kernel_rfl) (fun K hK=>?_)
    simp(disch:=omega) only[go_sem,e2,e3,hsw]
    refine hK _ (aB ?_)
    refine yRn [0,2,3,8] fun K hK=>?_
    simp(disch:=omega) only[go_sem]
    refine hK _ (bU (bT ?_))
    refine⟨⟨ch,Sort.swp d1 (first+k) (first+ch),_⟩,⟨hr1,by simp only[cW];exact hs1,by simp only;omega,by simp only;omega⟩,by simp only;omega,⟨fun _=> .inr rfl,bS (by simp(disch:=omega) only[aV,↓reduceIte,eq_self]) fKa,U3 _⟩⟩
   rw[bGr _ _ _ _ hk2 hu]at hr1
   refine gLc rfl (fun h=>?_) (fun h=>?_)
   ·refine yRn [0,2,3,8,9] fun K hK=>?_
    simp(disch:=omega) only[go_sem]
    refine hK _ (aB ?_)
    obtain⟨ch,hch⟩: ∃ch,2*k+2=ch:=⟨_,rfl⟩
    have ech:2*(k:Int)+1+1=(ch:Int):=by omega
    rw[hch]at hr1
    rw[ech]
    clear e9 e9b hu
    have hchn:first+ch<n:=by omega
    have hkn:first+k<n:=by omega
    obtain⟨v,hv⟩: ∃v,ltN d1[first+k]! d1[first+ch]! =v:=⟨_,rfl⟩
    rw[hv]at hr1
    have e2:((first:Int)+(k:Int)).toNat=first+k:=by omega
    have e3:((first:Int)+(ch:Int)).toNat=first+ch:=by omega
    refine ySq (ySq (bB (Γ:=bC [(120,.pure true dY)]) (fun k=>if k=12 then 0 else 2) [52,0,2,3,8,9] bZ (aH rC aO) rfl rfl rfl (by kernel_rfl) (fun K hK=>?_)))
    simp(disch:=omega) only[go_sem,e2,e3,hv]
    refine hK _ (aB ?_)
    cases v
    ·simp only[Bool.not_false,if_true]at hr1
     subst hr1
     exact iTd (aS rfl (bI (bN (dF (bN (⟨rfl,by simp only[aV,if_true],rfl,dZ _⟩))))))
    simp only[Bool.not_true,Bool.false_eq_true,if_false]at hr1
    refine iF (ySk (aB (ySq ?_)))
    have hsw:(d1.setIfInBounds (first+k) d1[first+ch]!).setIfInBounds (first+ch) d1[first+k]! =Sort.swp d1 (first+k) (first+ch):=rfl
    refine bB (Γ:=aL) (fun _=>2) [0,2,3,9] bZ (aD _ _) rfl rfl rfl (by kernel_rfl) (fun K hK=>?_)
    simp(disch:=omega) only[go_sem,e2,e3,hsw]
    refine hK _ (aB ?_)
    refine yRn [0,2,3,8] fun K hK=>?_
    simp(disch:=omega) only[go_sem]
    refine hK _ (bU (bT ?_))
    refine⟨⟨ch,Sort.swp d1 (first+k) (first+ch),_⟩,⟨hr1,by simp only[cW];exact hs1,by simp only;omega,by simp only;omega⟩,by simp only;omega,⟨fun _=> .inr rfl,bS (by simp(disch:=omega) only[aV,↓reduceIte,eq_self]) fKa,U3 _⟩⟩
   cases h
  have hd1:decide (2*(k:Int)+1+1<(hi:Int))=false:=J6 (by omega)
  refine bB (Γ:=bC [(120,.pure true dY)]) (fun k=>if k=18 then 0 else 2) [36,0,2,3,8,9] bZ (aH rC aO) rfl rfl rfl (by kernel_rfl) (fun K hK=>?_)
  simp(disch:=omega) only[go_sem,hd1]
  refine hK _ (aB ?_)
  rw[aMe _ _ _ _ hk1 (by rw[J6 (by omega: ¬2*k+2<hi),Bool.false_and])]at hr1
  refine gLc rfl (fun h=>?_) (fun h=>?_)
  ·refine yDr ?_
   cases h
  refine yDr (ySk (aB (ySq (ySq ?_))))
  obtain⟨ch,hch⟩: ∃ch,2*k+1=ch:=⟨_,rfl⟩
  have ech:2*(k:Int)+1=(ch:Int):=by omega
  rw[hch]at hr1
  rw[ech]
  clear e9 e9b
  have hchn:first+ch<n:=by omega
  have hkn:first+k<n:=by omega
  obtain⟨v,hv⟩: ∃v,ltN d1[first+k]! d1[first+ch]! =v:=⟨_,rfl⟩
  rw[hv]at hr1
  have e2:((first:Int)+(k:Int)).toNat=first+k:=by omega
  have e3:((first:Int)+(ch:Int)).toNat=first+ch:=by omega
  refine bB (Γ:=bC [(120,.pure true dY)]) (fun k=>if k=12 then 0 else 2) [52,0,2,3,8,9] bZ (aH rC aO) rfl rfl rfl (by kernel_rfl) (fun K hK=>?_)
  simp(disch:=omega) only[go_sem,e2,e3,hv]
  refine hK _ (aB ?_)
  cases v
  ·simp only[Bool.not_false,if_true]at hr1
   subst hr1
   exact iTd (aS rfl (bI (bN (dF (bN (⟨rfl,by simp only[aV,if_true],rfl,dZ _⟩))))))
  simp only[Bool.not_true,Bool.false_eq_true,if_false]at hr1
  refine iF (ySk (aB (ySq ?_)))
  have hsw:(d1.setIfInBounds (first+k) d1[first+ch]!).setIfInBounds (first+ch) d1[first+k]! =Sort.swp d1 (first+k) (first+ch):=rfl
  refine bB (Γ:=aL) (fun _=>2) [0,2,3,9] bZ (aD _ _) rfl rfl rfl (by kernel_rfl) (fun K hK=>?_)
  simp(disch:=omega) only[go_sem,e2,e3,hsw]
  refine hK _ (aB ?_)
  refine yRn [0,2,3,8] fun K hK=>?_
  simp(disch:=omega) only[go_sem]
  refine hK _ (bU (bT ?_))
  refine⟨⟨ch,Sort.swp d1 (first+k) (first+ch),_⟩,⟨hr1,by simp only[cW];exact hs1,by simp only;omega,by simp only;omega⟩,by simp only;omega,⟨fun _=> .inr rfl,bS (by simp(disch:=omega) only[aV,↓reduceIte,eq_self]) fKa,U3 _⟩⟩
 cases hg
theorem fBf:bX Tryz.prog GLh 125 (.heap (dP aYx)):=⟨⟨_,Tryz.func125,rfl,rfl⟩,cHq⟩
theorem aYw (hi first:Nat): ∀(m root:Nat) (d:Array T16),hi-root≤m→(Sort.siftDown ltN hi first root d).size=d.size:=by
 intro m
 induction m with
 |zero=>intro root d h;rw[aMf _ _ _ _ (by omega)]
 |succ m ih=>
  intro root d h
  rw[Sort.siftDown]
  split
  ·rfl
  split
  ·split
   ·rfl
   split
   ·rw[ih _ _ (by omega),cW]
   rfl
  split
  ·rfl
  rw[ih _ _ (by omega),cW]
theorem aBd (hi first root:Nat) (d:Array T16):(Sort.siftDown ltN hi first root d).size=d.size:=aYw hi first _ root d (U3 _)
def bMx:List AV→List AV→Option (AV×List AV)
 |[.os _ 0 n 1 _,.i a,.i b],xs=>aK (unA xs) fun l=>aN (l.length=n∧0≤a∧a<b∧b≤n∧n≤1000000) (some (.tup [],cA (Sort.heapSort ltN l.toArray a.toNat b.toNat)))
 |_,_=>none
theorem bZu (id n:Nat) (gg:Bool) (a b:Int) (xs:List AV):bMx [.os id 0 n 1 gg,.i a,.i b] xs=aK (unA xs) fun l=>aN (l.length=n∧0≤a∧a<b∧b≤n∧n≤1000000) (some (.tup [],cA (Sort.heapSort ltN l.toArray a.toNat b.toNat))):=(rfl)
attribute [go_sem] bZu aBd Array.toArray_toList Array.length_toList
set_option maxHeartbeats 2000000 in
theorem cOh:fHs Tryz.prog GLh 115 (dP bMx):=by
 refine eS Tryz.func115 (aT rfl) ?_
 intro id off n e gg rest nx xs r ys hg
 unfold bMx at hg
 split at hg
 ·rename_i id2 n2 gg2 a0 b0 heq
  simp only[List.cons.injEq,AV.os.injEq]at heq
  obtain⟨⟨rfl,rfl,rfl,rfl,rfl⟩,rfl⟩:=heq
  replace hg:=aJ hg;obtain⟨l,hl,hg⟩:=hg
  replace hg:=aP hg;obtain⟨⟨hn,ha,hab,hbn,hbig⟩,hg⟩:=hg
  simp only[Option.some.injEq,Prod.mk.injEq]at hg;obtain⟨rfl,rfl⟩:=hg
  have:=dO hl;subst this
  obtain⟨a,rfl⟩:=Int.eq_ofNat_of_zero_le ha
  obtain⟨b,rfl⟩:=Int.eq_ofNat_of_zero_le (show 0≤b0 by omega)
  simp only[U2]at*
  obtain⟨d,hd⟩: ∃d,l.toArray=d:=⟨_,rfl⟩
  have hds:d.size=n:=by rw[←hd];simpa using hn
  have hab2:a<b:=by omega
  have hbn2:b≤n:=by omega
  rw[hd]
  refine⟨J1 rfl,fun hid=>?_⟩
  obtain⟨R,hR⟩: ∃R,Sort.heapSort ltN d a b=R:=⟨_,rfl⟩
  obtain⟨H,hH⟩: ∃H:Nat,b-a=H:=⟨_,rfl⟩
  obtain⟨B,hB⟩: ∃B,Sort.heapBuild ltN H a ((H-1)/2+1) d=B:=⟨_,rfl⟩
  rw[hR]
  rw[Sort.heapSort,hH,hB]at hR
  have eH:(b:Int)-(a:Int)=(H:Int):=by omega
  have eq2:((H:Int)-1).tdiv 2=(((H-1)/2:Nat):Int):=by rw[Int.tdiv_eq_ediv_of_nonneg (by omega)];omega
  clear hl hn ha hab hbn
  refine ySq (yRn [0,1,2,6] fun K hK=>?_)
  simp(disch:=omega) only[go_sem]
  refine hK _ (aB ?_)
  refine ySq (yRn [0,1,2,6,7] fun K hK=>?_)
  simp(disch:=omega) only[go_sem]
  refine hK _ (aB ?_)
  refine ySq (yRn [0,6,7,8] fun K hK=>?_)
  simp(disch:=omega) only[go_sem,eH]
  refine hK _ (aB ?_)
  refine ySq (ySq (yRn [0,6,7,8,9] fun K hK=>?_))
  simp(disch:=omega) only[go_sem,eq2]
  refine hK _ (aB ?_)
  refine yBl 0 ?_
  refine bR (fun p:SDC=> {fr:=[(0,.os id 0 n 1 gg),(6,.i a),(7,.i 0),(8,.i H),(9,.i ((p.k:Int)-1))],hp:=upd (fun _=>none) id (.cells (cA p.d) true),nx:=0,cx:=p.c}) (fun p=>Sort.heapBuild ltN H a p.k p.d=B∧p.d.size=n∧p.k≤H∧id<p.c) (fun p=>p.k) rfl ⟨⟨(H-1)/2+1,d,_⟩,⟨hB,hds,by simp only;omega,by simp only;omega⟩,bD (by simp only[Int.natCast_add,Int.natCast_one,Int.add_sub_cancel]) rfl (U3 _)⟩ ?_
  rintro⟨k,d1,c⟩ ⟨hr1,hs1,hk,hc⟩ n0
  simp only at hr1 hs1 hk hc⊢
  refine ySq (ySq (yRn [19,0,6,7,8,9] fun K hK=>?_))
  simp(disch:=omega) only[go_sem]
  refine hK _ (aB ?_)
  refine gLb rfl (fun h=>?_) (fun h=>?_)
  ·refine yDr ?_
   obtain⟨i,rfl⟩: ∃i,k=i+1:=⟨k-1,by omega⟩
   have e1:((i+1:Nat):Int)-1=(i:Int):=by omega
   rw[Sort.heapBuild]at hr1
   refine ySk (aB (ySq (yBl 1 (yRg [0,6,7,8,9] (aH fBf aO) fun K hK=>?_))))
   simp(disch:=omega) only[go_sem,e1,hs1,U2]
   refine hK _ (bU (aB ?_))
   refine yRn [0,6,7,8,9] fun K hK=>?_
   simp(disch:=omega) only[go_sem]
   refine hK _ (bT ?_)
   refine⟨⟨i,Sort.siftDown ltN H a i d1,_⟩,⟨hr1,by simp only[aBd];exact hs1,by simp only;omega,by simp only;omega⟩,by simp only;omega,⟨fun _=> .inr rfl,bS (by simp(disch:=omega) only[aV,↓reduceIte,eq_self]) fKa,U3 _⟩⟩
  refine yDr (yEx 0 (aY (aZ (bE (aB (ySq ?_))))))
  obtain rfl:k=0:=by omega
  rw[Sort.heapBuild]at hr1
  subst hr1
  refine yRn [0,6,7,10] fun K hK=>?_
  simp(disch:=omega) only[go_sem]
  refine hK _ (aB ?_)
  refine yBl 2 ?_
  refine bR (fun p:SDC=> {fr:=[(0,.os id 0 n 1 gg),(6,.i a),(7,.i 0),(10,.i ((p.k:Int)-1))],hp:=upd (fun _=>none) id (.cells (cA p.d) true),nx:=0,cx:=p.c}) (fun p=>Sort.heapPop ltN a p.k p.d=R∧p.d.size=n∧p.k≤H∧id<p.c) (fun p=>p.k) rfl ⟨⟨H,d1,_⟩,⟨hR,hs1,U3 _,by simp only;omega⟩,bD rfl rfl (U3 _)⟩ ?_
  rintro⟨k,d2,c2⟩ ⟨hr2,hs2,hk2,hc2⟩ n0
  simp only at hr2 hs2 hk2 hc2⊢
  refine ySq (ySq (yRn [30,0,6,7,10] fun K hK=>?_))
  simp(disch:=omega) only[go_sem]
  refine hK _ (aB ?_)
  refine gLb rfl (fun h=>?_) (fun h=>?_)
  ·refine yDr ?_
   obtain⟨i,rfl⟩: ∃i,k=i+1:=⟨k-1,by omega⟩
   have e1:((i+1:Nat):Int)-1=(i:Int):=by omega
   have e2:((a:Int)+(i:Int)).toNat=a+i:=by omega
   have hsw:(d2.setIfInBounds a d2[a+i]!).setIfInBounds (a+i) d2[a]! =Sort.swp d2 a (a+i):=rfl
   have hss:(Sort.swp d2 a (a+i)).size=n:=by rw[cW];exact hs2
   rw[Sort.heapPop]at hr2
   refine ySk (aB (ySq (yBl 3 (ySq (bB (Γ:=aL) (fun _=>2) [0,6,7,10] bZ (aD _ _) rfl rfl rfl (by kernel_rfl) (fun K hK=>?_))))))
   simp(disch:=omega) only[go_sem,e1,e2,hsw]
   refine hK _ (aB ?_)
   refine yRg [0,6,7,10] (aH fBf aO) fun K hK=>?_
   simp(disch:=omega) only[go_sem,hss,U2]
   refine hK _ (bU (aB ?_))
   refine yRn [0,6,7,10] fun K hK=>?_
   simp(disch:=omega) only[go_sem]
   refine hK _ (bT ?_)
   refine⟨⟨i,Sort.siftDown ltN i a 0 (Sort.swp d2 a (a+i)),_⟩,⟨hr2,by simp only[aBd];exact hss,by simp only;omega,by simp only;omega⟩,by simp only;omega,⟨fun _=> .inr rfl,bS (by simp(disch:=omega) only[aV,↓reduceIte,eq_self]) fKa,U3 _⟩⟩
  refine yDr (yEx 2 (aY (aZ (bE ?_))))
  obtain rfl:k=0:=by omega
  rw[Sort.heapPop]at hr2
  subst hr2
  exact⟨rfl,by simp only[aV,if_true],rfl,dZ _⟩
 cases hg
theorem ok94:bX Tryz.prog GLh 115 (.heap (dP bMx)):=⟨⟨_,Tryz.func115,rfl,rfl⟩,cOh⟩
end Go.AX.D5

namespace Go.AX.D5
open Go Go.Proofs
def tY:AO→Option (List AV)
 | .cells xs mt=>aN (mt=true) (some xs)
 | .mapo _ _=>none
theorem cIh (xs:List AV) (mt:Bool):tY (.cells xs mt)=aN (mt=true) (some xs):=(rfl)
theorem oM {o:AO} {xs:List AV} (h:tY o=some xs):o=.cells xs true:=by
 obtain⟨ys,mt,rfl⟩: ∃ys mt,o=.cells ys mt:=by cases o with|cells ys mt=>exact⟨ys,mt,rfl⟩|mapo _ _=>cases h
 obtain⟨hm,h⟩:=aP h
 obtain rfl:=J0 h
 rw[hm]
def aJf:List AV→Option Int
 |[.i s]=>some s
 |_=>none
theorem bVw (s:Int):aJf [.i s]=some s:=(rfl)
theorem aCb {xs:List AV} {s:Int} (h:aJf xs=some s):xs=[.i s]:=by
 unfold aJf at h
 split at h
 ·obtain rfl:=J0 h;rfl
 cases h
attribute [go_sem] cIh bVw List.head?_cons List.set_cons_zero
theorem bBc {hp:H} {q:Nat} {a:AO} (h:hp q=some a): ∀j o,upd hp q a j=some o→hp j=some o:=by
 intro j o hj
 rw[bJ]at hj
 split at hj
 ·rename_i e;rw[e,h];exact hj
 exact hj
theorem aAd {hp t:H} {q:Nat} {a:AO} (h1:t q=some a) (h2: ∀j,j≠q→t j=hp j): ∀j o,upd hp q a j=some o→t j=some o:=by
 intro j o hj
 rw[bJ]at hj
 split at hj
 ·rename_i e;rw[e,h1];exact hj
 rename_i e;rw[h2 j e];exact hj
def aRo:List AV→H→Nat→Option (AV×H×Nat)
 |[.os id 0 n 1 _,.i a,.i b,.op q 0],hp,nx=>aK (hp id) fun o=>aK (tY o) fun xs=>aK (unA xs) fun l=>aK (hp q) fun o2=>aK (tY o2) fun ys=>aK (aJf ys) fun s=>aN (id≠q∧l.length=n∧0≤a∧a<n∧0≤b∧b<n∧n≤1000000∧0≤s∧s≤1000) (some (.tup [.i (Sort.order2 ltN l.toArray a.toNat b.toNat s.toNat).1,.i (Sort.order2 ltN l.toArray a.toNat b.toNat s.toNat).2.1],upd hp q (.cells [.i (Sort.order2 ltN l.toArray a.toNat b.toNat s.toNat).2.2] true),nx+60))
 |_,_,_=>none
theorem bVr (id n q:Nat) (gg:Bool) (a b:Int) (hp:H) (nx:Nat):aRo [.os id 0 n 1 gg,.i a,.i b,.op q 0] hp nx=aK (hp id) fun o=>aK (tY o) fun xs=>aK (unA xs) fun l=>aK (hp q) fun o2=>aK (tY o2) fun ys=>aK (aJf ys) fun s=>aN (id≠q∧l.length=n∧0≤a∧a<n∧0≤b∧b<n∧n≤1000000∧0≤s∧s≤1000) (some (.tup [.i (Sort.order2 ltN l.toArray a.toNat b.toNat s.toNat).1,.i (Sort.order2 ltN l.toArray a.toNat b.toNat s.toNat).2.1],upd hp q (.cells [.i (Sort.order2 ltN l.toArray a.toNat b.toNat s.toNat).2.2] true),nx+60)):=(rfl)
attribute [go_sem] bVr
set_option maxHeartbeats 1000000 in
theorem cKc:fHs Tryz.prog GLh 131 aRo:=by
 refine fVw Tryz.func131 (aT rfl) ?_
 intro args hp nx r hp' nx' hg
 unfold aRo at hg
 split at hg
 ·rename_i hp0 nx0 id n gg a0 b0 q
  replace hg:=aJ hg;obtain⟨o,ho,hg⟩:=hg
  replace hg:=aJ hg;obtain⟨xs,hxs,hg⟩:=hg
  obtain rfl:=oM hxs
  replace hg:=aJ hg;obtain⟨l,hl,hg⟩:=hg
  replace hg:=aJ hg;obtain⟨o2,ho2,hg⟩:=hg
  replace hg:=aJ hg;obtain⟨ys,hys,hg⟩:=hg
  obtain rfl:=oM hys
  replace hg:=aJ hg;obtain⟨s0,hs0,hg⟩:=hg
  obtain rfl:=aCb hs0
  replace hg:=aP hg;obtain⟨⟨hne,hn,hal,hau,hbl,hbu,hbig,hsl,hsu⟩,hg⟩:=hg
  simp only[Option.some.injEq,Prod.mk.injEq]at hg;obtain⟨rfl,rfl,rfl⟩:=hg
  have:=dO hl;subst this
  obtain⟨a,rfl⟩:=Int.eq_ofNat_of_zero_le hal
  obtain⟨b,rfl⟩:=Int.eq_ofNat_of_zero_le hbl
  obtain⟨s,rfl⟩:=Int.eq_ofNat_of_zero_le hsl
  simp only[U2]at*
  obtain⟨d,hd⟩: ∃d,l.toArray=d:=⟨_,rfl⟩
  have hds:d.size=n:=by rw[←hd];simpa using hn
  rw[hd]at ho⊢
  have hqi:q≠id:=fun e=>hne e.symm
  refine⟨J1 rfl,by omega,fun hnone=>?_⟩
  have hidn:id<nx:=by
   apply Classical.byContradiction;intro hc;rw[hnone id (by omega)]at ho;cases ho
  have hqn:q<nx:=by
   apply Classical.byContradiction;intro hc;rw[hnone q (by omega)]at ho2;cases ho2
  obtain⟨v,hv⟩: ∃v,ltN d[b]! d[a]! =v:=⟨_,rfl⟩
  simp only[Sort.order2,hv]
  refine ySq (yRn [0,1,2,3] fun K hK=>?_)
  simp(disch:=omega) only[go_sem]
  refine hK _ (aB ?_)
  refine ySq (ySq (bB (Γ:=bC [(120,.pure true dY)]) (fun k=>if k=8 then 0 else 2) [18,1,2,3] bZ (aH rC aO) rfl rfl rfl (by kernel_rfl) (fun K hK=>?_)))
  simp(disch:=omega) only[go_sem,ho,hv,U2]
  refine hK _ (aB ?_)
  cases v
  ·refine iFd (ySk (aB (ySq (yRn [8,9] fun K hK=>?_))))
   simp(disch:=omega) only[go_sem]
   refine hK _ (aB ?_)
   refine aS rfl ?_
   exact⟨rfl,bBc ho2,by simp only;omega⟩
  refine iT (ySq (yRn [1,2] fun K hK=>?_))
  simp(disch:=omega) only[go_sem,ho2]
  refine hK _ (aB ?_)
  refine ySq (yRn [8,9] fun K hK=>?_)
  simp(disch:=omega) only[go_sem]
  refine hK _ (aB ?_)
  refine aS rfl (bI ?_)
  refine⟨rfl,aAd (by simp only[aV,if_true,Int.natCast_add,Int.natCast_one];try rfl) (fun j hj=>by simp only[aV,J3 hj]),by simp only;omega⟩
 cases hg
theorem eVn:bX Tryz.prog GLh 131 (.heap aRo):=⟨⟨_,Tryz.func131,rfl,rfl⟩,cKc⟩
theorem oF {d:Array T16} {a b s x y t:Nat} (h:Sort.order2 ltN d a b s=(x,y,t)):((x=a∧y=b)∨(x=b∧y=a))∧t≤s+1:=by
 unfold Sort.order2 at h
 split at h<;>(simp only[Prod.mk.injEq]at h;obtain⟨rfl,rfl,rfl⟩:=h;omega)
theorem bAn {d:Array T16} {a b c s x t:Nat} (h:Sort.median ltN d a b c s=(x,t)):(x=a∨x=b∨x=c)∧t≤s+3:=by
 obtain⟨⟨x1,y1,s1⟩,h1⟩: ∃r,Sort.order2 ltN d a b s=r:=⟨_,rfl⟩
 have f1:=oF h1
 obtain⟨⟨x2,y2,s2⟩,h2⟩: ∃r,Sort.order2 ltN d y1 c s1=r:=⟨_,rfl⟩
 have f2:=oF h2
 obtain⟨⟨x3,y3,s3⟩,h3⟩: ∃r,Sort.order2 ltN d x1 x2 s2=r:=⟨_,rfl⟩
 have f3:=oF h3
 simp only[Sort.median,h1,h2,h3,Prod.mk.injEq]at h
 omega
attribute [go_sem] Array.toArray_toList Array.length_toList
def aSb:List AV→H→Nat→Option (AV×H×Nat)
 |[.os id 0 n 1 _,.i a,.i b,.i c,.op q 0],hp,nx=>aK (hp id) fun o=>aK (tY o) fun xs=>aK (unA xs) fun l=>aK (hp q) fun o2=>aK (tY o2) fun ys=>aK (aJf ys) fun s=>aN (id≠q∧l.length=n∧0≤a∧a<n∧0≤b∧b<n∧0≤c∧c<n∧n≤1000000∧0≤s∧s≤900) (some (.i (Sort.median ltN l.toArray a.toNat b.toNat c.toNat s.toNat).1,upd hp q (.cells [.i (Sort.median ltN l.toArray a.toNat b.toNat c.toNat s.toNat).2] true),nx+300))
 |_,_,_=>none
theorem bXk (id n q:Nat) (gg:Bool) (a b c:Int) (hp:H) (nx:Nat):aSb [.os id 0 n 1 gg,.i a,.i b,.i c,.op q 0] hp nx=aK (hp id) fun o=>aK (tY o) fun xs=>aK (unA xs) fun l=>aK (hp q) fun o2=>aK (tY o2) fun ys=>aK (aJf ys) fun s=>aN (id≠q∧l.length=n∧0≤a∧a<n∧0≤b∧b<n∧0≤c∧c<n∧n≤1000000∧0≤s∧s≤900) (some (.i (Sort.median ltN l.toArray a.toNat b.toNat c.toNat s.toNat).1,upd hp q (.cells [.i (Sort.median ltN l.toArray a.toNat b.toNat c.toNat s.toNat).2] true),nx+300)):=(rfl)
attribute [go_sem] bXk
set_option maxHeartbeats 1000000 in
theorem cMf:fHs Tryz.prog GLh 129 aSb:=by
 refine fVw Tryz.func129 (aT rfl) ?_
 intro args hp nx r hp' nx' hg
 unfold aSb at hg
 split at hg
 ·rename_i hp0 nx0 id n gg a0 b0 c0 q
  replace hg:=aJ hg;obtain⟨o,ho,hg⟩:=hg
  replace hg:=aJ hg;obtain⟨xs,hxs,hg⟩:=hg
  obtain rfl:=oM hxs
  replace hg:=aJ hg;obtain⟨l,hl,hg⟩:=hg
  replace hg:=aJ hg;obtain⟨o2,ho2,hg⟩:=hg
  replace hg:=aJ hg;obtain⟨ys,hys,hg⟩:=hg
  obtain rfl:=oM hys
  replace hg:=aJ hg;obtain⟨s0,hs0,hg⟩:=hg
  obtain rfl:=aCb hs0
  replace hg:=aP hg;obtain⟨⟨hne,hn,hal,hau,hbl,hbu,hcl,hcu,hbig,hsl,hsu⟩,hg⟩:=hg
  simp only[Option.some.injEq,Prod.mk.injEq]at hg;obtain⟨rfl,rfl,rfl⟩:=hg
  have:=dO hl;subst this
  obtain⟨a,rfl⟩:=Int.eq_ofNat_of_zero_le hal
  obtain⟨b,rfl⟩:=Int.eq_ofNat_of_zero_le hbl
  obtain⟨c,rfl⟩:=Int.eq_ofNat_of_zero_le hcl
  obtain⟨s,rfl⟩:=Int.eq_ofNat_of_zero_le hsl
  simp only[U2]at*
  obtain⟨d,hd⟩: ∃d,l.toArray=d:=⟨_,rfl⟩
  have hds:d.size=n:=by rw[←hd];simpa using hn
  rw[hd]at ho⊢
  have hqi:q≠id:=fun e=>hne e.symm
  refine⟨J1 rfl,by omega,fun hnone=>?_⟩
  have hidn:id<nx:=by
   apply Classical.byContradiction;intro hc;rw[hnone id (by omega)]at ho;cases ho
  have hqn:q<nx:=by
   apply Classical.byContradiction;intro hc;rw[hnone q (by omega)]at ho2;cases ho2
  obtain⟨⟨x1,y1,s1⟩,h1⟩: ∃r,Sort.order2 ltN d a b s=r:=⟨_,rfl⟩
  have f1:=oF h1
  obtain⟨⟨x2,y2,s2⟩,h2⟩: ∃r,Sort.order2 ltN d y1 c s1=r:=⟨_,rfl⟩
  have f2:=oF h2
  obtain⟨⟨x3,y3,s3⟩,h3⟩: ∃r,Sort.order2 ltN d x1 x2 s2=r:=⟨_,rfl⟩
  have f3:=oF h3
  have hx1:x1<n:=by omega
  have hy1:y1<n:=by omega
  have hx2:x2<n:=by omega
  simp only[Sort.median,h1,h2,h3]
  refine ySq (yRn [0,1,2,3,4] fun K hK=>?_)
  simp(disch:=omega) only[go_sem]
  refine hK _ (aB ?_)
  refine ySq (yRg [0,1,2,3,4] (aH eVn aO) fun K hK=>?_)
  simp(disch:=omega) only[go_sem,ho,ho2,hds,h1,U2,Int.natCast_nonneg]
  refine hK _ (aB ?_)
  refine ySq (yRg [0,1,2,4] (aH eVn aO) fun K hK=>?_)
  simp(disch:=omega) only[go_sem,ho,hds,h2,hne,U2]
  refine hK _ (aB ?_)
  refine ySq (yRg [2] (aH eVn aO) fun K hK=>?_)
  simp(disch:=omega) only[go_sem,ho,hds,h3,hne,U2]
  refine hK _ (aB ?_)
  refine ySq (yRn [10] fun K hK=>?_)
  simp(disch:=omega) only[go_sem]
  refine hK _ (aB ?_)
  refine aS rfl ?_
  refine⟨rfl,aAd (by simp only[aV,if_true]) (fun j hj=>by simp only[aV,J3 hj]),by simp only;omega⟩
 cases hg
theorem eVo:bX Tryz.prog GLh 129 (.heap aSb):=⟨⟨_,Tryz.func129,rfl,rfl⟩,cMf⟩
theorem gAc {d:Array T16} {a s x t:Nat} (h:Sort.medianAdjacent ltN d a s=(x,t)):(x=a-1∨x=a∨x=a+1)∧t≤s+3:=bAn h
def aUf:List AV→H→Nat→Option (AV×H×Nat)
 |[.os id 0 n 1 _,.i a,.op q 0],hp,nx=>aK (hp id) fun o=>aK (tY o) fun xs=>aK (unA xs) fun l=>aK (hp q) fun o2=>aK (tY o2) fun ys=>aK (aJf ys) fun s=>aN (id≠q∧l.length=n∧1≤a∧a+1<n∧n≤1000000∧0≤s∧s≤800) (some (.i (Sort.medianAdjacent ltN l.toArray a.toNat s.toNat).1,upd hp q (.cells [.i (Sort.medianAdjacent ltN l.toArray a.toNat s.toNat).2] true),nx+400))
 |_,_,_=>none
theorem cEg (id n q:Nat) (gg:Bool) (a:Int) (hp:H) (nx:Nat):aUf [.os id 0 n 1 gg,.i a,.op q 0] hp nx=aK (hp id) fun o=>aK (tY o) fun xs=>aK (unA xs) fun l=>aK (hp q) fun o2=>aK (tY o2) fun ys=>aK (aJf ys) fun s=>aN (id≠q∧l.length=n∧1≤a∧a+1<n∧n≤1000000∧0≤s∧s≤800) (some (.i (Sort.medianAdjacent ltN l.toArray a.toNat s.toNat).1,upd hp q (.cells [.i (Sort.medianAdjacent ltN l.toArray a.toNat s.toNat).2] true),nx+400)):=(rfl)
attribute [go_sem] cEg
set_option maxHeartbeats 1000000 in
theorem cRw:fHs Tryz.prog GLh 128 aUf:=by
 refine fVw Tryz.func128 (aT rfl) ?_
 intro args hp nx r hp' nx' hg
 unfold aUf at hg
 split at hg
 ·rename_i hp0 nx0 id n gg a0 q
  replace hg:=aJ hg;obtain⟨o,ho,hg⟩:=hg
  replace hg:=aJ hg;obtain⟨xs,hxs,hg⟩:=hg
  obtain rfl:=oM hxs
  replace hg:=aJ hg;obtain⟨l,hl,hg⟩:=hg
  replace hg:=aJ hg;obtain⟨o2,ho2,hg⟩:=hg
  replace hg:=aJ hg;obtain⟨ys,hys,hg⟩:=hg
  obtain rfl:=oM hys
  replace hg:=aJ hg;obtain⟨s0,hs0,hg⟩:=hg
  obtain rfl:=aCb hs0
  replace hg:=aP hg;obtain⟨⟨hne,hn,hal1,hau,hbig,hsl,hsu⟩,hg⟩:=hg
  simp only[Option.some.injEq,Prod.mk.injEq]at hg;obtain⟨rfl,rfl,rfl⟩:=hg
  have:=dO hl;subst this
  have hal:0≤a0:=by omega
  obtain⟨a,rfl⟩:=Int.eq_ofNat_of_zero_le hal
  obtain⟨s,rfl⟩:=Int.eq_ofNat_of_zero_le hsl
  simp only[U2]at*
  obtain⟨d,hd⟩: ∃d,l.toArray=d:=⟨_,rfl⟩
  have hds:d.size=n:=by rw[←hd];simpa using hn
  rw[hd]at ho⊢
  have hqi:q≠id:=fun e=>hne e.symm
  refine⟨J1 rfl,by omega,fun hnone=>?_⟩
  have hidn:id<nx:=by
   apply Classical.byContradiction;intro hc;rw[hnone id (by omega)]at ho;cases ho
  have hqn:q<nx:=by
   apply Classical.byContradiction;intro hc;rw[hnone q (by omega)]at ho2;cases ho2
  obtain⟨⟨x1,s1⟩,h1⟩: ∃r,Sort.median ltN d (a-1) a (a+1) s=r:=⟨_,rfl⟩
  simp only[Sort.medianAdjacent,h1]
  have e1:(a:Int)-1=((a-1:Nat):Int):=by omega
  have e2:(a:Int)+1=((a+1:Nat):Int):=by omega
  refine ySq (yRn [0,1,2] fun K hK=>?_)
  simp(disch:=omega) only[go_sem]
  refine hK _ (aB ?_)
  refine ySq (yRg [6] (aH eVo aO) fun K hK=>?_)
  simp(disch:=omega) only[go_sem,ho,ho2,hds,h1,e1,e2,U2]
  refine hK _ (aB ?_)
  refine aS rfl ?_
  refine⟨rfl,aAd (by simp only[aV,if_true]) (fun j hj=>by simp only[aV,J3 hj]),by simp only;omega⟩
 cases hg
theorem eVp:bX Tryz.prog GLh 128 (.heap aUf):=⟨⟨_,Tryz.func128,rfl,rfl⟩,cRw⟩
def gM:Sort.Hint→Int
 | .unknown=>0
 | .increasing=>1
 | .decreasing=>2
def chG:List AV→List AV→Option (AV×List AV)
 |[.os _ 0 n 1 _,.i a,.i b],xs=>aK (unA xs) fun l=>aN (l.length=n∧0≤a∧a<b∧b≤n∧n≤1000000) (some (.tup [.i (Sort.choosePivot ltN l.toArray a.toNat b.toNat).1,.i (gM (Sort.choosePivot ltN l.toArray a.toNat b.toNat).2)],cA l.toArray))
 |_,_=>none
theorem cQh (id n:Nat) (gg:Bool) (a b:Int) (xs:List AV):chG [.os id 0 n 1 gg,.i a,.i b] xs=aK (unA xs) fun l=>aN (l.length=n∧0≤a∧a<b∧b≤n∧n≤1000000) (some (.tup [.i (Sort.choosePivot ltN l.toArray a.toNat b.toNat).1,.i (gM (Sort.choosePivot ltN l.toArray a.toNat b.toNat).2)],cA l.toArray)):=(rfl)
attribute [go_sem] cQh
set_option maxHeartbeats 2000000 in
theorem dBf:fHs Tryz.prog GLh 117 (dP chG):=by
 refine eS Tryz.func117 (aT rfl) ?_
 intro id off n e gg rest nx xs r ys hg
 unfold chG at hg
 split at hg
 ·rename_i id2 n2 gg2 a0 b0 heq
  simp only[List.cons.injEq,AV.os.injEq]at heq
  obtain⟨⟨rfl,rfl,rfl,rfl,rfl⟩,rfl⟩:=heq
  replace hg:=aJ hg;obtain⟨l,hl,hg⟩:=hg
  replace hg:=aP hg;obtain⟨⟨hn,ha,hab,hbn,hbig⟩,hg⟩:=hg
  simp only[Option.some.injEq,Prod.mk.injEq]at hg;obtain⟨rfl,rfl⟩:=hg
  have:=dO hl;subst this
  obtain⟨a,rfl⟩:=Int.eq_ofNat_of_zero_le ha
  obtain⟨b,rfl⟩:=Int.eq_ofNat_of_zero_le (show 0≤b0 by omega)
  simp only[U2]at*
  obtain⟨d,hd⟩: ∃d,l.toArray=d:=⟨_,rfl⟩
  have hds:d.size=n:=by rw[←hd];simpa using hn
  have hab2:a<b:=by omega
  have hbn2:b≤n:=by omega
  rw[hd]
  refine⟨J1 rfl,fun hid=>?_⟩
  clear hl hn ha hab hbn
  have eq4:(((b:Int)-(a:Int)).tdiv 4)=(((b-a)/4:Nat):Int):=by rw[Int.tdiv_eq_ediv_of_nonneg (by omega)];omega
  obtain⟨L,hL⟩: ∃L:Nat,b-a=L:=⟨_,rfl⟩
  obtain⟨Q,hQ⟩: ∃Q:Nat,(b-a)/4=Q:=⟨_,rfl⟩
  have ebL:(b:Int)-(a:Int)=(L:Int):=by omega
  rw[ebL,hQ]at eq4
  have ei:(a:Int)+(Q:Int)*1=((a+Q*1:Nat):Int):=by omega
  have ej:(a:Int)+(Q:Int)*2=((a+Q*2:Nat):Int):=by omega
  have ek:(a:Int)+(Q:Int)*3=((a+Q*3:Nat):Int):=by omega
  obtain⟨CP,hCP⟩: ∃CP,Sort.choosePivot ltN d a b=CP:=⟨_,rfl⟩
  rw[hCP]
  refine ySq (yRn [0,1,2] fun K hK=>?_)
  simp(disch:=omega) only[go_sem]
  refine hK _ (aB ?_)
  refine ySq (yRn [0,1,8] fun K hK=>?_)
  simp(disch:=omega) only[go_sem,ebL]
  refine hK _ (aB ?_)
  refine ySq (yRn [0,1,8,9] fun K hK=>?_)
  simp(disch:=omega) only[go_sem]
  refine hK _ (aB ?_)
  refine ySq (yRn [0,1,8,9,10] fun K hK=>?_)
  simp(disch:=omega) only[go_sem,eq4,ei]
  refine hK _ (aB ?_)
  refine ySq (yRn [0,1,8,9,10,11] fun K hK=>?_)
  simp(disch:=omega) only[go_sem,eq4,ej]
  refine hK _ (aB ?_)
  refine ySq (yRn [0,8,9,10,11,12] fun K hK=>?_)
  simp(disch:=omega) only[go_sem,eq4,ek]
  refine hK _ (aB ?_)
  refine ySq (ySq (yRn [32,0,8,9,10,11,12] fun K hK=>?_))
  simp(disch:=omega) only[go_sem]
  refine hK _ (aB ?_)
  have hne:id≠nx+6:=by omega
  have hQL:Q=L/4:=by omega
  refine gLb rfl (fun h=>?_) (fun h=>?_)
  ·refine yDr ?_
   have hL8:8≤L:=by omega
   refine ySq (ySq (yRn [34,0,9,10,11,12] fun K hK=>?_))
   simp(disch:=omega) only[go_sem]
   refine hK _ (aB ?_)
   refine gLb rfl (fun h=>?_) (fun h=>?_)
   ·refine yDr ?_
    have hL50:50≤L:=by omega
    obtain⟨⟨x1,s1⟩,h1⟩: ∃r,Sort.medianAdjacent ltN d (a+Q) 0=r:=⟨_,rfl⟩
    have f1:=gAc h1
    obtain⟨⟨x2,s2⟩,h2⟩: ∃r,Sort.medianAdjacent ltN d (a+Q*2) s1=r:=⟨_,rfl⟩
    have f2:=gAc h2
    obtain⟨⟨x3,s3⟩,h3⟩: ∃r,Sort.medianAdjacent ltN d (a+Q*3) s2=r:=⟨_,rfl⟩
    have f3:=gAc h3
    obtain⟨⟨p,sw⟩,h4⟩: ∃r,Sort.median ltN d x1 x2 x3 s3=r:=⟨_,rfl⟩
    obtain rfl:CP=(p,if sw=0 then .increasing else if sw=12 then .decreasing else .unknown):=by
     rw[←hCP];unfold Sort.choosePivot
     simp only[hL,←hQL,ge_iff_le,hL8,hL50,if_true,Nat.mul_one,h1,h2,h3,h4]
    have hx1:x1<n:=by omega
    have hx2:x2<n:=by omega
    have hx3:x3<n:=by omega
    have g1:a+Q+1<n:=by omega
    have g2:a+Q*2+1<n:=by omega
    have g3:a+Q*3+1<n:=by omega
    refine ySq (yRg [0,9,10,11,12] (aH eVp aO) fun K hK=>?_)
    simp(disch:=omega) only[go_sem,hds,h1,hne,U2,Int.toNat_zero]
    refine hK _ (aB ?_)
    refine ySq (yRg [0,9,10,11,12] (aH eVp aO) fun K hK=>?_)
    simp(disch:=omega) only[go_sem,hds,h2,hne,U2]
    refine hK _ (aB ?_)
    refine yRg [0,9,10,11,12] (aH eVp aO) fun K hK=>?_
    simp(disch:=omega) only[go_sem,hds,h3,hne,U2]
    refine hK _ (aB ?_)
    refine yRg [9,11] (aH eVo aO) fun K hK=>?_
    simp(disch:=omega) only[go_sem,hds,h4,hne,U2]
    refine hK _ (aB ?_)
    refine ySq (yRn [11,49] fun K hK=>?_)
    simp(disch:=omega) only[go_sem]
    refine hK _ (aB ?_)
    refine yBl 0 (ySq (yRn [51,11,49] fun K hK=>?_))
    simp(disch:=omega) only[go_sem]
    refine hK _ (aB ?_)
    refine gLb rfl (fun h=>?_) (fun h=>?_)
    ·refine yDr ?_
     have h0:sw=0:=by omega
     refine ySq (yRn [6,7] fun K hK=>?_)
     simp(disch:=omega) only[go_sem]
     refine hK _ (aB ?_)
     refine aS rfl (bN ?_)
     exact⟨by simp only[h0,if_true,gM,bV];rfl,by simp(disch:=omega) only[aV,bY,if_true,if_false],rfl,dZ _⟩
    refine yDr (ySq (yRn [54,11] fun K hK=>?_))
    simp(disch:=omega) only[go_sem]
    refine hK _ (aB ?_)
    refine gLb rfl (fun h=>?_) (fun h=>?_)
    ·refine yDr ?_
     have h0:sw=12:=by omega
     refine ySq (yRn [6,7] fun K hK=>?_)
     simp(disch:=omega) only[go_sem]
     refine hK _ (aB ?_)
     refine aS rfl (bN ?_)
     exact⟨by simp only[h0,if_true,gM,bV];rfl,by simp(disch:=omega) only[aV,bY,if_true,if_false],rfl,dZ _⟩
    refine yDr ?_
    have h0:sw≠0:=by omega
    have h1:sw≠12:=by omega
    refine ySq (yRn [6,7] fun K hK=>?_)
    simp(disch:=omega) only[go_sem]
    refine hK _ (aB ?_)
    refine aS rfl (bN ?_)
    exact⟨by simp only[h0,h1,if_false,gM,bV];rfl,by simp(disch:=omega) only[aV,bY,if_true,if_false],rfl,dZ _⟩
   refine yDr ?_
   have hL50: ¬50≤L:=by omega
   obtain⟨⟨p,sw⟩,h4⟩: ∃r,Sort.median ltN d (a+Q) (a+Q*2) (a+Q*3) 0=r:=⟨_,rfl⟩
   obtain rfl:CP=(p,if sw=0 then .increasing else if sw=12 then .decreasing else .unknown):=by
    rw[←hCP];unfold Sort.choosePivot
    simp only[hL,←hQL,ge_iff_le,hL8,hL50,if_true,if_false,Nat.mul_one,h4]
   have g1:a+Q<n:=by omega
   have g2:a+Q*2<n:=by omega
   have g3:a+Q*3<n:=by omega
   refine ySk (aB (yRg [9,11] (aH eVo aO) fun K hK=>?_))
   simp(disch:=omega) only[go_sem,hds,h4,hne,U2,Int.toNat_zero]
   refine hK _ (aB ?_)
   refine ySq (yRn [11,49] fun K hK=>?_)
   simp(disch:=omega) only[go_sem]
   refine hK _ (aB ?_)
   refine yBl 0 (ySq (yRn [51,11,49] fun K hK=>?_))
   simp(disch:=omega) only[go_sem]
   refine hK _ (aB ?_)
   refine gLb rfl (fun h=>?_) (fun h=>?_)
   ·refine yDr ?_
    have h0:sw=0:=by omega
    refine ySq (yRn [6,7] fun K hK=>?_)
    simp(disch:=omega) only[go_sem]
    refine hK _ (aB ?_)
    refine aS rfl (bN ?_)
    exact⟨by simp only[h0,if_true,gM,bV];rfl,by simp(disch:=omega) only[aV,bY,if_true,if_false],rfl,dZ _⟩
   refine yDr (ySq (yRn [54,11] fun K hK=>?_))
   simp(disch:=omega) only[go_sem]
   refine hK _ (aB ?_)
   refine gLb rfl (fun h=>?_) (fun h=>?_)
   ·refine yDr ?_
    have h0:sw=12:=by omega
    refine ySq (yRn [6,7] fun K hK=>?_)
    simp(disch:=omega) only[go_sem]
    refine hK _ (aB ?_)
    refine aS rfl (bN ?_)
    exact⟨by simp only[h0,if_true,gM,bV];rfl,by simp(disch:=omega) only[aV,bY,if_true,if_false],rfl,dZ _⟩
   refine yDr ?_
   have h0:sw≠0:=by omega
   have h1:sw≠12:=by omega
   refine ySq (yRn [6,7] fun K hK=>?_)
   simp(disch:=omega) only[go_sem]
   refine hK _ (aB ?_)
   refine aS rfl (bN ?_)
   exact⟨by simp only[h0,h1,if_false,gM,bV];rfl,by simp(disch:=omega) only[aV,bY,if_true,if_false],rfl,dZ _⟩
  refine yDr ?_
  have hL8: ¬8≤L:=by omega
  obtain rfl:CP=(a+Q*2,.increasing):=by
   rw[←hCP];unfold Sort.choosePivot
   simp only[hL,←hQL,ge_iff_le,hL8,if_true,if_false]
  refine ySk (aB (ySq (yRn [11,49] fun K hK=>?_)))
  simp(disch:=omega) only[go_sem]
  refine hK _ (aB ?_)
  refine yBl 0 (ySq (yRn [51,11,49] fun K hK=>?_))
  simp(disch:=omega) only[go_sem]
  refine hK _ (aB ?_)
  refine iTd (ySq (yRn [6,7] fun K hK=>?_))
  simp(disch:=omega) only[go_sem]
  refine hK _ (aB ?_)
  exact aS rfl (bN (⟨rfl,by simp(disch:=omega) only[aV,bY,if_true,if_false],rfl,dZ _⟩))
 cases hg
theorem ok96:bX Tryz.prog GLh 117 (.heap (dP chG)):=⟨⟨_,Tryz.func117,rfl,rfl⟩,dBf⟩
end Go.AX.D5

namespace Go.AX.D5
open Go Go.Proofs
structure SDJ where
 k:Nat
 j:Nat
 d:Array T16
 c:Nat
def bHw:List AV→List AV→Option (AV×List AV)
 |[.os _ 0 n 1 _,.i a,.i b],xs=>aK (unA xs) fun l=>aN (l.length=n∧0≤a∧a<b∧b≤n∧n≤1000000) (some (.tup [],cA (Sort.reverseRange l.toArray a.toNat b.toNat)))
 |_,_=>none
theorem bUq (id n:Nat) (gg:Bool) (a b:Int) (xs:List AV):bHw [.os id 0 n 1 gg,.i a,.i b] xs=aK (unA xs) fun l=>aN (l.length=n∧0≤a∧a<b∧b≤n∧n≤1000000) (some (.tup [],cA (Sort.reverseRange l.toArray a.toNat b.toNat))):=(rfl)
attribute [go_sem] bUq
set_option maxHeartbeats 2000000 in
theorem cIm:fHs Tryz.prog GLh 118 (dP bHw):=by
 refine eS Tryz.func118 (aT rfl) ?_
 intro id off n e gg rest nx xs r ys hg
 unfold bHw at hg
 split at hg
 ·rename_i id2 n2 gg2 a0 b0 heq
  simp only[List.cons.injEq,AV.os.injEq]at heq
  obtain⟨⟨rfl,rfl,rfl,rfl,rfl⟩,rfl⟩:=heq
  replace hg:=aJ hg;obtain⟨l,hl,hg⟩:=hg
  replace hg:=aP hg;obtain⟨⟨hn,ha,hab,hbn,hbig⟩,hg⟩:=hg
  simp only[Option.some.injEq,Prod.mk.injEq]at hg;obtain⟨rfl,rfl⟩:=hg
  have:=dO hl;subst this
  obtain⟨a,rfl⟩:=Int.eq_ofNat_of_zero_le ha
  obtain⟨b,rfl⟩:=Int.eq_ofNat_of_zero_le (show 0≤b0 by omega)
  simp only[U2]at*
  obtain⟨d,hd⟩: ∃d,l.toArray=d:=⟨_,rfl⟩
  have hds:d.size=n:=by rw[←hd];simpa using hn
  have hab2:a<b:=by omega
  have hbn2:b≤n:=by omega
  rw[hd]
  refine⟨J1 rfl,fun hid=>?_⟩
  clear hl hn ha hab hbn
  obtain⟨R,hR⟩: ∃R,Sort.reverseRange d a b=R:=⟨_,rfl⟩
  have hR0:Sort.reverseLoop a (b-1) d=R:=hR
  rw[hR]
  clear hR
  have eb:(b:Int)-1=((b-1:Nat):Int):=by omega
  refine ySq (yRn [0,2,6] fun K hK=>?_)
  simp(disch:=omega) only[go_sem]
  refine hK _ (aB ?_)
  refine ySq (yRn [0,6,7] fun K hK=>?_)
  simp(disch:=omega) only[go_sem,eb]
  refine hK _ (aB ?_)
  refine yBl 0 ?_
  refine bR (fun p:SDJ=> {fr:=[(0,.os id 0 n 1 gg),(6,.i p.k),(7,.i p.j)],hp:=upd (fun _=>none) id (.cells (cA p.d) true),nx:=0,cx:=p.c}) (fun p=>Sort.reverseLoop p.k p.j p.d=R∧p.d.size=n∧p.j<n∧id<p.c) (fun p=>p.j-p.k) rfl ⟨⟨a,b-1,d,_⟩,⟨hR0,hds,by simp only;omega,by simp only;omega⟩,bD rfl rfl (U3 _)⟩ ?_
  rintro⟨k,j,d1,c⟩ ⟨hr1,hs1,hj,hc⟩ n0
  simp only at hr1 hs1 hj hc⊢
  refine ySq (ySq (yRn [13,0,6,7] fun K hK=>?_))
  simp(disch:=omega) only[go_sem]
  refine hK _ (aB ?_)
  refine gLb rfl (fun h=>?_) (fun h=>?_)
  ·refine yDr ?_
   have hkj:k<j:=by omega
   rw[Sort.reverseLoop,J4 hkj]at hr1
   have hkn:k<n:=by omega
   have hsw:(d1.setIfInBounds k d1[j]!).setIfInBounds j d1[k]! =Sort.swp d1 k j:=rfl
   have ej:(j:Int)-1=((j-1:Nat):Int):=by omega
   refine ySk (aB (yBl 1 (ySq (bB (Γ:=aL) (fun _=>2) [0,6,7] bZ (aD _ _) rfl rfl rfl (by kernel_rfl) (fun K hK=>?_)))))
   simp(disch:=omega) only[go_sem,hsw,U2]
   refine hK _ (aB ?_)
   refine ySq (yRn [0,6,7] fun K hK=>?_)
   simp(disch:=omega) only[go_sem]
   refine hK _ (aB ?_)
   refine yRn [0,6,7] fun K hK=>?_
   simp(disch:=omega) only[go_sem,ej]
   refine hK _ (bU (bT ?_))
   refine⟨⟨k+1,j-1,Sort.swp d1 k j,_⟩,⟨hr1,by simp only[cW];exact hs1,by simp only;omega,by simp only;omega⟩,by simp only;omega,⟨fun _=> .inr (by simp only[Int.natCast_add,Int.natCast_one]),bS (by simp(disch:=omega) only[aV,↓reduceIte,eq_self]) fKa,U3 _⟩⟩
  refine yDr (yEx 0 (aY (aZ (bE ?_))))
  have hkj: ¬k<j:=by omega
  rw[Sort.reverseLoop,J3 hkj]at hr1
  subst hr1
  exact⟨rfl,by simp only[aV,if_true],rfl,dZ _⟩
 cases hg
theorem ok97:bX Tryz.prog GLh 118 (.heap (dP bHw)):=⟨⟨_,Tryz.func118,rfl,rfl⟩,cIm⟩
def aMz:List AV→Option (BitVec 64)
 |[.w64 s]=>some s
 |_=>none
theorem bIz (s:BitVec 64):aMz [.w64 s]=some s:=(rfl)
theorem aZv {xs:List AV} {s:BitVec 64} (h:aMz xs=some s):xs=[.w64 s]:=by
 unfold aMz at h
 split at h
 ·obtain rfl:=J0 h;rfl
 cases h
def aDu (x:BitVec 64):BitVec 64:=(Sort.xorNext (.ofBitVec x)).toBitVec
def bJo:List AV→H→Nat→Option (AV×H×Nat)
 |[.op q 0],hp,nx=>aK (hp q) fun o2=>aK (tY o2) fun ys=>aK (aMz ys) fun s=>some (.w64 (aDu s),upd hp q (.cells [.w64 (aDu s)] true),nx+60)
 |_,_,_=>none
theorem bWn (q:Nat) (hp:H) (nx:Nat):bJo [.op q 0] hp nx=aK (hp q) fun o2=>aK (tY o2) fun ys=>aK (aMz ys) fun s=>some (.w64 (aDu s),upd hp q (.cells [.w64 (aDu s)] true),nx+60):=(rfl)
attribute [go_sem] bWn bIz
set_option maxHeartbeats 1000000 in
theorem cLa:fHs Tryz.prog GLh 127 bJo:=by
 refine fVw Tryz.func127 (aT rfl) ?_
 intro args hp nx r hp' nx' hg
 unfold bJo at hg
 split at hg
 ·rename_i hp0 nx0 q
  replace hg:=aJ hg;obtain⟨o2,ho2,hg⟩:=hg
  replace hg:=aJ hg;obtain⟨ys,hys,hg⟩:=hg
  obtain rfl:=oM hys
  replace hg:=aJ hg;obtain⟨s0,hs0,hg⟩:=hg
  obtain rfl:=aZv hs0
  simp only[Option.some.injEq,Prod.mk.injEq]at hg;obtain⟨rfl,rfl,rfl⟩:=hg
  refine⟨J1 rfl,by omega,fun hnone=>?_⟩
  have hqn:q<nx:=by
   apply Classical.byContradiction;intro hc;rw[hnone q (by omega)]at ho2;cases ho2
  refine ySq (yRn [0] fun K hK=>?_)
  simp(disch:=omega) only[go_sem]
  refine hK _ (aB ?_)
  refine ySq (bB (Γ:=aL) (fun _=>2) [0] bZ (aD _ _) rfl rfl rfl (by kernel_rfl) (fun K hK=>?_))
  simp(disch:=omega) only[go_sem,ho2]
  refine hK _ (aB ?_)
  refine ySq (bB (Γ:=aL) (fun _=>2) [0] bZ (aD _ _) rfl rfl rfl (by kernel_rfl) (fun K hK=>?_))
  simp(disch:=omega) only[go_sem]
  refine hK _ (aB ?_)
  refine ySq (bB (Γ:=aL) (fun _=>2) [0] bZ (aD _ _) rfl rfl rfl (by kernel_rfl) (fun K hK=>?_))
  simp(disch:=omega) only[go_sem]
  refine hK _ (aB ?_)
  refine ySq (yRn [2] fun K hK=>?_)
  simp(disch:=omega) only[go_sem]
  refine hK _ (aB ?_)
  refine aS rfl ?_
  refine⟨rfl,aAd (by simp only[aV,if_true];rfl) (fun j hj=>by simp only[aV,J3 hj]),by simp only;omega⟩
 cases hg
theorem fFs:bX Tryz.prog GLh 127 (.heap bJo):=⟨⟨_,Tryz.func127,rfl,rfl⟩,cLa⟩
def L8:List B8:=[0#8,1#8,2#8,2#8,3#8,3#8,3#8,3#8,4#8,4#8,4#8,4#8,4#8,4#8,4#8,4#8,5#8,5#8,5#8,5#8,5#8,5#8,5#8,5#8,5#8,5#8,5#8,5#8,5#8,5#8,5#8,5#8,6#8,6#8,6#8,6#8,6#8,6#8,6#8,6#8,6#8,6#8,6#8,6#8,6#8,6#8,6#8,6#8,6#8,6#8,6#8,6#8,6#8,6#8,6#8,6#8,6#8,6#8,6#8,6#8,6#8,6#8,6#8,6#8,7#8,7#8,7#8,7#8,7#8,7#8,7#8,7#8,7#8,7#8,7#8,7#8,7#8,7#8,7#8,7#8,7#8,7#8,7#8,7#8,7#8,7#8,7#8,7#8,7#8,7#8,7#8,7#8,7#8,7#8,7#8,7#8,7#8,7#8,7#8,7#8,7#8,7#8,7#8,7#8,7#8,7#8,7#8,7#8,7#8,7#8,7#8,7#8,7#8,7#8,7#8,7#8,7#8,7#8,7#8,7#8,7#8,7#8,7#8,7#8,7#8,7#8,7#8,7#8,8#8,8#8,8#8,8#8,8#8,8#8,8#8,8#8,8#8,8#8,8#8,8#8,8#8,8#8,8#8,8#8,8#8,8#8,8#8,8#8,8#8,8#8,8#8,8#8,8#8,8#8,8#8,8#8,8#8,8#8,8#8,8#8,8#8,8#8,8#8,8#8,8#8,8#8,8#8,8#8,8#8,8#8,8#8,8#8,8#8,8#8,8#8,8#8,8#8,8#8,8#8,8#8,8#8,8#8,8#8,8#8,8#8,8#8,8#8,8#8,8#8,8#8,8#8,8#8,8#8,8#8,8#8,8#8,8#8,8#8,8#8,8#8,8#8,8#8,8#8,8#8,8#8,8#8,8#8,8#8,8#8,8#8,8#8,8#8,8#8,8#8,8#8,8#8,8#8,8#8,8#8,8#8,8#8,8#8,8#8,8#8,8#8,8#8,8#8,8#8,8#8,8#8,8#8,8#8,8#8,8#8,8#8,8#8,8#8,8#8,8#8,8#8,8#8,8#8,8#8,8#8,8#8,8#8,8#8,8#8,8#8,8#8,8#8,8#8,8#8,8#8,8#8,8#8]
set_option maxRecDepth 10000 in
theorem aQo:ofV (Value.string ⟨((([0,1,2,2,3,3,3,3,4,4,4,4,4,4,4,4,5,5,5,5,5,5,5,5,5,5,5,5,5,5,5,5,6,6,6,6,6,6,6,6,6,6,6,6,6,6,6,6,6,6,6,6,6,6,6,6,6,6,6,6,6,6,6,6]:List UInt8).append [7,7,7,7,7,7,7,7,7,7,7,7,7,7,7,7,7,7,7,7,7,7,7,7,7,7,7,7,7,7,7,7,7,7,7,7,7,7,7,7,7,7,7,7,7,7,7,7,7,7,7,7,7,7,7,7,7,7,7,7,7,7,7,7]).append (([8,8,8,8,8,8,8,8,8,8,8,8,8,8,8,8,8,8,8,8,8,8,8,8,8,8,8,8,8,8,8,8,8,8,8,8,8,8,8,8,8,8,8,8,8,8,8,8,8,8,8,8,8,8,8,8,8,8,8,8,8,8,8,8]:List UInt8).append [8,8,8,8,8,8,8,8,8,8,8,8,8,8,8,8,8,8,8,8,8,8,8,8,8,8,8,8,8,8,8,8,8,8,8,8,8,8,8,8,8,8,8,8,8,8,8,8,8,8,8,8,8,8,8,8,8,8,8,8,8,8,8,8])).toArray⟩)=.s L8:=by rfl
theorem cSb: ∀k,k<256→L8[k]? =some (BitVec.ofNat 8 (Sort.bitsLen k)):=by decide+kernel
theorem zL (x:BitVec 64) (h:x.toNat<256):L8[(x.setWidth 8).toNat]? =some (BitVec.ofNat 8 (Sort.bitsLen x.toNat)):=by
 rw[BitVec.toNat_setWidth,Nat.mod_eq_of_lt (by omega)];exact cSb _ h
theorem dCd {n:Nat} (h:n<256):Sort.bitsLen n≤8:=(Sort.bitsLen_le_iff n 8).2 h
theorem sT {n:Nat} (h:n<256):(BitVec.ofNat 8 (Sort.bitsLen n)).toNat=Sort.bitsLen n:=by have:=dCd h;rw[BitVec.toNat_ofNat];exact Nat.mod_eq_of_lt (by omega)
theorem gB (n k:Nat) (h:2^k≤n):Sort.bitsLen n=k+Sort.bitsLen (n>>>k):=by
 have e1: ∀j,Sort.bitsLen n≤k+j↔Sort.bitsLen (n>>>k)≤j:=fun j=>by
  rw[Sort.bitsLen_le_iff,Sort.bitsLen_le_iff,Nat.shiftRight_eq_div_pow,Nat.div_lt_iff_lt_mul (Nat.two_pow_pos k),Nat.pow_add,Nat.mul_comm]
 have h1:k<Sort.bitsLen n:=Nat.lt_of_not_le fun hc=>absurd ((Sort.bitsLen_le_iff n k).1 hc) (by omega)
 have h2:=(e1 (Sort.bitsLen n-k)).1 (by omega)
 have h3:=(e1 (Sort.bitsLen (n>>>k))).2 (U3 _)
 omega
def uJ:List AV→Option AV
 |[.w64 x]=>some (.i (Sort.bitsLen x.toNat))
 |_=>none
theorem bPp (x:BitVec 64):uJ [.w64 x]=some (.i (Sort.bitsLen x.toNat)):=(rfl)
attribute [go_sem] bPp
set_option maxHeartbeats 1000000 in
theorem cMn:fHn Tryz.prog GLh 124 uJ:=by
 refine zK Tryz.func124 (aT rfl) ?_
 intro args r hg
 unfold uJ at hg
 split at hg
 ·rename_i x
  obtain rfl:=J0 hg
  refine⟨J1 rfl,fun nx=>?_⟩
  clear hg
  refine ySq (yRn [0,2] fun K hK=>?_)
  simp(disch:=omega) only[go_sem]
  refine hK _ (aB ?_)
  refine ySq (ySq (yRn [4,0,2] fun K hK=>?_))
  simp(disch:=omega) only[go_sem]
  refine hK _ (aB ?_)
  refine gLb rfl (fun h=>?_) (fun h=>?_)
  ·refine yDr ?_
   have hk0:=gB (x).toNat 32 (by have:=BitVec.le_def.1 h;exact this)
   rw[←BitVec.toNat_ushiftRight]at hk0
   refine ySq (yRn [0] fun K hK=>?_)
   simp(disch:=omega) only[go_sem]
   refine hK _ (aB ?_)
   refine yRn [0,2] fun K hK=>?_
   simp(disch:=omega) only[go_sem]
   refine hK _ (aB ?_)
   refine ySq (ySq (yRn [8,0,2] fun K hK=>?_))
   simp(disch:=omega) only[go_sem]
   refine hK _ (aB ?_)
   refine gLb rfl (fun h=>?_) (fun h=>?_)
   ·refine yDr ?_
    have hk1:=gB (x>>>32).toNat 16 (by have:=BitVec.le_def.1 h;exact this)
    rw[←BitVec.toNat_ushiftRight]at hk1
    refine ySq (yRn [0,2] fun K hK=>?_)
    simp(disch:=omega) only[go_sem]
    refine hK _ (aB ?_)
    refine yRn [0,2] fun K hK=>?_
    simp(disch:=omega) only[go_sem]
    refine hK _ (aB ?_)
    refine ySq (ySq (yRn [14,0,2] fun K hK=>?_))
    simp(disch:=omega) only[go_sem]
    refine hK _ (aB ?_)
    refine gLb rfl (fun h=>?_) (fun h=>?_)
    ·refine yDr ?_
     have hk2:=gB (x>>>32>>>16).toNat 8 (by have:=BitVec.le_def.1 h;exact this)
     rw[←BitVec.toNat_ushiftRight]at hk2
     refine ySq (yRn [0,2] fun K hK=>?_)
     simp(disch:=omega) only[go_sem]
     refine hK _ (aB ?_)
     refine yRn [0,2] fun K hK=>?_
     simp(disch:=omega) only[go_sem]
     refine hK _ (aB ?_)
     have hx256:(x>>>32>>>16>>>8).toNat<256:=by bv_omega
     have e1:=zL (x>>>32>>>16>>>8) hx256
     refine ySq (yRn [2] fun K hK=>?_)
     simp(disch:=omega) only[go_sem,aQo,e1]
     refine hK _ (aB ?_)
     refine aS rfl ?_
     simp(disch:=omega) only[fHo,bV,bK,bQ,go_sem]
     have e2:=sT hx256
     refine congrArg some (congrArg AV.i ?_)
     omega
    refine yDr (ySk (aB (ySq ?_)))
    have hx256:(x>>>32>>>16).toNat<256:=by bv_omega
    have e1:=zL (x>>>32>>>16) hx256
    refine yRn [2] fun K hK=>?_
    simp(disch:=omega) only[go_sem,aQo,e1]
    refine hK _ (aB ?_)
    refine aS rfl ?_
    simp(disch:=omega) only[fHo,bV,bK,bQ,go_sem]
    have e2:=sT hx256
    refine congrArg some (congrArg AV.i ?_)
    omega
   refine yDr (ySk (aB (ySq (ySq (yRn [14,0,2] fun K hK=>?_)))))
   simp(disch:=omega) only[go_sem]
   refine hK _ (aB ?_)
   refine gLb rfl (fun h=>?_) (fun h=>?_)
   ·refine yDr ?_
    have hk2:=gB (x>>>32).toNat 8 (by have:=BitVec.le_def.1 h;exact this)
    rw[←BitVec.toNat_ushiftRight]at hk2
    refine ySq (yRn [0,2] fun K hK=>?_)
    simp(disch:=omega) only[go_sem]
    refine hK _ (aB ?_)
    refine yRn [0,2] fun K hK=>?_
    simp(disch:=omega) only[go_sem]
    refine hK _ (aB ?_)
    have hx256:(x>>>32>>>8).toNat<256:=by bv_omega
    have e1:=zL (x>>>32>>>8) hx256
    refine ySq (yRn [2] fun K hK=>?_)
    simp(disch:=omega) only[go_sem,aQo,e1]
    refine hK _ (aB ?_)
    refine aS rfl ?_
    simp(disch:=omega) only[fHo,bV,bK,bQ,go_sem]
    have e2:=sT hx256
    refine congrArg some (congrArg AV.i ?_)
    omega
   refine yDr (ySk (aB (ySq ?_)))
   have hx256:(x>>>32).toNat<256:=by bv_omega
   have e1:=zL (x>>>32) hx256
   refine yRn [2] fun K hK=>?_
   simp(disch:=omega) only[go_sem,aQo,e1]
   refine hK _ (aB ?_)
   refine aS rfl ?_
   simp(disch:=omega) only[fHo,bV,bK,bQ,go_sem]
   have e2:=sT hx256
   refine congrArg some (congrArg AV.i ?_)
   omega
  refine yDr (ySk (aB (ySq (ySq (yRn [8,0,2] fun K hK=>?_)))))
  simp(disch:=omega) only[go_sem]
  refine hK _ (aB ?_)
  refine gLb rfl (fun h=>?_) (fun h=>?_)
  ·refine yDr ?_
   have hk1:=gB (x).toNat 16 (by have:=BitVec.le_def.1 h;exact this)
   rw[←BitVec.toNat_ushiftRight]at hk1
   refine ySq (yRn [0,2] fun K hK=>?_)
   simp(disch:=omega) only[go_sem]
   refine hK _ (aB ?_)
   refine yRn [0,2] fun K hK=>?_
   simp(disch:=omega) only[go_sem]
   refine hK _ (aB ?_)
   refine ySq (ySq (yRn [14,0,2] fun K hK=>?_))
   simp(disch:=omega) only[go_sem]
   refine hK _ (aB ?_)
   refine gLb rfl (fun h=>?_) (fun h=>?_)
   ·refine yDr ?_
    have hk2:=gB (x>>>16).toNat 8 (by have:=BitVec.le_def.1 h;exact this)
    rw[←BitVec.toNat_ushiftRight]at hk2
    refine ySq (yRn [0,2] fun K hK=>?_)
    simp(disch:=omega) only[go_sem]
    refine hK _ (aB ?_)
    refine yRn [0,2] fun K hK=>?_
    simp(disch:=omega) only[go_sem]
    refine hK _ (aB ?_)
    have hx256:(x>>>16>>>8).toNat<256:=by bv_omega
    have e1:=zL (x>>>16>>>8) hx256
    refine ySq (yRn [2] fun K hK=>?_)
    simp(disch:=omega) only[go_sem,aQo,e1]
    refine hK _ (aB ?_)
    refine aS rfl ?_
    simp(disch:=omega) only[fHo,bV,bK,bQ,go_sem]
    have e2:=sT hx256
    refine congrArg some (congrArg AV.i ?_)
    omega
   refine yDr (ySk (aB (ySq ?_)))
   have hx256:(x>>>16).toNat<256:=by bv_omega
   have e1:=zL (x>>>16) hx256
   refine yRn [2] fun K hK=>?_
   simp(disch:=omega) only[go_sem,aQo,e1]
   refine hK _ (aB ?_)
   refine aS rfl ?_
   simp(disch:=omega) only[fHo,bV,bK,bQ,go_sem]
   have e2:=sT hx256
   refine congrArg some (congrArg AV.i ?_)
   omega
  refine yDr (ySk (aB (ySq (ySq (yRn [14,0,2] fun K hK=>?_)))))
  simp(disch:=omega) only[go_sem]
  refine hK _ (aB ?_)
  refine gLb rfl (fun h=>?_) (fun h=>?_)
  ·refine yDr ?_
   have hk2:=gB (x).toNat 8 (by have:=BitVec.le_def.1 h;exact this)
   rw[←BitVec.toNat_ushiftRight]at hk2
   refine ySq (yRn [0,2] fun K hK=>?_)
   simp(disch:=omega) only[go_sem]
   refine hK _ (aB ?_)
   refine yRn [0,2] fun K hK=>?_
   simp(disch:=omega) only[go_sem]
   refine hK _ (aB ?_)
   have hx256:(x>>>8).toNat<256:=by bv_omega
   have e1:=zL (x>>>8) hx256
   refine ySq (yRn [2] fun K hK=>?_)
   simp(disch:=omega) only[go_sem,aQo,e1]
   refine hK _ (aB ?_)
   refine aS rfl ?_
   simp(disch:=omega) only[fHo,bV,bK,bQ,go_sem]
   have e2:=sT hx256
   refine congrArg some (congrArg AV.i ?_)
   omega
  refine yDr (ySk (aB (ySq ?_)))
  have hx256:(x).toNat<256:=by bv_omega
  have e1:=zL (x) hx256
  refine yRn [2] fun K hK=>?_
  simp(disch:=omega) only[go_sem,aQo,e1]
  refine hK _ (aB ?_)
  refine aS rfl ?_
  simp(disch:=omega) only[fHo,bV,bK,bQ,go_sem]
  have e2:=sT hx256
  refine congrArg some (congrArg AV.i ?_)
  omega
 cases hg
theorem fFu:bX Tryz.prog GLh 124 (.pure true uJ):=⟨⟨_,Tryz.func124,rfl,rfl⟩,cMn⟩
set_option maxHeartbeats 1000000 in
theorem cCi:fHn Tryz.prog GLh 113 uJ:=by
 refine zK Tryz.func113 (aT rfl) ?_
 intro args r hg
 unfold uJ at hg
 split at hg
 ·rename_i x
  obtain rfl:=J0 hg
  refine⟨J1 rfl,fun nx=>?_⟩
  refine ySq (yRn [0] fun K hK=>?_)
  simp(disch:=omega) only[go_sem]
  refine hK _ (aB ?_)
  refine ySq (cV _ rfl rfl rfl (fun h=>?_) (fun h=>?_))
  ·cases h
  refine ySk (aB (ySq (yRg [2] (aH fFu aO) fun K hK=>?_)))
  simp(disch:=omega) only[go_sem]
  refine hK _ (aB ?_)
  refine aS rfl ?_
  simp(disch:=omega) only[fHo,bV,bK,bQ,go_sem]
 cases hg
theorem fFf:bX Tryz.prog GLh 113 (.pure true uJ):=⟨⟨_,Tryz.func113,rfl,rfl⟩,cCi⟩
def npG:List AV→Option AV
 |[.i n]=>aN (0≤n∧n≤1000000) (some (.w64 (1#64 <<<Sort.bitsLen n.toNat)))
 |_=>none
theorem cLd (n:Int):npG [.i n]=aN (0≤n∧n≤1000000) (some (.w64 (1#64 <<<Sort.bitsLen n.toNat))):=(rfl)
attribute [go_sem] cLd
theorem aTm {n:Nat} (h:n≤1000000):Sort.bitsLen n≤20:=(Sort.bitsLen_le_iff n 20).2 (by omega)
theorem aWd {n:Nat} (h:n≤1000000):(BitVec.ofInt 64 (n:Int)).toNat=n:=by
 rw[BitVec.toNat_ofInt];omega
set_option maxHeartbeats 1000000 in
theorem cXc:fHn Tryz.prog GLh 126 npG:=by
 refine zK Tryz.func126 (aT rfl) ?_
 intro args r hg
 unfold npG at hg
 split at hg
 ·rename_i n0
  replace hg:=aP hg;obtain⟨⟨hn,hbig⟩,hg⟩:=hg
  obtain rfl:=J0 hg
  obtain⟨n,rfl⟩:=Int.eq_ofNat_of_zero_le hn
  simp only[U2]at*
  have hbn:n≤1000000:=by omega
  have h20:=aTm hbn
  have e1:=aWd hbn
  refine⟨J1 rfl,fun nx=>?_⟩
  refine ySq (yRn [0] fun K hK=>?_)
  simp(disch:=omega) only[go_sem]
  refine hK _ (aB ?_)
  refine ySq (yRg [2] (aH fFf aO) fun K hK=>?_)
  simp(disch:=omega) only[go_sem,e1,U2]
  refine hK _ (aB ?_)
  refine aS rfl ?_
  simp(disch:=omega) only[fHo,bV,bK,bQ,go_sem]
 cases hg
theorem fFt:bX Tryz.prog GLh 126 (.pure true npG):=⟨⟨_,Tryz.func126,rfl,rfl⟩,cXc⟩
def bPm (a len modulus:Nat):Nat→Nat→UInt64×Array T16→Array T16
 |0,_,st=>st.2
 |m+1,idx,st=>bPm a len modulus m (idx+1) (Sort.breakStep a len modulus st idx)
theorem cCg (x:BitVec 64) (k:Nat) (h:k≤20):(x&&&((1#64 <<<k)-1#64)).toNat=x.toNat&&&((1 <<<k)-1):=by
 have hp:2^k≤2^20:=Nat.pow_le_pow_right (by decide) h
 have h0:=Nat.two_pow_pos k
 rw[BitVec.toNat_and]
 congr 1
 rw[BitVec.toNat_sub,BitVec.toNat_shiftLeft,Nat.shiftLeft_eq,Nat.shiftLeft_eq]
 simp only[BitVec.toNat_ofNat,Nat.reduceMod,Nat.reducePow,Nat.one_mul]at hp⊢
 omega
theorem cRa (x k n:Nat) (h:0<n) (hk:k=Sort.bitsLen n):x&&&((1 <<<k)-1)<2*n:=by
 have h1:=Nat.and_le_right (n:=x) (m:=(1 <<<k)-1)
 have h2:=Sort.two_pow_bitsLen_le h
 have h0:=Nat.two_pow_pos k
 rw[Nat.shiftLeft_eq,Nat.one_mul]at h1⊢
 rw[hk]at*
 omega
structure SDR where
 m:Nat
 i:Nat
 r:BitVec 64
 d:Array T16
 c:Nat
def bPn:List AV→List AV→Option (AV×List AV)
 |[.os _ 0 n 1 _,.i a,.i b],xs=>aK (unA xs) fun l=>aN (l.length=n∧0≤a∧a<b∧b≤n∧n≤1000000) (some (.tup [],cA (Sort.breakPatterns l.toArray a.toNat b.toNat)))
 |_,_=>none
theorem cCh (id n:Nat) (gg:Bool) (a b:Int) (xs:List AV):bPn [.os id 0 n 1 gg,.i a,.i b] xs=aK (unA xs) fun l=>aN (l.length=n∧0≤a∧a<b∧b≤n∧n≤1000000) (some (.tup [],cA (Sort.breakPatterns l.toArray a.toNat b.toNat))):=(rfl)
attribute [go_sem] cCh
set_option maxHeartbeats 2000000 in
theorem cQz:fHs Tryz.prog GLh 116 (dP bPn):=by
 refine eS Tryz.func116 (aT rfl) ?_
 intro id off n e gg rest nx xs r ys hg
 unfold bPn at hg
 split at hg
 ·rename_i id2 n2 gg2 a0 b0 heq
  simp only[List.cons.injEq,AV.os.injEq]at heq
  obtain⟨⟨rfl,rfl,rfl,rfl,rfl⟩,rfl⟩:=heq
  replace hg:=aJ hg;obtain⟨l,hl,hg⟩:=hg
  replace hg:=aP hg;obtain⟨⟨hn,ha,hab,hbn,hbig⟩,hg⟩:=hg
  simp only[Option.some.injEq,Prod.mk.injEq]at hg;obtain⟨rfl,rfl⟩:=hg
  have:=dO hl;subst this
  obtain⟨a,rfl⟩:=Int.eq_ofNat_of_zero_le ha
  obtain⟨b,rfl⟩:=Int.eq_ofNat_of_zero_le (show 0≤b0 by omega)
  simp only[U2]at*
  obtain⟨d,hd⟩: ∃d,l.toArray=d:=⟨_,rfl⟩
  have hds:d.size=n:=by rw[←hd];simpa using hn
  have hab2:a<b:=by omega
  have hbn2:b≤n:=by omega
  rw[hd]
  refine⟨J1 rfl,fun hid=>?_⟩
  clear hl hn ha hab hbn
  have eq4:(((b:Int)-(a:Int)).tdiv 4)=(((b-a)/4:Nat):Int):=by rw[Int.tdiv_eq_ediv_of_nonneg (by omega)];omega
  obtain⟨L,hL⟩: ∃L:Nat,b-a=L:=⟨_,rfl⟩
  obtain⟨Q,hQ⟩: ∃Q:Nat,(b-a)/4=Q:=⟨_,rfl⟩
  have ebL:(b:Int)-(a:Int)=(L:Int):=by omega
  rw[ebL,hQ]at eq4
  have hQL:L/4=Q:=by omega
  have hLb:L≤1000000:=by omega
  have h20:=aTm hLb
  obtain⟨R,hR⟩: ∃R,Sort.breakPatterns d a b=R:=⟨_,rfl⟩
  rw[hR]
  refine ySq (yRn [0,1,6] fun K hK=>?_)
  simp(disch:=omega) only[go_sem,ebL]
  refine hK _ (aB ?_)
  refine ySq (yRn [15,0,1,6] fun K hK=>?_)
  simp(disch:=omega) only[go_sem]
  refine hK _ (aB ?_)
  refine gLb rfl (fun h=>?_) (fun h=>?_)
  ·refine yDr ?_
   have hL8:L≥8:=by omega
   have hR2:bPm a L (1 <<<Sort.bitsLen L) 3 (a+Q*2-1) (UInt64.ofNat L,d)=R:=by
    rw[←hR];unfold Sort.breakPatterns;simp only[hL,hQL,J4 hL8];rfl
   have ei:(a:Int)+(Q:Int)*2-1=((a+Q*2-1:Nat):Int):=by omega
   obtain⟨i0,hi0⟩: ∃i0,a+Q*2-1=i0:=⟨_,rfl⟩
   rw[hi0]at hR2 ei
   have ej:(a:Int)+(Q:Int)*2+1=((i0+2:Nat):Int):=by omega
   refine ySq (yRn [0,1,6,7] fun K hK=>?_)
   simp(disch:=omega) only[go_sem]
   refine hK _ (aB ?_)
   refine ySq (yRg [0,1,6,7,8] (aH fFt aO) fun K hK=>?_)
   simp(disch:=omega) only[go_sem,U2]
   refine hK _ (aB ?_)
   refine ySq (yRn [0,1,6,7,8,9] fun K hK=>?_)
   simp(disch:=omega) only[go_sem,eq4,ei]
   refine hK _ (aB ?_)
   obtain⟨q,hq⟩: ∃q,nx+4+2+2=q:=⟨_,rfl⟩
   have hqid:id<q:=by omega
   rw[hq]
   refine yBl 0 ?_
   refine bR (fun p:SDR=> {fr:=[(0,.os id 0 n 1 gg),(1,.i a),(6,.i L),(7,.op q 0),(8,.w64 (1#64 <<<Sort.bitsLen L)),(9,.i p.i)],hp:=upd (upd (fun _=>none) id (.cells (cA p.d) true)) q (.cells [.w64 p.r] true),nx:=0,cx:=p.c}) (fun p=>bPm a L (1 <<<Sort.bitsLen L) p.m p.i (.ofBitVec p.r,p.d)=R∧p.d.size=n∧p.m+p.i=i0+3∧i0≤p.i∧q<p.c) (fun p=>p.m) rfl ⟨⟨3,i0,BitVec.ofInt 64 (L:Int),d,_⟩,⟨by rw[←hR2];simp only;rw[BitVec.ofInt_natCast];rfl,hds,by simp only;omega,by simp only;omega,by simp only;omega⟩,bD rfl rfl (U3 _)⟩ ?_
   rintro⟨m,i,r,d1,c⟩ ⟨hr1,hs1,hm,hi,hc⟩ n0
   simp only at hr1 hs1 hm hi hc⊢
   have eqq:(a:Int)+((L:Int).tdiv 4)*2+1=((i0+2:Nat):Int):=by rw[eq4];exact ej
   refine ySq (ySq (yRn [33,0,1,6,7,8,9] fun K hK=>?_))
   simp(disch:=omega) only[go_sem,eq4,ej]
   refine hK _ (aB ?_)
   refine gLb rfl (fun h=>?_) (fun h=>?_)
   ·refine yDr ?_
    obtain⟨m,rfl⟩: ∃m',m=m'+1:=⟨m-1,by omega⟩
    rw[bPm]at hr1
    obtain⟨o,ho⟩: ∃o,(aDu r).toNat&&&((1 <<<Sort.bitsLen L)-1)=o:=⟨_,rfl⟩
    have ho2:o<2*L:=by rw[←ho];exact cRa _ _ _ (by omega) rfl
    have hst:Sort.breakStep a L (1 <<<Sort.bitsLen L) (UInt64.ofBitVec r,d1) i=(.ofBitVec (aDu r),Sort.swp d1 i (a+if o≥L then o-L else o)):=by
     rw[←ho];rfl
    rw[hst]at hr1
    have hin:i<n:=by omega
    have eand:(aDu r&&&(1#64 <<<Sort.bitsLen L-1#64)).toNat=o:=by rw[cCg _ _ h20];exact ho
    refine ySk (aB (ySq (yBl 1 (ySq (yRg [0,1,6,7,8,9,10] (aH fFs aO) fun K hK=>?_)))))
    simp(disch:=omega) only[go_sem,eand]
    refine hK _ (aB ?_)
    refine ySq (ySq (yRn [43,0,1,6,7,8,9,10] fun K hK=>?_))
    simp(disch:=omega) only[go_sem]
    refine hK _ (aB ?_)
    refine gLb rfl (fun h=>?_) (fun h=>?_)
    ·refine yDr ?_
     have hoL:o≥L:=by omega
     rw[J4 hoL]at hr1
     have eo:(o:Int)-(L:Int)=((o-L:Nat):Int):=by omega
     refine yRn [0,1,6,7,8,9,10] fun K hK=>?_
     simp(disch:=omega) only[go_sem,eo]
     refine hK _ (aB ?_)
     obtain⟨w,hw⟩: ∃w,a+(o-L)=w:=⟨_,rfl⟩
     have ew:(a:Int)+((o-L:Nat):Int)=(w:Int):=by omega
     have hwn:w<n:=by omega
     rw[hw]at hr1
     have hsw:(d1.setIfInBounds i d1[w]!).setIfInBounds w d1[i]! =Sort.swp d1 i w:=rfl
     refine bB (Γ:=aL) (fun _=>2) [0,1,6,7,8,9] bZ (aD _ _) rfl rfl rfl (by kernel_rfl) (fun K hK=>?_)
     simp(disch:=omega) only[go_sem,ew,hsw,U2]
     refine hK _ (bU (aB ?_))
     refine yRn [0,1,6,7,8,9] fun K hK=>?_
     simp(disch:=omega) only[go_sem]
     refine hK _ (bT ?_)
     refine⟨⟨m,i+1,aDu r,Sort.swp d1 i w,_⟩,⟨hr1,by simp only[cW];exact hs1,by simp only;omega,by simp only;omega,by simp only;omega⟩,by simp only;omega,⟨fun _=> .inr (by simp only[Int.natCast_add,Int.natCast_one]),bS (by simp(disch:=omega) only[aV,bY,↓reduceIte,eq_self]) (bS (by simp(disch:=omega) only[aV,↓reduceIte,eq_self]) fKa),U3 _⟩⟩
    refine yDr ?_
    have hoL: ¬o≥L:=by omega
    rw[J3 hoL]at hr1
    refine ySk (aB ?_)
    obtain⟨w,hw⟩: ∃w,a+o=w:=⟨_,rfl⟩
    have ew:(a:Int)+(o:Int)=(w:Int):=by omega
    have hwn:w<n:=by omega
    rw[hw]at hr1
    have hsw:(d1.setIfInBounds i d1[w]!).setIfInBounds w d1[i]! =Sort.swp d1 i w:=rfl
    refine bB (Γ:=aL) (fun _=>2) [0,1,6,7,8,9] bZ (aD _ _) rfl rfl rfl (by kernel_rfl) (fun K hK=>?_)
    simp(disch:=omega) only[go_sem,ew,hsw,U2]
    refine hK _ (bU (aB ?_))
    refine yRn [0,1,6,7,8,9] fun K hK=>?_
    simp(disch:=omega) only[go_sem]
    refine hK _ (bT ?_)
    refine⟨⟨m,i+1,aDu r,Sort.swp d1 i w,_⟩,⟨hr1,by simp only[cW];exact hs1,by simp only;omega,by simp only;omega,by simp only;omega⟩,by simp only;omega,⟨fun _=> .inr (by simp only[Int.natCast_add,Int.natCast_one]),bS (by simp(disch:=omega) only[aV,bY,↓reduceIte,eq_self]) (bS (by simp(disch:=omega) only[aV,↓reduceIte,eq_self]) fKa),U3 _⟩⟩
   refine yDr (yEx 0 (aY (aZ (bE ?_))))
   obtain rfl:m=0:=by omega
   rw[bPm]at hr1
   simp only at hr1
   subst hr1
   exact⟨rfl,by simp(disch:=omega) only[aV,bY,if_true,if_false],rfl,dZ _⟩
  refine yDr ?_
  have hL8: ¬L≥8:=by omega
  refine ySk ?_
  have hR2:d=R:=by rw[←hR];unfold Sort.breakPatterns;simp only[hL,J3 hL8]
  subst hR2
  exact⟨rfl,by simp only[aV,if_true],rfl,dZ _⟩
 cases hg
theorem ok95:bX Tryz.prog GLh 116 (.heap (dP bPn)):=⟨⟨_,Tryz.func116,rfl,rfl⟩,cQz⟩
end Go.AX.D5

namespace Go.AX.D5
open Go Go.Proofs
structure SKC where
 k:Nat
 c:Nat
set_option maxHeartbeats 1000000 in
theorem cJg {id n a I J I2 nx0 cx0:Nat} {gg:Bool} {D:Array T16} {Q:Exit→S→Prop} (hI:Sort.scanUp (fun x=>ltN x D[a]!) D J I=I2) (hs:D.size=n) (hJ:J<n) (ha:a<n) (hbig:n≤1000000) (hid:id<cx0)
  (hQ: ∀n1 c1,id<c1→Q .normal {fr:=[(0,.os id 0 n 1 gg),(1,.i (a:Int)),(10,.i (I2:Int)),(11,.i (J:Int))],hp:=upd (fun _=>none) id (.cells (cA D) true),nx:=n1,cx:=c1}):
  Awp Tryz.prog GLh Tryz.f122.ntmps (cl (cr (cr (cr (aE Tryz.f122))))) {fr:=[(0,.os id 0 n 1 gg),(1,.i (a:Int)),(10,.i (I:Int)),(11,.i (J:Int))],hp:=upd (fun _=>none) id (.cells (cA D) true),nx:=nx0,cx:=cx0} Q:=by
  refine yBl 0 (bR (fun q:SKC=> {fr:=[(0,.os id 0 n 1 gg),(1,.i a),(10,.i q.k),(11,.i J)],hp:=upd (fun _=>none) id (.cells (cA D) true),nx:=0,cx:=q.c}) (fun q=>Sort.scanUp (fun x=>ltN x D[a]!) D J q.k=I2∧id<q.c) (fun q=>J+1-q.k) rfl ⟨⟨I,_⟩,⟨hI,hid⟩,bD rfl rfl (U3 _)⟩ ?_)
  rintro⟨i,c⟩ ⟨hr,hc⟩ n0
  simp only at hr hc⊢
  by_cases hij:i≤J
  ·have hd1:decide ((i:Int)≤(J:Int))=true:=J5 (by omega)
   have hin:i<n:=by omega
   obtain⟨v,hv⟩: ∃v,ltN D[i]! D[a]! =v:=⟨_,rfl⟩
   rw[Sort.scanUp,J5 hij,Bool.true_and]at hr
   simp only[hv]at hr
   refine ySq (ySq (bB (Γ:=bC [(120,.pure true dY)]) (fun k=>if k=12 then 0 else 2) [43,0,1,10,11] bZ (aH rC aO) rfl rfl rfl (by kernel_rfl) (fun K hK=>?_)))
   simp(disch:=omega) only[go_sem,hd1,hv,U2]
   refine hK _ (aB ?_)
   cases v
   ·simp only[Bool.false_eq_true,if_false]at hr
    subst hr
    exact iFd (yEx 0 (aY (aZ (bE (hQ _ _ (by omega))))))
   simp only[if_true]at hr
   refine iTd (ySk (aB (yBl 1 (yRn [0,1,10,11] fun K hK=>?_))))
   simp(disch:=omega) only[go_sem]
   refine hK _ (bU (bT ?_))
   refine⟨⟨i+1,_⟩,⟨hr,by simp only;omega⟩,by simp only;omega,bD (by simp only[Int.natCast_add,Int.natCast_one]) rfl (U3 _)⟩
  have hd1:decide ((i:Int)≤(J:Int))=false:=J6 (by omega)
  rw[Sort.scanUp,J6 hij,Bool.false_and]at hr
  simp only[Bool.false_eq_true,if_false]at hr
  subst hr
  refine ySq (ySq (bB (Γ:=bC [(120,.pure true dY)]) (fun k=>if k=12 then 0 else 2) [43,0,1,10,11] bZ (aH rC aO) rfl rfl rfl (by kernel_rfl) (fun K hK=>?_)))
  simp(disch:=omega) only[go_sem,hd1]
  refine hK _ (aB ?_)
  exact iFd (yEx 0 (aY (aZ (bE (hQ _ _ (by omega))))))
set_option maxHeartbeats 1000000 in
theorem cJi {id n a I J J2 nx0 cx0:Nat} {gg:Bool} {D:Array T16} {Q:Exit→S→Prop} (hJ2:Sort.scanDown (fun x=> !ltN x D[a]!) D I J=J2) (hs:D.size=n) (hJ:J<n) (hI1:0<I) (ha:a<n) (hbig:n≤1000000) (hid:id<cx0)
  (hQ: ∀n1 c1,id<c1→Q .normal {fr:=[(0,.os id 0 n 1 gg),(1,.i (a:Int)),(10,.i (I:Int)),(11,.i (J2:Int))],hp:=upd (fun _=>none) id (.cells (cA D) true),nx:=n1,cx:=c1}):
  Awp Tryz.prog GLh Tryz.f122.ntmps (cl (cr (cr (cr (cr (aE Tryz.f122)))))) {fr:=[(0,.os id 0 n 1 gg),(1,.i (a:Int)),(10,.i (I:Int)),(11,.i (J:Int))],hp:=upd (fun _=>none) id (.cells (cA D) true),nx:=nx0,cx:=cx0} Q:=by
  refine yBl 2 (bR (fun q:SKC=> {fr:=[(0,.os id 0 n 1 gg),(1,.i a),(10,.i I),(11,.i q.k)],hp:=upd (fun _=>none) id (.cells (cA D) true),nx:=0,cx:=q.c}) (fun q=>Sort.scanDown (fun x=> !ltN x D[a]!) D I q.k=J2∧q.k<n∧id<q.c) (fun q=>q.k) rfl ⟨⟨J,_⟩,⟨hJ2,hJ,hid⟩,bD rfl rfl (U3 _)⟩ ?_)
  rintro⟨j,c⟩ ⟨hr,hjn,hc⟩ n0
  simp only at hr hjn hc⊢
  by_cases hij:I≤j
  ·have hd1:decide ((I:Int)≤(j:Int))=true:=J5 (by omega)
   obtain⟨j,rfl⟩: ∃j',j=j'+1:=⟨j-1,by omega⟩
   have ej1:((j+1:Nat):Int)-1=(j:Int):=by omega
   obtain⟨v,hv⟩: ∃v,ltN D[j+1]! D[a]! =v:=⟨_,rfl⟩
   rw[Sort.scanDown,J5 hij,Bool.true_and]at hr
   simp only[hv]at hr
   refine ySq (ySq (bB (Γ:=bC [(120,.pure true dY)]) (fun k=>if k=12 then 0 else 2) [60,0,1,10,11] bZ (aH rC aO) rfl rfl rfl (by kernel_rfl) (fun K hK=>?_)))
   simp(disch:=omega) only[go_sem,hd1,hv,U2]
   refine hK _ (aB ?_)
   cases v
   ·simp only[Bool.not_false,if_true]at hr
    refine iTd (ySk (aB (yBl 3 (yRn [0,1,10,11] fun K hK=>?_))))
    simp(disch:=omega) only[go_sem,ej1]
    refine hK _ (bU (bT ?_))
    refine⟨⟨j,_⟩,⟨hr,by simp only;omega,by simp only;omega⟩,by simp only;omega,bD rfl rfl (U3 _)⟩
   simp only[Bool.not_true,Bool.false_eq_true,if_false]at hr
   subst hr
   exact iFd (yEx 2 (aY (aZ (bE (hQ _ _ (by omega))))))
  have hd1:decide ((I:Int)≤(j:Int))=false:=J6 (by omega)
  have hr2:j=J2:=by
   rw[←hr]
   cases j with
   |zero=>rfl
   |succ k=>rw[Sort.scanDown,J6 hij,Bool.false_and];rfl
  subst hr2
  refine ySq (ySq (bB (Γ:=bC [(120,.pure true dY)]) (fun k=>if k=12 then 0 else 2) [60,0,1,10,11] bZ (aH rC aO) rfl rfl rfl (by kernel_rfl) (fun K hK=>?_)))
  simp(disch:=omega) only[go_sem,hd1]
  refine hK _ (aB ?_)
  exact iFd (yEx 2 (aY (aZ (bE (hQ _ _ (by omega))))))
set_option maxHeartbeats 1000000 in
theorem cJf {id n a I J I2 nx0 cx0:Nat} {gg:Bool} {D:Array T16} {Q:Exit→S→Prop} (hI:Sort.scanUp (fun x=>ltN x D[a]!) D J I=I2) (hs:D.size=n) (hJ:J<n) (ha:a<n) (hbig:n≤1000000) (hid:id<cx0)
  (hQ: ∀n1 c1,id<c1→Q .normal {fr:=[(0,.os id 0 n 1 gg),(1,.i (a:Int)),(10,.i (I2:Int)),(11,.i (J:Int))],hp:=upd (fun _=>none) id (.cells (cA D) true),nx:=n1,cx:=c1}):
  Awp Tryz.prog GLh Tryz.f122.ntmps (cl (cl (cl (cl (cl (cr (cr (cr (cr (cr (cr (cr (cr (cr (aE Tryz.f122))))))))))))))) {fr:=[(0,.os id 0 n 1 gg),(1,.i (a:Int)),(10,.i (I:Int)),(11,.i (J:Int))],hp:=upd (fun _=>none) id (.cells (cA D) true),nx:=nx0,cx:=cx0} Q:=by
  refine yBl 6 (bR (fun q:SKC=> {fr:=[(0,.os id 0 n 1 gg),(1,.i a),(10,.i q.k),(11,.i J)],hp:=upd (fun _=>none) id (.cells (cA D) true),nx:=0,cx:=q.c}) (fun q=>Sort.scanUp (fun x=>ltN x D[a]!) D J q.k=I2∧id<q.c) (fun q=>J+1-q.k) rfl ⟨⟨I,_⟩,⟨hI,hid⟩,bD rfl rfl (U3 _)⟩ ?_)
  rintro⟨i,c⟩ ⟨hr,hc⟩ n0
  simp only at hr hc⊢
  by_cases hij:i≤J
  ·have hd1:decide ((i:Int)≤(J:Int))=true:=J5 (by omega)
   have hin:i<n:=by omega
   obtain⟨v,hv⟩: ∃v,ltN D[i]! D[a]! =v:=⟨_,rfl⟩
   rw[Sort.scanUp,J5 hij,Bool.true_and]at hr
   simp only[hv]at hr
   refine ySq (ySq (bB (Γ:=bC [(120,.pure true dY)]) (fun k=>if k=12 then 0 else 2) [112,0,1,10,11] bZ (aH rC aO) rfl rfl rfl (by kernel_rfl) (fun K hK=>?_)))
   simp(disch:=omega) only[go_sem,hd1,hv,U2]
   refine hK _ (aB ?_)
   cases v
   ·simp only[Bool.false_eq_true,if_false]at hr
    subst hr
    exact iFd (yEx 6 (aY (aZ (bE (hQ _ _ (by omega))))))
   simp only[if_true]at hr
   refine iTd (ySk (aB (yBl 7 (yRn [0,1,10,11] fun K hK=>?_))))
   simp(disch:=omega) only[go_sem]
   refine hK _ (bU (bT ?_))
   refine⟨⟨i+1,_⟩,⟨hr,by simp only;omega⟩,by simp only;omega,bD (by simp only[Int.natCast_add,Int.natCast_one]) rfl (U3 _)⟩
  have hd1:decide ((i:Int)≤(J:Int))=false:=J6 (by omega)
  rw[Sort.scanUp,J6 hij,Bool.false_and]at hr
  simp only[Bool.false_eq_true,if_false]at hr
  subst hr
  refine ySq (ySq (bB (Γ:=bC [(120,.pure true dY)]) (fun k=>if k=12 then 0 else 2) [112,0,1,10,11] bZ (aH rC aO) rfl rfl rfl (by kernel_rfl) (fun K hK=>?_)))
  simp(disch:=omega) only[go_sem,hd1]
  refine hK _ (aB ?_)
  exact iFd (yEx 6 (aY (aZ (bE (hQ _ _ (by omega))))))
set_option maxHeartbeats 1000000 in
theorem cJh {id n a I J J2 nx0 cx0:Nat} {gg:Bool} {D:Array T16} {Q:Exit→S→Prop} (hJ2:Sort.scanDown (fun x=> !ltN x D[a]!) D I J=J2) (hs:D.size=n) (hJ:J<n) (hI1:0<I) (ha:a<n) (hbig:n≤1000000) (hid:id<cx0)
  (hQ: ∀n1 c1,id<c1→Q .normal {fr:=[(0,.os id 0 n 1 gg),(1,.i (a:Int)),(10,.i (I:Int)),(11,.i (J2:Int))],hp:=upd (fun _=>none) id (.cells (cA D) true),nx:=n1,cx:=c1}):
  Awp Tryz.prog GLh Tryz.f122.ntmps (cl (cr (cl (cl (cl (cl (cr (cr (cr (cr (cr (cr (cr (cr (cr (aE Tryz.f122)))))))))))))))) {fr:=[(0,.os id 0 n 1 gg),(1,.i (a:Int)),(10,.i (I:Int)),(11,.i (J:Int))],hp:=upd (fun _=>none) id (.cells (cA D) true),nx:=nx0,cx:=cx0} Q:=by
  refine yBl 8 (bR (fun q:SKC=> {fr:=[(0,.os id 0 n 1 gg),(1,.i a),(10,.i I),(11,.i q.k)],hp:=upd (fun _=>none) id (.cells (cA D) true),nx:=0,cx:=q.c}) (fun q=>Sort.scanDown (fun x=> !ltN x D[a]!) D I q.k=J2∧q.k<n∧id<q.c) (fun q=>q.k) rfl ⟨⟨J,_⟩,⟨hJ2,hJ,hid⟩,bD rfl rfl (U3 _)⟩ ?_)
  rintro⟨j,c⟩ ⟨hr,hjn,hc⟩ n0
  simp only at hr hjn hc⊢
  by_cases hij:I≤j
  ·have hd1:decide ((I:Int)≤(j:Int))=true:=J5 (by omega)
   obtain⟨j,rfl⟩: ∃j',j=j'+1:=⟨j-1,by omega⟩
   have ej1:((j+1:Nat):Int)-1=(j:Int):=by omega
   obtain⟨v,hv⟩: ∃v,ltN D[j+1]! D[a]! =v:=⟨_,rfl⟩
   rw[Sort.scanDown,J5 hij,Bool.true_and]at hr
   simp only[hv]at hr
   refine ySq (ySq (bB (Γ:=bC [(120,.pure true dY)]) (fun k=>if k=12 then 0 else 2) [129,0,1,10,11] bZ (aH rC aO) rfl rfl rfl (by kernel_rfl) (fun K hK=>?_)))
   simp(disch:=omega) only[go_sem,hd1,hv,U2]
   refine hK _ (aB ?_)
   cases v
   ·simp only[Bool.not_false,if_true]at hr
    refine iTd (ySk (aB (yBl 9 (yRn [0,1,10,11] fun K hK=>?_))))
    simp(disch:=omega) only[go_sem,ej1]
    refine hK _ (bU (bT ?_))
    refine⟨⟨j,_⟩,⟨hr,by simp only;omega,by simp only;omega⟩,by simp only;omega,bD rfl rfl (U3 _)⟩
   simp only[Bool.not_true,Bool.false_eq_true,if_false]at hr
   subst hr
   exact iFd (yEx 8 (aY (aZ (bE (hQ _ _ (by omega))))))
  have hd1:decide ((I:Int)≤(j:Int))=false:=J6 (by omega)
  have hr2:j=J2:=by
   rw[←hr]
   cases j with
   |zero=>rfl
   |succ k=>rw[Sort.scanDown,J6 hij,Bool.false_and];rfl
  subst hr2
  refine ySq (ySq (bB (Γ:=bC [(120,.pure true dY)]) (fun k=>if k=12 then 0 else 2) [129,0,1,10,11] bZ (aH rC aO) rfl rfl rfl (by kernel_rfl) (fun K hK=>?_)))
  simp(disch:=omega) only[go_sem,hd1]
  refine hK _ (aB ?_)
  exact iFd (yEx 8 (aY (aZ (bE (hQ _ _ (by omega))))))
set_option maxHeartbeats 1000000 in
theorem cVf {id n a I J I2 nx0 cx0:Nat} {gg:Bool} {D:Array T16} {Q:Exit→S→Prop} (hI:Sort.scanUp (fun x=> !ltN D[a]! x) D J I=I2) (hs:D.size=n) (hJ:J<n) (ha:a<n) (hbig:n≤1000000) (hid:id<cx0)
  (hQ: ∀n1 c1,id<c1→Q .normal {fr:=[(0,.os id 0 n 1 gg),(1,.i (a:Int)),(9,.i (I2:Int)),(10,.i (J:Int))],hp:=upd (fun _=>none) id (.cells (cA D) true),nx:=n1,cx:=c1}):
  Awp Tryz.prog GLh Tryz.f121.ntmps (cl (cl (cl (cl (cl (cr (cr (cr (aE Tryz.f121))))))))) {fr:=[(0,.os id 0 n 1 gg),(1,.i (a:Int)),(9,.i (I:Int)),(10,.i (J:Int))],hp:=upd (fun _=>none) id (.cells (cA D) true),nx:=nx0,cx:=cx0} Q:=by
  refine yBl 2 (bR (fun q:SKC=> {fr:=[(0,.os id 0 n 1 gg),(1,.i a),(9,.i q.k),(10,.i J)],hp:=upd (fun _=>none) id (.cells (cA D) true),nx:=0,cx:=q.c}) (fun q=>Sort.scanUp (fun x=> !ltN D[a]! x) D J q.k=I2∧id<q.c) (fun q=>J+1-q.k) rfl ⟨⟨I,_⟩,⟨hI,hid⟩,bD rfl rfl (U3 _)⟩ ?_)
  rintro⟨i,c⟩ ⟨hr,hc⟩ n0
  simp only at hr hc⊢
  by_cases hij:i≤J
  ·have hd1:decide ((i:Int)≤(J:Int))=true:=J5 (by omega)
   have hin:i<n:=by omega
   obtain⟨v,hv⟩: ∃v,ltN D[a]! D[i]! =v:=⟨_,rfl⟩
   rw[Sort.scanUp,J5 hij,Bool.true_and]at hr
   simp only[hv]at hr
   refine ySq (ySq (bB (Γ:=bC [(120,.pure true dY)]) (fun k=>if k=12 then 0 else 2) [43,0,1,9,10] bZ (aH rC aO) rfl rfl rfl (by kernel_rfl) (fun K hK=>?_)))
   simp(disch:=omega) only[go_sem,hd1,hv,U2]
   refine hK _ (aB ?_)
   cases v
   ·simp only[Bool.not_false,if_true]at hr
    refine iTd (ySk (aB (yBl 3 (yRn [0,1,9,10] fun K hK=>?_))))
    simp(disch:=omega) only[go_sem]
    refine hK _ (bU (bT ?_))
    refine⟨⟨i+1,_⟩,⟨hr,by simp only;omega⟩,by simp only;omega,bD (by simp only[Int.natCast_add,Int.natCast_one]) rfl (U3 _)⟩
   simp only[Bool.not_true,Bool.false_eq_true,if_false]at hr
   subst hr
   exact iFd (yEx 2 (aY (aZ (bE (hQ _ _ (by omega))))))
  have hd1:decide ((i:Int)≤(J:Int))=false:=J6 (by omega)
  rw[Sort.scanUp,J6 hij,Bool.false_and]at hr
  simp only[Bool.false_eq_true,if_false]at hr
  subst hr
  refine ySq (ySq (bB (Γ:=bC [(120,.pure true dY)]) (fun k=>if k=12 then 0 else 2) [43,0,1,9,10] bZ (aH rC aO) rfl rfl rfl (by kernel_rfl) (fun K hK=>?_)))
  simp(disch:=omega) only[go_sem,hd1]
  refine hK _ (aB ?_)
  exact iFd (yEx 2 (aY (aZ (bE (hQ _ _ (by omega))))))
set_option maxHeartbeats 1000000 in
theorem cVh {id n a I J J2 nx0 cx0:Nat} {gg:Bool} {D:Array T16} {Q:Exit→S→Prop} (hJ2:Sort.scanDown (fun x=>ltN D[a]! x) D I J=J2) (hs:D.size=n) (hJ:J<n) (hI1:0<I) (ha:a<n) (hbig:n≤1000000) (hid:id<cx0)
  (hQ: ∀n1 c1,id<c1→Q .normal {fr:=[(0,.os id 0 n 1 gg),(1,.i (a:Int)),(9,.i (I:Int)),(10,.i (J2:Int))],hp:=upd (fun _=>none) id (.cells (cA D) true),nx:=n1,cx:=c1}):
  Awp Tryz.prog GLh Tryz.f121.ntmps (cl (cr (cl (cl (cl (cl (cr (cr (cr (aE Tryz.f121)))))))))) {fr:=[(0,.os id 0 n 1 gg),(1,.i (a:Int)),(9,.i (I:Int)),(10,.i (J:Int))],hp:=upd (fun _=>none) id (.cells (cA D) true),nx:=nx0,cx:=cx0} Q:=by
  refine yBl 4 (bR (fun q:SKC=> {fr:=[(0,.os id 0 n 1 gg),(1,.i a),(9,.i I),(10,.i q.k)],hp:=upd (fun _=>none) id (.cells (cA D) true),nx:=0,cx:=q.c}) (fun q=>Sort.scanDown (fun x=>ltN D[a]! x) D I q.k=J2∧q.k<n∧id<q.c) (fun q=>q.k) rfl ⟨⟨J,_⟩,⟨hJ2,hJ,hid⟩,bD rfl rfl (U3 _)⟩ ?_)
  rintro⟨j,c⟩ ⟨hr,hjn,hc⟩ n0
  simp only at hr hjn hc⊢
  by_cases hij:I≤j
  ·have hd1:decide ((I:Int)≤(j:Int))=true:=J5 (by omega)
   obtain⟨j,rfl⟩: ∃j',j=j'+1:=⟨j-1,by omega⟩
   have ej1:((j+1:Nat):Int)-1=(j:Int):=by omega
   obtain⟨v,hv⟩: ∃v,ltN D[a]! D[j+1]! =v:=⟨_,rfl⟩
   rw[Sort.scanDown,J5 hij,Bool.true_and]at hr
   simp only[hv]at hr
   refine ySq (ySq (bB (Γ:=bC [(120,.pure true dY)]) (fun k=>if k=12 then 0 else 2) [59,0,1,9,10] bZ (aH rC aO) rfl rfl rfl (by kernel_rfl) (fun K hK=>?_)))
   simp(disch:=omega) only[go_sem,hd1,hv,U2]
   refine hK _ (aB ?_)
   cases v
   ·simp only[Bool.false_eq_true,if_false]at hr
    subst hr
    exact iFd (yEx 4 (aY (aZ (bE (hQ _ _ (by omega))))))
   simp only[if_true]at hr
   refine iTd (ySk (aB (yBl 5 (yRn [0,1,9,10] fun K hK=>?_))))
   simp(disch:=omega) only[go_sem,ej1]
   refine hK _ (bU (bT ?_))
   refine⟨⟨j,_⟩,⟨hr,by simp only;omega,by simp only;omega⟩,by simp only;omega,bD rfl rfl (U3 _)⟩
  have hd1:decide ((I:Int)≤(j:Int))=false:=J6 (by omega)
  have hr2:j=J2:=by
   rw[←hr]
   cases j with
   |zero=>rfl
   |succ k=>rw[Sort.scanDown,J6 hij,Bool.false_and];rfl
  subst hr2
  refine ySq (ySq (bB (Γ:=bC [(120,.pure true dY)]) (fun k=>if k=12 then 0 else 2) [59,0,1,9,10] bZ (aH rC aO) rfl rfl rfl (by kernel_rfl) (fun K hK=>?_)))
  simp(disch:=omega) only[go_sem,hd1]
  refine hK _ (aB ?_)
  exact iFd (yEx 4 (aY (aZ (bE (hQ _ _ (by omega))))))
def ptG:List AV→List AV→Option (AV×List AV)
 |[.os _ 0 n 1 _,.i a,.i b,.i p],xs=>aK (unA xs) fun l=>aN (l.length=n∧0≤a∧a<b∧b≤n∧0≤p∧p<n∧n≤1000000) (some (.tup [.i (Sort.partition ltN l.toArray a.toNat b.toNat p.toNat).1,.b (Sort.partition ltN l.toArray a.toNat b.toNat p.toNat).2.1],cA (Sort.partition ltN l.toArray a.toNat b.toNat p.toNat).2.2))
 |_,_=>none
theorem cJj (id n:Nat) (gg:Bool) (a b p:Int) (xs:List AV):ptG [.os id 0 n 1 gg,.i a,.i b,.i p] xs=aK (unA xs) fun l=>aN (l.length=n∧0≤a∧a<b∧b≤n∧0≤p∧p<n∧n≤1000000) (some (.tup [.i (Sort.partition ltN l.toArray a.toNat b.toNat p.toNat).1,.b (Sort.partition ltN l.toArray a.toNat b.toNat p.toNat).2.1],cA (Sort.partition ltN l.toArray a.toNat b.toNat p.toNat).2.2)):=(rfl)
attribute [go_sem] cJj
set_option maxHeartbeats 2000000 in
theorem cUz:fHs Tryz.prog GLh 122 (dP ptG):=by
 refine eS Tryz.func122 (aT rfl) ?_
 intro id off n e gg rest nx xs r ys hg
 unfold ptG at hg
 split at hg
 ·rename_i id2 n2 gg2 a0 b0 p0 heq
  simp only[List.cons.injEq,AV.os.injEq]at heq
  obtain⟨⟨rfl,rfl,rfl,rfl,rfl⟩,rfl⟩:=heq
  replace hg:=aJ hg;obtain⟨l,hl,hg⟩:=hg
  replace hg:=aP hg;obtain⟨⟨hn,ha,hab,hbn,hp0,hpn,hbig⟩,hg⟩:=hg
  simp only[Option.some.injEq,Prod.mk.injEq]at hg;obtain⟨rfl,rfl⟩:=hg
  have:=dO hl;subst this
  obtain⟨a,rfl⟩:=Int.eq_ofNat_of_zero_le ha
  obtain⟨b,rfl⟩:=Int.eq_ofNat_of_zero_le (show 0≤b0 by omega)
  obtain⟨p,rfl⟩:=Int.eq_ofNat_of_zero_le hp0
  simp only[U2]at*
  obtain⟨d,hd⟩: ∃d,l.toArray=d:=⟨_,rfl⟩
  have hds:d.size=n:=by rw[←hd];simpa using hn
  have hab2:a<b:=by omega
  have hbn2:b≤n:=by omega
  have hpn2:p<n:=by omega
  rw[hd]
  refine⟨J1 rfl,fun hid=>?_⟩
  clear hl hn ha hab hbn hp0 hpn
  obtain⟨R,hR⟩: ∃R,Sort.partition ltN d a b p=R:=⟨_,rfl⟩
  rw[hR]
  unfold Sort.partition at hR
  obtain⟨D,hD⟩: ∃D,Sort.swp d a p=D:=⟨_,rfl⟩
  have hDs:D.size=n:=by rw[←hD,cW];exact hds
  have hsw:(d.setIfInBounds a d[p]!).setIfInBounds p d[a]! =D:=hD
  have ea:(a:Int)+1=((a+1:Nat):Int):=by omega
  have eb:(b:Int)-1=((b-1:Nat):Int):=by omega
  obtain⟨i2,hi2⟩: ∃i2,Sort.scanUp (fun x=>ltN x D[a]!) D (b-1) (a+1)=i2:=⟨_,rfl⟩
  have gi2:=Sort.scanUp_ge (fun x=>ltN x D[a]!) D (b-1) (a+1)
  rw[hi2]at gi2
  obtain⟨j2,hj2⟩: ∃j2,Sort.scanDown (fun x=> !ltN x D[a]!) D i2 (b-1)=j2:=⟨_,rfl⟩
  have gj2:=Sort.scanDown_le (fun x=> !ltN x D[a]!) D i2 (b-1)
  rw[hj2]at gj2
  simp only[hD,hi2,hj2]at hR
  have han:a<n:=by omega
  have hj2n:j2<n:=by omega
  refine ySq (yRn [0,1,2,3] fun K hK=>?_)
  simp(disch:=omega) only[go_sem]
  refine hK _ (aB ?_)
  refine ySq (bB (Γ:=aL) (fun _=>2) [0,1,2] bZ (aD _ _) rfl rfl rfl (by kernel_rfl) (fun K hK=>?_))
  simp(disch:=omega) only[go_sem,hsw,hds,U2]
  refine hK _ (aB ?_)
  refine ySq (yRn [0,1,10,11] fun K hK=>?_)
  simp(disch:=omega) only[go_sem,ea,eb]
  refine hK _ (aB ?_)
  refine ySq (cJg hi2 hDs (by omega) han hbig (by omega) (fun n1 c1 hc1=>?_))
  refine aB (ySq (cJi hj2 hDs (by omega) (by omega) han hbig hc1 (fun n2 c2 hc2=>?_)))
  refine aB (ySq (ySq (yRn [65,0,1,10,11] fun K hK=>?_)))
  simp(disch:=omega) only[go_sem]
  refine hK _ (aB ?_)
  refine gLb rfl (fun h=>?_) (fun h=>?_)
  ·refine yDr ?_
   have hij:i2>j2:=by omega
   rw[J4 hij]at hR
   subst hR
   have hsw2:(D.setIfInBounds j2 D[a]!).setIfInBounds a D[j2]! =Sort.swp D j2 a:=rfl
   refine ySq (bB (Γ:=aL) (fun _=>2) [11] bZ (aD _ _) rfl rfl rfl (by kernel_rfl) (fun K hK=>?_))
   simp(disch:=omega) only[go_sem,hsw2,hDs,U2]
   refine hK _ (aB ?_)
   refine ySq (yRn [8,9] fun K hK=>?_)
   simp(disch:=omega) only[go_sem]
   refine hK _ (aB ?_)
   exact aS rfl (bI (⟨rfl,by simp only[aV,if_true],rfl,dZ _⟩))
  refine yDr ?_
  have hij: ¬i2>j2:=by omega
  rw[J3 hij]at hR
  have hi2n:i2<n:=by omega
  have hsw2:(D.setIfInBounds i2 D[j2]!).setIfInBounds j2 D[i2]! =Sort.swp D i2 j2:=rfl
  have ei:(i2:Int)+1=((i2+1:Nat):Int):=by omega
  have ej:(j2:Int)-1=((j2-1:Nat):Int):=by omega
  obtain⟨⟨M,E⟩,hME⟩: ∃r,Sort.partLoop ltN a (i2+1) (j2-1) (Sort.swp D i2 j2)=r:=⟨_,rfl⟩
  simp only[hME]at hR
  subst hR
  refine ySk (aB (ySq (bB (Γ:=aL) (fun _=>2) [0,1,10,11] bZ (aD _ _) rfl rfl rfl (by kernel_rfl) (fun K hK=>?_))))
  simp(disch:=omega) only[go_sem,hsw2,hDs,U2]
  refine hK _ (aB ?_)
  refine ySq (yRn [0,1,10,11] fun K hK=>?_)
  simp(disch:=omega) only[go_sem,ei]
  refine hK _ (aB ?_)
  refine ySq (yRn [0,1,10,11] fun K hK=>?_)
  simp(disch:=omega) only[go_sem,ej]
  refine hK _ (aB ?_)
  refine ySq (yBl 4 ?_)
  refine bR (fun p:SDJ=> {fr:=[(0,.os id 0 n 1 gg),(1,.i a),(10,.i p.k),(11,.i p.j)],hp:=upd (fun _=>none) id (.cells (cA p.d) true),nx:=0,cx:=p.c}) (fun p=>Sort.partLoop ltN a p.k p.j p.d=(M,E)∧p.d.size=n∧a<p.k∧p.j<n∧id<p.c) (fun p=>p.j+1-p.k) rfl ⟨⟨i2+1,j2-1,Sort.swp D i2 j2,_⟩,⟨hME,by simp only[cW];exact hDs,by simp only;omega,by simp only;omega,by simp only;omega⟩,bD rfl rfl (U3 _)⟩ ?_
  rintro⟨i,j,d1,c⟩ ⟨hr,hs1,hai,hjn,hc⟩ n0
  simp only at hr hs1 hai hjn hc⊢
  clear hsw hsw2 ei ej
  obtain⟨i3,hi3⟩: ∃i3,Sort.scanUp (fun x=>ltN x d1[a]!) d1 j i=i3:=⟨_,rfl⟩
  have gi3:=Sort.scanUp_ge (fun x=>ltN x d1[a]!) d1 j i
  rw[hi3]at gi3
  obtain⟨j3,hj3⟩: ∃j3,Sort.scanDown (fun x=> !ltN x d1[a]!) d1 i3 j=j3:=⟨_,rfl⟩
  have gj3:=Sort.scanDown_le (fun x=> !ltN x d1[a]!) d1 i3 j
  rw[hj3]at gj3
  rw[Sort.partLoop_eq,hi3,hj3]at hr
  have hj3n:j3<n:=by omega
  refine yBl 5 (ySq (cJf hi3 hs1 hjn han hbig hc (fun n3 c3 hc3=>?_)))
  refine aB (ySq (cJh hj3 hs1 hjn (by omega) han hbig hc3 (fun n4 c4 hc4=>?_)))
  refine aB (ySq (ySq (yRn [134,0,1,10,11] fun K hK=>?_)))
  simp(disch:=omega) only[go_sem]
  refine hK _ (aB ?_)
  refine gLb rfl (fun h=>?_) (fun h=>?_)
  ·refine yDr ?_
   have hij3:i3>j3:=by omega
   rw[J4 hij3]at hr
   simp only[Prod.mk.injEq]at hr
   obtain⟨rfl,rfl⟩:=hr
   have hsw3:(d1.setIfInBounds j3 d1[a]!).setIfInBounds a d1[j3]! =Sort.swp d1 j3 a:=rfl
   refine yEx 4 (aY (mW (aZ (bE ?_)) rfl))
   refine aB (ySq (bB (Γ:=aL) (fun _=>2) [11] bZ (aD _ _) rfl rfl rfl (by kernel_rfl) (fun K hK=>?_)))
   simp(disch:=omega) only[go_sem,hsw3,hs1,U2]
   refine hK _ (aB ?_)
   refine ySq (yRn [8,9] fun K hK=>?_)
   simp(disch:=omega) only[go_sem]
   refine hK _ (aB ?_)
   exact aS rfl (⟨rfl,by simp only[aV,if_true],rfl,dZ _⟩)
  refine yDr ?_
  have hij3: ¬i3>j3:=by omega
  rw[J3 hij3]at hr
  have hi3n:i3<n:=by omega
  have hsw3:(d1.setIfInBounds i3 d1[j3]!).setIfInBounds j3 d1[i3]! =Sort.swp d1 i3 j3:=rfl
  have ej3:(j3:Int)-1=((j3-1:Nat):Int):=by omega
  refine ySk (aB (ySq (bB (Γ:=aL) (fun _=>2) [0,1,10,11] bZ (aD _ _) rfl rfl rfl (by kernel_rfl) (fun K hK=>?_))))
  simp(disch:=omega) only[go_sem,hsw3,hs1,U2]
  refine hK _ (aB ?_)
  refine ySq (yRn [0,1,10,11] fun K hK=>?_)
  simp(disch:=omega) only[go_sem]
  refine hK _ (aB ?_)
  refine yRn [0,1,10,11] fun K hK=>?_
  simp(disch:=omega) only[go_sem,ej3]
  refine hK _ (bU (bT ?_))
  refine⟨⟨i3+1,j3-1,Sort.swp d1 i3 j3,_⟩,⟨hr,by simp only[cW];exact hs1,by simp only;omega,by simp only;omega,by simp only;omega⟩,by simp only;omega,⟨fun _=> .inr (by simp only[Int.natCast_add,Int.natCast_one]),bS (by simp(disch:=omega) only[aV,↓reduceIte,eq_self]) fKa,U3 _⟩⟩
 cases hg
theorem fFv:bX Tryz.prog GLh 122 (.heap (dP ptG)):=⟨⟨_,Tryz.func122,rfl,rfl⟩,cUz⟩
def peG:List AV→List AV→Option (AV×List AV)
 |[.os _ 0 n 1 _,.i a,.i b,.i p],xs=>aK (unA xs) fun l=>aN (l.length=n∧0≤a∧a<b∧b≤n∧0≤p∧p<n∧n≤1000000) (some (.i (Sort.partitionEqual ltN l.toArray a.toNat b.toNat p.toNat).1,cA (Sort.partitionEqual ltN l.toArray a.toNat b.toNat p.toNat).2))
 |_,_=>none
theorem cJn (id n:Nat) (gg:Bool) (a b p:Int) (xs:List AV):peG [.os id 0 n 1 gg,.i a,.i b,.i p] xs=aK (unA xs) fun l=>aN (l.length=n∧0≤a∧a<b∧b≤n∧0≤p∧p<n∧n≤1000000) (some (.i (Sort.partitionEqual ltN l.toArray a.toNat b.toNat p.toNat).1,cA (Sort.partitionEqual ltN l.toArray a.toNat b.toNat p.toNat).2)):=(rfl)
attribute [go_sem] cJn
set_option maxHeartbeats 2000000 in
theorem cVg:fHs Tryz.prog GLh 121 (dP peG):=by
 refine eS Tryz.func121 (aT rfl) ?_
 intro id off n e gg rest nx xs r ys hg
 unfold peG at hg
 split at hg
 ·rename_i id2 n2 gg2 a0 b0 p0 heq
  simp only[List.cons.injEq,AV.os.injEq]at heq
  obtain⟨⟨rfl,rfl,rfl,rfl,rfl⟩,rfl⟩:=heq
  replace hg:=aJ hg;obtain⟨l,hl,hg⟩:=hg
  replace hg:=aP hg;obtain⟨⟨hn,ha,hab,hbn,hp0,hpn,hbig⟩,hg⟩:=hg
  simp only[Option.some.injEq,Prod.mk.injEq]at hg;obtain⟨rfl,rfl⟩:=hg
  have:=dO hl;subst this
  obtain⟨a,rfl⟩:=Int.eq_ofNat_of_zero_le ha
  obtain⟨b,rfl⟩:=Int.eq_ofNat_of_zero_le (show 0≤b0 by omega)
  obtain⟨p,rfl⟩:=Int.eq_ofNat_of_zero_le hp0
  simp only[U2]at*
  obtain⟨d,hd⟩: ∃d,l.toArray=d:=⟨_,rfl⟩
  have hds:d.size=n:=by rw[←hd];simpa using hn
  have hab2:a<b:=by omega
  have hbn2:b≤n:=by omega
  have hpn2:p<n:=by omega
  rw[hd]
  refine⟨J1 rfl,fun hid=>?_⟩
  clear hl hn ha hab hbn hp0 hpn
  obtain⟨⟨M,E⟩,hR⟩: ∃R,Sort.partitionEqual ltN d a b p=R:=⟨_,rfl⟩
  rw[hR]
  obtain⟨D,hD⟩: ∃D,Sort.swp d a p=D:=⟨_,rfl⟩
  have hDs:D.size=n:=by rw[←hD,cW];exact hds
  have hsw:(d.setIfInBounds a d[p]!).setIfInBounds p d[a]! =D:=hD
  have ea:(a:Int)+1=((a+1:Nat):Int):=by omega
  have eb:(b:Int)-1=((b-1:Nat):Int):=by omega
  have hME:Sort.partEqLoop ltN a (a+1) (b-1) D=(M,E):=by rw[←hD];exact hR
  have han:a<n:=by omega
  clear hR
  refine ySq (yRn [0,1,2,3] fun K hK=>?_)
  simp(disch:=omega) only[go_sem]
  refine hK _ (aB ?_)
  refine ySq (bB (Γ:=aL) (fun _=>2) [0,1,2] bZ (aD _ _) rfl rfl rfl (by kernel_rfl) (fun K hK=>?_))
  simp(disch:=omega) only[go_sem,hsw,hds,U2]
  refine hK _ (aB ?_)
  refine ySq (yRn [0,1,9,10] fun K hK=>?_)
  simp(disch:=omega) only[go_sem,ea,eb]
  refine hK _ (aB ?_)
  refine ySq (yBl 0 ?_)
  refine bR (fun p:SDJ=> {fr:=[(0,.os id 0 n 1 gg),(1,.i a),(9,.i p.k),(10,.i p.j)],hp:=upd (fun _=>none) id (.cells (cA p.d) true),nx:=0,cx:=p.c}) (fun p=>Sort.partEqLoop ltN a p.k p.j p.d=(M,E)∧p.d.size=n∧a<p.k∧p.j<n∧id<p.c) (fun p=>p.j+1-p.k) rfl ⟨⟨a+1,b-1,D,_⟩,⟨hME,hDs,by simp only;omega,by simp only;omega,by simp only;omega⟩,bD rfl rfl (U3 _)⟩ ?_
  rintro⟨i,j,d1,c⟩ ⟨hr,hs1,hai,hjn,hc⟩ n0
  simp only at hr hs1 hai hjn hc⊢
  clear hsw ea eb
  obtain⟨i3,hi3⟩: ∃i3,Sort.scanUp (fun x=> !ltN d1[a]! x) d1 j i=i3:=⟨_,rfl⟩
  have gi3:=Sort.scanUp_ge (fun x=> !ltN d1[a]! x) d1 j i
  rw[hi3]at gi3
  obtain⟨j3,hj3⟩: ∃j3,Sort.scanDown (fun x=>ltN d1[a]! x) d1 i3 j=j3:=⟨_,rfl⟩
  have gj3:=Sort.scanDown_le (fun x=>ltN d1[a]! x) d1 i3 j
  rw[hj3]at gj3
  rw[Sort.partEqLoop_eq,hi3,hj3]at hr
  have hj3n:j3<n:=by omega
  refine yBl 1 (ySq (cVf hi3 hs1 hjn han hbig hc (fun n3 c3 hc3=>?_)))
  refine aB (ySq (cVh hj3 hs1 hjn (by omega) han hbig hc3 (fun n4 c4 hc4=>?_)))
  refine aB (ySq (ySq (yRn [64,0,1,9,10] fun K hK=>?_)))
  simp(disch:=omega) only[go_sem]
  refine hK _ (aB ?_)
  refine gLb rfl (fun h=>?_) (fun h=>?_)
  ·refine yDr ?_
   have hij3:i3>j3:=by omega
   rw[J4 hij3]at hr
   simp only[Prod.mk.injEq]at hr
   obtain⟨rfl,rfl⟩:=hr
   refine yEx 0 (aY (mW (aZ (bE ?_)) rfl))
   refine aB (ySq (yRn [8] fun K hK=>?_))
   simp(disch:=omega) only[go_sem]
   refine hK _ (aB ?_)
   exact aS rfl (⟨rfl,by simp only[aV,if_true],rfl,dZ _⟩)
  refine yDr ?_
  have hij3: ¬i3>j3:=by omega
  rw[J3 hij3]at hr
  have hi3n:i3<n:=by omega
  have hsw3:(d1.setIfInBounds i3 d1[j3]!).setIfInBounds j3 d1[i3]! =Sort.swp d1 i3 j3:=rfl
  have ej3:(j3:Int)-1=((j3-1:Nat):Int):=by omega
  refine ySk (aB (ySq (bB (Γ:=aL) (fun _=>2) [0,1,9,10] bZ (aD _ _) rfl rfl rfl (by kernel_rfl) (fun K hK=>?_))))
  simp(disch:=omega) only[go_sem,hsw3,hs1,U2]
  refine hK _ (aB ?_)
  refine ySq (yRn [0,1,9,10] fun K hK=>?_)
  simp(disch:=omega) only[go_sem]
  refine hK _ (aB ?_)
  refine yRn [0,1,9,10] fun K hK=>?_
  simp(disch:=omega) only[go_sem,ej3]
  refine hK _ (bU (bT ?_))
  refine⟨⟨i3+1,j3-1,Sort.swp d1 i3 j3,_⟩,⟨hr,by simp only[cW];exact hs1,by simp only;omega,by simp only;omega,by simp only;omega⟩,by simp only;omega,⟨fun _=> .inr (by simp only[Int.natCast_add,Int.natCast_one]),bS (by simp(disch:=omega) only[aV,↓reduceIte,eq_self]) fKa,U3 _⟩⟩
 cases hg
theorem fFw:bX Tryz.prog GLh 121 (.heap (dP peG)):=⟨⟨_,Tryz.func121,rfl,rfl⟩,cVg⟩
end Go.AX.D5

namespace Go.AX.D5
open Go Go.Proofs
theorem aVe: ∀(j:Nat) (d:Array T16),(Sort.shiftDown ltN j d).size=d.size
 |0,d=>rfl
 |j+1,d=>by
  rw[Sort.shiftDown]
  split
  ·rfl
  rw[aVe j,cW]
theorem aUu (b:Nat): ∀(m j:Nat) (d:Array T16),b-j≤m→(Sort.shiftUp ltN b j d).size=d.size:=by
 intro m
 induction m with
 |zero=>intro j d h;rw[Sort.shiftUp,J3 (by omega)]
 |succ m ih=>
  intro j d h
  rw[Sort.shiftUp]
  split
  ·split
   ·rfl
   rw[ih _ _ (by omega),cW]
  rfl
theorem cTm (b:Nat) (d:Array T16): ∀(m i:Nat),b-i≤m→i≤b→i≤Sort.scanSorted ltN d b i∧Sort.scanSorted ltN d b i≤b:=by
 intro m
 induction m with
 |zero=>intro i h hi;rw[Sort.scanSorted,J6 (by omega: ¬i<b),Bool.false_and];simp only[Bool.false_eq_true,if_false];omega
 |succ m ih=>
  intro i h hi
  rw[Sort.scanSorted]
  by_cases hib:i<b
  ·split
   ·have:=ih (i+1) (by omega) (by omega);omega
   omega
  rw[J6 hib,Bool.false_and];simp only[Bool.false_eq_true,if_false];omega
set_option maxHeartbeats 1000000 in
theorem cVd {id n a b I I2 nx0 cx0:Nat} {s:Int} {gg:Bool} {D:Array T16} {Q:Exit→S→Prop} (hI:Sort.scanSorted ltN D b I=I2) (hs:D.size=n) (hI1:0<I) (hb:b≤n) (hbig:n≤1000000) (hid:id<cx0)
  (hQ: ∀n1 c1,id<c1→Q .normal {fr:=[(0,.os id 0 n 1 gg),(1,.i (a:Int)),(2,.i (b:Int)),(7,.i (I2:Int)),(8,.i s)],hp:=upd (fun _=>none) id (.cells (cA D) true),nx:=n1,cx:=c1}):
  Awp Tryz.prog GLh Tryz.f119.ntmps (cl (cl (cl (cr (cl (cl (cr (cl (cr (cr (aE Tryz.f119))))))))))) {fr:=[(0,.os id 0 n 1 gg),(1,.i (a:Int)),(2,.i (b:Int)),(7,.i (I:Int)),(8,.i s)],hp:=upd (fun _=>none) id (.cells (cA D) true),nx:=nx0,cx:=cx0} Q:=by
  refine yBl 2 (bR (fun q:SKC=> {fr:=[(0,.os id 0 n 1 gg),(1,.i a),(2,.i b),(7,.i q.k),(8,.i s)],hp:=upd (fun _=>none) id (.cells (cA D) true),nx:=0,cx:=q.c}) (fun q=>Sort.scanSorted ltN D b q.k=I2∧0<q.k∧id<q.c) (fun q=>b-q.k) rfl ⟨⟨I,_⟩,⟨hI,hI1,hid⟩,bD rfl rfl (U3 _)⟩ ?_)
  rintro⟨i,c⟩ ⟨hr,hi,hc⟩ n0
  simp only at hr hi hc⊢
  by_cases hij:i<b
  ·have hd1:decide ((i:Int)<(b:Int))=true:=J5 (by omega)
   have hin:i<n:=by omega
   have ei:(i:Int)-1=((i-1:Nat):Int):=by omega
   obtain⟨v,hv⟩: ∃v,ltN D[i]! D[i-1]! =v:=⟨_,rfl⟩
   rw[Sort.scanSorted,J5 hij,Bool.true_and,hv]at hr
   refine ySq (ySq (bB (Γ:=bC [(120,.pure true dY)]) (fun k=>if k=13 then 0 else 2) [32,0,1,2,7,8] bZ (aH rC aO) rfl rfl rfl (by kernel_rfl) (fun K hK=>?_)))
   simp(disch:=omega) only[go_sem,hd1,ei,hv,U2]
   refine hK _ (aB ?_)
   cases v
   ·simp only[Bool.not_false,if_true]at hr
    refine iTd (ySk (aB (yBl 3 (yRn [0,1,2,7,8] fun K hK=>?_))))
    simp(disch:=omega) only[go_sem]
    refine hK _ (bU (bT ?_))
    refine⟨⟨i+1,_⟩,⟨hr,by simp only;omega,by simp only;omega⟩,by simp only;omega,bD (by simp only[Int.natCast_add,Int.natCast_one]) rfl (U3 _)⟩
   simp only[Bool.not_true,Bool.false_eq_true,if_false]at hr
   subst hr
   exact iFd (yEx 2 (aY (aZ (bE (hQ _ _ (by omega))))))
  have hd1:decide ((i:Int)<(b:Int))=false:=J6 (by omega)
  rw[Sort.scanSorted,J6 hij,Bool.false_and]at hr
  simp only[Bool.false_eq_true,if_false]at hr
  subst hr
  refine ySq (ySq (bB (Γ:=bC [(120,.pure true dY)]) (fun k=>if k=13 then 0 else 2) [32,0,1,2,7,8] bZ (aH rC aO) rfl rfl rfl (by kernel_rfl) (fun K hK=>?_)))
  simp(disch:=omega) only[go_sem,hd1]
  refine hK _ (aB ?_)
  exact iFd (yEx 2 (aY (aZ (bE (hQ _ _ (by omega))))))
set_option maxHeartbeats 1000000 in
theorem cVc {id n a b i J nx0 cx0:Nat} {s:Int} {gg:Bool} {D E:Array T16} {Q:Exit→S→Prop} (hE:Sort.shiftDown ltN J D=E) (hs:D.size=n) (hJ:J<n) (hbig:n≤1000000) (hid:id<cx0)
  (hQ: ∀jj n1 c1,id<c1→Q .normal {fr:=[(0,.os id 0 n 1 gg),(1,.i (a:Int)),(2,.i (b:Int)),(7,.i (i:Int)),(8,.i s),(9,.i jj)],hp:=upd (fun _=>none) id (.cells (cA E) true),nx:=n1,cx:=c1}):
  Awp Tryz.prog GLh Tryz.f119.ntmps (cr (cl (cr (cl (cr (cr (cr (cr (cl (cl (cr (cl (cl (cr (cl (cr (cr (aE Tryz.f119)))))))))))))))))) {fr:=[(0,.os id 0 n 1 gg),(1,.i (a:Int)),(2,.i (b:Int)),(7,.i (i:Int)),(8,.i s),(9,.i (J:Int))],hp:=upd (fun _=>none) id (.cells (cA D) true),nx:=nx0,cx:=cx0} Q:=by
  refine yBl 4 (bR (fun q:SDC=> {fr:=[(0,.os id 0 n 1 gg),(1,.i a),(2,.i b),(7,.i i),(8,.i s),(9,.i q.k)],hp:=upd (fun _=>none) id (.cells (cA q.d) true),nx:=0,cx:=q.c}) (fun q=>Sort.shiftDown ltN q.k q.d=E∧q.d.size=n∧q.k<n∧id<q.c) (fun q=>q.k) rfl ⟨⟨J,D,_⟩,⟨hE,hs,hJ,hid⟩,bD rfl rfl (U3 _)⟩ ?_)
  rintro⟨j,d1,c⟩ ⟨hr,hs1,hj,hc⟩ n0
  simp only at hr hs1 hj hc⊢
  refine ySq (ySq (yRn [65,0,1,2,7,8,9] fun K hK=>?_))
  simp(disch:=omega) only[go_sem]
  refine hK _ (aB ?_)
  refine gLb rfl (fun h=>?_) (fun h=>?_)
  ·refine yDr ?_
   obtain⟨j,rfl⟩: ∃j',j=j'+1:=⟨j-1,by omega⟩
   have ej1:((j+1:Nat):Int)-1=(j:Int):=by omega
   obtain⟨v,hv⟩: ∃v,ltN d1[j+1]! d1[j]! =v:=⟨_,rfl⟩
   rw[Sort.shiftDown,hv]at hr
   refine ySk (aB (ySq (yBl 5 (ySq (ySq (bB (Γ:=bC [(120,.pure true dY)]) (fun k=>if k=9 then 0 else 2) [78,0,1,2,7,8,9] bZ (aH rC aO) rfl rfl rfl (by kernel_rfl) (fun K hK=>?_)))))))
   simp(disch:=omega) only[go_sem,ej1,hv,U2]
   refine hK _ (aB ?_)
   cases v
   ·simp only[Bool.not_false,if_true]at hr
    subst hr
    refine iTd (yEx 4 (aY (mW (aY (aZ (bE ?_))) rfl)))
    exact hQ _ _ _ (by omega)
   simp only[Bool.not_true,Bool.false_eq_true,if_false]at hr
   refine iFd (ySk (aB ?_))
   have hsw:(d1.setIfInBounds (j+1) d1[j]!).setIfInBounds j d1[j+1]! =Sort.swp d1 (j+1) j:=rfl
   refine bB (Γ:=aL) (fun _=>2) [0,1,2,7,8,9] bZ (aD _ _) rfl rfl rfl (by kernel_rfl) (fun K hK=>?_)
   simp(disch:=omega) only[go_sem,ej1,hsw,U2]
   refine hK _ (bU (aB ?_))
   refine yRn [0,1,2,7,8,9] fun K hK=>?_
   simp(disch:=omega) only[go_sem,ej1]
   refine hK _ (bT ?_)
   refine⟨⟨j,Sort.swp d1 (j+1) j,_⟩,⟨hr,by simp only[cW];exact hs1,by simp only;omega,by simp only;omega⟩,by simp only;omega,⟨fun _=> .inr rfl,bS (by simp(disch:=omega) only[aV,↓reduceIte,eq_self]) fKa,U3 _⟩⟩
  refine yDr ?_
  obtain rfl:j=0:=by omega
  rw[Sort.shiftDown]at hr
  subst hr
  exact yEx 4 (aY (aZ (bE (hQ _ _ _ (by omega)))))
set_option maxHeartbeats 1000000 in
theorem cEw {id n a b i J nx0 cx0:Nat} {s:Int} {gg:Bool} {D E:Array T16} {Q:Exit→S→Prop} (hE:Sort.shiftUp ltN b J D=E) (hs:D.size=n) (hJ:0<J) (hb:b≤n) (hbig:n≤1000000) (hid:id<cx0)
  (hQ: ∀jj n1 c1,id<c1→Q .normal {fr:=[(0,.os id 0 n 1 gg),(1,.i (a:Int)),(2,.i (b:Int)),(7,.i (i:Int)),(8,.i s),(10,.i jj)],hp:=upd (fun _=>none) id (.cells (cA E) true),nx:=n1,cx:=c1}):
  Awp Tryz.prog GLh Tryz.f119.ntmps (cr (cl (cr (cr (cr (cr (cr (cr (cl (cl (cr (cl (cl (cr (cl (cr (cr (aE Tryz.f119)))))))))))))))))) {fr:=[(0,.os id 0 n 1 gg),(1,.i (a:Int)),(2,.i (b:Int)),(7,.i (i:Int)),(8,.i s),(10,.i (J:Int))],hp:=upd (fun _=>none) id (.cells (cA D) true),nx:=nx0,cx:=cx0} Q:=by
  refine yBl 6 (bR (fun q:SDC=> {fr:=[(0,.os id 0 n 1 gg),(1,.i a),(2,.i b),(7,.i i),(8,.i s),(10,.i q.k)],hp:=upd (fun _=>none) id (.cells (cA q.d) true),nx:=0,cx:=q.c}) (fun q=>Sort.shiftUp ltN b q.k q.d=E∧q.d.size=n∧0<q.k∧id<q.c) (fun q=>b-q.k) rfl ⟨⟨J,D,_⟩,⟨hE,hs,hJ,hid⟩,bD rfl rfl (U3 _)⟩ ?_)
  rintro⟨j,d1,c⟩ ⟨hr,hs1,hj,hc⟩ n0
  simp only at hr hs1 hj hc⊢
  refine ySq (ySq (yRn [103,0,1,2,7,8,10] fun K hK=>?_))
  simp(disch:=omega) only[go_sem]
  refine hK _ (aB ?_)
  refine gLb rfl (fun h=>?_) (fun h=>?_)
  ·refine yDr ?_
   have hjb:j<b:=by omega
   have hjn:j<n:=by omega
   have ej1:(j:Int)-1=((j-1:Nat):Int):=by omega
   obtain⟨v,hv⟩: ∃v,ltN d1[j]! d1[j-1]! =v:=⟨_,rfl⟩
   rw[Sort.shiftUp,J4 hjb,hv]at hr
   refine ySk (aB (ySq (yBl 7 (ySq (ySq (bB (Γ:=bC [(120,.pure true dY)]) (fun k=>if k=9 then 0 else 2) [116,0,1,2,7,8,10] bZ (aH rC aO) rfl rfl rfl (by kernel_rfl) (fun K hK=>?_)))))))
   simp(disch:=omega) only[go_sem,ej1,hv,U2]
   refine hK _ (aB ?_)
   cases v
   ·simp only[Bool.not_false,if_true]at hr
    subst hr
    refine iTd (yEx 6 (aY (mW (aY (aZ (bE ?_))) rfl)))
    exact hQ _ _ _ (by omega)
   simp only[Bool.not_true,Bool.false_eq_true,if_false]at hr
   refine iFd (ySk (aB ?_))
   have hsw:(d1.setIfInBounds j d1[j-1]!).setIfInBounds (j-1) d1[j]! =Sort.swp d1 j (j-1):=rfl
   refine bB (Γ:=aL) (fun _=>2) [0,1,2,7,8,10] bZ (aD _ _) rfl rfl rfl (by kernel_rfl) (fun K hK=>?_)
   simp(disch:=omega) only[go_sem,ej1,hsw,U2]
   refine hK _ (bU (aB ?_))
   refine yRn [0,1,2,7,8,10] fun K hK=>?_
   simp(disch:=omega) only[go_sem]
   refine hK _ (bT ?_)
   refine⟨⟨j+1,Sort.swp d1 j (j-1),_⟩,⟨hr,by simp only[cW];exact hs1,by simp only;omega,by simp only;omega⟩,by simp only;omega,⟨fun _=> .inr (by simp only[Int.natCast_add,Int.natCast_one]),bS (by simp(disch:=omega) only[aV,↓reduceIte,eq_self]) fKa,U3 _⟩⟩
  refine yDr ?_
  have hjb: ¬j<b:=by omega
  rw[Sort.shiftUp,J3 hjb]at hr
  subst hr
  exact yEx 6 (aY (aZ (bE (hQ _ _ _ (by omega)))))
structure SPI where
 s:Nat
 i:Nat
 d:Array T16
 c:Nat
def piG:List AV→List AV→Option (AV×List AV)
 |[.os _ 0 n 1 _,.i a,.i b],xs=>aK (unA xs) fun l=>aN (l.length=n∧0≤a∧a<b∧b≤n∧n≤1000000) (some (.b (Sort.partialInsertionSort ltN l.toArray a.toNat b.toNat).2,cA (Sort.partialInsertionSort ltN l.toArray a.toNat b.toNat).1))
 |_,_=>none
theorem cJm (id n:Nat) (gg:Bool) (a b:Int) (xs:List AV):piG [.os id 0 n 1 gg,.i a,.i b] xs=aK (unA xs) fun l=>aN (l.length=n∧0≤a∧a<b∧b≤n∧n≤1000000) (some (.b (Sort.partialInsertionSort ltN l.toArray a.toNat b.toNat).2,cA (Sort.partialInsertionSort ltN l.toArray a.toNat b.toNat).1)):=(rfl)
attribute [go_sem] cJm
set_option maxHeartbeats 2000000 in
theorem cVe:fHs Tryz.prog GLh 119 (dP piG):=by
 refine eS Tryz.func119 (aT rfl) ?_
 intro id off n e gg rest nx xs r ys hg
 unfold piG at hg
 split at hg
 ·rename_i id2 n2 gg2 a0 b0 heq
  simp only[List.cons.injEq,AV.os.injEq]at heq
  obtain⟨⟨rfl,rfl,rfl,rfl,rfl⟩,rfl⟩:=heq
  replace hg:=aJ hg;obtain⟨l,hl,hg⟩:=hg
  replace hg:=aP hg;obtain⟨⟨hn,ha,hab,hbn,hbig⟩,hg⟩:=hg
  simp only[Option.some.injEq,Prod.mk.injEq]at hg;obtain⟨rfl,rfl⟩:=hg
  have:=dO hl;subst this
  obtain⟨a,rfl⟩:=Int.eq_ofNat_of_zero_le ha
  obtain⟨b,rfl⟩:=Int.eq_ofNat_of_zero_le (show 0≤b0 by omega)
  simp only[U2]at*
  obtain⟨d,hd⟩: ∃d,l.toArray=d:=⟨_,rfl⟩
  have hds:d.size=n:=by rw[←hd];simpa using hn
  have hab2:a<b:=by omega
  have hbn2:b≤n:=by omega
  rw[hd]
  refine⟨J1 rfl,fun hid=>?_⟩
  clear hl hn ha hab hbn
  obtain⟨⟨E,F⟩,hR⟩: ∃R,Sort.partialInsertionSort ltN d a b=R:=⟨_,rfl⟩
  rw[hR]
  have hR0:Sort.partialIns ltN a b 5 (a+1) d=(E,F):=hR
  clear hR
  have ebL:(b:Int)-(a:Int)=((b-a:Nat):Int):=by omega
  refine ySq (yRn [0,1,2] fun K hK=>?_)
  simp(disch:=omega) only[go_sem]
  refine hK _ (aB ?_)
  refine ySq (yRn [0,1,2,7] fun K hK=>?_)
  simp(disch:=omega) only[go_sem]
  refine hK _ (aB ?_)
  refine ySq (ySq (yRn [0,1,2,7,8] fun K hK=>?_))
  simp(disch:=omega) only[go_sem]
  refine hK _ (aB ?_)
  refine yBl 0 ?_
  refine bR (fun p:SPI=> {fr:=[(0,.os id 0 n 1 gg),(1,.i a),(2,.i b),(7,.i p.i),(8,.i (5-(p.s:Int)))],hp:=upd (fun _=>none) id (.cells (cA p.d) true),nx:=0,cx:=p.c}) (fun p=>Sort.partialIns ltN a b p.s p.i p.d=(E,F)∧p.d.size=n∧a<p.i∧p.i≤b∧p.s≤5∧id<p.c) (fun p=>p.s) rfl ⟨⟨5,a+1,d,_⟩,⟨hR0,hds,by simp only;omega,by simp only;omega,by simp only;omega,by simp only;omega⟩,bD (by simp only[Int.natCast_add,Int.cast_ofNat_Int,Int.sub_self]) rfl (U3 _)⟩ ?_
  rintro⟨s,i,d1,c⟩ ⟨hr,hs1,hai,hib,hs5,hc⟩ n0
  simp only at hr hs1 hai hib hs5 hc⊢
  refine ySq (ySq (yRn [14,0,1,2,7,8] fun K hK=>?_))
  simp(disch:=omega) only[go_sem]
  refine hK _ (aB ?_)
  refine gLb rfl (fun h=>?_) (fun h=>?_)
  ·refine yDr ?_
   obtain⟨s,rfl⟩: ∃s',s=s'+1:=⟨s-1,by omega⟩
   obtain⟨i2,hi2⟩: ∃i2,Sort.scanSorted ltN d1 b i=i2:=⟨_,rfl⟩
   have gi2:=cTm b d1 _ i (U3 _) hib
   rw[hi2]at gi2
   rw[Sort.partialIns,hi2]at hr
   refine ySk (aB (ySq (yBl 1 (ySq (cVd hi2 hs1 (by omega) hbn2 hbig (by omega) (fun n1 c1 hc1=>?_))))))
   refine aB (ySq (ySq (yRn [37,0,1,2,7,8] fun K hK=>?_)))
   simp(disch:=omega) only[go_sem]
   refine hK _ (aB ?_)
   refine gLb rfl (fun h=>?_) (fun h=>?_)
   ·refine yDr ?_
    have hib2:i2=b:=by omega
    rw[J4 hib2]at hr
    simp only[Prod.mk.injEq]at hr
    obtain⟨rfl,rfl⟩:=hr
    refine ySq (yRn [6] fun K hK=>?_)
    simp(disch:=omega) only[go_sem]
    refine hK _ (aB ?_)
    exact aS rfl (bI (bN (bI (dF (bN (bI (⟨rfl,by simp only[aV,if_true],rfl,dZ _⟩)))))))
   refine yDr ?_
   have hib2: ¬i2=b:=by omega
   rw[J3 hib2]at hr
   refine ySk (aB (ySq (ySq (yRn [41,0,1,2,7,8] fun K hK=>?_))))
   simp(disch:=omega) only[go_sem]
   refine hK _ (aB ?_)
   refine gLb rfl (fun h=>?_) (fun h=>?_)
   ·refine yDr ?_
    have hab50:b-a<50:=by omega
    rw[J4 hab50]at hr
    simp only[Prod.mk.injEq]at hr
    obtain⟨rfl,rfl⟩:=hr
    refine ySq (yRn [6] fun K hK=>?_)
    simp(disch:=omega) only[go_sem]
    refine hK _ (aB ?_)
    exact aS rfl (bI (bN (bI (dF (bN (bI (⟨rfl,by simp only[aV,if_true],rfl,dZ _⟩)))))))
   refine yDr ?_
   have hab50: ¬b-a<50:=by omega
   rw[J3 hab50]at hr
   refine ySk (aB (ySq ?_))
   have hin:i2<n:=by omega
   have ei2:(i2:Int)-1=((i2-1:Nat):Int):=by omega
   have hsw:(d1.setIfInBounds i2 d1[i2-1]!).setIfInBounds (i2-1) d1[i2]! =Sort.swp d1 i2 (i2-1):=rfl
   refine bB (Γ:=aL) (fun _=>2) [0,1,2,7,8] bZ (aD _ _) rfl rfl rfl (by kernel_rfl) (fun K hK=>?_)
   simp(disch:=omega) only[go_sem,ei2,hsw,U2]
   refine hK _ (aB ?_)
   obtain⟨d2,hd2⟩: ∃d2,Sort.swp d1 i2 (i2-1)=d2:=⟨_,rfl⟩
   have hs2:d2.size=n:=by rw[←hd2,cW];exact hs1
   rw[hd2]
   simp only[hd2]at hr
   have e5:5-((s+1:Nat):Int)+1=5-(s:Int):=by omega
   have ei3:(i2:Int)+1=((i2+1:Nat):Int):=by omega
   clear hsw
   refine ySq (ySq (yRn [61,0,1,2,7,8] fun K hK=>?_))
   simp(disch:=omega) only[go_sem]
   refine hK _ (aB ?_)
   refine gLb rfl (fun h=>?_) (fun h=>?_)
   ·refine yDr ?_
    have hia:i2-a≥2:=by omega
    simp only[J4 hia]at hr
    obtain⟨d3,hd3⟩: ∃d3,Sort.shiftDown ltN (i2-1) d2=d3:=⟨_,rfl⟩
    have hs3:d3.size=n:=by rw[←hd3,aVe];exact hs2
    rw[hd3]at hr
    refine ySq (yRn [0,1,2,7,8,9] fun K hK=>?_)
    simp(disch:=omega) only[go_sem,ei2]
    refine hK _ (aB ?_)
    refine cVc hd3 hs2 (by omega) hbig (by omega) (fun jj n2 c2 hc2=>?_)
    refine aB (ySq (yRn [98,0,1,2,7,8] fun K hK=>?_))
    simp(disch:=omega) only[go_sem]
    refine hK _ (aB ?_)
    refine gLb rfl (fun h=>?_) (fun h=>?_)
    ·refine yDr ?_
     have hbi:b-i2≥2:=by omega
     simp only[J4 hbi]at hr
     obtain⟨d4,hd4⟩: ∃d4,Sort.shiftUp ltN b (i2+1) d3=d4:=⟨_,rfl⟩
     have hs4:d4.size=n:=by rw[←hd4,aUu b _ _ _ (U3 _)];exact hs3
     rw[hd4]at hr
     refine ySq (yRn [0,1,2,7,8,10] fun K hK=>?_)
     simp(disch:=omega) only[go_sem,ei3]
     refine hK _ (aB ?_)
     refine cEw hd4 hs3 (by omega) hbn2 hbig (by omega) (fun jj n3 c3 hc3=>?_)
     refine bU (aB (yRn [0,1,2,7,8] fun K hK=>?_))
     simp(disch:=omega) only[go_sem]
     refine hK _ (bT ?_)
     refine⟨⟨s,i2,d4,_⟩,⟨hr,hs4,by simp only;omega,by simp only;omega,by simp only;omega,by simp only;omega⟩,by simp only;omega,bD (by simp only[e5]) rfl (U3 _)⟩
    refine yDr ?_
    have hbi: ¬b-i2≥2:=by omega
    simp only[J3 hbi]at hr
    refine ySk (bU (aB (yRn [0,1,2,7,8] fun K hK=>?_)))
    simp(disch:=omega) only[go_sem]
    refine hK _ (bT ?_)
    refine⟨⟨s,i2,d3,_⟩,⟨hr,hs3,by simp only;omega,by simp only;omega,by simp only;omega,by simp only;omega⟩,by simp only;omega,bD (by simp only[e5]) rfl (U3 _)⟩
   refine yDr ?_
   have hia: ¬i2-a≥2:=by omega
   simp only[J3 hia]at hr
   refine ySk (aB (ySq (yRn [98,0,1,2,7,8] fun K hK=>?_)))
   simp(disch:=omega) only[go_sem]
   refine hK _ (aB ?_)
   refine gLb rfl (fun h=>?_) (fun h=>?_)
   ·refine yDr ?_
    have hbi:b-i2≥2:=by omega
    simp only[J4 hbi]at hr
    obtain⟨d4,hd4⟩: ∃d4,Sort.shiftUp ltN b (i2+1) d2=d4:=⟨_,rfl⟩
    have hs4:d4.size=n:=by rw[←hd4,aUu b _ _ _ (U3 _)];exact hs2
    rw[hd4]at hr
    refine ySq (yRn [0,1,2,7,8,10] fun K hK=>?_)
    simp(disch:=omega) only[go_sem,ei3]
    refine hK _ (aB ?_)
    refine cEw hd4 hs2 (by omega) hbn2 hbig (by omega) (fun jj n3 c3 hc3=>?_)
    refine bU (aB (yRn [0,1,2,7,8] fun K hK=>?_))
    simp(disch:=omega) only[go_sem]
    refine hK _ (bT ?_)
    refine⟨⟨s,i2,d4,_⟩,⟨hr,hs4,by simp only;omega,by simp only;omega,by simp only;omega,by simp only;omega⟩,by simp only;omega,bD (by simp only[e5]) rfl (U3 _)⟩
   refine yDr ?_
   have hbi: ¬b-i2≥2:=by omega
   simp only[J3 hbi]at hr
   refine ySk (bU (aB (yRn [0,1,2,7,8] fun K hK=>?_)))
   simp(disch:=omega) only[go_sem]
   refine hK _ (bT ?_)
   refine⟨⟨s,i2,d2,_⟩,⟨hr,hs2,by simp only;omega,by simp only;omega,by simp only;omega,by simp only;omega⟩,by simp only;omega,bD (by simp only[e5]) rfl (U3 _)⟩
  refine yDr ?_
  obtain rfl:s=0:=by omega
  rw[Sort.partialIns]at hr
  simp only[Prod.mk.injEq]at hr
  obtain⟨rfl,rfl⟩:=hr
  refine yEx 0 (aY (aZ (bE (aB (ySq (yRn [6] fun K hK=>?_))))))
  simp(disch:=omega) only[go_sem]
  refine hK _ (aB ?_)
  exact aS rfl (⟨rfl,by simp only[aV,if_true],rfl,dZ _⟩)
 cases hg
theorem ok98:bX Tryz.prog GLh 119 (.heap (dP piG)):=⟨⟨_,Tryz.func119,rfl,rfl⟩,cVe⟩
end Go.AX.D5

namespace Go.AX.D5
open Go Go.Proofs
def win (t:T16):Nat:=t.toNat/256
def pos (t:T16):Nat:=t.toNat%256
def rE (k:Nat):B8:=0x80#8>>>k
theorem eLt (x:B8) (k:Nat) (hk:k<8):(x&&&rE k≠0#8)↔x.getLsbD (7-k)=true:=by
 have e:rE k=BitVec.twoPow 8 (7-k):=by
  have: ∀k:Fin 8,rE k.1=BitVec.twoPow 8 (7-k.1):=by decide
  exact this ⟨k,hk⟩
 rw[e,BitVec.and_twoPow]
 split
 ·rename_i h
  simp only[h,iff_true]
  have: ∀k:Fin 8,BitVec.twoPow 8 (7-k.1)≠0#8:=by decide
  exact this ⟨k,hk⟩
 rename_i h
 simp[h]
theorem eXj (x y:B8) (h: ∀k,k<8→(x&&&rE k≠0#8↔y&&&rE k≠0#8)):x=y:=by
 apply BitVec.eq_of_getLsbD_eq
 intro i hi
 have:=h (7-i) (by omega)
 rw[eLt x _ (by omega),eLt y _ (by omega),show 7-(7-i)=i by omega]at this
 rw[Bool.eq_iff_iff];exact this
theorem fAx (x:B8) (j k:Nat) (hj:j<8) (hk:k<8):(x|||rE j)&&&rE k≠0#8↔(x&&&rE k≠0#8∨j=k):=by
 rw[eLt _ k hk,eLt _ k hk,BitVec.getLsbD_or,Bool.or_eq_true]
 have:(rE j).getLsbD (7-k)=true↔j=k:=by
  have e: ∀j k:Fin 8,(rE j.1).getLsbD (7-k.1)=true↔j.1=k.1:=by decide
  exact e ⟨j,hj⟩ ⟨k,hk⟩
 rw[this]
def eQn (b:List B8) (t:T16):List B8:=b.set (pos t/8) (b.getD (pos t/8) 0#8|||rE (pos t%8))
def dR (p:List T16):List B8:=p.foldl eQn (List.replicate 32 0#8)
theorem ePl (b:List B8) (t:T16):(eQn b t).length=b.length:=List.length_set
theorem eTf (p:List T16): ∀b:List B8,(p.foldl eQn b).length=b.length:=by
 induction p with
 |nil=>intro b;rfl
 |cons t p ih=>intro b;rw[List.foldl_cons,ih,ePl]
theorem eKl (p:List T16):(dR p).length=32:=by rw[dR,eTf,List.length_replicate]
theorem eNf (t:T16):pos t<256:=Nat.mod_lt _ (by omega)
theorem eTg (p:List T16) (i k:Nat) (hi:i<32) (hk:k<8): ∀b:List B8,b.length=32→((p.foldl eQn b).getD i 0#8&&&rE k≠0#8↔(b.getD i 0#8&&&rE k≠0#8∨∃t∈p,pos t=8*i+k)):=by
 induction p with
 |nil=>intro b _;simp
 |cons t p ih=>
  intro b hb
  have hp:=eNf t
  rw[List.foldl_cons,ih _ (by rw[ePl];exact hb)]
  have hst:(eQn b t).getD i 0#8&&&rE k≠0#8↔(b.getD i 0#8&&&rE k≠0#8∨pos t=8*i+k):=by
   rw[eQn]
   by_cases e:pos t/8=i
   ·subst e
    rw[List.getD_eq_getElem?_getD,List.getElem?_set_self (by omega),Option.getD_some,fAx _ _ _ (by omega) hk]
    constructor
    ·rintro(h|h)
     ·exact .inl h
     exact .inr (by omega)
    rintro(h|h)
    ·exact .inl h
    exact .inr (by omega)
   rw[List.getD_eq_getElem?_getD,List.getElem?_set_ne e,←List.getD_eq_getElem?_getD]
   constructor
   ·exact .inl
   rintro(h|h)
   ·exact h
   omega
  rw[hst]
  simp only[List.mem_cons,exists_eq_or_imp,or_assoc]
theorem eLa (p:List T16) (i k:Nat) (hi:i<32) (hk:k<8):(dR p).getD i 0#8&&&rE k≠0#8↔∃t∈p,pos t=8*i+k:=by
 rw[dR,eTg p i k hi hk _ (by simp)]
 have:(List.replicate 32 0#8:List B8).getD i 0#8=0#8:=by
  rw[List.getD_eq_getElem?_getD,List.getElem?_replicate];split<;>rfl
 rw[this]
 simp
def szL (p:List T16):Nat:=match p.getLast? with|some t=>pos t/8+1|none=>0
theorem eOq (p:List T16):szL p≤32:=by
 unfold szL;split
 ·have:=eNf ‹_›;omega
 omega
def rR (w:Nat) (bs:List B8):List T16:=(List.range (8*bs.length)).filterMap fun i=>if bs.getD (i/8) 0#8&&&rE (i%8)≠0#8 then some (BitVec.ofNat 16 (w*256+i))else none
def Inc (p:List T16):Prop:=p.Pairwise fun a b=>a.toNat<b.toNat
theorem eOz: ∀ {p q:List T16},Inc p→Inc q→(∀t,t∈p↔t∈q)→p=q
 |[],[],_,_,_=>rfl
 |[],b::q,_,_,h=>absurd ((h b).2 (by simp)) (by simp)
 |a::p,[],_,_,h=>absurd ((h a).1 (by simp)) (by simp)
 |a::p,b::q,hp,hq,h=>by
  rw[Inc,List.pairwise_cons]at hp hq
  have hab:a=b:=by
   have h1:=(h a).1 (by simp)
   have h2:=(h b).2 (by simp)
   rw[List.mem_cons]at h1 h2
   rcases h1 with h1|h1
   ·exact h1
   rcases h2 with h2|h2
   ·exact h2.symm
   have:=hq.1 a h1;have:=hp.1 b h2;omega
  subst hab
  congr 1
  refine eOz hp.2 hq.2 fun t=>?_
  have ht:=h t
  rw[List.mem_cons,List.mem_cons]at ht
  constructor
  ·intro hm
   rcases ht.1 (.inr hm)with e|e
   ·subst e;have:=hp.1 t hm;omega
   exact e
  intro hm
  rcases ht.2 (.inr hm)with e|e
  ·subst e;have:=hq.1 t hm;omega
  exact e
theorem eKk (w:Nat) (bs:List B8) (hw:w<256) (hb:bs.length≤32) (x:T16):x∈rR w bs↔win x=w∧pos x<8*bs.length∧bs.getD (pos x/8) 0#8&&&rE (pos x%8)≠0#8:=by
 unfold rR
 simp only[List.mem_filterMap,List.mem_range]
 constructor
 ·rintro⟨i,hi,he⟩
  split at he
  ·rename_i hbit
   obtain rfl:=J0 he
   have e1:(BitVec.ofNat 16 (w*256+i)).toNat=w*256+i:=by rw[BitVec.toNat_ofNat];omega
   have e2:win (BitVec.ofNat 16 (w*256+i))=w:=by unfold win;rw[e1];omega
   have e3:pos (BitVec.ofNat 16 (w*256+i))=i:=by unfold pos;rw[e1];omega
   rw[e2,e3];exact⟨rfl,hi,hbit⟩
  cases he
 rintro⟨h1,h2,h3⟩
 refine⟨pos x,h2,?_⟩
 rw[J4 h3]
 congr 1
 apply BitVec.eq_of_toNat_eq
 rw[BitVec.toNat_ofNat,←h1]
 unfold win pos
 have:=x.isLt
 omega
theorem eNn (w:Nat) (bs:List B8) (_:w<256) (hb:bs.length≤32):Inc (rR w bs):=by
 unfold Inc rR
 rw[List.pairwise_filterMap]
 refine List.Pairwise.imp_of_mem ?_ (List.pairwise_lt_range (n:=8*bs.length))
 intro a b ha hb2 hab x hx y hy
 rw[List.mem_range]at ha hb2
 split at hx
 ·split at hy
  ·obtain rfl:=J0 hx
   obtain rfl:=J0 hy
   rw[BitVec.toNat_ofNat,BitVec.toNat_ofNat];omega
  cases hy
 cases hx
def InW (w:Nat) (p:List T16):Prop:= ∀t∈p,win t=w
theorem t_eq (x y:T16) (h1:win x=win y) (h2:pos x=pos y):x=y:=by
 apply BitVec.eq_of_toNat_eq
 unfold win at h1;unfold pos at h2
 omega
theorem ePx {p:List T16} (hp:Inc p) {t:T16} (ht:t∈p) {m:T16} (hm:p.getLast? =some m):t=m∨t.toNat<m.toNat:=by
 induction p with
 |nil=>simp at ht
 |cons a p ih=>
  rw[Inc,List.pairwise_cons]at hp
  cases p with
  |nil=>simp at hm ht;exact .inl (by rw[ht,hm])
  |cons b q=>
   rw[List.getLast?_cons_cons]at hm
   rcases List.mem_cons.1 ht with e|e
   ·subst e
    right
    exact hp.1 m (List.mem_of_getLast? hm)
   exact ih hp.2 e hm
theorem eWm (w:Nat) (p:List T16) (hw:w<256) (hp:Inc p) (hin:InW w p):rR w ((dR p).take (szL p))=p:=by
 have hle:=eOq p
 have hlen:((dR p).take (szL p)).length=szL p:=by rw[List.length_take,eKl];omega
 refine eOz (eNn w _ hw (by omega)) hp fun x=>?_
 rw[eKk w _ hw (by omega),hlen]
 have hx:=eNf x
 have hg:pos x/8<szL p→((dR p).take (szL p)).getD (pos x/8) 0#8=(dR p).getD (pos x/8) 0#8:=fun h=>by
  rw[List.getD_eq_getElem?_getD,List.getElem?_take_of_lt h,List.getD_eq_getElem?_getD]
 constructor
 ·rintro⟨h1,h2,h3⟩
  rw[hg (by omega),eLa p _ _ (by omega) (by omega)]at h3
  obtain⟨t,ht,he⟩:=h3
  have:x=t:=t_eq x t (by rw[h1,hin t ht]) (by omega)
  rw[this];exact ht
 intro hxp
 have hsz:pos x<8*szL p:=by
  cases hm:p.getLast? with
  |none=>rw[List.getLast?_eq_none_iff]at hm;subst hm;simp at hxp
  |some m=>
   have hmp:m∈p:=List.mem_of_getLast? hm
   have hs:szL p=pos m/8+1:=by unfold szL;rw[hm]
   have h1:=hin x hxp
   have h2:=hin m hmp
   rcases ePx hp hxp hm with e|e
   ·subst e;omega
   unfold win at h1 h2;unfold pos at hs⊢;omega
 refine⟨hin x hxp,hsz,?_⟩
 rw[hg (by omega),eLa p _ _ (by omega) (by omega)]
 exact⟨x,hxp,by omega⟩
theorem ePu (x:B8) (h:x≠0#8): ∃k,k<8∧x&&&rE k≠0#8:=by
 apply Classical.byContradiction
 intro hn
 apply h
 apply eXj
 intro k hk
 constructor
 ·intro h2;exact absurd ⟨k,hk,h2⟩ hn
 intro h2;simp at h2
theorem eXi (w:Nat) (bs:List B8) (hw:w<256) (h1:1≤bs.length) (h32:bs.length≤32) (hl:bs.getD (bs.length-1) 0#8≠0#8):szL (rR w bs)=bs.length∧(dR (rR w bs)).take bs.length=bs∧InW w (rR w bs):=by
 have hinc:=eNn w bs hw h32
 have hin:InW w (rR w bs):=fun t ht=>((eKk w bs hw h32 t).1 ht).1
 obtain⟨k,hk,hb⟩:=ePu _ hl
 have hmk: ∀i j,i<bs.length→j<8→∃x:T16,win x=w∧pos x=8*i+j:=by
  intro i j hi hj
  have e:(BitVec.ofNat 16 (w*256+(8*i+j))).toNat=w*256+(8*i+j):=by rw[BitVec.toNat_ofNat];omega
  exact⟨BitVec.ofNat 16 (w*256+(8*i+j)),by unfold win;rw[e];omega,by unfold pos;rw[e];omega⟩
 obtain⟨y,hy1,hy2⟩:=hmk (bs.length-1) k (by omega) hk
 have hy:y∈rR w bs:=by
  rw[eKk w bs hw h32]
  refine⟨hy1,by omega,?_⟩
  rw[hy2,show(8*(bs.length-1)+k)/8=bs.length-1 by omega,show(8*(bs.length-1)+k)%8=k by omega]
  exact hb
 refine⟨?_,?_,hin⟩
 ·cases hm:(rR w bs).getLast? with
  |none=>rw[List.getLast?_eq_none_iff]at hm;rw[hm]at hy;simp at hy
  |some m=>
   have hmp:m∈rR w bs:=List.mem_of_getLast? hm
   have hs:szL (rR w bs)=pos m/8+1:=by unfold szL;rw[hm]
   have h2:=((eKk w bs hw h32 m).1 hmp)
   rw[hs]
   rcases ePx hinc hy hm with e|e
   ·rw[←e];omega
   have:=h2.1;unfold win at this hy1;unfold pos at hy2 h2⊢;omega
 apply List.ext_getElem
 ·rw[List.length_take,eKl];omega
 intro i h2 h3
 have e1:((dR (rR w bs)).take bs.length)[i]=(dR (rR w bs)).getD i 0#8:=by
  rw[List.getElem_take,List.getD_eq_getElem?_getD,List.getElem?_eq_getElem (by rw[eKl];omega)];rfl
 have e2:bs[i]=bs.getD i 0#8:=by rw[List.getD_eq_getElem?_getD,List.getElem?_eq_getElem h3];rfl
 rw[e1,e2]
 apply eXj
 intro j hj
 rw[eLa _ i j (by omega) hj]
 constructor
 ·rintro⟨t,ht,he⟩
  have:=((eKk w bs hw h32 t).1 ht).2.2
  rw[he,show(8*i+j)/8=i by omega,show(8*i+j)%8=j by omega]at this
  exact this
 intro hb2
 obtain⟨x,hx1,hx2⟩:=hmk i j h3 hj
 refine⟨x,(eKk w bs hw h32 x).2 ⟨hx1,by omega,?_⟩,hx2⟩
 rw[hx2,show(8*i+j)/8=i by omega,show(8*i+j)%8=j by omega]
 exact hb2
def eLm (w:Nat) (p:List T16):List B8:=BitVec.ofNat 8 w::BitVec.ofNat 8 (szL p)::(dR p).take (szL p)
def grp (t:T16) (r:List T16):List T16:=t::r.takeWhile fun x=>decide (win x=win t)
def rst (t:T16) (r:List T16):List T16:=r.dropWhile fun x=>decide (win x=win t)
theorem eYe (t:T16) (r:List T16):(rst t r).length≤r.length:=by
 unfold rst
 exact(List.dropWhile_sublist _).length_le
def bmL:List T16→List B8
 |[]=>[]
 |t::r=>eLm (win t) (grp t r)++bmL (rst t r)
termination_by l=>l.length
decreasing_by simp only[List.length_cons];have:=eYe t r;omega
theorem eTu (t:T16):win t<256:=by unfold win;have:=t.isLt;omega
theorem eLc {p:T16→Bool}: ∀ {l:List T16} {x:T16},x∈l.takeWhile p→p x=true
 |[],x,h=>by simp at h
 |a::l,x,h=>by
  rw[List.takeWhile_cons]at h
  split at h
  ·rename_i ha
   rcases List.mem_cons.1 h with rfl|h
   ·exact ha
   exact eLc h
  simp at h
theorem fCx (t:T16) (r:List T16):InW (win t) (grp t r):=by
 intro x hx
 rcases List.mem_cons.1 hx with rfl|hx
 ·rfl
 exact of_decide_eq_true (eLc hx)
theorem eRu (t:T16) (r:List T16):t::r=grp t r++rst t r:=by
 rw[grp,rst,List.cons_append,List.takeWhile_append_dropWhile]
theorem eZa {p q:List T16} (h:Inc (p++q)):Inc p∧Inc q∧∀x∈p,∀y∈q,x.toNat<y.toNat:=by
 rw[Inc,List.pairwise_append]at h;exact h
theorem fBo (t:T16) (r:List T16):1≤szL (grp t r):=by
 unfold szL grp
 cases h:(t::r.takeWhile fun x=>decide (win x=win t)).getLast? with
 |none=>simp at h
 |some m=>simp
def opP:Nat→List B8→Option (List T16)
 |0,_=>none
 |_+1,[]=>some []
 |_+1,[_]=>none
 |f+1,w::n::r=>if n.toNat≤r.length then(match opP f (r.drop n.toNat)with|some l=>some (rR w.toNat (r.take (min n.toNat 32))++l)|none=>none)else none
def opR:Nat→Int→List B8→Option (List T16)
 |0,_,_=>none
 |_+1,_,[]=>some []
 |_+1,_,[_]=>none
 |f+1,last,w::n::r=>if last<(w.toNat:Int)∧1≤n.toNat∧n.toNat≤32∧n.toNat≤r.length∧r.getD (n.toNat-1) 0#8≠0#8 then(match opR f w.toNat (r.drop n.toNat)with|some l=>some (rR w.toNat (r.take n.toNat)++l)|none=>none)else none
theorem eUy (w:Nat) (p:List T16) (x:List B8):eLm w p++x=BitVec.ofNat 8 w::BitVec.ofNat 8 (szL p)::((dR p).take (szL p)++x):=rfl
theorem eRy (p:List T16):((dR p).take (szL p)).length=szL p:=by have:=eOq p;rw[List.length_take,eKl];omega
theorem eWa (p:List T16) (hp:p≠[]):(dR p).getD (szL p-1) 0#8≠0#8:=by
 cases hm:p.getLast? with
 |none=>rw[List.getLast?_eq_none_iff]at hm;exact absurd hm hp
 |some m=>
  have hs:szL p=pos m/8+1:=by unfold szL;rw[hm]
  have hpm:=eNf m
  intro h0
  have:=(eLa p (pos m/8) (pos m%8) (by omega) (by omega)).2 ⟨m,List.mem_of_getLast? hm,by omega⟩
  rw[hs,show pos m/8+1-1=pos m/8 by omega]at h0
  rw[h0]at this
  simp at this
theorem eVg: ∀(f:Nat) (c:List T16) (last:Int),Inc c→(∀t∈c,last<(win t:Int))→(bmL c).length<f→opR f last (bmL c)=some c
 |0,_,_,_,_,h=>by omega
 |f+1,[],_,_,_,_=>by rw[bmL];rfl
 |f+1,t::r,last,hi,hl,hf=>by
  rw[bmL,eUy]at hf⊢
  have hsz:=fBo t r
  have hle:=eOq (grp t r)
  have hb:=eRy (grp t r)
  have hn:(BitVec.ofNat 8 (szL (grp t r))).toNat=szL (grp t r):=by rw[BitVec.toNat_ofNat];omega
  have hw:(BitVec.ofNat 8 (win t)).toNat=win t:=by have:=eTu t;rw[BitVec.toNat_ofNat];omega
  have hi0:=hi
  rw[eRu t r]at hi
  obtain⟨h1,h2,h3⟩:=eZa hi
  simp only[opR,hn,hw]
  have hlb:=eWa (grp t r) (by simp[grp])
  have hgd:((dR (grp t r)).take (szL (grp t r))++bmL (rst t r)).getD (szL (grp t r)-1) 0#8=(dR (grp t r)).getD (szL (grp t r)-1) 0#8:=by
   rw[List.getD_eq_getElem?_getD,List.getElem?_append_left (by omega),List.getElem?_take_of_lt (by omega),List.getD_eq_getElem?_getD]
  rw[J4 ⟨hl t (by simp),hsz,hle,by rw[List.length_append,hb];omega,by rw[hgd];exact hlb⟩]
  rw[List.drop_append,List.drop_of_length_le (by omega),hb,Nat.sub_self,J9,List.nil_append,List.take_append_of_le_length (by omega),List.take_of_length_le (by omega)]
  have hnext: ∀x∈rst t r,((win t:Nat):Int)<(win x:Int):=by
   intro x hx
   have hlt:t.toNat<x.toNat:=h3 t (by simp[grp]) x hx
   have hle2:win t≤win x:=by unfold win;omega
   have hne:win x≠win t:=by
    -- the first of the rest has another window, and all behind it are greater
    intro e
    cases hr:rst t r with
    |nil=>rw[hr]at hx;simp at hx
    |cons y ys=>
     have hy:win y≠win t:=by
      have:=List.head_dropWhile_not (fun x=>decide (win x=win t)) (show List.dropWhile (fun x=>decide (win x=win t)) r≠[]by show rst t r≠[];rw[hr];simp)
      have e2:(List.dropWhile (fun x=>decide (win x=win t)) r).head (by show rst t r≠[];rw[hr];simp)=y:=by
       have:rst t r=y::ys:=hr
       unfold rst at this
       simp[this]
      rw[e2]at this
      simpa using this
     have hty:t.toNat<y.toNat:=h3 t (by simp[grp]) y (by rw[hr];simp)
     have hyx:y.toNat≤x.toNat:=by
      rw[hr]at hx h2
      rcases List.mem_cons.1 hx with rfl|hx2
      ·omega
      rw[Inc,List.pairwise_cons]at h2
      have:=h2.1 x hx2;omega
     unfold win at e hy hle2;omega
   omega
  rw[eVg f (rst t r) (win t) h2 hnext (by simp only[List.length_cons,List.length_append]at hf;omega)]
  simp only
  rw[eWm (win t) (grp t r) (eTu t) h1 (fCx t r),←eRu]
theorem eMn: ∀(f:Nat) (last:Int) (b:List B8) (l:List T16),opR f last b=some l→Inc l∧(∀t∈l,last<(win t:Int))∧bmL l=b∧opP f b=some l
 |0,_,_,_,h=>by simp[opR]at h
 |f+1,last,[],l,h=>by
  simp only[opR,Option.some.injEq]at h;subst h
  exact⟨.nil,by simp,by rw[bmL],rfl⟩
 |f+1,last,[_],l,h=>by simp[opR]at h
 |f+1,last,w::n::r,l,h=>by
  simp only[opR]at h
  split at h
  ·rename_i hc
   obtain⟨c1,c2,c3,c4,c5⟩:=hc
   split at h
   ·rename_i l2 hl2
    obtain rfl:=J0 h
    obtain⟨i1,i2,i3,i4⟩:=eMn f _ _ _ hl2
    have hw:=w.isLt
    have hlen:(r.take n.toNat).length=n.toNat:=by rw[List.length_take];omega
    have hgd:(r.take n.toNat).getD ((r.take n.toNat).length-1) 0#8≠0#8:=by
     rw[hlen,List.getD_eq_getElem?_getD,List.getElem?_take_of_lt (by omega),←List.getD_eq_getElem?_getD];exact c5
    obtain⟨d1,d2,d3⟩:=eXi w.toNat (r.take n.toNat) (by omega) (by omega) (by omega) hgd
    have dinc:=eNn w.toNat (r.take n.toNat) (by omega) (by omega)
    have hcross: ∀x∈rR w.toNat (r.take n.toNat),∀y∈l2,x.toNat<y.toNat:=by
     intro x hx y hy
     have h1:=d3 x hx
     have h2:=i2 y hy
     unfold win at h1 h2;omega
    refine⟨List.pairwise_append.2 ⟨dinc,i1,hcross⟩,?_,?_,?_⟩
    ·intro t ht
     rcases List.mem_append.1 ht with h1|h1
     ·rw[d3 t h1];exact c1
     have:=i2 t h1;omega
    ·cases hd:rR w.toNat (r.take n.toNat)with
     |nil=>rw[hd]at d1;simp[szL]at d1;omega
     |cons t q=>
      have hwt:win t=w.toNat:=d3 t (by rw[hd];simp)
      have hg:grp t (q++l2)=t::q∧rst t (q++l2)=l2:=by
       have hq: ∀x∈q,decide (win x=win t)=true:=fun x hx=>J5 (by rw[d3 x (by rw[hd];simp[hx]),hwt])
       have hl: ∀x∈l2,decide (win x=win t)=false:=fun x hx=>J6 (by have:=i2 x hx;omega)
       constructor
       ·unfold grp;rw[List.takeWhile_append_of_pos (by simpa using hq)]
        cases l2 with
        |nil=>simp
        |cons y ys=>rw[List.takeWhile_cons,J3 (by rw[hl y (by simp)];simp)];simp
       unfold rst;rw[List.dropWhile_append_of_pos (by simpa using hq)]
       cases l2 with
       |nil=>rfl
       |cons y ys=>rw[List.dropWhile_cons,J3 (by rw[hl y (by simp)];simp)]
      rw[List.cons_append,bmL,hg.1,hg.2,i3]
      rw[hd]at d1 d2
      rw[eLm,d1,hlen]
      rw[hlen]at d2
      rw[d2,hwt]
      have e1:BitVec.ofNat 8 w.toNat=w:=by rw[BitVec.ofNat_toNat,BitVec.setWidth_eq]
      have e2:BitVec.ofNat 8 n.toNat=n:=by rw[BitVec.ofNat_toNat,BitVec.setWidth_eq]
      rw[e1,e2,List.cons_append,List.cons_append,List.take_append_drop]
    simp only[opP]
    rw[J4 c4,i4,Nat.min_eq_left c3]
   cases h
  cases h
theorem qW:Sort.SWO ltN where
 irrefl x:=by simp[ltN]
 trans x y z h1 h2:=by simp only[ltN,decide_eq_true_eq]at*;omega
 ntrans x y z h1 h2:=by simp only[ltN,decide_eq_false_iff_not]at*;omega
def iU (l:List T16):List T16:=(Sort.sort ltN l.toArray).toList
theorem kC (l:List T16):(iU l).Perm l:=by
 have h:=(Sort.sort_sorts ltN qW l.toArray).1
 obtain⟨h1,_,h3⟩:=h
 unfold iU
 have e1:(Sort.sort ltN l.toArray).extract 0 l.toArray.size=Sort.sort ltN l.toArray:=by rw[←h1];exact Array.extract_size
 rw[e1,Array.extract_size]at h3
 exact h3
theorem aFo (l:List T16):(iU l).length=l.length:=(kC l).length_eq
theorem gAz (l:List T16):(iU l).Pairwise fun a b=>a.toNat≤b.toNat:=by
 have h:=(Sort.sort_sorts ltN qW l.toArray)
 obtain⟨⟨h1,_,_⟩,h2⟩:=h
 rw[List.pairwise_iff_getElem]
 intro i j hi hj hij
 have hs:(iU l).length=l.toArray.size:=by rw[aFo];simp
 have:=h2 i j (Nat.zero_le _) hij (by omega)
 have e: ∀k (hk:k<(iU l).length),(Sort.sort ltN l.toArray)[k]! =(iU l)[k]:=by
  intro k hk
  rw[getElem!_pos _ k (by rw[h1];omega)];rfl
 rw[e j hj,e i hi]at this
 simp only[ltN,decide_eq_false_iff_not]at this
 omega
def dL:List T16→List T16
 |[]=>[]
 |[x]=>[x]
 |x::y::r=>if x=y then dL (y::r)else x::dL (y::r)
theorem eKz: ∀(l:List T16) (t:T16),t∈dL l↔t∈l
 |[],t=>by simp[dL]
 |[x],t=>by simp[dL]
 |x::y::r,t=>by
  rw[dL]
  split
  ·rename_i e;subst e
   rw[eKz (x::r) t];simp
  rw[List.mem_cons,eKz (y::r) t,List.mem_cons (a:=t) (b:=x)]
theorem eOl: ∀(l:List T16),l.Pairwise (fun a b=>a.toNat≤b.toNat)→Inc (dL l)
 |[],_=> .nil
 |[x],_=>by simp[dL,Inc]
 |x::y::r,h=>by
  rw[List.pairwise_cons]at h
  have ih:=eOl (y::r) h.2
  rw[dL]
  split
  ·exact ih
  rename_i hne
  rw[Inc,List.pairwise_cons]
  refine⟨fun t ht=>?_,ih⟩
  have ht2:=(eKz (y::r) t).1 ht
  have h1:=h.1 t ht2
  have h2:=h.1 y (by simp)
  have h3:x.toNat≠y.toNat:=fun e=>hne (BitVec.eq_of_toNat_eq e)
  rcases List.mem_cons.1 ht2 with rfl|h4
  ·omega
  have h5:=h.2
  rw[List.pairwise_cons]at h5
  have:=h5.1 t h4;omega
def gF (l:List T16):List T16:=dL (iU l)
theorem eQw (l:List T16) (t:T16):t∈gF l↔t∈l:=by
 rw[gF,eKz];exact(kC l).mem_iff
theorem eNp (l:List T16):Inc (gF l):=eOl _ (gAz l)
theorem eTm {l:List T16} (h:Inc l):gF l=l:=eOz (eNp l) h (eQw l)
end Go.AX.D5

namespace Go.AX.D5
open Go Go.Proofs
noncomputable def aJp {α:Type} (p:Prop) (x:Option α):Option α:=@aN _ p (Classical.propDecidable p) x
theorem aSo {α:Type} {p:Prop} {x:Option α} {y:α} (h:aJp p x=some y):p∧x=some y:=@aP _ p (Classical.propDecidable p) x y h
theorem bMz {α:Type} (x:Option α):aJp True x=x:=@eE _ True (Classical.propDecidable True) x trivial
attribute [go_sem] bMz
noncomputable def zR (N:Nat):List AV→List AV→Option (AV×List AV)
 |[.os _ 0 n 1 _,.i a,.i b,.i k],xs=>aK (unA xs) fun l=>aN (l.length=n∧0≤a∧a≤b∧b≤n∧0≤k∧k≤1000∧n≤1000000∧b-a<N) (aJp (Sort.Below ltN a.toNat b.toNat l.toArray) (some (.tup [],cA (Sort.pdq ltN l.toArray a.toNat b.toNat k.toNat true true))))
 |_,_=>none
theorem bVl (N id n:Nat) (gg:Bool) (a b k:Int) (xs:List AV):zR N [.os id 0 n 1 gg,.i a,.i b,.i k] xs=aK (unA xs) fun l=>aN (l.length=n∧0≤a∧a≤b∧b≤n∧0≤k∧k≤1000∧n≤1000000∧b-a<N) (aJp (Sort.Below ltN a.toNat b.toNat l.toArray) (some (.tup [],cA (Sort.pdq ltN l.toArray a.toNat b.toNat k.toNat true true)))):=(rfl)
attribute [go_sem] bVl
structure SPQ where
 a:Nat
 b:Nat
 l:Nat
 wb:Bool
 wp:Bool
 d:Array T16
 c:Nat
theorem bVk:fHs Tryz.prog GLh 112 (dP (zR 0)):=by
 refine eS Tryz.func112 (aT rfl) ?_
 intro id off n e gg rest nx xs r ys hg
 exfalso
 unfold zR at hg
 split at hg
 ·replace hg:=aJ hg;obtain⟨l,hl,hg⟩:=hg
  replace hg:=aP hg;obtain⟨⟨hn,ha,hab,hbn,hk,hk2,hbig,hN⟩,hg⟩:=hg
  omega
 cases hg
theorem aVs {a b:Nat} {d x:Array T16} (c:Prop) [Decidable c] (h:Sort.PermIn a b d x):Sort.PermIn a b d (if c then x else d):=by
 split
 ·exact h
 exact Sort.permIn_refl _ _ _
set_option maxHeartbeats 1000000 in
theorem cJr {id n a b k L nx0 cx0:Nat} {gg wb wp:Bool} {d:Array T16} {Q:Exit→S→Prop} {k1:Nat} {d1:Array T16} (hd1:(if(!wb)=true then Sort.breakPatterns d a b else d)=d1) (hk1:(if(!wb)=true then k-1 else k)=k1) (hk:0<k) (hk2:k≤1000) (hds:d.size=n) (hab:a<b) (hbn:b≤n) (hbig:n≤1000000) (hid:id<cx0)
  (hQ: ∀n1 c1,id<c1→Q .normal {fr:=[(0,.os id 0 n 1 gg),(1,.i (a:Int)),(2,.i (b:Int)),(3,.i (k1:Int)),(8,.b wb),(9,.b wp),(10,.i (L:Int))],hp:=upd (fun _=>none) id (.cells (cA d1) true),nx:=n1,cx:=c1}):
  Awp Tryz.prog GLh Tryz.f112.ntmps (cl (cr (cr (cr (cl (cl (cl (cr (cr (aE Tryz.f112)))))))))) {fr:=[(0,.os id 0 n 1 gg),(1,.i (a:Int)),(2,.i (b:Int)),(3,.i (k:Int)),(8,.b wb),(9,.b wp),(10,.i (L:Int))],hp:=upd (fun _=>none) id (.cells (cA d) true),nx:=nx0,cx:=cx0} Q:=by
  cases wb
  ·simp only[Bool.not_false,if_true]at hd1 hk1
   have ek:(k:Int)-1=(k1:Int):=by omega
   refine ySq (yRn [35,0,1,2,3,8,9,10] fun K hK=>?_)
   simp(disch:=omega) only[go_sem]
   refine hK _ (aB ?_)
   refine iTd (ySq (yRg [0,1,2,3,8,9,10] (aH ok95 aO) fun K hK=>?_))
   simp(disch:=omega) only[go_sem,hds,hd1,U2]
   refine hK _ (aB ?_)
   refine yRn [0,1,2,3,8,9,10] fun K hK=>?_
   simp(disch:=omega) only[go_sem,ek]
   refine hK _ ?_
   exact hQ _ _ (by omega)
  simp only[Bool.not_true,Bool.false_eq_true,if_false]at hd1 hk1
  subst hd1;subst hk1
  refine ySq (yRn [35,0,1,2,3,8,9,10] fun K hK=>?_)
  simp(disch:=omega) only[go_sem]
  refine hK _ (aB ?_)
  exact iFd (ySk (hQ _ _ (by omega)))
set_option maxHeartbeats 1000000 in
theorem cJo {id n a b k L nx0 cx0:Nat} {gg wb wp:Bool} {d:Array T16} {Q:Exit→S→Prop} {pv pv2:Nat} {ht ht2:Sort.Hint} {d2:Array T16} (hd2:(if ht=Sort.Hint.decreasing then Sort.reverseRange d a b else d)=d2) (hpv2:(if ht=Sort.Hint.decreasing then(b-1)-(pv-a)else pv)=pv2) (hht2:(if ht=Sort.Hint.decreasing then Sort.Hint.increasing else ht)=ht2) (hpa:a≤pv) (hpb:pv<b) (hds:d.size=n) (hab:a<b) (hbn:b≤n) (hbig:n≤1000000) (hid:id<cx0)
  (hQ: ∀n1 c1,id<c1→Q .normal {fr:=[(0,.os id 0 n 1 gg),(1,.i (a:Int)),(2,.i (b:Int)),(3,.i (k:Int)),(8,.b wb),(9,.b wp),(10,.i (L:Int)),(11,.i (pv2:Int)),(12,.i (gM ht2))],hp:=upd (fun _=>none) id (.cells (cA d2) true),nx:=n1,cx:=c1}):
  Awp Tryz.prog GLh Tryz.f112.ntmps (cl (cr (cr (cr (cr (cr (cl (cl (cl (cr (cr (aE Tryz.f112)))))))))))) {fr:=[(0,.os id 0 n 1 gg),(1,.i (a:Int)),(2,.i (b:Int)),(3,.i (k:Int)),(8,.b wb),(9,.b wp),(10,.i (L:Int)),(11,.i (pv:Int)),(12,.i (gM ht))],hp:=upd (fun _=>none) id (.cells (cA d) true),nx:=nx0,cx:=cx0} Q:=by
  cases ht
  ·simp only[reduceCtorEq,if_false]at hd2 hpv2 hht2
   subst hd2;subst hpv2;subst hht2
   refine ySq (yRn [50,0,1,2,3,8,9,10,11,12] fun K hK=>?_)
   simp(disch:=omega) only[go_sem,gM,decide_false]
   refine hK _ (aB ?_)
   exact iFd (ySk (hQ _ _ (by omega)))
  ·simp only[reduceCtorEq,if_false]at hd2 hpv2 hht2
   subst hd2;subst hpv2;subst hht2
   refine ySq (yRn [50,0,1,2,3,8,9,10,11,12] fun K hK=>?_)
   simp(disch:=omega) only[go_sem,gM,decide_false]
   refine hK _ (aB ?_)
   exact iFd (ySk (hQ _ _ (by omega)))
  simp only[if_true]at hd2 hpv2 hht2
  subst hht2
  have ep:(b:Int)-1-((pv:Int)-(a:Int))=(pv2:Int):=by omega
  refine ySq (yRn [50,0,1,2,3,8,9,10,11,12] fun K hK=>?_)
  simp(disch:=omega) only[go_sem,gM,decide_true]
  refine hK _ (aB ?_)
  refine gLc rfl (fun h=>?_) (fun h=>?_)
  ·refine yDr (ySq (yRg [0,1,2,3,8,9,10,11] (aH ok97 aO) fun K hK=>?_))
   simp(disch:=omega) only[go_sem,hds,hd2,U2]
   refine hK _ (aB ?_)
   refine ySq (yRn [0,1,2,3,8,9,10,11] fun K hK=>?_)
   simp(disch:=omega) only[go_sem,ep]
   refine hK _ (aB ?_)
   refine yRn [0,1,2,3,8,9,10,11,12] fun K hK=>?_
   simp(disch:=omega) only[go_sem]
   refine hK _ ?_
   exact hQ _ _ (by omega)
  refine yDr ?_
  cases h
set_option maxHeartbeats 1000000 in
theorem cJp {id n a b k L nx0 cx0:Nat} {gg wb wp:Bool} {d:Array T16} {Q:Exit→S→Prop} {pv:Nat} {ht:Sort.Hint} {d3:Array T16} {ok:Bool} (hpi:(if(wb&&wp&&decide (ht=Sort.Hint.increasing))=true then Sort.partialInsertionSort ltN d a b else(d,false))=(d3,ok)) (hds:d.size=n) (hab:a<b) (hbn:b≤n) (hbig:n≤1000000) (hid:id<cx0)
  (hQ: ∀n1 c1,id<c1→ok=false→Q .normal {fr:=[(0,.os id 0 n 1 gg),(1,.i (a:Int)),(2,.i (b:Int)),(3,.i (k:Int)),(8,.b wb),(9,.b wp),(10,.i (L:Int)),(11,.i (pv:Int))],hp:=upd (fun _=>none) id (.cells (cA d3) true),nx:=n1,cx:=c1})
  (hQr: ∀fr n1 c1,id<c1→ok=true→Q .ret {fr:=fr,hp:=upd (fun _=>none) id (.cells (cA d3) true),nx:=n1,cx:=c1}):
  Awp Tryz.prog GLh Tryz.f112.ntmps (cl (cr (cr (cr (cr (cr (cr (cl (cl (cl (cr (cr (aE Tryz.f112))))))))))))) {fr:=[(0,.os id 0 n 1 gg),(1,.i (a:Int)),(2,.i (b:Int)),(3,.i (k:Int)),(8,.b wb),(9,.b wp),(10,.i (L:Int)),(11,.i (pv:Int)),(12,.i (gM ht))],hp:=upd (fun _=>none) id (.cells (cA d) true),nx:=nx0,cx:=cx0} Q:=by
  cases wb
  ·simp only[Bool.false_and,Bool.false_eq_true,if_false,Prod.mk.injEq]at hpi
   obtain⟨rfl,rfl⟩:=hpi
   refine ySq (yRn [68,0,1,2,3,8,9,10,11] fun K hK=>?_)
   simp(disch:=omega) only[go_sem,gM]
   refine hK _ (aB ?_)
   exact iFd (ySk (hQ _ _ (by omega) rfl))
  cases wp
  ·simp only[Bool.and_false,Bool.false_and,Bool.false_eq_true,if_false,Prod.mk.injEq]at hpi
   obtain⟨rfl,rfl⟩:=hpi
   refine ySq (yRn [68,0,1,2,3,8,9,10,11] fun K hK=>?_)
   simp(disch:=omega) only[go_sem,gM]
   refine hK _ (aB ?_)
   exact iFd (ySk (hQ _ _ (by omega) rfl))
  cases ht
  ·simp only[Bool.and_true,Bool.and_false,reduceCtorEq,decide_false,Bool.false_eq_true,if_false,Prod.mk.injEq]at hpi
   obtain⟨rfl,rfl⟩:=hpi
   refine ySq (yRn [68,0,1,2,3,8,9,10,11] fun K hK=>?_)
   simp(disch:=omega) only[go_sem,gM,decide_false]
   refine hK _ (aB ?_)
   exact iFd (ySk (hQ _ _ (by omega) rfl))
  ·simp only[Bool.and_true,decide_true,if_true]at hpi
   refine ySq (yRn [68,0,1,2,3,8,9,10,11] fun K hK=>?_)
   simp(disch:=omega) only[go_sem,gM,decide_true]
   refine hK _ (aB ?_)
   refine gLc rfl (fun h=>?_) (fun h=>?_)
   ·refine yDr (ySq (yRg [72,0,1,2,3,8,9,10,11] (aH ok98 aO) fun K hK=>?_))
    simp(disch:=omega) only[go_sem,hds,hpi,U2]
    refine hK _ (aB ?_)
    refine gLc rfl (fun h=>?_) (fun h=>?_)
    ·exact yDr (aS rfl (hQr _ _ _ (by omega) h))
    exact yDr (ySk (hQ _ _ (by omega) (by simpa using h)))
   refine yDr ?_
   cases h
  simp only[Bool.and_true,Bool.and_false,reduceCtorEq,decide_false,Bool.false_eq_true,if_false,Prod.mk.injEq]at hpi
  obtain⟨rfl,rfl⟩:=hpi
  refine ySq (yRn [68,0,1,2,3,8,9,10,11] fun K hK=>?_)
  simp(disch:=omega) only[go_sem,gM,decide_false]
  refine hK _ (aB ?_)
  exact iFd (ySk (hQ _ _ (by omega) rfl))
set_option maxHeartbeats 1000000 in
theorem cJq {id n a b k L nx0 cx0:Nat} {gg wb wp:Bool} {d:Array T16} {Q:Exit→S→Prop} {pv:Nat} {u:Bool} (hu:(decide (a>0)&& !ltN d[a-1]! d[pv]!)=u) (hpb:pv<b) (hds:d.size=n) (hab:a<b) (hbn:b≤n) (hbig:n≤1000000) (hid:id<cx0)
  (hQ: ∀n1 c1,id<c1→Q .normal {fr:=[(87,.b u),(0,.os id 0 n 1 gg),(1,.i (a:Int)),(2,.i (b:Int)),(3,.i (k:Int)),(8,.b wb),(9,.b wp),(10,.i (L:Int)),(11,.i (pv:Int))],hp:=upd (fun _=>none) id (.cells (cA d) true),nx:=n1,cx:=c1}):
  Awp Tryz.prog GLh Tryz.f112.ntmps (cl (cl (cr (cr (cr (cr (cr (cr (cr (cl (cl (cl (cr (cr (aE Tryz.f112))))))))))))))) {fr:=[(0,.os id 0 n 1 gg),(1,.i (a:Int)),(2,.i (b:Int)),(3,.i (k:Int)),(8,.b wb),(9,.b wp),(10,.i (L:Int)),(11,.i (pv:Int))],hp:=upd (fun _=>none) id (.cells (cA d) true),nx:=nx0,cx:=cx0} Q:=by
  by_cases ha:a>0
  ·have hd1:decide (0<(a:Int))=true:=J5 (by omega)
   have ea:(a:Int)-1=((a-1:Nat):Int):=by omega
   have han:a<n:=by omega
   have hpn:pv<n:=by omega
   obtain⟨v,hv⟩: ∃v,ltN d[a-1]! d[pv]! =v:=⟨_,rfl⟩
   rw[J5 ha,hv,Bool.true_and]at hu
   subst hu
   refine bB (Γ:=bC [(120,.pure true dY)]) (fun k=>if k=12 then 0 else 2) [87,0,1,2,3,8,9,10,11] bZ (aH rC aO) rfl rfl rfl (by kernel_rfl) (fun K hK=>?_)
   simp(disch:=omega) only[go_sem,hd1,ea,hv,U2]
   refine hK _ ?_
   exact hQ _ _ (by omega)
  have hd1:decide (0<(a:Int))=false:=J6 (by omega)
  rw[J6 ha,Bool.false_and]at hu
  subst hu
  refine bB (Γ:=bC [(120,.pure true dY)]) (fun k=>if k=12 then 0 else 2) [87,0,1,2,3,8,9,10,11] bZ (aH rC aO) rfl rfl rfl (by kernel_rfl) (fun K hK=>?_)
  simp(disch:=omega) only[go_sem,hd1]
  refine hK _ ?_
  exact hQ _ _ (by omega)
set_option maxHeartbeats 4000000 in
theorem bVj (N:Nat) (ih:fHs Tryz.prog GLh 112 (dP (zR N))):fHs Tryz.prog GLh 112 (dP (zR (N+1))):=by
 have ok91:bX Tryz.prog GLh 112 (.heap (dP (zR N))):=⟨⟨_,Tryz.func112,rfl,rfl⟩,ih⟩
 refine eS Tryz.func112 (aT rfl) ?_
 intro id off n e gg rest nx xs r ys hg
 unfold zR at hg
 split at hg
 ·rename_i id2 n2 gg2 a0 b0 k0 heq
  simp only[List.cons.injEq,AV.os.injEq]at heq
  obtain⟨⟨rfl,rfl,rfl,rfl,rfl⟩,rfl⟩:=heq
  replace hg:=aJ hg;obtain⟨l,hl,hg⟩:=hg
  replace hg:=aP hg;obtain⟨⟨hn,ha,hab,hbn,hk0,hk1,hbig,hN⟩,hg⟩:=hg
  replace hg:=aSo hg;obtain⟨hB,hg⟩:=hg
  simp only[Option.some.injEq,Prod.mk.injEq]at hg;obtain⟨rfl,rfl⟩:=hg
  have:=dO hl;subst this
  obtain⟨a,rfl⟩:=Int.eq_ofNat_of_zero_le ha
  obtain⟨b,rfl⟩:=Int.eq_ofNat_of_zero_le (show 0≤b0 by omega)
  obtain⟨k,rfl⟩:=Int.eq_ofNat_of_zero_le hk0
  simp only[U2]at*
  obtain⟨d,hd⟩: ∃d,l.toArray=d:=⟨_,rfl⟩
  have hds:d.size=n:=by rw[←hd];simpa using hn
  have hab2:a≤b:=by omega
  have hbn2:b≤n:=by omega
  have hk2:k≤1000:=by omega
  have hN2:b-a<N+1:=by omega
  rw[hd]at hB⊢
  refine⟨J1 rfl,fun hid=>?_⟩
  obtain⟨R,hR⟩: ∃R,Sort.pdq ltN d a b k true true=R:=⟨_,rfl⟩
  rw[hR]
  clear hl hn ha hab hbn hk0 hk1 hN
  refine ySq (yRn [0,1,2,3,8] fun K hK=>?_)
  simp(disch:=omega) only[go_sem]
  refine hK _ (aB ?_)
  refine ySq (yRn [0,1,2,3,8,9] fun K hK=>?_)
  simp(disch:=omega) only[go_sem]
  refine hK _ (aB ?_)
  refine yBl 0 ?_
  refine bR (fun p:SPQ=> {fr:=[(0,.os id 0 n 1 gg),(1,.i p.a),(2,.i p.b),(3,.i p.l),(8,.b p.wb),(9,.b p.wp)],hp:=upd (fun _=>none) id (.cells (cA p.d) true),nx:=0,cx:=p.c}) (fun p=>Sort.pdq ltN p.d p.a p.b p.l p.wb p.wp=R∧p.d.size=n∧p.a≤p.b∧p.b≤n∧p.l≤1000∧p.b-p.a<N+1∧Sort.Below ltN p.a p.b p.d∧id<p.c) (fun p=>p.b-p.a) rfl ⟨⟨a,b,k,true,true,d,_⟩,⟨hR,hds,hab2,hbn2,hk2,hN2,hB,by simp only;omega⟩,bD rfl rfl (U3 _)⟩ ?_
  rintro⟨a,b,k,wb,wp,d,c⟩ ⟨hr,hds,hab,hbn,hk,hN,hB,hc⟩ n0
  simp only at hr hds hab hbn hk hN hB hc⊢
  have ebL:(b:Int)-(a:Int)=((b-a:Nat):Int):=by omega
  refine yBl 1 (ySq (yRn [0,1,2,3,8,9,10] fun K hK=>?_))
  simp(disch:=omega) only[go_sem,ebL]
  refine hK _ (aB ?_)
  refine ySq (ySq (yRn [23,0,1,2,3,8,9,10] fun K hK=>?_))
  simp(disch:=omega) only[go_sem]
  refine hK _ (aB ?_)
  refine gLb rfl (fun h=>?_) (fun h=>?_)
  ·refine yDr ?_
   have h12:b-a≤12:=by omega
   rw[Sort.pdq,J4 h12]at hr
   refine ySq (yRg [] (aH ok93 aO) fun K hK=>?_)
   simp(disch:=omega) only[go_sem,hds,U2]
   refine hK _ (aB ?_)
   exact aS rfl (bI (bN (dF (bN (⟨rfl,by simp only[aV,if_true,hr],rfl,dZ _⟩)))))
  refine yDr ?_
  have h12: ¬b-a≤12:=by omega
  rw[Sort.pdq,J3 h12]at hr
  refine ySk (aB (ySq (ySq (yRn [29,0,1,2,3,8,9,10] fun K hK=>?_))))
  simp(disch:=omega) only[go_sem]
  refine hK _ (aB ?_)
  refine gLb rfl (fun h=>?_) (fun h=>?_)
  ·refine yDr ?_
   have hk0:k=0:=by omega
   rw[J4 hk0]at hr
   refine ySq (yRg [] (aH ok94 aO) fun K hK=>?_)
   simp(disch:=omega) only[go_sem,hds,U2]
   refine hK _ (aB ?_)
   exact aS rfl (bI (bN (dF (bN (⟨rfl,by simp only[aV,if_true,hr],rfl,dZ _⟩)))))
  refine yDr ?_
  have hk0: ¬k=0:=by omega
  rw[J3 hk0]at hr
  obtain⟨d1,hd1⟩: ∃x,(if(!wb)=true then Sort.breakPatterns d a b else d)=x:=⟨_,rfl⟩
  obtain⟨k1,hk1⟩: ∃x,(if(!wb)=true then k-1 else k)=x:=⟨_,rfl⟩
  obtain⟨⟨pv,ht⟩,hch⟩: ∃x,Sort.choosePivot ltN d1 a b=x:=⟨_,rfl⟩
  obtain⟨d2,hd2⟩: ∃x,(if ht=Sort.Hint.decreasing then Sort.reverseRange d1 a b else d1)=x:=⟨_,rfl⟩
  obtain⟨pv2,hpv2⟩: ∃x,(if ht=Sort.Hint.decreasing then(b-1)-(pv-a)else pv)=x:=⟨_,rfl⟩
  obtain⟨ht2,hht2⟩: ∃x,(if ht=Sort.Hint.decreasing then Sort.Hint.increasing else ht)=x:=⟨_,rfl⟩
  obtain⟨⟨d3,ok⟩,hpi⟩: ∃x,(if(wb&&wp&&decide (ht2=Sort.Hint.increasing))=true then Sort.partialInsertionSort ltN d2 a b else(d2,false))=x:=⟨_,rfl⟩
  simp only[hd1,hk1,hch,hd2,hpv2,hht2,hpi]at hr
  have hk1b:k1≤1000:=by rw[←hk1];split<;>omega
  have hab3:a<b:=by omega
  have p1:Sort.PermIn a b d d1:=by rw[←hd1];exact aVs _ (Sort.breakPatterns_holds d a b hab (by omega))
  have s1:d1.size=n:=by rw[p1.1];exact hds
  refine ySk (aB (ySq (cJr hd1 hk1 (by omega) hk hds hab3 hbn hbig (by omega) (fun n1 c1 hc1=>?_))))
  refine aB (ySq (yRg [0,1,2,3,8,9,10,11,12] (aH ok96 aO) fun K hK=>?_))
  simp(disch:=omega) only[go_sem,s1,hch,U2]
  refine hK _ (aB ?_)
  have hcr:=Sort.choosePivot_holds ltN d1 a b hab3
  rw[hch]at hcr
  simp only at hcr
  have p2:Sort.PermIn a b d1 d2:=by rw[←hd2];exact aVs _ (Sort.reverseRange_holds d1 a b hab (by omega))
  have s2:d2.size=n:=by rw[p2.1];exact s1
  refine ySq (cJo hd2 hpv2 hht2 hcr.1 hcr.2 s1 hab3 hbn hbig (by omega) (fun n2 c2 hc2=>?_))
  refine aB ?_
  have hb2:Sort.Below ltN a b d2:=(hB.perm (by omega) p1).perm (by omega) p2
  have hps:=Sort.step_partial Sort.partialInsertionSort_holds qW d2 hab3 (by omega) hb2 ((wb&&wp&&decide (ht2=Sort.Hint.increasing))=true)
  have hpi2:(if _h:(wb&&wp&&decide (ht2=Sort.Hint.increasing))=true then Sort.partialInsertionSort ltN d2 a b else(d2,false))=(d3,ok):=by rw[←hpi];split<;>simp_all
  rw[hpi2]at hps
  have p3:Sort.PermIn a b d2 d3:=hps.1
  have s3:d3.size=n:=by rw[p3.1];exact s2
  have hb3:Sort.Below ltN a b d3:=hb2.perm (by omega) p3
  have hpv:a≤pv2∧pv2<b:=by rw[←hpv2];split<;>omega
  refine ySq ?_
  refine cJp hpi s2 hab3 hbn hbig hc2 (fun n3 c3 hc3 hok=>?_) (fun fr n3 c3 hc3 hok=>by subst hok;rw[J4 rfl]at hr;subst hr;exact(show aLl Tryz.prog Tryz.f112.results.toList (.tup []) id (cA d3) _ from⟨rfl,by simp only[aV,if_true],rfl,dZ _⟩))
  refine aB ?_
  subst hok
  simp only[Bool.false_eq_true,if_false]at hr
  obtain⟨u,hu⟩: ∃u,(decide (a>0)&& !ltN d3[a-1]! d3[pv2]!)=u:=⟨_,rfl⟩
  rw[hu]at hr
  refine ySq (ySq (cJq hu hpv.2 s3 hab3 hbn hbig hc3 (fun n4 c4 hc4=>?_)))
  refine aB ?_
  cases u
  ·obtain⟨⟨mid,ap,d4⟩,hx⟩: ∃x,Sort.partition ltN d3 a b pv2=x:=⟨_,rfl⟩
   obtain⟨g1,g2,hs4,hBa,hBr,hleft,hright⟩:=Sort.round_part qW (Sort.partition_holds ltN) hpv.1 hpv.2 (by omega) hb3 hx
   have s4:d4.size=n:=by rw[hs4];exact s3
   have hpn:pv2<n:=by omega
   simp only[Bool.false_eq_true,if_false,hx,dif_pos (And.intro g1 g2)]at hr
   have eL:(mid:Int)-(a:Int)=((mid-a:Nat):Int):=by omega
   have eR:(b:Int)-(mid:Int)=((b-mid:Nat):Int):=by omega
   have e8:((b-a:Nat):Int).tdiv 8=(((b-a)/8:Nat):Int):=by rw[Int.tdiv_eq_ediv_of_nonneg (by omega)];omega
   have em:(mid:Int)+1=((mid+1:Nat):Int):=by omega
   have hd1:decide ((((b-a)/8:Nat):Int)≤((mid-a:Nat):Int))=decide (mid-a≥(b-a)/8):=decide_eq_decide.2 (by omega)
   have hd2:decide ((((b-a)/8:Nat):Int)≤((b-mid:Nat):Int))=decide (b-mid≥(b-a)/8):=decide_eq_decide.2 (by omega)
   refine gLc rfl (fun h=>?_) (fun h=>?_)
   ·cases h
   refine ySk (aB (ySq (yRg [0,1,2,3,10,14,15] (aH fFv aO) fun K hK=>?_)))
   simp(disch:=omega) only[go_sem,s3,hx,U2]
   refine hK _ (aB ?_)
   refine ySq (yRn [0,1,2,3,9,10,14] fun K hK=>?_)
   simp(disch:=omega) only[go_sem]
   refine hK _ (aB ?_)
   refine ySq (yRn [0,1,2,3,9,10,14,16,17] fun K hK=>?_)
   simp(disch:=omega) only[go_sem,eL,eR]
   refine hK _ (aB ?_)
   refine ySq (yRn [0,1,2,3,9,14,16,17,18] fun K hK=>?_)
   simp(disch:=omega) only[go_sem,e8]
   refine hK _ (aB ?_)
   refine ySq (yRn [113,0,1,2,3,9,14,16,17,18] fun K hK=>?_)
   simp(disch:=omega) only[go_sem]
   refine hK _ (aB ?_)
   refine gLb rfl (fun h=>?_) (fun h=>?_)
   ·refine yDr ?_
    have hlr:mid-a<b-mid:=by omega
    rw[J4 hlr]at hr
    obtain⟨q1,q2⟩:=Sort.pdq_sorts ltN qW d4 a mid k1 true true g1 (by omega) hBa
    obtain⟨d5,hd5⟩: ∃x,Sort.pdq ltN d4 a mid k1 true true=x:=⟨_,rfl⟩
    rw[hd5]at hr q1 q2
    have s5:d5.size=n:=by rw[q1.1];exact s4
    have hB5:=(hleft d5 q1 q2).1
    refine ySq (yRn [0,1,2,3,8,9,14] fun K hK=>?_)
    simp(disch:=omega) only[go_sem,hd1]
    refine hK _ (aB ?_)
    refine ySq (yRg [0,2,3,8,9,14] (aH ok91 aO) fun K hK=>?_)
    simp(disch:=omega) only[go_sem,s4,hBa,hd5,U2]
    refine hK _ (aB ?_)
    refine yRn [0,1,2,3,8,9] fun K hK=>?_
    simp(disch:=omega) only[go_sem,em]
    refine hK _ (bU (bT ?_))
    refine⟨⟨mid+1,b,k1,decide (mid-a≥(b-a)/8),ap,d5,_⟩,⟨hr,s5,by simp only;omega,by simp only;omega,by simp only;omega,by simp only;omega,hB5,by simp only;omega⟩,by simp only;omega,⟨fun _=> .inr rfl,bS (by simp(disch:=omega) only[aV,↓reduceIte,eq_self]) fKa,U3 _⟩⟩
   refine yDr ?_
   have hlr: ¬mid-a<b-mid:=by omega
   rw[J3 hlr]at hr
   obtain⟨q1,q2⟩:=Sort.pdq_sorts ltN qW d4 (mid+1) b k1 true true (by omega) (by omega) hBr
   obtain⟨d5,hd5⟩: ∃x,Sort.pdq ltN d4 (mid+1) b k1 true true=x:=⟨_,rfl⟩
   rw[hd5]at hr q1 q2
   have s5:d5.size=n:=by rw[q1.1];exact s4
   have hB5:=(hright d5 q1 q2).1
   refine ySq (yRn [0,1,2,3,8,9,14] fun K hK=>?_)
   simp(disch:=omega) only[go_sem,hd2]
   refine hK _ (aB ?_)
   refine ySq (yRg [0,1,3,8,9,14] (aH ok91 aO) fun K hK=>?_)
   simp(disch:=omega) only[go_sem,em,s4,hBr,hd5,U2]
   refine hK _ (aB ?_)
   refine yRn [0,1,2,3,8,9] fun K hK=>?_
   simp(disch:=omega) only[go_sem]
   refine hK _ (bU (bT ?_))
   refine⟨⟨a,mid,k1,decide (b-mid≥(b-a)/8),ap,d5,_⟩,⟨hr,s5,by simp only;omega,by simp only;omega,by simp only;omega,by simp only;omega,hB5,by simp only;omega⟩,by simp only;omega,⟨fun _=> .inr rfl,bS (by simp(disch:=omega) only[aV,↓reduceIte,eq_self]) fKa,U3 _⟩⟩
  obtain⟨⟨mid,d4⟩,hx⟩: ∃x,Sort.partitionEqual ltN d3 a b pv2=x:=⟨_,rfl⟩
  simp only[Bool.and_eq_true,decide_eq_true_eq,Bool.not_eq_true']at hu
  obtain⟨g1,g2,hs4,hB4,_⟩:=Sort.round_eq qW (Sort.partitionEqual_holds ltN) hu.1 hpv.1 hpv.2 (by omega) hb3 hu.2 hx
  have s4:d4.size=n:=by rw[hs4];exact s3
  have hpn:pv2<n:=by omega
  simp only[if_true,hx,dif_pos (And.intro g1 g2)]at hr
  refine iT (ySq (yRg [0,2,3,8,9,13] (aH fFw aO) fun K hK=>?_))
  simp(disch:=omega) only[go_sem,s3,hx,U2]
  refine hK _ (aB ?_)
  refine ySq (yRn [0,1,2,3,8,9] fun K hK=>?_)
  simp(disch:=omega) only[go_sem]
  refine hK _ (aB ?_)
  refine yEx 1 (aY (bE (bT ?_)))
  refine⟨⟨mid,b,k1,wb,wp,d4,_⟩,⟨hr,s4,by simp only;omega,by simp only;omega,by simp only;omega,by simp only;omega,hB4,by simp only;omega⟩,by simp only;omega,⟨fun _=> .inr rfl,bS (by simp(disch:=omega) only[aV,↓reduceIte,eq_self]) fKa,U3 _⟩⟩
 cases hg
end Go.AX.D5

namespace Go.AX.D5
open Go Go.Proofs Go.RowKit Go.Shelf
attribute [local go_sem] Oper.semAt_some
def rI {α:Type} (f:Nat→α) (k:Nat):List α:=(List.range k).map f
theorem eNe {α:Type} (f:Nat→α) (k:Nat):rI f (k+1)=rI f k++[f k]:=by simp[rI,List.range_succ]
theorem eOr {α:Type} (f:Nat→α) (k:Nat):(rI f k).length=k:=by simp[rI]
theorem eSt (zs:List Int):rI (fun j=>zs[j]?.getD 0) zs.length=zs:=by
 apply List.ext_getElem
 ·simp[rI]
 intro i h1 h2
 simp[rI,h2]
theorem eQq (zs:List Int) {k:Nat} (hk:k≤zs.length):rI (fun j=>zs[j]?.getD 0) k=zs.take k:=by
 apply List.ext_getElem
 ·simp[rI,hk]
 intro i h1 h2
 have:i<zs.length:=by simp[rI]at h1;omega
 simp[rI,this]
set_option maxRecDepth 100000 in
set_option maxHeartbeats 2000000 in
theorem eXr (F:Fence) (n:Nat) (h7:F.fn 110) (hro:F.round=none) (hn:1≤n) (l Bs ob n₀ b off len cap:Nat) (zs:List Int) (hreach:len*8≤140737488351232) (hb:b<n₀) (J Jx:List Int→World→Prop)
  (hY: ∀pre x W,J pre W→pre.length<len→YieldAt F (n-1) Tryz.prog l #[.int .u16 x] W fun e W'=>
   (e=.returned (.bool true)∧J (pre++[x]) W'∧Below n₀ W W')∨(e=.returned (.bool false)∧Jx (pre++[x]) W'))
  (W:World) (hBs:W.cell? ⟨Bs,ob,none⟩=some (.slice (some ⟨b,off,none⟩) len cap)) (hc: ∀j,j<len→W.cell? ⟨b,off+j,none⟩=some (.int .u16 (zs[j]?.getD 0))) (h0:J [] W):
  CallsIn F n Tryz.prog 110 #[.func (.yield l) #[] #[],.pointer (some ⟨Bs,ob,none⟩)] W fun e W'=>(∃v,e=.returned v)∧
   ((∃ys,ys=rI (fun j=>zs[j]?.getD 0) len∧J ys W')∨(∃pre,(∃k,k≤len∧pre=rI (fun j=>zs[j]?.getD 0) k)∧Jx pre W')):=by
 refine callsIn_of_wp Tryz.func110 rfl h7 ?_ hro
 simp only[Tryz.ntmps110,List.size_toArray,List.length_cons,List.length_nil,Nat.reduceAdd,Nat.reduceSub,Array.replicate_succ,Array.replicate_zero,List.push_toArray,List.append_toArray,List.nil_append,List.cons_append]
 gi_wp2
 gi_loopw [7] (fun i wr=> ∃k:Nat,k≤len∧i=.int .i64 k∧J (rI (fun j=>zs[j]?.getD 0) k) wr∧Below n₀ W wr)
  (fun i _=>len-(intOf i).toNat)
 case atStart=>exact⟨0,Nat.zero_le _,rfl,h0,Below.refl _ _⟩
 case round=>
  obtain⟨k,hk,rfl,hJs,hnx⟩:=hrel
  have hcx:k<len→wr.cell? ⟨b,off+k,none⟩=some (.int .u16 (zs[k]?.getD 0)):=fun h=>(hnx.cell (p:=⟨b,off+k,none⟩) hb).trans (hc k h)
  by_cases hlt:k<len
  ·obtain⟨fn,tmps,assign,body,hy,hR⟩:=hY _ (zs[k]?.getD 0) wr hJs (by rw[eOr];exact hlt)
   have hcx':=hcx hlt
   gi_wp2
   refine hR.mono ?_
   rintro e W3 (⟨rfl,hJ3,hk3⟩|⟨rfl,hJx3⟩)
   ·gi_wp2
    go_roundw
    case rel=>exact⟨k+1,by omega,by simp,by rw[eNe];exact hJ3,hnx.trans hk3⟩
    case measure=>simp[intOf];omega
   gi_wp2
   exact bodyPost_ret (results_none rfl _ _ _) rfl (⟨⟨_,rfl⟩,.inr ⟨_,⟨k+1,by omega,(eNe _ _).symm⟩,hJx3⟩⟩)
  obtain rfl:k=len:=by omega
  gi_wp2
  go_end0
  exact⟨⟨_,rfl⟩,.inl ⟨_,rfl,hJs⟩⟩
def eQh (n₀:Nat) (W:World) (sv:Value) (zs:List Int):Prop:=
 ((sv=.slice none 0 0∨∃a cap,sv=.slice (some a) 0 cap)∧zs=[])∨∃b off cap,sv=.slice (some ⟨b,off,none⟩) zs.length cap∧b<n₀∧∀j,j<zs.length→W.cell? ⟨b,off+j,none⟩=some (.int .u16 (zs[j]?.getD 0))
theorem eQh.below {n₀:Nat} {A B:World} (h:Below n₀ A B) {sv:Value} {zs:List Int}:eQh n₀ A sv zs→eQh n₀ B sv zs
 | .inl e=> .inl e
 | .inr ⟨b,off,cap,e,hb,hc⟩=> .inr ⟨b,off,cap,e,hb,fun j hj=>(h.cell (p:=⟨b,off+j,none⟩) hb).trans (hc j hj)⟩
set_option maxRecDepth 100000 in
set_option maxHeartbeats 1000000 in
theorem eLx (F:Fence) (n:Nat) (h7:F.fn 110) (hro:F.round=none) (l Bs ob:Nat) (a:Option Addr) (cap:Nat) (J:List Int→World→Prop) (W:World) (hBs:W.cell? ⟨Bs,ob,none⟩=some (.slice a 0 cap)) (h0:J [] W):
  CallsIn F n Tryz.prog 110 #[.func (.yield l) #[] #[],.pointer (some ⟨Bs,ob,none⟩)] W fun e W'=>(∃v,e=.returned v)∧J [] W':=by
 refine callsIn_of_wp Tryz.func110 rfl h7 ?_ hro
 simp only[Tryz.ntmps110,List.size_toArray,List.length_cons,List.length_nil,Nat.reduceAdd,Nat.reduceSub,Array.replicate_succ,Array.replicate_zero,List.push_toArray,List.append_toArray,List.nil_append,List.cons_append]
 gi_wp2
 gi_loopw [7] (fun i wr=>i=.int .i64 0∧J [] wr) (fun _ _=>0)
 case atStart=>exact⟨rfl,h0⟩
 case round=>
  obtain⟨rfl,hJs⟩:=hrel
  gi_wp2
  go_end0
  exact⟨⟨_,rfl⟩,hJs⟩
theorem eSa (F:Fence) (n:Nat) (h7:F.fn 110) (hro:F.round=none) (hn:1≤n) (Bs ob n₀:Nat) (sv:Value) (zs:List Int) (hreach:zs.length*8≤140737488351232) (w:World) (hBs:Bs<w.heap.size) (hn₀:n₀≤w.heap.size)
  (hc:w.cell? ⟨Bs,ob,none⟩=some sv) (hI:eQh n₀ w sv zs):
  SeqStopsK F n Tryz.prog 110 #[.pointer (some ⟨Bs,ob,none⟩)] (fun x:Int=> #[Value.int .u16 x]) (Below n₀) (fun ys=>ys=zs) (fun pre=>pre <+:zs) zs.length w:=fun l J Jx W hW _ _ hY h0=>by
 have hc':=(hW.cell (p:=⟨Bs,ob,none⟩) hBs).trans hc
 rcases hI.below (hW.mono hn₀)with⟨rfl|⟨a,cap,rfl⟩,rfl⟩|⟨b,off,cap,rfl,hb,hcs⟩
 ·exact(eLx F n h7 hro l Bs ob _ _ J W hc' h0).mono fun e W' ⟨he,hj⟩=>⟨he,.inl ⟨_,rfl,hj⟩⟩
 ·exact(eLx F n h7 hro l Bs ob _ _ J W hc' h0).mono fun e W' ⟨he,hj⟩=>⟨he,.inl ⟨_,rfl,hj⟩⟩
 ·refine(eXr F n h7 hro hn l Bs ob n₀ b off zs.length cap zs hreach hb J Jx hY W hc' hcs h0).mono ?_
  rintro e W' ⟨he,⟨ys,rfl,hj⟩|⟨pre,⟨k,hk,rfl⟩,hj⟩⟩
  ·exact⟨he,.inl ⟨_,eSt zs,hj⟩⟩
  ·exact⟨he,.inr ⟨_,by rw[eQq zs hk];exact List.take_prefix _ _,hj⟩⟩
theorem fCh:(Tryz.prog.info? 24).map (fun i=>(i.zero,i.size,i.bytes))=some (some (.int .u16 0),1,2):=by kernel_rfl
set_option maxRecDepth 100000 in
set_option maxHeartbeats 2000000 in
theorem fEe (F:Fence) (n:Nat) (h3:F.fn 111) (h5:F.fn 110) (hro:F.round=none) (hn:3≤n) (Bs ob:Nat) (sv:Value) (zs:List Int) (hlen:zs.length≤1000000) (w:World) (hBs:Bs<w.heap.size)
  (hc:w.cell? ⟨Bs,ob,none⟩=some sv) (hI:eQh w.heap.size w sv zs):
  CallsIn F n Tryz.prog 111 #[.slice none 0 0,.func (.func 110) #[] #[.pointer (some ⟨Bs,ob,none⟩)]] w fun e W'=> ∃v,e=.returned v∧W'.ownsRow w.heap.size 24 1 v zs.length (zs.map (Value.int .u16))∧(v=.slice none 0 0↔zs=[])∧Below w.heap.size w W':=by
 have h1:1≤n:=by omega
 obtain⟨i0,hi,hz0,hz1,hz2⟩:=info_parts fCh
 refine callsIn_of_wp_marks Tryz.func111 rfl h3 ?_ hro
 simp only[Tryz.ntmps111,List.size_toArray,List.length_cons,List.length_nil,Nat.reduceAdd,Nat.reduceSub,Array.replicate_succ,Array.replicate_zero,List.push_toArray,List.append_toArray,List.nil_append,List.cons_append]
 gi_wp2
 have bO:=Boxed.new w 113 (.slice none 0 0)
 have hB0:Below w.heap.size w (w.alloc (.cells #[.slice none 0 0] 113)):=(Below.refl _ w).alloc (Nat.le_refl _) _
 refine wpIn_rangeFunc_ownG hro h1 (gf:=110) (lb:= #[.pointer (some ⟨Bs,ob,none⟩)]) rfl h5 (enters_of Tryz.func110 (by kernel_rfl) rfl)
  (eSa F (n-1) h5 hro (by omega) Bs ob w.heap.size sv zs (by omega) _ (by simp;omega) (by simp) ((hB0.cell (p:=⟨Bs,ob,none⟩) hBs).trans hc) (hI.below hB0)) belowK_t (belowK_b (by simp)) (Below.refl _ _) (fun _=>rfl)
  (fun pre W=>(∃v,Boxed W w.heap.size 113 v∧W.ownsRow w.heap.size 24 1 v pre.length (pre.map (Value.int .u16))∧(v=.slice none 0 0↔pre=[]))∧Below w.heap.size w W)
  (fun _ _ _=>False)
  (OwnFrom.and (Own.from (holdsRow_own w.heap.size w.heap.size 113 24 1 (fun pre=>pre.length) (fun pre=>pre.map (Value.int .u16)) (fun pre v=>v=.slice none 0 0↔pre=[])) _) (ownFrom_below (Nat.le_refl _) (by simp)))
  (fun _ _ _ _ _ hs _ _=>hs)
  ⟨⟨_,bO,World.ownsRow_nil _ _ _ _,by simp⟩,hB0⟩
  (fun x=> {tmps:= #[.slice none 0 0,.func (.func 110) #[] #[.pointer (some ⟨Bs,ob,none⟩)],.pointer (some ⟨w.heap.size,0,none⟩),undef,.slice none 0 0,.int .u16 x,.func (.func 110) #[] #[.pointer (some ⟨Bs,ob,none⟩)],.int .u16 x,undef,undef,undef,undef,undef],defers:=[]}) ?assign ?body ?done ?stop
 case assign=>
  intro l x W K hK
  gi_wp2
  exact hK
 case body=>
  rintro l pre x W ⟨⟨v,hv,hrow,hnil⟩,hB⟩ hlt
  have hc:=hv.cell
  gi_wp2_with (gi_at_builtin;refine wpListIn_append_own _ rfl _ _ 113 rfl w.heap.size 24 i0 (.int .u16 0) 1 2 Tryz.underlying113 hi hz0 hz1 hz2 rfl (by decide) _ _ _ rfl (hrow.alloc _) ⟨W.heap.size,0,none⟩ 1 1 [.int .u16 x] rfl rfl (cell_one_new _ _ _) (by simp[Value.oneCell']) (by simp[maxLen];omega) (by omega) (by have:=hB.size;simp;omega) ?_;intro v' w1 hown' hgrow _;obtain⟨g',cap',rfl⟩:=ownsRow_succ hown';obtain⟨hv1,hv2,hr2,hk2,hb2⟩:=hv.appended (by decide) hrow hB.size (Nat.le_refl _) hown' hgrow;have hc1:=hv1.cell;have hf1:=hv1.frozen)
  exact⟨hk2.from _,hb2,⟨_,hv2,by simpa using hr2,by simp⟩,hB.trans hb2⟩
 case done=>
  rintro D ys W hD rfl ⟨⟨v,hv,hrow,hnil⟩,hB⟩ hK
  have hc:=hv.cell
  gi_wp2
  refine⟨by simp,.inl ⟨_,_,rfl,run_takeDeferred hK,?_⟩⟩
  exact⟨_,results_tmp rfl _ _ _,v,rfl,ownsRow_putObj hrow _ hK rfl,hnil,hB.trans (belowK_b (w:=w) (Nat.le_refl _) W D _ _ (by simp at hD;omega) hK rfl rfl)⟩
 case stop=>
  rintro D c pre W _ _ h _
  exact h.elim
set_option maxHeartbeats 1000000 in
theorem eZi (F:Fence) (n:Nat) (h8:F.fn 108) (h3:F.fn 111) (h5:F.fn 110) (hro:F.round=none) (hn:4≤n) (Bs ob:Nat) (sv:Value) (zs:List Int) (hlen:zs.length≤1000000) (w:World) (hBs:Bs<w.heap.size)
  (hc:w.cell? ⟨Bs,ob,none⟩=some sv) (hI:eQh w.heap.size w sv zs):
  CallsIn F n Tryz.prog 108 #[.func (.func 110) #[] #[.pointer (some ⟨Bs,ob,none⟩)]] w fun e W'=> ∃v,e=.returned v∧W'.ownsRow w.heap.size 24 1 v zs.length (zs.map (Value.int .u16))∧(v=.slice none 0 0↔zs=[])∧Below w.heap.size w W':=by
 have h1:1≤n:=by omega
 refine callsIn_of_wp Tryz.func108 rfl h8 ?_ hro
 simp only[Tryz.ntmps108,List.size_toArray,List.length_cons,List.length_nil,Nat.reduceAdd,Nat.reduceSub,Array.replicate_succ,Array.replicate_zero,List.push_toArray,List.append_toArray,List.nil_append,List.cons_append]
 gi_wp2_with (gi_at_call 111;refine(fEe F (n-1) h3 h5 hro (by omega) Bs ob sv zs hlen _ hBs hc hI).mono ?_;rintro e w' ⟨v,rfl,hrow,hnil,hb⟩)
 go_ret
 exact⟨v,rfl,hrow,hnil,hb⟩
theorem eQu (Bs ob:Nat) (sv:Value) (zs:List Int) (hlen:zs.length≤1000000) (w:World) (hBs:Bs<w.heap.size) (hc:w.cell? ⟨Bs,ob,none⟩=some sv) (hI:eQh w.heap.size w sv zs):
  Calls Tryz.prog 108 #[.func (.func 110) #[] #[.pointer (some ⟨Bs,ob,none⟩)]] w fun e W'=> ∃v,e=.returned v∧W'.ownsRow w.heap.size 24 1 v zs.length (zs.map (Value.int .u16))∧(v=.slice none 0 0↔zs=[])∧Below w.heap.size w W':=
 callsIn_wide.1 (eZi Fence.wide 4 trivial trivial trivial rfl (Nat.le_refl _) Bs ob sv zs hlen w hBs hc hI)
set_option maxHeartbeats 1000000 in
theorem eXp (F:Fence) (n:Nat) (h5:F.fn 107) (hro:F.round=none) (a:Option Addr) (len cap:Nat) (w:World):
  CallsIn F n Tryz.prog 107 #[.slice a len cap] w fun e w'=>e=.returned (.func (.func 110) #[] #[.pointer (some ⟨w.heap.size,0,none⟩)])∧w'=w.alloc (.cells #[.slice a len cap] 113):=by
 refine callsIn_of_wp Tryz.func107 rfl h5 ?_ hro
 simp only[Tryz.ntmps107,List.size_toArray,List.length_cons,List.length_nil,Nat.reduceAdd,Nat.reduceSub,Array.replicate_succ,Array.replicate_zero,List.push_toArray,List.append_toArray,List.nil_append,List.cons_append]
 gi_wp2
 go_ret
 exact⟨rfl,rfl⟩
theorem eQk (a:Option Addr) (len cap:Nat) (w:World):
  Calls Tryz.prog 107 #[.slice a len cap] w fun e w'=>e=.returned (.func (.func 110) #[] #[.pointer (some ⟨w.heap.size,0,none⟩)])∧w'=w.alloc (.cells #[.slice a len cap] 113):=
 callsIn_wide.1 (eXp Fence.wide 1 trivial rfl a len cap w)
end Go.AX.D5

namespace Go.AX.D5
open Go Go.Proofs
def eTv:List AV→Option AV
 |[.sl n xs]=>some (.fn 110 [.rp [.sl n xs]])
 |_=>none
theorem eXq (n:Nat) (xs:List AV):eTv [.sl n xs]=some (.fn 110 [.rp [.sl n xs]]):=(rfl)
theorem fBs {σ:Nat→Loc} {I:Nat→Prop} {w:World} {n:Nat} {xs:List AV} {v:Value} (h:Rel σ I w (.sl n xs) v): ∃a cap,v=.slice a n cap:=by
 cases h with
 |sl _ _ blk o cap f=>exact⟨_,_,rfl⟩
 |slnil=>exact⟨_,_,rfl⟩
 |slzero a=>exact⟨_,_,rfl⟩
theorem eXo:fHn Tryz.prog GLh 107 eTv:=by
 intro σ I w nx args vals r h1 h2 h3 hs hr hg
 unfold eTv at hg
 split at hg
 ·rename_i n xs
  obtain rfl:=J0 hg
  have hr0:=hr 0 (by simp)
  obtain⟨a,cap,hv⟩:=fBs hr0
  have hvals:vals= #[.slice a n cap]:=by
   apply Array.ext
   ·rw[hs];rfl
   intro i h1 h2
   obtain rfl:i=0:=by simp at h2;omega
   have:vals.getD 0 undef=vals[0]:=by simp[Array.getD,h1]
   rw[←this];simpa using hv
  rw[hvals]
  refine(eQk a n cap w).mono ?_
  rintro e w' ⟨rfl,rfl⟩
  have hold: ∀k,k<w.heap.size→(w.alloc (.cells #[.slice a n cap] 113)).heap[k]? =w.heap[k]?:=fun k hk=>RowKit.Below.heap_alloc _ _ k hk
  refine⟨_,σ,fun k=>I k∨k=w.heap.size,rfl,rfl,rfl,rfl,by simp,hold,fun _ _=>rfl,fun k hk=>hk.imp id (fun e=>by omega),fun k hk=>?_,?_⟩
  ·rcases hk with hk|rfl
   ·have:=h2 k hk;simp;omega
   simp
  refine .fn 110 [.rp [.sl n xs]] _ rfl fun i hi=>?_
  obtain rfl:i=0:=by simp at hi;omega
  refine .rp [.sl n xs] w.heap.size 0 (fun _=> .slice a n cap) (.inr rfl) (fun j hj=>?_) (fun j hj=>?_) (fun j hj=>?_)
  ·obtain rfl:j=0:=by simp at hj;omega
   exact(Boxed.new w 113 (.slice a n cap)).cell
  ·obtain rfl:j=0:=by simp at hj;omega
   rfl
  obtain rfl:j=0:=by simp at hj;omega
  have h5:Rel σ I w (.sl n xs) (.slice a n cap):=by have:=hr0;rw[hv]at this;exact this
  exact h5.mono (fun _ _=>rfl) (fun _ h=> .inl h) (fun k hk=>hold k (h2 k hk))
 cases hg
theorem ok84:bX Tryz.prog GLh 107 (.pure false eTv):=⟨⟨_,Tryz.func107,rfl,rfl⟩,eXo⟩
def eWs:List AV→Option (Nat×Nat×List AV)
 |[.fn 110 [.rp [.sl n xs]]]=>aK (unA xs) fun l=>aN (l.length=n∧n≤1000000) (some (n,1,cA l.toArray))
 |_=>none
theorem eZj (n:Nat) (xs:List AV):eWs [.fn 110 [.rp [.sl n xs]]]=aK (unA xs) fun l=>aN (l.length=n∧n≤1000000) (some (n,1,cA l.toArray)):=(rfl)
theorem fDd:dH Tryz.prog GLh 108 eWs:=by
 intro σ I w nx args vals n e xs h1 h2 h3 hs hr hg
 unfold eWs at hg
 split at hg
 ·rename_i n0 ys
  replace hg:=aJ hg;obtain⟨l,hl,hg⟩:=hg
  replace hg:=aP hg;obtain⟨⟨hn,hbig⟩,hg⟩:=hg
  simp only[Option.some.injEq,Prod.mk.injEq]at hg;obtain⟨rfl,rfl,rfl⟩:=hg
  have:=dO hl;subst this
  have hr0:=hr 0 (by simp)
  simp only[List.getElem_cons_zero]at hr0
  generalize hv0:vals.getD 0 undef=v0 at hr0
  cases hr0 with
  |fn f xs vs hvs hrel=>
   have hrp:=hrel 0 (by simp)
   simp only[List.getElem_cons_zero]at hrp
   generalize hp0:vs.getD 0 undef=p0 at hrp
   cases hrp with
   |rp _ blk o f hI hc hcell hrl=>
    have hvs1:vs= #[.pointer (some ⟨blk,o,none⟩)]:=by
     apply Array.ext
     ·rw[hvs];rfl
     intro i h1 h2
     obtain rfl:i=0:=by simp at h2;omega
     have:vs.getD 0 undef=vs[0]:=by simp[Array.getD,h1]
     rw[←this];simpa using hp0
    have hvals:vals= #[.func (.func 110) #[] #[.pointer (some ⟨blk,o,none⟩)]]:=by
     apply Array.ext
     ·rw[hs];rfl
     intro i h1 h2
     obtain rfl:i=0:=by simp at h2;omega
     have:vals.getD 0 undef=vals[0]:=by simp[Array.getD,h1]
     rw[←this,hv0,hvs1];rfl
    have hc0:=hc 0 (by simp)
    have hs0:=hrl 0 (by simp)
    simp only[List.getElem_cons_zero,Nat.add_zero]at hc0 hs0
    have hU:eQh w.heap.size w (f 0) (l.map fun t:T16=>(t.toNat:Int)):=by
     generalize hf0:f 0=v1 at hs0
     generalize hzs:cA l.toArray=zs at hs0
     cases hs0 with
     |slnil=>exact .inl ⟨.inl rfl,by rw[List.eq_nil_of_length_eq_zero hn];rfl⟩
     |slzero a=>exact .inl ⟨.inr ⟨a,_,rfl⟩,by rw[List.eq_nil_of_length_eq_zero hn];rfl⟩
     |sl _ _ blk2 o2 cap f2 hI2 hcap hc2 hcell2 hrl2=>
      refine .inr ⟨blk2,o2,cap,by rw[List.length_map,hn],h2 _ hI2,fun j hj=>?_⟩
      rw[List.length_map]at hj
      subst hzs
      have hj2:j<(cA l.toArray).length:=by rw[cQr];simpa using hj
      rw[hc2 j hj2]
      have h5:=hrl2 j hj2
      have e5:(cA l.toArray)[j]=.w16 l[j]:=by simp[cA]
      rw[e5]at h5
      generalize f2 j=u at h5⊢
      cases h5
      simp[hj]
    rw[hvals]
    refine(eQu blk o (f 0) _ (by rw[List.length_map];omega) w (h2 _ hI) hc0 hU).mono ?_
    rintro e w' ⟨v,rfl,hrow,hnil,hb⟩
    refine⟨v,σ,I,rfl,hb.os,hb.tape,hb.output,hb.size,fun k hk=>hb.block k hk,fun _ _=>rfl,fun _ h=> .inl h,fun k hk=>Nat.lt_of_lt_of_le (h2 k hk) hb.size,?_⟩
    rcases hrow.2 with⟨rfl,h0⟩|⟨g,cap,cur,rfl,hbg,hgb,hcap,hmax,hsz,htake⟩
    ·left
     rw[List.length_map]at h0
     exact⟨.inl rfl,by omega,by rw[List.eq_nil_of_length_eq_zero h0];rfl⟩
    right
    rw[List.length_map]at hcap htake
    refine⟨g,0,cap,cap,by rw[List.length_map,hn],by omega,by omega,hbg,fun hI5=>absurd (h2 _ hI5) (by omega),⟨cur,24,0,0,hgb,by omega,by rw[cQr];simp;omega,⟨U3 _,fun _ _=>by omega⟩,fun i hi=>?_⟩,fun i hi=>?_⟩
    ·rw[cQr]at hi
     have hil:i<l.length:=by simpa using hi
     have e5:(cA l.toArray)[i]'(by rw[cQr];exact hi)=.w16 l[i]:=by simp[cA]
     rw[e5]
     have h6:(cur.toList.take (l.length*1))[i]? =some (.int .u16 (l[i].toNat:Int)):=by rw[htake];simp[hil]
     rw[List.getElem?_take_of_lt (by omega)]at h6
     have e6:cur.getD (0+i) undef=.int .u16 (l[i].toNat:Int):=by
      rw[Nat.zero_add,Array.getD_eq_getD_getElem?,←Array.getElem?_toList,h6];rfl
     rw[e6];exact .w16 _
    have hil:i<l.length:=by rw[cQr]at hi;simpa using hi
    have e5:(cA l.toArray)[i]'hi=.w16 l[i]:=by simp[cA]
    rw[e5];rfl
 cases hg
theorem ok87:bX Tryz.prog GLh 108 (.fresh false eWs):=⟨⟨_,Tryz.func108,rfl,rfl⟩,fDd⟩
theorem aVt: ∀N:Nat,fHs Tryz.prog GLh 112 (dP (zR N))
 |0=>bVk
 |N+1=>bVj N (aVt N)
theorem ok91:bX Tryz.prog GLh 112 (.heap (dP (zR 1000001))):=⟨⟨_,Tryz.func112,rfl,rfl⟩,aVt 1000001⟩
def bGg:List AV→List AV→Option (AV×List AV)
 |[.os _ 0 n 1 _],xs=>aK (unA xs) fun l=>aN (l.length=n∧n≤1000000) (some (.tup [],cA (iU l).toArray))
 |_,_=>none
theorem aUw (id n:Nat) (gg:Bool) (xs:List AV):bGg [.os id 0 n 1 gg] xs=aK (unA xs) fun l=>aN (l.length=n∧n≤1000000) (some (.tup [],cA (iU l).toArray)):=(rfl)
attribute [go_sem] aUw eXq eZj
set_option maxHeartbeats 1000000 in
theorem bGf:fHs Tryz.prog GLh 109 (dP bGg):=by
 refine eS Tryz.func109 (aT rfl) ?_
 intro id off n e gg rest nx xs r ys hg
 unfold bGg at hg
 split at hg
 ·rename_i id2 n2 gg2 heq
  simp only[List.cons.injEq,AV.os.injEq]at heq
  obtain⟨⟨rfl,rfl,rfl,rfl,rfl⟩,rfl⟩:=heq
  replace hg:=aJ hg;obtain⟨l,hl,hg⟩:=hg
  replace hg:=aP hg;obtain⟨⟨hn,hbig⟩,hg⟩:=hg
  simp only[Option.some.injEq,Prod.mk.injEq]at hg;obtain⟨rfl,rfl⟩:=hg
  have:=dO hl;subst this
  obtain⟨R,hR⟩: ∃R,(iU l).toArray=R:=⟨_,rfl⟩
  obtain⟨d,hd⟩: ∃d,l.toArray=d:=⟨_,rfl⟩
  have hds:d.size=n:=by rw[←hd];simpa using hn
  have hR2:Sort.pdq ltN d 0 n (Sort.bitsLen n) true true=R:=by
   rw[←hR,←hd];unfold iU Sort.sort;simp[←hds,←hd]
  rw[hR,hd]
  have h20:=aTm hbig
  have e1:=aWd hbig
  have hB:Sort.Below ltN 0 n d:=.inl rfl
  refine⟨J1 rfl,fun hid=>?_⟩
  clear hl hn
  refine ySq (yRn [0,2] fun K hK=>?_)
  simp(disch:=omega) only[go_sem]
  refine hK _ (aB ?_)
  refine yRg [] (aH fFf (aH ok91 aO)) fun K hK=>?_
  simp(disch:=omega) only[go_sem,e1,hds,hB,hR2,U2,Int.toNat_zero]
  refine hK _ ?_
  exact⟨rfl,by simp only[aV,if_true],rfl,dZ _⟩
 cases hg
theorem ok88:bX Tryz.prog GLh 109 (.heap (dP bGg)):=⟨⟨_,Tryz.func109,rfl,rfl⟩,bGf⟩
def eUk:List AV→Option (Nat×Nat×List AV)
 |[.fn 110 [.rp [.sl n xs]]]=>aK (unA xs) fun l=>aN (l.length=n∧n≤1000000) (some (n,1,cA (iU l).toArray))
 |_=>none
theorem eXz (n:Nat) (xs:List AV):eUk [.fn 110 [.rp [.sl n xs]]]=aK (unA xs) fun l=>aN (l.length=n∧n≤1000000) (some (n,1,cA (iU l).toArray)):=(rfl)
attribute [go_sem] eXz
set_option maxHeartbeats 1000000 in
theorem fBp:dH Tryz.prog GLh 106 eUk:=by
 refine fJo Tryz.func106 (aT rfl) ?_
 intro args r hg
 unfold eUk at hg
 split at hg
 ·rename_i n xs
  replace hg:=aJ hg;obtain⟨l,hl,hg⟩:=hg
  replace hg:=aP hg;obtain⟨⟨hn,hbig⟩,hg⟩:=hg
  obtain rfl:=J0 hg
  have:=dO hl;subst this
  have hsl:(iU l).length=n:=by rw[aFo];exact hn
  refine⟨J1 rfl,fun nx=>?_⟩
  clear hl hg
  refine ySq (yRn [0] fun K hK=>?_)
  simp(disch:=omega) only[go_sem]
  refine hK _ (aB ?_)
  refine ySq (yRg [3] (aH ok87 aO) fun K hK=>?_)
  simp(disch:=omega) only[go_sem,hn]
  refine hK _ (aB ?_)
  refine ySq (yRg [3] (aH ok88 aO) fun K hK=>?_)
  simp(disch:=omega) only[go_sem,hn]
  refine hK _ (aB ?_)
  refine ySq (yRn [2] fun K hK=>?_)
  simp(disch:=omega) only[go_sem]
  refine hK _ (aB ?_)
  refine aS rfl ?_
  simp(disch:=omega) only[fPz,fRw,bV,bK,bQ,go_sem,hsl]
 cases hg
theorem ok83:bX Tryz.prog GLh 106 (.fresh false eUk):=⟨⟨_,Tryz.func106,rfl,rfl⟩,fBp⟩
end Go.AX.D5

namespace Go.AX.D5
open Go Go.Proofs
theorem eLh: ∀(p:List T16) (a x:T16),dL (p++[a]++[x])=if a=x then dL (p++[a])else dL (p++[a])++[x]
 |[],a,x=>by show dL [a,x]=_;rw[dL];split<;>simp_all [dL]
 |[b],a,x=>by
  have h:=eLh [] a x
  simp only[List.nil_append,List.cons_append]at h⊢
  rw[dL,h]
  conv=>rhs;rw[dL]
  split<;>split<;>simp
 |b::c::p,a,x=>by
  have h:=eLh (c::p) a x
  simp only[List.cons_append]at h⊢
  rw[dL,h]
  conv=>rhs;rw[dL]
  split<;>split<;>simp
theorem xF (d:Array T16) (j:Nat) (h:j<d.size):d.toList.take (j+1)=d.toList.take j++[d[j]!]:=by
 rw[List.take_add_one,getElem!_pos d j h]
 simp[h]
theorem eNo (d:Array T16) (j:Nat) (h0:0<j) (h:j<d.size):dL (d.toList.take (j+1))=if d[j-1]! =d[j]! then dL (d.toList.take j)else dL (d.toList.take j)++[d[j]!]:=by
 obtain⟨i,rfl⟩: ∃i,j=i+1:=⟨j-1,by omega⟩
 rw[xF d (i+1) h,xF d i (by omega),eLh,Nat.add_sub_cancel]
theorem eQp (d:Array T16) (k:Nat) (x:T16) (h:k<d.size):(d.setIfInBounds k x).toList.take (k+1)=d.toList.take k++[x]:=by
 have h1:=xF (d.setIfInBounds k x) k (by simpa using h)
 rw[h1]
 congr 1
 ·simp[List.take_set_of_le]
 rw[getElem!_pos _ k (by simpa using h)];simp
theorem eSj (d:Array T16) (k i:Nat) (x:T16) (h:k≠i):(d.setIfInBounds k x)[i]! =d[i]!:=by
 by_cases hi:i<d.size
 ·rw[getElem!_pos _ i (by simpa using hi),getElem!_pos _ i hi]
  rw[Array.getElem_setIfInBounds]
  rw[J3 h]
 rw[getElem!_neg _ i (by simpa using hi),getElem!_neg _ i hi]
theorem fAa (d:Array T16) (k:Nat):(cA d).take k=cA (d.toList.take k).toArray:=by simp[cA,List.map_take]
structure SCP where
 k:Nat
 j:Nat
 d:Array T16
 c:Nat
def eWt:List AV→List AV→Option (AV×List AV)
 |[.os id 0 n 1 gg],xs=>aK (unA xs) fun l=>aN (l.length=n∧n≤1000000) (some (.os id 0 (dL l).length 1 gg,cA (dL l).toArray))
 |_,_=>none
theorem eZk (id n:Nat) (gg:Bool) (xs:List AV):eWt [.os id 0 n 1 gg] xs=aK (unA xs) fun l=>aN (l.length=n∧n≤1000000) (some (.os id 0 (dL l).length 1 gg,cA (dL l).toArray)):=(rfl)
attribute [go_sem] eZk
set_option maxHeartbeats 2000000 in
theorem fDe:fHs Tryz.prog GLh 105 (dP eWt):=by
 refine cFq Tryz.func105 (aT rfl) ?_
 intro id off n e gg rest nx xs r ys hg
 unfold eWt at hg
 split at hg
 ·rename_i id2 n2 gg2 heq
  simp only[List.cons.injEq,AV.os.injEq]at heq
  obtain⟨⟨rfl,rfl,rfl,rfl,rfl⟩,rfl⟩:=heq
  replace hg:=aJ hg;obtain⟨l,hl,hg⟩:=hg
  replace hg:=aP hg;obtain⟨⟨hn,hbig⟩,hg⟩:=hg
  simp only[Option.some.injEq,Prod.mk.injEq]at hg;obtain⟨rfl,rfl⟩:=hg
  have:=dO hl;subst this
  obtain⟨d,hd⟩: ∃d,l.toArray=d:=⟨_,rfl⟩
  have hds:d.size=n:=by rw[←hd];simpa using hn
  obtain rfl:l=d.toList:=by rw[←hd]
  have hdl:d.toList.take n=d.toList:=List.take_of_length_le (by rw[Array.length_toList];omega)
  obtain⟨C,hC⟩: ∃C,dL d.toList=C:=⟨_,rfl⟩
  rw[Array.toArray_toList,hC]
  refine⟨J1 rfl,fun hid=>?_⟩
  clear hl hn hd
  refine ySq (yRn [0] fun K hK=>?_)
  simp(disch:=omega) only[go_sem]
  refine hK _ (aB ?_)
  refine ySq (ySq (yRn [8,0] fun K hK=>?_))
  simp(disch:=omega) only[go_sem]
  refine hK _ (aB ?_)
  refine gLb rfl (fun h=>?_) (fun h=>?_)
  ·refine yDr ?_
   have hn1:n<2:=by omega
   have hCd:C=d.toList:=by
    rw[←hC]
    generalize hdd:d.toList=q at*
    have hq:q.length=n:=by rw[←hdd,Array.length_toList];exact hds
    match q,hq with
    |[],_=>rfl
    |[x],_=>rfl
    |x::y::r,hq=>simp at hq;omega
   refine ySq (yRn [2] fun K hK=>?_)
   simp(disch:=omega) only[go_sem]
   refine hK _ (aB ?_)
   refine aS rfl (bI (⟨?_,?_,.inr ⟨_,_,_,_,rfl⟩,dZ _⟩))
   ·rw[hCd,Array.length_toList,hds];rfl
   simp only[aV,if_true,hCd,Array.toArray_toList]
  refine yDr ?_
  have hn2:2≤n:=by omega
  have hc1:dL (d.toList.take 1)=d.toList.take 1:=by
   generalize d.toList=q
   match q with
   |[]=>rfl
   |x::r=>rfl
  refine ySk (aB (ySq (ySq (yRn [0,3] fun K hK=>?_))))
  simp(disch:=omega) only[go_sem]
  refine hK _ (aB ?_)
  refine yBl 0 ?_
  refine bR (fun p:SKC=> {fr:=[(0,.os id 0 n 1 gg),(3,.i p.k)],hp:=upd (fun _=>none) id (.cells (cA d) true),nx:=0,cx:=p.c}) (fun p=>dL (d.toList.take p.k)=d.toList.take p.k∧0<p.k∧p.k≤n∧id<p.c) (fun p=>n-p.k) rfl ⟨⟨1,_⟩,⟨hc1,by simp only;omega,by simp only;omega,by simp only;omega⟩,bD rfl rfl (U3 _)⟩ ?_
  rintro⟨k,c⟩ ⟨hr,hk0,hkn,hc⟩ n0
  simp only at hr hk0 hkn hc⊢
  refine ySq (ySq (yRn [13,0,3] fun K hK=>?_))
  simp(disch:=omega) only[go_sem]
  refine hK _ (aB ?_)
  refine gLb rfl (fun h=>?_) (fun h=>?_)
  ·refine yDr ?_
   have hkn2:k<n:=by omega
   have ek:(k:Int)-1=((k-1:Nat):Int):=by omega
   have hst:=eNo d k hk0 (by omega)
   refine ySk (aB (ySq (yBl 1 (ySq (bB (Γ:=aL) (fun _=>2) [25,0,3] bZ (aD _ _) rfl rfl rfl (by kernel_rfl) (fun K hK=>?_))))))
   simp(disch:=omega) only[go_sem,ek,U2]
   refine hK _ (aB ?_)
   refine gLb rfl (fun h=>?_) (fun h=>?_)
   ·refine yDr ?_
    rw[J4 h.symm]at hst
    refine ySq (yRn [0,3,4] fun K hK=>?_)
    simp(disch:=omega) only[go_sem]
    refine hK _ (aB ?_)
    refine ySq (ySq (yRn [0,3,4,5] fun K hK=>?_))
    simp(disch:=omega) only[go_sem]
    refine hK _ (aB ?_)
    refine yBl 2 ?_
    refine bR (fun p:SCP=> {fr:=[(0,.os id 0 n 1 gg),(3,.i p.k),(4,.os id k (n-k) 1 gg),(5,.i p.j)],hp:=upd (fun _=>none) id (.cells (cA p.d) true),nx:=0,cx:=p.c}) (fun p=>dL (d.toList.take (k+p.j))=p.d.toList.take p.k∧(∀i,p.k≤i→p.d[i]! =d[i]!)∧p.d.size=n∧p.k+1≤k+p.j∧1≤p.j∧k+p.j≤n∧id<p.c) (fun p=>n-p.j) rfl ⟨⟨k,1,d,_⟩,⟨by simp only;rw[hst,hr],fun _ _=>rfl,hds,by simp only;omega,by simp only;omega,by simp only;omega,by simp only;omega⟩,bD (by simp only[Int.cast_ofNat_Int]) rfl (U3 _)⟩ ?_
    rintro⟨m,j,d1,c1⟩ ⟨hq1,hq2,hs1,hm,hj0,hjn,hc1⟩ n0
    simp only at hq1 hq2 hs1 hm hj0 hjn hc1⊢
    refine ySq (ySq (yRn [32,0,3,4,5] fun K hK=>?_))
    simp(disch:=omega) only[go_sem]
    refine hK _ (aB ?_)
    refine gLb rfl (fun h=>?_) (fun h=>?_)
    ·refine yDr ?_
     have hjn2:k+j<n:=by omega
     have ej:(j:Int)-1=((j-1:Nat):Int):=by omega
     have ej2:k+(j-1)=k+j-1:=by omega
     have hst2:=eNo d (k+j) (by omega) (by omega)
     have g1:=hq2 (k+j) (by omega)
     have g2:=hq2 (k+j-1) (by omega)
     refine ySk (aB (ySq (yBl 3 (ySq (bB (Γ:=aL) (fun _=>2) [44,0,3,4,5] bZ (aD _ _) rfl rfl rfl (by kernel_rfl) (fun K hK=>?_))))))
     simp(disch:=omega) only[go_sem,ej,ej2,g1,g2,U2]
     refine hK _ (aB ?_)
     refine eGn (.tmp 44) rfl rfl rfl (fun h=>?_) (fun h=>?_)
     ·refine yDr ?_
      have hmn:m<n:=by omega
      rw[J3 (fun e=>h e.symm)]at hst2
      refine ySq (yRn [0,3,4,5] fun K hK=>?_)
      simp(disch:=omega) only[go_sem,hs1,g1,U2]
      refine hK _ (aB ?_)
      refine yRn [0,3,4,5] fun K hK=>?_
      simp(disch:=omega) only[go_sem]
      refine hK _ (bU (aB ?_))
      refine yRn [0,3,4,5] fun K hK=>?_
      simp(disch:=omega) only[go_sem]
      refine hK _ (bT ?_)
      refine⟨⟨m+1,j+1,d1.setIfInBounds m d[k+j]!,_⟩,⟨by simp only;rw[show k+(j+1)=k+j+1 by omega,hst2,hq1,eQp _ _ _ (by omega)],fun i hi=>?_,by simp only[Array.size_setIfInBounds];exact hs1,by simp only;omega,by simp only;omega,by simp only;omega,by simp only;omega⟩,by simp only;omega,⟨fun _=> .inr (by simp only[Int.natCast_add,Int.natCast_one]),bS (by simp(disch:=omega) only[aV,↓reduceIte,eq_self]) fKa,U3 _⟩⟩
      simp only at hi⊢
      rw[eSj _ _ _ _ (by omega)];exact hq2 i (by omega)
     refine yDr ?_
     rw[J4 h.symm]at hst2
     refine ySk (bU (aB (yRn [0,3,4,5] fun K hK=>?_)))
     simp(disch:=omega) only[go_sem]
     refine hK _ (bT ?_)
     refine⟨⟨m,j+1,d1,_⟩,⟨by simp only;rw[show k+(j+1)=k+j+1 by omega,hst2,hq1],hq2,hs1,by simp only;omega,by simp only;omega,by simp only;omega,by simp only;omega⟩,by simp only;omega,bD (by simp only[Int.natCast_add,Int.natCast_one]) rfl (U3 _)⟩
    refine yDr ?_
    have hjn3:k+j=n:=by omega
    rw[hjn3,hdl,hC]at hq1
    have hmn:m≤n:=by omega
    have hCl:C.length=m:=by rw[hq1,List.length_take,Array.length_toList];omega
    refine yEx 2 (aY (aZ (bE (aB (ySq (yRn [0,3] fun K hK=>?_))))))
    simp(disch:=omega) only[go_sem,hs1,U2]
    refine hK _ (aB ?_)
    refine ySq (yRn [2] fun K hK=>?_)
    simp(disch:=omega) only[go_sem]
    refine hK _ (aB ?_)
    refine cSp id m _ (by simp only[aV,if_true];rfl) ?_
    refine aS rfl (bN (bI (dF (bN (bI (⟨?_,?_,.inr ⟨_,_,_,_,rfl⟩,dZ _⟩))))))
    ·rw[hCl];rfl
    simp only[aV,if_true]
    rw[hq1,←fAa]
    simp[eG,cQr,hs1,hmn]
   refine yDr ?_
   rw[J3 (fun e=>h e.symm),hr]at hst
   rw[←xF d k (by omega)]at hst
   refine ySk (bU (aB (yRn [0,3] fun K hK=>?_)))
   simp(disch:=omega) only[go_sem]
   refine hK _ (bT ?_)
   refine⟨⟨k+1,_⟩,⟨hst,by simp only;omega,by simp only;omega,by simp only;omega⟩,by simp only;omega,bD (by simp only[Int.natCast_add,Int.natCast_one]) rfl (U3 _)⟩
  refine yDr ?_
  have hkn3:k=n:=by omega
  rw[hkn3,hdl,hC]at hr
  refine yEx 0 (aY (aZ (bE (aB (ySq (yRn [2] fun K hK=>?_))))))
  simp(disch:=omega) only[go_sem]
  refine hK _ (aB ?_)
  refine aS rfl (⟨?_,?_,.inr ⟨_,_,_,_,rfl⟩,dZ _⟩)
  ·rw[hr,Array.length_toList,hds];rfl
  simp only[aV,if_true,hr,Array.toArray_toList]
 cases hg
theorem ok82:bX Tryz.prog GLh 105 (.heap (dP eWt)):=⟨⟨_,Tryz.func105,rfl,rfl⟩,fDe⟩
end Go.AX.D5

namespace Go.AX.D5
open Go Go.Proofs
def isD (c:B8):Prop:=48≤c.toNat∧c.toNat≤57
instance (c:B8):Decidable (isD c):=by unfold isD;infer_instance
end Go.AX.D5

namespace Go.AX.D5
open Go Go.Proofs
set_option maxHeartbeats 2000000 in
theorem fEd:fHn Tryz.prog GLh 97 eNv:=by
 refine zK Tryz.func97 (aT rfl) ?_
 intro args r hg
 unfold eNv at hg
 split at hg
 ·rename_i n xs m ys
  replace hg:=aJ hg;obtain⟨a,ha,hg⟩:=hg
  replace hg:=aJ hg;obtain⟨b,hb,hg⟩:=hg
  replace hg:=aP hg;obtain⟨⟨hn,hm⟩,hg⟩:=hg
  obtain rfl:=J0 hg
  have:=bW ha;subst this
  have:=bW hb;subst this
  subst hn;subst hm
  refine⟨J1 rfl,fun nx=>?_⟩
  clear hg ha hb
  refine ySq (yRn [0,1] fun K hK=>?_)
  simp(disch:=omega) only[go_sem]
  refine hK _ (aB ?_)
  refine ySq (yRn [4] fun K hK=>?_)
  simp(disch:=omega) only[go_sem,iA]
  refine hK _ (aB ?_)
  refine aS rfl ?_
  simp(disch:=omega) only[fHo,bV,bK,bQ,go_sem]
 cases hg
theorem fFh:bX Tryz.prog GLh 97 (.pure true eNv):=⟨⟨_,Tryz.func97,rfl,rfl⟩,fEd⟩
end Go.AX.D5

namespace Go.AX.D5
open Go Go.Proofs
def c16 (l:List T16):List AV:=l.map .w16
theorem eLk (l:List T16):cA l.toArray=c16 l:=(rfl)
theorem fAw (l:List T16):(c16 l).length=l.length:=List.length_map ..
theorem eQe (l:List T16) (k:Nat) (h:k<l.length):((c16 l).drop k).head? =some (.w16 (l.getD k 0#16)):=by
 rw[List.head?_drop];simp[c16,List.getElem?_map,List.getElem?_eq_getElem h]
theorem eQf (l:List T16) (k:Nat):(c16 l).drop k=c16 (l.drop k):=by simp[c16,List.map_drop]
theorem eXh (l:List T16) (k:Nat):(c16 l).take k=c16 (l.take k):=by simp[c16,List.map_take]
theorem eTq (l:List T16) (k:Nat) (h:k<l.length):(c16 (l.drop k)).head? =some (.w16 (l.getD k 0#16)):=by rw[←eQf];exact eQe l k h
theorem eTp (l:List T16):dB (c16 l)=true:=by
 simp only[dB,c16,List.all_eq_true,List.mem_map]
 rintro _ ⟨x,_,rfl⟩;rfl
theorem fEb (l:List T16):AV.noMem.noMemL (c16 l)=true:=by
 induction l with
 |nil=>rfl
 |cons x l ih=>show(AV.noMem (.w16 x)&&AV.noMem.noMemL (c16 l))=true;rw[ih];rfl
theorem eQg (l:List T16) (x:T16):c16 l++[AV.w16 x]=c16 (l++[x]):=by simp[c16]
theorem eXs (l:List T16):unA (c16 l)=some l:=by have:=bFk l.toArray;rwa [eLk]at this
theorem gU {xs:List AV} {l:List T16} (h:unA xs=some l):xs=c16 l:=by rw[dO h,eLk]
attribute [go_sem] eLk fAw eQe eTq eQf eXh eTp fEb eQg eXs
def typG:List AV→Option AV
 |[.sl n xs,.sl m ys]=>aK (unA xs) fun a=>aK (unA ys) fun b=>aN (a.length=n∧b.length=m∧n≤9223372036854775807∧m≤9223372036854775807) (some (.b (decide (a=b))))
 |_=>none
theorem eOk: ∀l:List T16,(dL l).length≤l.length
 |[]=>U3 _
 |[x]=>U3 _
 |x::y::r=>by
  have h:=eOk (y::r)
  rw[dL]
  split
  ·simp only[List.length_cons]at h⊢;omega
  simp only[List.length_cons]at h⊢;omega
theorem eQx (l:List T16):(gF l).length≤l.length:=by
 have:=eOk (iU l);rw[aFo]at this;exact this
def eWu:List AV→Option (Nat×Nat×List AV)
 |[.sl n xs]=>aK (unA xs) fun l=>aN (l.length=n∧n≤1000000) (some ((gF l).length,1,c16 (gF l)))
 |_=>none
theorem eZl (n:Nat) (xs:List AV):eWu [.sl n xs]=aK (unA xs) fun l=>aN (l.length=n∧n≤1000000) (some ((gF l).length,1,c16 (gF l))):=(rfl)
attribute [go_sem] eZl
set_option maxHeartbeats 1000000 in
theorem fDf:dH Tryz.prog GLh 103 eWu:=by
 refine fJo Tryz.func103 (aT rfl) ?_
 intro args r hg
 unfold eWu at hg
 split at hg
 ·rename_i n xs
  replace hg:=aJ hg;obtain⟨l,hl,hg⟩:=hg
  replace hg:=aP hg;obtain⟨⟨hn,hbig⟩,hg⟩:=hg
  obtain rfl:=J0 hg
  have:=gU hl;subst this
  refine⟨J1 rfl,fun nx=>?_⟩
  have hsl:(iU l).length=n:=by rw[aFo];exact hn
  have hcl:dL (iU l)=gF l:=rfl
  clear hl hg
  refine ySq (yRn [0] fun K hK=>?_)
  simp(disch:=omega) only[go_sem]
  refine hK _ (aB ?_)
  refine ySq (yRg [2] (aH ok84 (aH ok83 (aH ok82 aO))) fun K hK=>?_)
  simp(disch:=omega) only[go_sem,hn,hsl,hcl]
  refine hK _ (aB ?_)
  refine aS rfl ?_
  simp(disch:=omega) only[fPz,fRw,bV,bK,bQ,go_sem]
 cases hg
theorem ok77:bX Tryz.prog GLh 103 (.fresh true eWu):=⟨⟨_,Tryz.func103,rfl,rfl⟩,fDf⟩
theorem ePj {α:Type} (p:α→Bool) (d:α): ∀(l:List α) (k:Nat),k≤l.length→(∀j,j<k→p (l.getD j d)=true)→(k=l.length∨p (l.getD k d)=false)→l.takeWhile p=l.take k∧l.dropWhile p=l.drop k
 |[],k,hk,_,_=>by simp
 |x::l,0,_,_,h=>by
  rcases h with h|h
  ·simp at h
  simp only[List.getD_cons_zero]at h
  simp[h]
 |x::l,k+1,hk,ha,h=>by
  have h0:=ha 0 (by omega)
  simp only[List.getD_cons_zero]at h0
  obtain⟨h1,h2⟩:=ePj p d l k (by simpa using hk) (fun j hj=>by have:=ha (j+1) (by omega);simpa using this) (by
   rcases h with h|h
   ·left;simpa using h
   right;simpa using h)
  simp[h0,h1,h2]
end Go.AX.D5

namespace Go.AX.D5
open Go Go.Proofs
theorem fBl:(256#16=0#16)=False:=by decide
theorem i8z:((8:Int)=0)=False:=by decide
theorem eOs (x:T16):(x/256#16).toNat=win x:=by rw[BitVec.toNat_udiv];rfl
theorem eYf (x:T16):(x%256#16).toNat=pos x:=by rw[BitVec.toNat_umod];rfl
theorem eVf (x y:T16):x/256#16=y/256#16↔win x=win y:=by
 rw[←eOs,←eOs];exact⟨fun h=>by rw[h],fun h=>BitVec.eq_of_toNat_eq h⟩
theorem eUc (n:Nat):((n:Int)).tdiv 8=((n/8:Nat):Int):=rfl
theorem fBc (n:Nat):((n:Int)).tmod 8=((n%8:Nat):Int):=rfl
theorem fFd (n:Nat):(BitVec.ofInt 64 ((n%8:Nat):Int)).toNat=n%8:=by
 rw[BitVec.toNat_ofInt];omega
theorem eRz (k:Nat):128#8>>>k=rE k:=rfl
theorem fEf (x:T16):(x/256#16).setWidth 8=BitVec.ofNat 8 (win x):=by
 apply BitVec.eq_of_toNat_eq
 rw[BitVec.toNat_setWidth,eOs,BitVec.toNat_ofNat]
theorem fFy (n:Nat):BitVec.ofInt 8 (n:Int)=BitVec.ofNat 8 n:=BitVec.ofInt_natCast ..
theorem eUi (p:List T16) (x:T16):szL (p++[x])=pos x/8+1:=by unfold szL;simp
theorem eRa (p:List T16) (x:T16):dR (p++[x])=eQn (dR p) x:=by unfold dR;rw[List.foldl_append];rfl
theorem eUd (c:List T16) (j i:Nat) (hj:j≤i) (hi:i<c.length):(c.drop j).take (i+1-j)=(c.drop j).take (i-j)++[c.getD i 0#16]:=by
 have e:i+1-j=(i-j)+1:=by omega
 have hl:i-j<(c.drop j).length:=by rw[List.length_drop];omega
 rw[e,List.take_succ_eq_append_getElem hl,List.getElem_drop,List.getD_eq_getElem?_getD,List.getElem?_eq_getElem hi]
 simp only[Option.getD_some]
 congr 3
 omega
theorem eRx (c:List T16) (j i:Nat) (hj:j<c.length) (hji:j≤i) (hi:i≤c.length) (hw: ∀k,j≤k→k<i→win (c.getD k 0#16)=win (c.getD j 0#16)) (he:i=c.length∨¬win (c.getD i 0#16)=win (c.getD j 0#16)):
  j<i∧bmL (c.drop j)=eLm (win (c.getD j 0#16)) ((c.drop j).take (i-j))++bmL (c.drop i):=by
 have hne:j≠i:=by
  rintro rfl
  rcases he with he|he
  ·omega
  exact he rfl
 refine⟨by omega,?_⟩
 have e:c.drop j=c.getD j 0#16::c.drop (j+1):=by
  rw[List.drop_eq_getElem_cons hj,List.getD_eq_getElem?_getD,List.getElem?_eq_getElem hj];rfl
 have hg: ∀k,(c.drop j).getD k 0#16=c.getD (j+k) 0#16:=fun k=>by
  rw[List.getD_eq_getElem?_getD,List.getElem?_drop,←List.getD_eq_getElem?_getD]
 obtain⟨h1,h2⟩:=ePj (fun x=>decide (win x=win (c.getD j 0#16))) 0#16 (c.drop j) (i-j) (by rw[List.length_drop];omega)
  (fun k hk=>by rw[hg];exact J5 (hw _ (by omega) (by omega)))
  (by
   rcases he with he|he
   ·left;rw[List.length_drop];omega
   right;rw[hg,show j+(i-j)=i by omega];exact J6 he)
 have h3:grp (c.getD j 0#16) (c.drop (j+1))=(c.drop j).take (i-j):=by
  rw[←h1,e,List.takeWhile_cons,J4 (by simp)];rfl
 have h4:rst (c.getD j 0#16) (c.drop (j+1))=c.drop i:=by
  have:(c.drop j).drop (i-j)=c.drop i:=by rw[List.drop_drop];congr 1;omega
  rw[←this,←h2,e,List.dropWhile_cons,J4 (by simp)];rfl
 rw[←h3,←h4]
 conv=>lhs;rw[e]
 rw[bmL]
theorem ePp (w:Nat) (p:List T16):(eLm w p).length=szL p+2:=by
 unfold eLm;simp only[List.length_cons,eRy]
theorem eRh (w:Nat) (p:List T16) (out:List B8):out++[BitVec.ofNat 8 w,BitVec.ofNat 8 (szL p)]++(dR p).take (szL p)=out++eLm w p:=by
 unfold eLm;simp
def bmG:List AV→Option (Nat×Nat×List AV)
 |[.sl n xs]=>aK (unA xs) fun l=>aN (l.length=n∧n≤1000000) (some ((bmL (gF l)).length,1,c8 (bmL (gF l))))
 |_=>none
theorem fEc (n:Nat) (xs:List AV):bmG [.sl n xs]=aK (unA xs) fun l=>aN (l.length=n∧n≤1000000) (some ((bmL (gF l)).length,1,c8 (bmL (gF l)))):=(rfl)
attribute [go_sem] fEc
structure SBO where
 j:Nat
 id:Nat
 out:List B8
 c:Nat
set_option maxHeartbeats 4000000 in
theorem fHf:dH Tryz.prog GLh 98 bmG:=by
 refine fJo Tryz.func98 (aT rfl) ?_
 intro args r hg
 unfold bmG at hg
 split at hg
 ·rename_i n xs
  replace hg:=aJ hg;obtain⟨l,hl,hg⟩:=hg
  replace hg:=aP hg;obtain⟨⟨hn,hbig⟩,hg⟩:=hg
  obtain rfl:=J0 hg
  have:=gU hl;subst this
  refine⟨J1 rfl,fun nx=>?_⟩
  clear hl hg
  subst hn
  have hcl:=eQx l
  obtain⟨c,hc⟩: ∃c,gF l=c:=⟨_,rfl⟩
  rw[hc]at hcl⊢
  refine ySq (yRn [0] fun K hK=>?_)
  simp(disch:=omega) only[go_sem]
  refine hK _ (aB ?_)
  refine ySq (yRn [0,3] fun K hK=>?_)
  simp(disch:=omega) only[go_sem]
  refine hK _ (aB ?_)
  refine ySq (yRg [0,3] (aH ok77 aO) fun K hK=>?_)
  simp(disch:=omega) only[go_sem,hc]
  refine hK _ (aB ?_)
  refine iE 3 1 rfl (fPg [0,3] ?_)
  simp only[iB,fU,eW,↓reduceIte,Nat.reduceEqDiff]
  refine ySq (yBl 0 ?_)
  refine bR (fun p:SBO=> {fr:=[(0,.os (nx+2+1) p.j (c.length-p.j) 1 true),(3,.os p.id 0 p.out.length 1 true)],hp:=upd (upd (fun _=>none) (nx+2+1) (.cells (c16 c) true)) p.id (.cells (c8 p.out) true),nx:=0,cx:=p.c}) (fun p=>p.j≤c.length∧p.out++bmL (c.drop p.j)=bmL c∧p.out.length≤34*p.j∧p.id<p.c∧nx+2+1<p.id) (fun p=>c.length-p.j) rfl ⟨⟨0,_,[],_⟩,⟨Nat.zero_le _,rfl,Nat.zero_le _,by simp only;omega,by simp only;omega⟩,bD rfl rfl (U3 _)⟩ ?_
  rintro⟨j,id,out,cx⟩ ⟨hj,hout,hol,hid,hid2⟩ n0
  simp only at hj hout hol hid hid2⊢
  refine ySq (ySq (yRn [12,0,3] fun K hK=>?_))
  simp(disch:=omega) only[go_sem]
  refine hK _ (aB ?_)
  refine gLb rfl (fun h=>?_) (fun h=>?_)
  ·refine yDr ?_
   have hjl:j<c.length:=by omega
   refine ySk (aB (yBl 1 (ySq (yRn [0,3,4] fun K hK=>?_))))
   simp(disch:=omega) only[go_sem,fBl,Nat.add_zero]
   refine hK _ (aB ?_)
   refine ySq (yRn [0,3,4,5] fun K hK=>?_)
   simp(disch:=omega) only[go_sem,eQz]
   refine hK _ (aB ?_)
   refine ySq (yRn [0,3,4,5,6] fun K hK=>?_)
   simp(disch:=omega) only[go_sem]
   refine hK _ (aB ?_)
   obtain⟨t,ht⟩: ∃t,c.getD j 0#16=t:=⟨_,rfl⟩
   rw[ht]
   refine ySq (yBl 2 ?_)
   refine bR (fun p:KC=> {fr:=[(0,.os (nx+2+1) p.k (c.length-p.k) 1 true),(3,.os id 0 out.length 1 true),(4,.w16 (t/256#16)),(5,.op (cx+8) 0),(6,.i (szL ((c.drop j).take (p.k-j))))],hp:=upd (upd (upd (fun _=>none) (nx+2+1) (.cells (c16 c) true)) id (.cells (c8 out) true)) (cx+8) (.cells (c8 (dR ((c.drop j).take (p.k-j)))) true),nx:=0,cx:=p.c}) (fun p=>j≤p.k∧p.k≤c.length∧(∀k,j≤k→k<p.k→win (c.getD k 0#16)=win t)∧cx+8<p.c) (fun p=>c.length-p.k) rfl ⟨⟨j,_⟩,⟨U3 _,by simp only;omega,fun k h1 h2=>by simp only at h2;omega,by simp only;omega⟩,⟨fun _=> .inr (by simp only[Nat.sub_self,U1];rfl),fun a b h=>by simp only[Nat.sub_self,U1]at h;exact h,U3 _⟩⟩ ?_
   rintro⟨i,cx2⟩ ⟨hji,hic,hwin,hcx2⟩ n0
   simp only at hji hic hwin hcx2⊢
   obtain⟨p,hp⟩: ∃p,(c.drop j).take (i-j)=p:=⟨_,rfl⟩
   have hsz:=eOq p
   have hbl:=eKl p
   rw[hp]
   by_cases h1:i<c.length
   ·have hd:decide (0<((c.length-i:Nat):Int))=true:=J5 (by omega)
    obtain⟨x,hx⟩: ∃x,c.getD i 0#16=x:=⟨_,rfl⟩
    refine ySq (ySq (yRn [27,0,3,4,5,6] fun K hK=>?_))
    simp(disch:=omega) only[go_sem,hd,fBl,Nat.add_zero,hx]
    refine hK _ (aB ?_)
    refine gLb rfl (fun h=>?_) (fun h=>?_)
    ·refine yDr ?_
     rw[eVf]at h
     have hsub:=eUd c j i hji h1
     rw[hp,hx]at hsub
     have hpl:=eNf x
     refine ySk (aB (yBl 3 (ySq (yRn [0,3,4,5,7] fun K hK=>?_))))
     simp(disch:=omega) only[go_sem,fBl,Nat.add_zero,hx,eYf]
     refine hK _ (aB ?_)
     refine ySq (yRn [0,3,4,5,7] fun K hK=>?_)
     simp(disch:=omega) only[go_sem,i8z,eUc,fBc,fFd,eRz,U2]
     refine hK _ (aB ?_)
     refine bB (Γ:=aL) (fun _=>2) [0,3,4,5,6] bZ (aD _ _) rfl rfl rfl (by kernel_rfl) (fun K hK=>?_)
     simp(disch:=omega) only[go_sem,i8z,eUc]
     refine hK _ (bU (bT ?_))
     have esn:=eUi p x
     have ebn:(dR p).set (pos x/8) ((dR p).getD (pos x/8) 0#8|||rE (pos x%8))=dR (p++[x]):=(eRa p x).symm
     have el:c.length-i-1=c.length-(i+1):=by omega
     refine⟨⟨i+1,_⟩,⟨by simp only;omega,by simp only;omega,fun k h1 h2=>?_,by simp only;omega⟩,by simp only;omega,⟨fun _=> .inr ?_,fun j o h=>?_,U3 _⟩⟩
     ·by_cases e:k=i
      ·subst e;rw[hx];exact h
      exact hwin k h1 (by simp only at h2;omega)
     ·simp only[hsub,esn,el,Int.natCast_add,Int.natCast_one]
     simp only at h
     exact bS (by simp(disch:=omega) only[aV,↓reduceIte,eq_self,hsub,ebn]) (bS (by simp(disch:=omega) only[aV,bY,↓reduceIte,eq_self,ebn]) (bS (by simp(disch:=omega) only[aV,bY,↓reduceIte,eq_self,ebn]) (fKa))) j o h
    refine yDr ?_
    rw[eVf]at h
    refine yEx 2 (aY (aZ (bE (aB ?_))))
    obtain⟨hlt,hbm⟩:=eRx c j i hjl hji hic (by rw[ht];exact hwin) (.inr (by rw[hx,ht];exact h))
    rw[hp,ht]at hbm
    have hrl:=ePp (win t) p
    have hrq:=eRh (win t) p out
    refine bB (Γ:=aL) (fun k=>if k=6 then 66 else if k=9 then 194 else 2) [0,3] bZ (aD _ _) rfl rfl rfl (by kernel_rfl) (fun K hK=>?_)
    simp(disch:=omega) only[go_sem,fEf,fFy,U2,Nat.sub_zero,J9]
    refine hK _ (bU (bT ?_))
    have hbm2:out++eLm (win t) p++bmL (c.drop i)=bmL c:=by rw[List.append_assoc,←hbm];exact hout
    have hlen:(out++eLm (win t) p).length=out.length+2+szL p:=by rw[List.length_append,hrl];omega
    refine⟨⟨i,cx2+11+9,out++eLm (win t) p,_⟩,⟨hic,hbm2,by simp only[hlen];omega,by simp only;omega,by simp only;omega⟩,by simp only;omega,⟨fun _=> .inr ?_,fun j o h=>?_,U3 _⟩⟩
    ·simp only[hlen]
    simp only at h
    exact bS (by simp(disch:=omega) only[aV,↓reduceIte,eq_self,hrq]) (bS (by simp(disch:=omega) only[aV,kE,bY,↓reduceIte,eq_self,hrq]) (fKa)) j o h
   have hd:decide (0<((c.length-i:Nat):Int))=false:=J6 (by omega)
   refine ySq (ySq (yRn [27,0,3,4,5,6] fun K hK=>?_))
   simp(disch:=omega) only[go_sem,hd]
   refine hK _ (aB ?_)
   refine iFd (yEx 2 (aY (aZ (bE (aB ?_)))))
   obtain⟨hlt,hbm⟩:=eRx c j i hjl hji hic (by rw[ht];exact hwin) (.inl (by omega))
   rw[hp,ht]at hbm
   have hrl:=ePp (win t) p
   have hrq:=eRh (win t) p out
   refine bB (Γ:=aL) (fun k=>if k=6 then 66 else if k=9 then 194 else 2) [0,3] bZ (aD _ _) rfl rfl rfl (by kernel_rfl) (fun K hK=>?_)
   simp(disch:=omega) only[go_sem,fEf,fFy,U2,Nat.sub_zero,J9]
   refine hK _ (bU (bT ?_))
   have hbm2:out++eLm (win t) p++bmL (c.drop i)=bmL c:=by rw[List.append_assoc,←hbm];exact hout
   have hlen:(out++eLm (win t) p).length=out.length+2+szL p:=by rw[List.length_append,hrl];omega
   refine⟨⟨i,cx2+11+9,out++eLm (win t) p,_⟩,⟨hic,hbm2,by simp only[hlen];omega,by simp only;omega,by simp only;omega⟩,by simp only;omega,⟨fun _=> .inr ?_,fun j o h=>?_,U3 _⟩⟩
   ·simp only[hlen]
   simp only at h
   exact bS (by simp(disch:=omega) only[aV,↓reduceIte,eq_self,hrq]) (bS (by simp(disch:=omega) only[aV,kE,bY,↓reduceIte,eq_self,hrq]) (fKa)) j o h
  refine yDr (yEx 0 (aY (aZ (bE (aB (ySq ?_))))))
  obtain rfl:j=c.length:=by omega
  have e1:out=bmL c:=by rw[List.drop_length,show bmL []=[]from by rw[bmL],List.append_nil]at hout;exact hout
  refine yRn [2] fun K hK=>?_
  simp(disch:=omega) only[go_sem,e1]
  refine hK _ (aB ?_)
  refine aS rfl ?_
  simp(disch:=omega) only[fPz,fRw,bV,bK,bQ,go_sem]
 cases hg
theorem cWm:bX Tryz.prog GLh 98 (.fresh true bmG):=⟨⟨_,Tryz.func98,rfl,rfl⟩,fHf⟩
end Go.AX.D5

namespace Go.AX.D5
open Go Go.Proofs
end Go.AX.D5

namespace Go.AX.D5
open Go Go.Proofs
def eLg (w:Nat) (bs:List B8) (k:Nat):List T16:=(List.range k).filterMap fun i=>if bs.getD (i/8) 0#8&&&rE (i%8)≠0#8 then some (BitVec.ofNat 16 (w*256+i))else none
theorem eOj (w:Nat) (bs:List B8):eLg w bs 0=[]:=rfl
theorem eWp (w:Nat) (bs:List B8) (k:Nat) (h:k=8*bs.length):eLg w bs k=rR w bs:=by rw[h];rfl
theorem eWn (w:Nat) (bs:List B8) (k:Nat) (h:bs.getD (k/8) 0#8&&&rE (k%8)≠0#8):eLg w bs (k+1)=eLg w bs k++[BitVec.ofNat 16 (w*256+k)]:=by
 unfold eLg;rw[List.range_succ,List.filterMap_append,List.filterMap_cons,J4 h];rfl
theorem eZh (w:Nat) (bs:List B8) (k:Nat) (h:bs.getD (k/8) 0#8&&&rE (k%8)=0#8):eLg w bs (k+1)=eLg w bs k:=by
 unfold eLg;rw[List.range_succ,List.filterMap_append,List.filterMap_cons,J3 (fun hh=>hh h)];simp
theorem eWo (w:Nat) (bs:List B8) (k:Nat):(eLg w bs k).length≤k:=by
 have:=List.length_filterMap_le (fun i=>if bs.getD (i/8) 0#8&&&rE (i%8)≠0#8 then some (BitVec.ofNat 16 (w*256+i))else none) (List.range k)
 rw[List.length_range]at this
 exact this
theorem eSb (r:List B8) (m k:Nat) (h:k<m):(r.take m).getD k 0#8=r.getD k 0#8:=by
 rw[List.getD_eq_getElem?_getD,List.getD_eq_getElem?_getD,List.getElem?_take_of_lt h]
theorem eTh (r:List B8) (m k:Nat):(r.drop m).getD k 0#8=r.getD (m+k) 0#8:=by
 rw[List.getD_eq_getElem?_getD,List.getD_eq_getElem?_getD,List.getElem?_drop]
theorem eXt (w:B8) (k:Nat) (_:k<256):w.setWidth 16*256#16+BitVec.ofInt 16 (k:Int)=BitVec.ofNat 16 (w.toNat*256+k):=by
 apply BitVec.eq_of_toNat_eq
 rw[BitVec.ofInt_natCast,BitVec.toNat_add,BitVec.toNat_mul,BitVec.toNat_setWidth,BitVec.toNat_ofNat,BitVec.toNat_ofNat,BitVec.toNat_ofNat]
 have:=w.isLt
 omega
theorem eTz (R:List B8) (h:2≤R.length):R=R.getD 0 0#8::R.getD 1 0#8::R.drop 2:=by
 match R,h with
 |a::b::r,_=>rfl
theorem eYn (f:Nat) (R:List B8) (h:2≤R.length):opP (f+1) R=if(R.getD 1 0#8).toNat≤R.length-2 then(opP f (R.drop (2+(R.getD 1 0#8).toNat))).map (rR (R.getD 0 0#8).toNat ((R.drop 2).take (min (R.getD 1 0#8).toNat 32))++ ·)else none:=by
 conv=>lhs;rw[eTz R h]
 simp only[opP,List.length_drop,List.drop_drop]
 split
 ·cases opP f (R.drop (2+(R.getD 1 0#8).toNat))<;>rfl
 rfl
theorem eSv (f:Nat) (R:List B8) (h:0<R.length) (h2:R.length<2):opP (f+1) R=none:=by
 match R,h,h2 with
 |[a],_,_=>rfl
def eYl:Option (List T16)→AV
 |some l=> .tup [.sl l.length (c16 l),.i 0]
 |none=> .tup [.sl 0 [],.i 40]
def dFi:List AV→Option AV
 |[.sl n xs]=>aK (un8 xs) fun b=>aN (b.length=n∧n≤100000) (some (eYl (opR (b.length+1) (-1) b)))
 |_=>none
theorem eYm (n:Nat) (xs:List AV):dFi [.sl n xs]=aK (un8 xs) fun b=>aN (b.length=n∧n≤100000) (some (eYl (opR (b.length+1) (-1) b))):=(rfl)
theorem fCa (l:List T16):eYl (some l)=.tup [.sl l.length (c16 l),.i 0]:=(rfl)
theorem fCb:eYl none=.tup [.sl 0 [],.i 40]:=(rfl)
attribute [go_sem] eYm fCa fCb
theorem ePr {F:Nat} {last:Int} {b:List B8} (h:opP F b=none):opR F last b=none:=by
 cases e:opR F last b with
 |none=>rfl
 |some l=>have:=(eMn F last b l e).2.2.2;rw[h]at this;cases this
theorem fCc {F:Nat} {last:Int} {b:List B8} {out:List T16} (h:opP F b=some out) (hne:bmL (gF out)≠b):opR F last b=none:=by
 cases e:opR F last b with
 |none=>rfl
 |some l=>
  obtain⟨h1,h2,h3,h4⟩:=eMn F last b l e
  rw[h]at h4
  obtain rfl:=J0 h4
  rw[eTm h1]at hne
  exact absurd h3 hne
theorem fCd {b:List B8} {out:List T16} (h:opP (b.length+1) b=some out) (he:bmL (gF out)=b):opR (b.length+1) (-1) b=some out:=by
 have h1:=eVg (b.length+1) (gF out) (-1) (eNp out) (fun t _=>by omega) (by rw[he];omega)
 rw[he]at h1
 have h2:=(eMn _ _ _ _ h1).2.2.2
 rw[h]at h2
 obtain h3:=J0 h2
 rw[h1,←h3]
theorem fGe (n:Nat):(if(32:Int)<(n:Int)then(32:Int)else(n:Int))=((min n 32:Nat):Int):=by split<;>omega
structure SOF where
 i:Nat
 f:Nat
 id:Nat
 out:List T16
 c:Nat
structure KOC where
 k:Nat
 id:Nat
 c:Nat
set_option maxHeartbeats 4000000 in
theorem dOd:fHn Tryz.prog GLh 87 dFi:=by
 refine zK Tryz.func87 (aT rfl) ?_
 intro args r hg
 unfold dFi at hg
 split at hg
 ·rename_i n xs
  replace hg:=aJ hg;obtain⟨b,hb,hg⟩:=hg
  replace hg:=aP hg;obtain⟨⟨hn,hbig⟩,hg⟩:=hg
  obtain rfl:=J0 hg
  have:=iX _ hb;subst this
  refine⟨J1 rfl,fun nx=>?_⟩
  clear hb hg
  subst hn
  obtain⟨ans,hans⟩: ∃a,opR (b.length+1) (-1) b=a:=⟨_,rfl⟩
  rw[hans]
  refine ySq (yRn [0] fun K hK=>?_)
  simp(disch:=omega) only[go_sem]
  refine hK _ (aB ?_)
  refine ySq (yRn [0,4] fun K hK=>?_)
  simp(disch:=omega) only[go_sem]
  refine hK _ (aB ?_)
  refine ySq (ySq (yRn [0,4,5] fun K hK=>?_))
  simp(disch:=omega) only[go_sem]
  refine hK _ (aB ?_)
  refine iE 4 1 rfl (fPg [0,4,5] ?_)
  simp only[iB,fU,eW,↓reduceIte,Nat.reduceEqDiff]
  refine yBl 0 ?_
  refine bR (fun p:SOF=> {fr:=[(0,.sl b.length (c8 b)),(4,.os p.id 0 p.out.length 1 true),(5,.sl (b.length-p.i) (c8 (b.drop p.i)))],hp:=upd (fun _=>none) p.id (.cells (c16 p.out) true),nx:=0,cx:=p.c}) (fun p=>p.i≤b.length∧b.length-p.i<p.f∧opP (b.length+1) b=(opP p.f (b.drop p.i)).map (p.out++ ·)∧p.out.length≤8*p.i∧p.id<p.c) (fun p=>b.length-p.i) rfl ⟨⟨0,b.length+1,_,[],_⟩,⟨Nat.zero_le _,by simp only;omega,by simp,Nat.zero_le _,by simp only;omega⟩,bD rfl rfl (U3 _)⟩ ?_
  rintro⟨i,f,id,out,c⟩ ⟨hi,hf,hop,hol,hid⟩ n0
  simp only at hi hf hop hol hid⊢
  refine ySq (ySq (yRn [11,0,4,5] fun K hK=>?_))
  simp(disch:=omega) only[go_sem]
  refine hK _ (aB ?_)
  refine gLb rfl (fun h=>?_) (fun h=>?_)
  ·refine yDr ?_
   have hib:i<b.length:=by omega
   obtain⟨R,hR⟩: ∃R,b.drop i=R:=⟨_,rfl⟩
   have hRl:R.length=b.length-i:=by rw[←hR,List.length_drop]
   obtain⟨g,rfl⟩: ∃g,f=g+1:=⟨f-1,by omega⟩
   rw[hR]at hop
   by_cases h2:b.length-i<2
   ·have hd:decide (((b.length-i:Nat):Int)<2)=true:=J5 (by omega)
    rw[eSv g R (by omega) (by omega)]at hop
    have hno:=ePr (last:= -1) hop
    rw[hans]at hno
    refine ySk (aB (yBl 1 (ySq (ySq (yRn [24,0,4,5] fun K hK=>?_)))))
    simp(disch:=omega) only[go_sem,hd]
    refine hK _ (aB ?_)
    refine iTd (ySq (yRn [2,3] fun K hK=>?_))
    simp(disch:=omega) only[go_sem]
    refine hK _ (aB ?_)
    refine aS rfl (bI (bN (dF (bN (bI ?_)))))
    simp(disch:=omega) only[fHo,bV,bK,bQ,go_sem,hno]
   have hd:decide (((b.length-i:Nat):Int)<2)=false:=J6 (by omega)
   rw[eYn g R (by omega)]at hop
   obtain⟨w,hw⟩: ∃w,R.getD 0 0#8=w:=⟨_,rfl⟩
   obtain⟨z,hz⟩: ∃z,R.getD 1 0#8=z:=⟨_,rfl⟩
   rw[hw,hz]at hop
   refine ySk (aB (yBl 1 (ySq (ySq (yRn [24,0,4,5] fun K hK=>?_)))))
   simp(disch:=omega) only[go_sem,hd,hR,hz]
   refine hK _ (aB ?_)
   refine gLb rfl (fun h=>?_) (fun h=>?_)
   ·refine yDr ?_
    rw[J3 (by omega)]at hop
    have hno:=ePr (last:= -1) hop
    rw[hans]at hno
    refine ySq (yRn [2,3] fun K hK=>?_)
    simp(disch:=omega) only[go_sem]
    refine hK _ (aB ?_)
    refine aS rfl (bI (bN (dF (bN (bI ?_)))))
    simp(disch:=omega) only[fHo,bV,bK,bQ,go_sem,hno]
   refine yDr ?_
   have hzl:z.toNat≤R.length-2:=by omega
   rw[J4 hzl]at hop
   refine ySk (aB (ySq (yRn [0,4,5,6] fun K hK=>?_)))
   simp(disch:=omega) only[go_sem,hz]
   refine hK _ (aB ?_)
   refine ySq (ySq (yRn [0,4,5,6,31,32] fun K hK=>?_))
   simp(disch:=omega) only[go_sem,fGe]
   refine hK _ (aB ?_)
   refine yBl 2 ?_
   refine bR (fun p:KOC=> {fr:=[(0,.sl b.length (c8 b)),(4,.os p.id 0 (out++eLg w.toNat ((R.drop 2).take (min z.toNat 32)) p.k).length 1 true),(5,.sl (b.length-i) (c8 R)),(6,.i z.toNat),(31,.i ((8*min z.toNat 32:Nat):Int)),(32,.i p.k)],hp:=upd (fun _=>none) p.id (.cells (c16 (out++eLg w.toNat ((R.drop 2).take (min z.toNat 32)) p.k)) true),nx:=0,cx:=p.c}) (fun p=>p.k≤8*min z.toNat 32∧p.id<p.c) (fun p=>8*min z.toNat 32-p.k) rfl ⟨⟨0,id,_⟩,⟨Nat.zero_le _,by simp only;omega⟩,⟨fun _=> .inr (by simp only[eOj,List.append_nil,Int.natCast_mul];rfl),fun a b h=>by simp only[eOj,List.append_nil]at h;exact h,U3 _⟩⟩ ?_
   rintro⟨k,id2,c2⟩ ⟨hk,hid2⟩ n0
   simp only at hk hid2⊢
   have hdl:=eWo w.toNat ((R.drop 2).take (min z.toNat 32)) k
   refine ySq (yRn [33,0,4,5,6,31,32] fun K hK=>?_)
   simp(disch:=omega) only[go_sem]
   refine hK _ (aB ?_)
   refine ySq (gLb rfl (fun h=>?_) (fun h=>?_))
   ·refine yDr ?_
    have hkl:k<8*min z.toNat 32:=by omega
    have hgd:((R.drop 2).take (min z.toNat 32)).getD (k/8) 0#8=R.getD (2+k/8) 0#8:=by rw[eSb _ _ _ (by omega),eTh]
    refine ySk (aB (ySq (yBl 3 (ySq (yRn [0,4,5,6,7,31,32] fun K hK=>?_)))))
    simp(disch:=omega) only[go_sem]
    refine hK _ (aB ?_)
    have e2k:(2+((k/8:Nat):Int)).toNat=2+k/8:=by omega
    refine ySq (yRn [46,0,4,5,6,7,31,32] fun K hK=>?_)
    simp(disch:=omega) only[go_sem,i8z,eUc,fBc,fFd,eRz,e2k]
    refine hK _ (aB ?_)
    refine eGn (.tmp 46) rfl rfl rfl (fun h=>?_) (fun h=>?_)
    ·refine yDr ?_
     rw[←hgd]at h
     have hst:=eWn w.toNat ((R.drop 2).take (min z.toNat 32)) k h
     refine yRn [0,4,5,6,31,32] fun K hK=>?_
     simp(disch:=omega) only[go_sem,hw,eXt,eQg]
     refine hK _ (bU (aB ?_))
     refine yRn [0,4,5,6,31,32] fun K hK=>?_
     simp(disch:=omega) only[go_sem]
     refine hK _ (bT ?_)
     have hl2:(out++eLg w.toNat ((R.drop 2).take (min z.toNat 32)) (k+1)).length=out.length+(eLg w.toNat ((R.drop 2).take (min z.toNat 32)) k).length+1:=by rw[hst];simp only[List.length_append,List.length_cons,List.length_nil];omega
     have hr2:out++eLg w.toNat ((R.drop 2).take (min z.toNat 32)) k++[BitVec.ofNat 16 (w.toNat*256+k)]=out++eLg w.toNat ((R.drop 2).take (min z.toNat 32)) (k+1):=by rw[hst,List.append_assoc]
     refine⟨⟨k+1,c2+1+2+12+10,_⟩,⟨by simp only;omega,by simp only;omega⟩,by simp only;omega,⟨fun _=> .inr ?_,fun j o h=>?_,U3 _⟩⟩
     ·simp only[hl2,Int.natCast_add,Int.natCast_one]
     simp only at h
     exact bS (by simp(disch:=omega) only[aV,↓reduceIte,eq_self,hr2]) (fKa) j o h
    refine yDr ?_
    rw[←hgd]at h
    have hst:=eZh w.toNat ((R.drop 2).take (min z.toNat 32)) k h
    refine ySk (bU (aB (yRn [0,4,5,6,31,32] fun K hK=>?_)))
    simp(disch:=omega) only[go_sem]
    refine hK _ (bT ?_)
    refine⟨⟨k+1,id2,_⟩,⟨by simp only;omega,by simp only;omega⟩,by simp only;omega,⟨fun _=> .inr ?_,fun j o h=>?_,U3 _⟩⟩
    ·simp only[hst,List.length_append,Int.natCast_add,Int.natCast_one]
    simp only at h
    exact bS (by simp(disch:=omega) only[aV,↓reduceIte,eq_self,hst]) (fKa) j o h
   refine yDr ?_
   obtain rfl:k=8*min z.toNat 32:=by omega
   have hall:=eWp w.toNat ((R.drop 2).take (min z.toNat 32)) (8*min z.toNat 32) (by rw[List.length_take,List.length_drop];omega)
   have hrd:R.drop (2+z.toNat)=b.drop (i+(2+z.toNat)):=by rw[←hR,List.drop_drop]
   have htk:(R.drop (2+z.toNat)).take (b.length-i-(2+z.toNat))=R.drop (2+z.toNat):=List.take_of_length_le (by rw[List.length_drop];omega)
   have e2z:(2+(z.toNat:Int)).toNat=2+z.toNat:=by omega
   have hln:b.length-i-(2+z.toNat)=b.length-(i+(2+z.toNat)):=by omega
   rw[hall]at hdl
   refine yEx 2 (aY (aZ (bE (aB (yRn [0,4,5] fun K hK=>?_)))))
   simp(disch:=omega) only[go_sem,e2z,htk,hall]
   refine hK _ (bU (bT ?_))
   refine⟨⟨i+(2+z.toNat),g,id2,out++rR w.toNat ((R.drop 2).take (min z.toNat 32)),_⟩,⟨by simp only;omega,by simp only;omega,?_,by simp only[List.length_append];omega,by simp only;omega⟩,by simp only;omega,⟨fun _=> .inr ?_,fun j o h=>?_,U3 _⟩⟩
   ·rw[hop,hrd]
    cases opP g (b.drop (i+(2+z.toNat)))with
    |none=>rfl
    |some l=>simp
   ·simp only[hln,hrd,List.length_append]
   simp only at h
   exact bS (by simp(disch:=omega) only[aV,↓reduceIte,eq_self]) (fKa) j o h
  refine yDr ?_
  obtain rfl:i=b.length:=by omega
  rw[List.drop_length]at hop
  obtain⟨g,rfl⟩: ∃g,f=g+1:=⟨f-1,by omega⟩
  have hop2:opP (b.length+1) b=some out:=by rw[hop];simp[opP]
  refine yEx 0 (aY (aZ (bE (aB (ySq (ySq ?_))))))
  by_cases he:bmL (gF out)=b
  ·have hq:=fCd hop2 he
   rw[hans]at hq
   have hd:decide (b=b)=true:=J5 rfl
   refine yRg [67,4] (aH cWm (aH fFh aO)) fun K hK=>?_
   simp(disch:=omega) only[go_sem,he]
   refine hK _ (aB ?_)
   refine iFd (ySk (aB (ySq (yRn [2,3] fun K hK=>?_))))
   simp(disch:=omega) only[go_sem]
   refine hK _ (aB ?_)
   refine aS rfl ?_
   simp(disch:=omega) only[fHo,bV,bK,bQ,go_sem,hq]
  have hq:=fCc (last:= -1) hop2 he
  rw[hans]at hq
  have hd:decide (bmL (gF out)=b)=false:=J6 he
  refine yRg [67,4] (aH cWm (aH fFh aO)) fun K hK=>?_
  simp(disch:=omega) only[go_sem,hd]
  refine hK _ (aB ?_)
  refine iTd (ySq (yRn [2,3] fun K hK=>?_))
  simp(disch:=omega) only[go_sem]
  refine hK _ (aB ?_)
  refine aS rfl (bI ?_)
  simp(disch:=omega) only[fHo,bV,bK,bQ,go_sem,hq]
 cases hg
theorem fFj:bX Tryz.prog GLh 87 (.pure false dFi):=⟨⟨_,Tryz.func87,rfl,rfl⟩,dOd⟩
end Go.AX.D5
