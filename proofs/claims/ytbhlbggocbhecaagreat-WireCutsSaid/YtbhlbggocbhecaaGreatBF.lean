/-
  Data, part yF: a NSEC3's data read. Data, part yG: Sig, Chain, Check of every type. Wire, part nA: data whose names may be compressed, taken off a reader. Wire, part nB: data whose names may be compressed, taken off a reader. Wire, part nT: a region that draws its order; a call that panics, ahead of which all stands that doesn't come behind it. Wire, part nC: a record's data, of any type, taken off a reader. Wire, part nW: a region that draws its order; a call that panics, beside loads and moves that may come ahead of it or not. Wire, part nD: a record of any type, taken off a reader. Wire, part nE: records of any types, taken off a reader. Wire, part nF: a message that can't be read, taken off a reader. Wire, part nG: Read of what is no message. Wire, part nP: in plain words: what is cut off a message, or longer than one, is read to no end of its own. Wire, part nQ: any name checked. Wire, part nR: may any message be written? Wire, part nS: any message written. Wire, part nU: is a message light enough to be asked? Types, part Q: bitmaps, read by the document. Data, part yL: the document's numbers and names read. Data, part yM: the document's DNSKEYs and SOAs read. Data, part yN: the document's RRSIGs and NSEC3s read.
-/
import Derived.Test.YtbhlbggocbhecaaGreatBE
import Derived.Test.YtbhlbggocbhecaaGreatBD
import Derived.Test.YtbhlbggocbhecaaGreatBC
namespace Go.AX.D5
open Go Go.Proofs
set_option maxRecDepth 20000
theorem st6 (a0 a1 a2 a3 a4 a5 b0 b1 b2 b3 b4 b5:AV):dV [a0,a1,a2,a3,a4,a5] 0 [b0,b1,b2,b3,b4,b5]=[b0,b1,b2,b3,b4,b5]:=(rfl)
theorem fCp (a0 a1 a2 a3 a4 a5:AV):AV.ids (.agg [a0,a1,a2,a3,a4,a5])=max a0.ids (max a1.ids (max a2.ids (max a3.ids (max a4.ids (max a5.ids 0))))):=(rfl)
attribute [go_sem] st6
def is6:Option AO→Bool
 |some (.cells [_,_,_,_,_,_] true)=>true
 |_=>false
theorem eYy {o:Option AO} (h:is6 o=true): ∃x0 x1 x2 x3 x4 x5,o=some (.cells [x0,x1,x2,x3,x4,x5] true):=by
 unfold is6 at h
 split at h
 ·exact⟨_,_,_,_,_,_,rfl⟩
 cases h
theorem fGk (x0 x1 x2 x3 x4 x5:AV):is6 (some (.cells [x0,x1,x2,x3,x4,x5] true))=true:=(rfl)
attribute [go_sem] fGk
theorem eZd (l:List T16):AV.ids.idsL (c16 l)=0:=by
 induction l with
 |nil=>rfl
 |cons x l ih=>show max (AV.ids (.w16 x)) (AV.ids.idsL (c16 l))=0;rw[ih];rfl
theorem eWf (n:Nat) (l:List T16):AV.ids (.sl n (c16 l))=0:=eZd l
def txD (l:List B8) (a:Nat):List B8:=(l.drop (a+1)).take (l.getD a 0#8).toNat
theorem eRe {l:List B8} {a p:Nat} (h:txE l a=some p):a<p∧p≤l.length∧p=a+1+(txD l a).length∧rS l a=some (.sl (txD l a).length (c8 (txD l a)),[.sl l.length (c8 l),.i (p:Int)]):=by
 unfold txE at h
 split at h
 ·rename_i hc
  obtain rfl:=J0 h
  have hl:(txD l a).length=(l.getD a 0#8).toNat:=by unfold txD;rw[List.length_take,List.length_drop];omega
  refine⟨by omega,by omega,by omega,?_⟩
  unfold rS
  rw[J4 hc,hl];rfl
 cases h
theorem eRf {l:List B8} {a:Nat} (h:txE l a=none):rS l a=none:=by
 rcases eMm l a with⟨_,h2⟩|⟨p,d,h2,_⟩
 ·exact h2
 rw[h]at h2;cases h2
def fGu (l:List B8) (p1:Nat) (ty:List T16):AV:=.agg [.w8 (l.getD 0 0#8),.w8 (l.getD 1 0#8),.w16 ((fRs ((l.drop 2).take 2)).setWidth 16),.sl (txD l 4).length (c8 (txD l 4)),.sl (txD l p1).length (c8 (txD l p1)),.sl ty.length (c16 ty)]
def bmO (b:List B8):Option (List T16):=opR (b.length+1) (-1) b
def fGv (l:List B8) (p1:Nat):Option (List T16)→Option (AV×List AV)
 |none=>none
 |some ty=>some (fGu l p1 ty,[.sl l.length (c8 l),.i (l.length:Int)])
def fDh (l:List B8) (p1:Nat):Option Nat→Option (AV×List AV)
 |none=>none
 |some p2=>if 0<(txD l p1).length then fGv l p1 (bmO (l.drop p2))else none
def fDi (l:List B8):Option Nat→Option (AV×List AV)
 |none=>none
 |some p1=>fDh l p1 (txE l p1)
def gW (l:List B8):Option (AV×List AV):=if 4≤l.length then fDi l (txE l 4)else none
def eMi:List AV→List AV→Option (Option (AV×List AV))
 |[.op _ 0],[.sl n xs,.i 0]=>aK (fHq xs) fun l=>aN (l.length=n∧n≤100000) (some (gW l))
 |_,_=>none
theorem eWx (id n:Nat) (xs:List AV):eMi [.op id 0] [.sl n xs,.i 0]=aK (fHq xs) fun l=>aN (l.length=n∧n≤100000) (some (gW l)):=(rfl)
attribute [go_sem] eWx
theorem eMf (l:List B8):gW l=none∨∃(v1 v2:B8) (v3:BitVec 16) (v4 v5:List B8) (v6:List T16) (p:Nat),gW l=some (.agg [.w8 v1,.w8 v2,.w16 v3,.sl v4.length (c8 v4),.sl v5.length (c8 v5),.sl v6.length (c16 v6)],[.sl l.length (c8 l),.i (p:Int)]):=by
 unfold gW
 split
 ·rcases txE l 4 with _|p1
  ·exact .inl rfl
  simp only[fDi]
  rcases txE l p1 with _|p2
  ·exact .inl rfl
  simp only[fDh]
  split
  ·rcases bmO (l.drop p2)with _|ty
   ·exact .inl rfl
   exact .inr ⟨_,_,_,_,_,_,_,rfl⟩
  exact .inl rfl
 exact .inl rfl
set_option maxHeartbeats 8000000 in
theorem eOm:fHs Tryz.prog GLh 84 (rdH eMi)∧dE Tryz.prog GLh 84 chM (rdP eMi):=by
 refine dT Tryz.func84 (aT rfl) ?_
 intro id off rest nx xs o hg
 unfold eMi at hg
 split at hg
 ·rename_i id2 n xs2 heq
  simp only[List.cons.injEq,AV.op.injEq]at heq
  obtain⟨⟨rfl,rfl⟩,rfl⟩:=heq
  replace hg:=aJ hg;obtain⟨l,hl,hg⟩:=hg
  replace hg:=aP hg;obtain⟨⟨rfl,hnb⟩,hg⟩:=hg
  obtain rfl:=J0 hg
  have:=bW hl;subst this
  refine⟨J1 rfl,fun hid=>?_⟩
  clear hl hg
  obtain⟨ans,hans⟩: ∃a,gW l=a:=⟨_,rfl⟩
  rw[hans]
  unfold gW at hans
  refine ySq (yRn [0,2] fun K hK=>?_)
  simp(disch:=omega) only[go_sem]
  refine hK _ (aB ?_)
  by_cases q1:1≤l.length
  ·have n0:rL l 1 0=some (.w32 ((l.getD 0 0#8).setWidth 32),[.sl l.length (c8 l),.i 1]):=eSx (by omega)
   by_cases q2:2≤l.length
   ·have n1:rL l 1 1=some (.w32 ((l.getD 1 0#8).setWidth 32),[.sl l.length (c8 l),.i 2]):=eSx (by omega)
    by_cases q4:4≤l.length
    ·have n2:rL l 2 2=some (.w32 (fRs ((l.drop 2).take 2)),[.sl l.length (c8 l),.i 4]):=eKs (by omega)
     rw[J4 q4]at hans
     rcases t1:txE l 4 with _|p1
     ·rw[t1]at hans;subst hans
      refine ySq (dCn 10 (eKq) eNr (aH fL (aH eMk aO)) rfl rfl rfl (fun Z hZ=>?_))
      simp(disch:=omega) only[go_sem,bG,eq_self,true_and,bP,List.map_cons,List.map_nil,List.append_nil,n0,n1,n2,sw8,eRf t1,U0,U1]
      refine hZ _ ?_;clear hZ Z
      exact rfl
     obtain⟨a1,a2,a3,a4⟩:=eRe t1
     rw[t1]at hans
     simp only[fDi]at hans
     rcases t2:txE l p1 with _|p2
     ·rw[t2]at hans;subst hans
      refine ySq (dCn 12 (eKq) eNr (aH fL (aH eMk aO)) rfl rfl rfl (fun Z hZ=>?_))
      simp(disch:=omega) only[go_sem,bG,eq_self,true_and,bP,List.map_cons,List.map_nil,List.append_nil,n0,n1,n2,sw8,a4,U2,eRf t2,U0,U1]
      refine hZ _ ?_;clear hZ Z
      exact rfl
     obtain⟨b1,b2',b3,b4⟩:=eRe t2
     rw[t2]at hans
     simp only[fDh]at hans
     refine ySq (yRg [0,2,3] (aH fL (aH eMk aO)) fun K hK=>?_)
     simp(disch:=omega) only[go_sem,n0,n1,n2,sw8,a4,U2,b4]
     refine hK _ (aB ?_)
     by_cases q0:0<(txD l p1).length
     ·rw[J4 q0]at hans
      have hd:decide ((0:Int)<((txD l p1).length:Int))=true:=J5 (by omega)
      refine ySq (yRg [0,2,3] (aH rP aO) fun K hK=>?_)
      simp(disch:=omega) only[go_sem,hd]
      refine hK _ (aB ?_)
      have hdl:(l.drop p2).length=l.length-p2:=List.length_drop ..
      obtain⟨D,hD⟩: ∃D,l.drop p2=D:=⟨_,rfl⟩
      rw[hD]at hdl hans
      have hun:un8 (c8 D)=some D:=kK D
      rcases ho:bmO D with _|ty
      ·rw[ho]at hans;subst hans
       have ho2:opR (l.length-p2+1) (-1) D=none:=by rw[←hdl];exact ho
       refine ySq (yRg [2,3,4,5] (aH eMl (aH fFj aO)) fun K hK=>?_)
       simp(disch:=omega) only[go_sem,U2,rA,hD,hdl,ho2]
       refine hK _ (aB ?_)
       have h40:decide ((40:Int)=0)=false:=rfl
       refine ySq (dCn 2 (fPd) rD (aH rP aO) rfl rfl rfl (fun Z hZ=>?_))
       simp(disch:=omega) only[go_sem,bG,eq_self,true_and,bP,List.map_cons,List.map_nil,List.append_nil,U0,U1]
       refine hZ _ ?_;clear hZ Z
       exact rfl
      rw[ho]at hans;subst hans
      have ho2:opR (l.length-p2+1) (-1) D=some ty:=by rw[←hdl];exact ho
      refine ySq (yRg [2,3,4,5] (aH eMl (aH fFj aO)) fun K hK=>?_)
      simp(disch:=omega) only[go_sem,U2,rA,hD,hdl,ho2]
      refine hK _ (aB ?_)
      refine ySq (yRg [2,3,4] (aH rP aO) fun K hK=>?_)
      simp(disch:=omega) only[go_sem]
      refine hK _ (aB ?_)
      refine ySq (yRn [2,3] fun K hK=>?_)
      simp(disch:=omega) only[go_sem]
      refine hK _ (aB ?_)
      unfold fGv fGu
      refine ySq (yRn [2] fun K hK=>?_)
      simp(disch:=omega) only[go_sem]
      refine hK _ (aB ?_)
      refine aS rfl (⟨by simp(disch:=omega) only[bV,bK,bQ,go_sem,aV,eq_self],by simp(disch:=omega) only[aV,bY,↓reduceIte,eq_self],?_,?_⟩)
      ·simp only[fCp,eWf,eLf];rfl
      exact fVp _ _ _
     rw[J3 q0]at hans;subst hans
     have hd:decide ((0:Int)<((txD l p1).length:Int))=false:=J6 (by omega)
     refine ySq (dCn 4 (fPd) rD (aH rP aO) rfl rfl rfl (fun Z hZ=>?_))
     simp(disch:=omega) only[go_sem,bG,eq_self,true_and,bP,List.map_cons,List.map_nil,List.append_nil,hd,U0,U1]
     refine hZ _ ?_;clear hZ Z
     exact rfl
    rw[J3 q4]at hans;subst hans
    refine ySq (dCn 7 (dK) fSe (aH fL (aH eMk aO)) rfl rfl rfl (fun Z hZ=>?_))
    simp(disch:=omega) only[go_sem,bG,eq_self,true_and,bP,List.map_cons,List.map_nil,List.append_nil,n0,n1,sw8,fPs (l:=l) (k:=2) (a:=2) (by omega),U0,U1]
    refine hZ _ ?_;clear hZ Z
    exact rfl
   rw[J3 (by omega)]at hans;subst hans
   refine ySq (dCn 4 (dK) fSe (aH fL (aH eMk aO)) rfl rfl rfl (fun Z hZ=>?_))
   simp(disch:=omega) only[go_sem,bG,eq_self,true_and,bP,List.map_cons,List.map_nil,List.append_nil,n0,sw8,fPs (l:=l) (k:=1) (a:=1) (by omega),U0,U1]
   refine hZ _ ?_;clear hZ Z
   exact rfl
  rw[J3 (by omega)]at hans;subst hans
  refine ySq (dCn 1 (dK) fSe (aH fL (aH eMk aO)) rfl rfl rfl (fun Z hZ=>?_))
  simp(disch:=omega) only[go_sem,bG,eq_self,true_and,bP,List.map_cons,List.map_nil,List.append_nil,fPs (l:=l) (k:=1) (a:=0) (by omega),U0,U1]
  refine hZ _ ?_;clear hZ Z
  exact rfl
 cases hg
theorem eWw:dE Tryz.prog GLh 84 chM (rdP eMi):=eOm.2
theorem fDw:fHm Tryz.prog 84:=⟨_,Tryz.func84,rfl,rfl⟩
theorem eJv:bX Tryz.prog GLh 84 (.heap (rdH eMi)):=⟨⟨_,Tryz.func84,rfl,rfl⟩,eOm.1⟩
theorem fCs (vals:Array Value) (w:World) (hs:vals.size=2):CallsD Tryz.prog 96 vals .returning w fun e u1 w'=>e=.returned (.tuple #[])∧u1=.returning∧w'=w:=by
 obtain⟨l⟩:=vals
 match l,hs with
 |[a,b],_=>
  refine callsD_of_wpS Tryz.func96 rfl fun c₀ cs hu=>?_
  apply wpS_seq
  apply wpS_region
  simp[wpOpsS,go_sem,recoverD,hu,Tryz.ntmps96,Exit.thenS]
  apply wpS_seq
  apply wpS_region
  simp[wpOpsS,go_sem,Exit.thenS]
  refine wpS_cond (t:=false) (by simp[Act.eval,Array.replicate]) ?_
  simp only[Bool.false_eq_true,if_false]
  refine wpS_of_wp (wp_skip ?_)
  cases c₀
  simp_all [bodyPostS,results,Tryz.results96]
theorem fHa:bSj Tryz.prog GLh 96 .returning .returning (fQc 2):=dPj fCs
theorem fDp:fHm Tryz.prog 96:=⟨_,Tryz.func96,rfl,rfl⟩
def fAj:List AV→H→Nat→Option (H×Nat)
 |[.op i1 0,.op i2 0],hp,nx=>aN ((is6 (hp i1)=true∧fWn (hp i2)=true)∧i1≠i2∧i1<nx∧i2<nx) (some (upd (upd hp i1 (.cells [.w8 0#8,.w8 0#8,.w16 0#16,.v (.slice none 0 0),.v (.slice none 0 0),.v (.slice none 0 0)] true)) i2 (.cells [.i 50] true),nx+30))
 |_,_,_=>none
theorem fAi (i1 i2 nx:Nat) (hp:H):fAj [.op i1 0,.op i2 0] hp nx=aN ((is6 (hp i1)=true∧fWn (hp i2)=true)∧i1≠i2∧i1<nx∧i2<nx) (some (upd (upd hp i1 (.cells [.w8 0#8,.w8 0#8,.w16 0#16,.v (.slice none 0 0),.v (.slice none 0 0),.v (.slice none 0 0)] true)) i2 (.cells [.i 50] true),nx+30)):=(rfl)
attribute [go_sem] fAi
set_option maxHeartbeats 4000000 in
theorem fAh:bSj Tryz.prog GLh 96 (.panicking chM) (.panicking [{v:=.iface 154 (.agg #[]),recovered:=true}]) fAj:=by
 refine fZ (rest:=(cr (aE Tryz.f96))) (rv:=.iface 154 (.agg #[])) (a:=6) (b:=2) Tryz.func96 rfl (.inl rfl) ⟨J1 rfl,J1 rfl⟩ ?_
 intro args hp nx hp' nx' hg
 unfold fAj at hg
 split at hg
 ·rename_i i1 i2
  replace hg:=aP hg;obtain⟨⟨⟨o1,o2⟩,n12,l1,l2⟩,hg⟩:=hg
  simp only[Option.some.injEq,Prod.mk.injEq]at hg;obtain⟨rfl,rfl⟩:=hg
  obtain⟨x0,x1,x2,x3,x4,x5,h1⟩:=eYy o1
  obtain⟨y,h2⟩:=fSn o2
  refine⟨J1 rfl,Nat.le_add_right _ _,fun hno=>?_⟩
  simp only[aOo]
  refine ySq (yRn [8,0,1,2] fun K hK=>?_)
  simp(disch:=omega) only[go_sem]
  refine hK _ (aB ?_)
  refine gLc rfl (fun h=>?_) (fun h=>?_)
  ·refine yDr (ySq (ySq (yRn [0,1,2,4] fun K hK=>?_)))
   simp(disch:=omega) only[go_sem]
   refine hK _ (aB ?_)
   refine ySq (yRn [15,0,1,2] fun K hK=>?_)
   simp(disch:=omega) only[go_sem]
   refine hK _ (aB ?_)
   refine iFd (ySk (aB (ySq (yRn [0,1,5] fun K hK=>?_))))
   simp(disch:=omega) only[go_sem]
   refine hK _ (aB ?_)
   refine yRn [] fun K hK=>?_
   simp(disch:=omega) only[go_sem,h1,h2]
   refine hK _ ?_
   exact⟨rfl,eKv hno (by omega) (by omega),by simp only;omega⟩
  refine yDr ?_
  cases h
 cases hg
def eNc:List AV→Option AV
 |[.sl n xs,.fn 84 []]=>aK (fHq xs) fun l=>aN (l.length=n∧n≤100000) (some (rdT (.agg [.w8 0#8,.w8 0#8,.w16 0#16,.sl 0 [],.sl 0 [],.sl 0 []]) l.length (gW l)))
 |_=>none
theorem eSs (n:Nat) (xs:List AV):eNc [.sl n xs,.fn 84 []]=aK (fHq xs) fun l=>aN (l.length=n∧n≤100000) (some (rdT (.agg [.w8 0#8,.w8 0#8,.w16 0#16,.sl 0 [],.sl 0 [],.sl 0 []]) l.length (gW l))):=(rfl)
attribute [go_sem] eSs
set_option maxHeartbeats 4000000 in
theorem eVe:fHn Tryz.prog GLh 83 eNc:=by
 refine cUy (r0:=(cl (aE Tryz.f83))) (C:=(cr (cr (aE Tryz.f83)))) (k:=7) (d:=96) (caps:= #[.tmp 4,.tmp 5]) Tryz.func83 rfl (J1 rfl) fDp fHa fAh rfl ?_
 intro args r hg
 unfold eNc at hg
 split at hg
 ·rename_i n xs
  replace hg:=aJ hg;obtain⟨l,hl,hg⟩:=hg
  replace hg:=aP hg;obtain⟨⟨rfl,hnb⟩,hg⟩:=hg
  obtain rfl:=J0 hg
  have:=bW hl;subst this
  refine⟨J1 rfl,fun nx=>⟨[.op nx 0,.op (nx+1) 0],?_⟩⟩
  clear hl hg
  have hcs:=eMf l
  refine yRn [0,1,4,5] fun K hK=>?_
  simp(disch:=omega) only[go_sem]
  refine hK _ ?_
  refine⟨rfl,?_⟩
  simp only[dBa]
  refine ySq (yRn [0,1,4,5,6] fun K hK=>?_)
  simp(disch:=omega) only[go_sem]
  refine hK _ (aB ?_)
  rcases hcs with e2|⟨v1,v2,v3,v4,v5,v6,p,e2⟩
  ·refine ySq (dCn (Γ:=aL) 2 (eWw) fDw (aD _ _) rfl rfl rfl (fun Z hZ=>?_))
   simp(disch:=omega) only[go_sem,bG,eq_self,true_and,bP,List.map_cons,List.map_nil,List.append_nil,e2,U0,U1]
   refine hZ _ ?_;clear hZ Z
   refine fMe (gI:=fQc 2) (p:=_) (by simp(disch:=omega) only[go_sem,aV,kE,bY];rfl) ?_
   rw[e2,eOd]
   simp(disch:=omega) only[bV,bK,bQ,go_sem,aV,bY]
  refine ySq (yRg [0,4,5,6] (aH eJv aO) fun K hK=>?_)
  simp(disch:=omega) only[go_sem,e2]
  refine hK _ (aB ?_)
  by_cases hp:(p:Int)=(l.length:Int)
  ·have hd:decide ((p:Int)=(l.length:Int))=true:=J5 hp
   refine ySq (yRg [4,5] (aH rP aO) fun K hK=>?_)
   simp(disch:=omega) only[go_sem,hd]
   refine hK _ (aB ?_)
   refine ySq (yRn [4,5] fun K hK=>?_)
   simp(disch:=omega) only[go_sem]
   refine hK _ (aB ?_)
   refine aS rfl (rO (gP:=fAj) (ch:=chM) (p:=_) (eKm _ _ _ _) ?_)
   rw[e2,fO _ _ _ hp]
   simp(disch:=omega) only[bV,bK,bQ,go_sem,aV,bY]
  have hd:decide ((p:Int)=(l.length:Int))=false:=J6 hp
  refine ySq (dCn 7 (fPd) rD (aH rP aO) rfl rfl rfl (fun Z hZ=>?_))
  simp(disch:=omega) only[go_sem,bG,eq_self,true_and,bP,List.map_cons,List.map_nil,List.append_nil,hd,U0,U1]
  refine hZ _ ?_;clear hZ Z
  refine fMe (gI:=fQc 2) (p:=_) (by simp(disch:=omega) only[go_sem,aV,bY];rfl) ?_
  rw[e2,iD _ _ _ hp]
  simp(disch:=omega) only[bV,bK,bQ,go_sem,aV,bY]
 cases hg
theorem ok57:bX Tryz.prog GLh 83 (.pure false eNc):=⟨⟨_,Tryz.func83,rfl,rfl⟩,eVe⟩
end Go.AX.D5

namespace Go.AX.D5
open Go Go.Proofs
set_option maxRecDepth 20000
theorem eRj (l:List B8): ∃(v1:BitVec 16) (v2 v3:B8) (v4 v5 v6:BitVec 32) (v7:BitVec 16) (v8:Nm) (v9:List B8),rdT (.agg [.w16 0#16,.w8 0#8,.w8 0#8,.w32 0#32,.w32 0#32,.w32 0#32,.w16 0#16,.sl 0 [],.sl 0 []]) l.length (eY l)=.tup [.agg [.w16 v1,.w8 v2,.w8 v3,.w32 v4,.w32 v5,.w32 v6,.w16 v7,.sl v8.length (cS v8),.sl v9.length (c8 v9)],.i (rdE l.length (eY l))]:=by
 rcases eMb l with e|⟨v1,v2,v3,v4,v5,v6,v7,v8,v9,p,e⟩
 ·exact⟨0,0,0,0,0,0,0,[],[],by rw[e];rfl⟩
 rw[e]
 by_cases hp:(p:Int)=(l.length:Int)
 ·exact⟨v1,v2,v3,v4,v5,v6,v7,v8,v9,by rw[fO _ _ _ hp,eNd _ _ hp]⟩
 exact⟨0,0,0,0,0,0,0,[],[],by rw[iD _ _ _ hp,eLn _ _ hp];rfl⟩
def eSe (l:List B8):AV:=rdT (.agg [.w16 0#16,.w8 0#8,.w8 0#8,.w32 0#32,.w32 0#32,.w32 0#32,.w16 0#16,.sl 0 [],.sl 0 []]) l.length (eY l)
def eSf:List AV→Option AV
 |[.sl n xs]=>aK (fHq xs) fun l=>aN (l.length=n∧n≤100000) (some (eSe l))
 |_=>none
theorem eYc (n:Nat) (xs:List AV):eSf [.sl n xs]=aK (fHq xs) fun l=>aN (l.length=n∧n≤100000) (some (eSe l)):=(rfl)
attribute [go_sem] eYc
set_option maxHeartbeats 4000000 in
theorem fBt:fHn Tryz.prog GLh 70 eSf:=by
 refine zK Tryz.func70 (aT rfl) ?_
 intro args r hg
 unfold eSf at hg
 split at hg
 ·rename_i n xs
  replace hg:=aJ hg;obtain⟨l,hl,hg⟩:=hg
  replace hg:=aP hg;obtain⟨⟨rfl,hn⟩,hg⟩:=hg
  obtain rfl:=J0 hg
  have:=bW hl;subst this
  refine⟨J1 rfl,fun nx=>?_⟩
  clear hl hg
  obtain⟨v1,v2,v3,v4,v5,v6,v7,v8,v9,hv⟩:=eRj l
  unfold eSe
  obtain⟨e,he⟩: ∃e,rdE l.length (eY l)=e:=⟨_,rfl⟩
  rw[he]at hv
  rw[hv]
  refine ySq (yRn [0,2] fun K hK=>?_)
  simp(disch:=omega) only[go_sem]
  refine hK _ (aB ?_)
  refine ySq (yRg [2,3] (aH ok54 (aH fFk aO)) fun K hK=>?_)
  simp(disch:=omega) only[go_sem,hv]
  refine hK _ (aB ?_)
  refine aS rfl ?_
  simp(disch:=omega) only[fHo,bV,bK,bQ,go_sem]
 cases hg
theorem cWr:bX Tryz.prog GLh 70 (.pure false eSf):=⟨⟨_,Tryz.func70,rfl,rfl⟩,fBt⟩
theorem eRl (l:List B8): ∃(v1 v2:B8) (v3:BitVec 16) (v4 v5:List B8) (v6:List T16),rdT (.agg [.w8 0#8,.w8 0#8,.w16 0#16,.sl 0 [],.sl 0 [],.sl 0 []]) l.length (gW l)=.tup [.agg [.w8 v1,.w8 v2,.w16 v3,.sl v4.length (c8 v4),.sl v5.length (c8 v5),.sl v6.length (c16 v6)],.i (rdE l.length (gW l))]:=by
 rcases eMf l with e|⟨v1,v2,v3,v4,v5,v6,p,e⟩
 ·exact⟨0,0,0,[],[],[],by rw[e];rfl⟩
 rw[e]
 by_cases hp:(p:Int)=(l.length:Int)
 ·exact⟨v1,v2,v3,v4,v5,v6,by rw[fO _ _ _ hp,eNd _ _ hp]⟩
 exact⟨0,0,0,[],[],[],by rw[iD _ _ _ hp,eLn _ _ hp];rfl⟩
def eZm (l:List B8):AV:=rdT (.agg [.w8 0#8,.w8 0#8,.w16 0#16,.sl 0 [],.sl 0 [],.sl 0 []]) l.length (gW l)
def eWv:List AV→Option AV
 |[.sl n xs]=>aK (fHq xs) fun l=>aN (l.length=n∧n≤100000) (some (eZm l))
 |_=>none
theorem eZn (n:Nat) (xs:List AV):eWv [.sl n xs]=aK (fHq xs) fun l=>aN (l.length=n∧n≤100000) (some (eZm l)):=(rfl)
attribute [go_sem] eZn
set_option maxHeartbeats 4000000 in
theorem fDg:fHn Tryz.prog GLh 71 eWv:=by
 refine zK Tryz.func71 (aT rfl) ?_
 intro args r hg
 unfold eWv at hg
 split at hg
 ·rename_i n xs
  replace hg:=aJ hg;obtain⟨l,hl,hg⟩:=hg
  replace hg:=aP hg;obtain⟨⟨rfl,hn⟩,hg⟩:=hg
  obtain rfl:=J0 hg
  have:=bW hl;subst this
  refine⟨J1 rfl,fun nx=>?_⟩
  clear hl hg
  obtain⟨v1,v2,v3,v4,v5,v6,hv⟩:=eRl l
  unfold eZm
  obtain⟨e,he⟩: ∃e,rdE l.length (gW l)=e:=⟨_,rfl⟩
  rw[he]at hv
  rw[hv]
  refine ySq (yRn [0,2] fun K hK=>?_)
  simp(disch:=omega) only[go_sem]
  refine hK _ (aB ?_)
  refine ySq (yRg [2,3] (aH ok57 (aH eJv aO)) fun K hK=>?_)
  simp(disch:=omega) only[go_sem,hv]
  refine hK _ (aB ?_)
  refine aS rfl ?_
  simp(disch:=omega) only[fHo,bV,bK,bQ,go_sem]
 cases hg
theorem ok27:bX Tryz.prog GLh 71 (.pure false eWv):=⟨⟨_,Tryz.func71,rfl,rfl⟩,fDg⟩
def chkF (t:BitVec 16) (l:List B8):Int:=if 8192<l.length then 50 else if t=6#16 then rdE l.length (eX l)else if t=46#16 then rdE l.length (eY l)else if t=50#16 then rdE l.length (gW l)else if t=48#16 then rdE l.length (gE l)else rdE l.length (eKo l (shp t l))
def eNq:List AV→Option AV
 |[.w16 t,.sl n xs]=>aK (fHq xs) fun l=>aN (l.length=n∧n≤100000) (some (.i (chkF t l)))
 |_=>none
theorem eWy (t:BitVec 16) (n:Nat) (xs:List AV):eNq [.w16 t,.sl n xs]=aK (fHq xs) fun l=>aN (l.length=n∧n≤100000) (some (.i (chkF t l))):=(rfl)
attribute [go_sem] eWy
set_option maxHeartbeats 4000000 in
theorem eZr:fHn Tryz.prog GLh 68 eNq:=by
 refine zK Tryz.func68 (aT rfl) ?_
 intro args r hg
 unfold eNq at hg
 split at hg
 ·rename_i t n xs
  replace hg:=aJ hg;obtain⟨l,hl,hg⟩:=hg
  replace hg:=aP hg;obtain⟨⟨rfl,hn⟩,hg⟩:=hg
  obtain rfl:=J0 hg
  have:=bW hl;subst this
  refine⟨J1 rfl,fun nx=>?_⟩
  clear hl hg
  unfold chkF
  refine ySq (yRn [1,2] fun K hK=>?_)
  simp(disch:=omega) only[go_sem]
  refine hK _ (aB ?_)
  refine ySq (ySq (yRn [8,1,2] fun K hK=>?_))
  simp(disch:=omega) only[go_sem]
  refine hK _ (aB ?_)
  refine gLb rfl (fun h=>?_) (fun h=>?_)
  ·refine yDr ?_
   rw[J4 (by omega)]
   refine ySq (yRn [4] fun K hK=>?_)
   simp(disch:=omega) only[go_sem]
   refine hK _ (aB ?_)
   refine aS rfl (bI ?_)
   simp(disch:=omega) only[fHo,bV,bK,bQ,go_sem]
  refine yDr ?_
  rw[J3 (by omega)]
  refine ySk (aB (ySq (yRn [1,2] fun K hK=>?_)))
  simp(disch:=omega) only[go_sem]
  refine hK _ (aB ?_)
  refine ySq (ySq (yRn [1,2,9] fun K hK=>?_))
  simp(disch:=omega) only[go_sem]
  refine hK _ (aB ?_)
  refine yBl 0 (ySq (yRn [16,1,2,9] fun K hK=>?_))
  simp(disch:=omega) only[go_sem]
  refine hK _ (aB ?_)
  refine gLb rfl (fun h=>?_) (fun h=>?_)
  ·refine yDr ?_
   rw[J4 h]
   obtain⟨v1,v2,v3,v4,v5,v6,v7,hv⟩:=eRi l
   obtain⟨e,he⟩: ∃e,rdE l.length (eX l)=e:=⟨_,rfl⟩
   rw[he]at hv⊢
   refine yRg [5] (aH eBs aO) fun K hK=>?_
   simp(disch:=omega) only[go_sem,ePm,hv]
   refine hK _ (bU (aB ?_))
   refine ySq (yRn [4] fun K hK=>?_)
   simp(disch:=omega) only[go_sem]
   refine hK _ (aB ?_)
   refine aS rfl ?_
   simp(disch:=omega) only[fHo,bV,bK,bQ,go_sem]
  refine yDr ?_
  rw[J3 h]
  refine ySq (yRn [23,1,2,9] fun K hK=>?_)
  simp(disch:=omega) only[go_sem]
  refine hK _ (aB ?_)
  refine gLb rfl (fun h=>?_) (fun h=>?_)
  ·refine yDr ?_
   rw[J4 h]
   obtain⟨v1,v2,v3,v4,v5,v6,v7,v8,v9,hv⟩:=eRj l
   obtain⟨e,he⟩: ∃e,rdE l.length (eY l)=e:=⟨_,rfl⟩
   rw[he]at hv⊢
   refine yRg [5] (aH cWr aO) fun K hK=>?_
   simp(disch:=omega) only[go_sem,eSe,hv]
   refine hK _ (bU (aB ?_))
   refine ySq (yRn [4] fun K hK=>?_)
   simp(disch:=omega) only[go_sem]
   refine hK _ (aB ?_)
   refine aS rfl ?_
   simp(disch:=omega) only[fHo,bV,bK,bQ,go_sem]
  refine yDr ?_
  rw[J3 h]
  refine ySq (yRn [30,1,2,9] fun K hK=>?_)
  simp(disch:=omega) only[go_sem]
  refine hK _ (aB ?_)
  refine gLb rfl (fun h=>?_) (fun h=>?_)
  ·refine yDr ?_
   rw[J4 h]
   obtain⟨v1,v2,v3,v4,v5,v6,hv⟩:=eRl l
   obtain⟨e,he⟩: ∃e,rdE l.length (gW l)=e:=⟨_,rfl⟩
   rw[he]at hv⊢
   refine yRg [5] (aH ok27 aO) fun K hK=>?_
   simp(disch:=omega) only[go_sem,eZm,hv]
   refine hK _ (bU (aB ?_))
   refine ySq (yRn [4] fun K hK=>?_)
   simp(disch:=omega) only[go_sem]
   refine hK _ (aB ?_)
   refine aS rfl ?_
   simp(disch:=omega) only[fHo,bV,bK,bQ,go_sem]
  refine yDr ?_
  rw[J3 h]
  refine ySq (yRn [37,1,2] fun K hK=>?_)
  simp(disch:=omega) only[go_sem]
  refine hK _ (aB ?_)
  refine gLb rfl (fun h=>?_) (fun h=>?_)
  ·refine yDr ?_
   rw[J4 h]
   obtain⟨v1,v2,v3,v4,hv⟩:=eRk l
   obtain⟨e,he⟩: ∃e,rdE l.length (gE l)=e:=⟨_,rfl⟩
   rw[he]at hv⊢
   refine yRg [5] (aH fFp aO) fun K hK=>?_
   simp(disch:=omega) only[go_sem,eWc,hv]
   refine hK _ (bU (aB ?_))
   refine ySq (yRn [4] fun K hK=>?_)
   simp(disch:=omega) only[go_sem]
   refine hK _ (aB ?_)
   refine aS rfl ?_
   simp(disch:=omega) only[fHo,bV,bK,bQ,go_sem]
  refine yDr ?_
  rw[J3 h]
  have hv:=eYh t l
  obtain⟨e,he⟩: ∃e,rdE l.length (eKo l (shp t l))=e:=⟨_,rfl⟩
  rw[he]at hv⊢
  refine yRg [5] (aH fFo (aH ok40 aO)) fun K hK=>?_
  simp(disch:=omega) only[go_sem,hv]
  refine hK _ (bU (aB ?_))
  refine ySq (yRn [4] fun K hK=>?_)
  simp(disch:=omega) only[go_sem]
  refine hK _ (aB ?_)
  refine aS rfl ?_
  simp(disch:=omega) only[fHo,bV,bK,bQ,go_sem]
 cases hg
theorem ok13f:bX Tryz.prog GLh 68 (.pure true eNq):=⟨⟨_,Tryz.func68,rfl,rfl⟩,eZr⟩
end Go.AX.D5

namespace Go.AX
open Go Go.Proofs
set_option maxRecDepth 20000
def ahN (t:BitVec 16):Nat:=if t=15#16 then 2 else 0
def ctN (t:BitVec 16):Nat:=if t=2#16∨t=5#16∨t=15#16 then 1 else if t=6#16 then 2 else 0
def bhN (t:BitVec 16):Nat:=if t=6#16 then 20 else 0
theorem nc2:((2:Nat):Int)=2:=rfl
theorem nc20:((20:Nat):Int)=20:=rfl
def nsT (t:BitVec 16):AV:=.tup [.i (ahN t:Int),.i (ctN t:Int),.i (bhN t:Int)]
def gDl:List AV→Option AV
 |[.w16 t]=>some (nsT t)
 |_=>none
theorem gFz (t:BitVec 16):gDl [.w16 t]=some (.tup [.i (ahN t:Int),.i (ctN t:Int),.i (bhN t:Int)]):=(rfl)
attribute [go_sem] gFz
set_option maxHeartbeats 4000000 in
theorem gHk:fHn Tryz.prog GLh 65 gDl:=by
 refine zK Tryz.func65 (aT rfl) ?_
 intro args r hg
 unfold gDl at hg
 split at hg
 ·rename_i t
  obtain rfl:=J0 hg
  refine⟨J1 rfl,fun nx=>?_⟩
  clear hg
  refine ySq (yRn [0] fun K hK=>?_)
  simp(disch:=omega) only[go_sem]
  refine hK _ (aB ?_)
  refine ySq (ySq (yRn [5] fun K hK=>?_))
  simp(disch:=omega) only[go_sem]
  refine hK _ (aB ?_)
  refine yBl 0 (ySq (ySq (yRn [5,6] fun K hK=>?_)))
  simp(disch:=omega) only[go_sem]
  refine hK _ (aB ?_)
  refine gLb rfl (fun h=>?_) (fun h=>?_)
  ·have h2:=h
   clear h
   have e1:ahN t=0:=by rw[h2];rfl
   have e2:ctN t=1:=by rw[h2];rfl
   have e3:bhN t=0:=by rw[h2];rfl
   refine ySk (aB (gLb rfl (fun h=>?_) (fun h=>?_)))
   ·refine ySq (yRn [2,3,4] fun K hK=>?_)
    simp(disch:=omega) only[go_sem]
    refine hK _ (aB ?_)
    refine aS rfl (bN (bI ?_))
    simp(disch:=omega) only[fHo,bV,bK,bQ,go_sem,nsT,e1,e2,e3,Int.natCast_zero,Int.natCast_one]
   exact absurd h2 h
  have h2:=h
  clear h
  refine yRn [6,5] fun K hK=>?_
  simp(disch:=omega) only[go_sem]
  refine hK _ (aB ?_)
  refine gLb rfl (fun h=>?_) (fun h=>?_)
  ·refine yDr ?_
   have e1:ahN t=0:=by rw[h];rfl
   have e2:ctN t=1:=by rw[h];rfl
   have e3:bhN t=0:=by rw[h];rfl
   refine ySq (yRn [2,3,4] fun K hK=>?_)
   simp(disch:=omega) only[go_sem]
   refine hK _ (aB ?_)
   refine aS rfl (bN (bI ?_))
   simp(disch:=omega) only[fHo,bV,bK,bQ,go_sem,nsT,e1,e2,e3,Int.natCast_zero,Int.natCast_one]
  refine yDr ?_
  have h5:=h
  clear h
  refine ySq (yRn [9,5] fun K hK=>?_)
  simp(disch:=omega) only[go_sem]
  refine hK _ (aB ?_)
  refine gLb rfl (fun h=>?_) (fun h=>?_)
  ·refine yDr ?_
   have e1:ahN t=2:=by rw[h];rfl
   have e2:ctN t=1:=by rw[h];rfl
   have e3:bhN t=0:=by rw[h];rfl
   refine ySq (yRn [2,3,4] fun K hK=>?_)
   simp(disch:=omega) only[go_sem]
   refine hK _ (aB ?_)
   refine aS rfl (bN (bI ?_))
   simp(disch:=omega) only[fHo,bV,bK,bQ,go_sem,nsT,e1,e2,e3,Int.natCast_zero,Int.natCast_one,nc2]
  refine yDr ?_
  have h15:=h
  clear h
  refine ySq (yRn [11] fun K hK=>?_)
  simp(disch:=omega) only[go_sem]
  refine hK _ (aB ?_)
  refine gLb rfl (fun h=>?_) (fun h=>?_)
  ·refine yDr ?_
   have e1:ahN t=0:=by rw[h];rfl
   have e2:ctN t=2:=by rw[h];rfl
   have e3:bhN t=20:=by rw[h];rfl
   refine ySq (yRn [2,3,4] fun K hK=>?_)
   simp(disch:=omega) only[go_sem]
   refine hK _ (aB ?_)
   refine aS rfl (bN (bI ?_))
   simp(disch:=omega) only[fHo,bV,bK,bQ,go_sem,nsT,e1,e2,e3,Int.natCast_zero,nc2,nc20]
  refine yDr ?_
  have h6:=h
  clear h
  refine ySk (bU (aB (ySq (yRn [2,3,4] fun K hK=>?_))))
  simp(disch:=omega) only[go_sem]
  refine hK _ (aB ?_)
  have e1:ahN t=0:=J3 h15
  have e2:ctN t=0:=by unfold ctN;rw[J3 (by simp[h2,h5,h15]),J3 h6]
  have e3:bhN t=0:=J3 h6
  refine aS rfl ?_
  simp(disch:=omega) only[fHo,bV,bK,bQ,go_sem,nsT,e1,e2,e3,Int.natCast_zero]
 cases hg
theorem gGm:bX Tryz.prog GLh 65 (.pure true gDl):=⟨⟨_,Tryz.func65,rfl,rfl⟩,gHk⟩
end Go.AX

namespace Go.AX
open Go Go.Proofs
set_option maxRecDepth 20000
def whN (b:List B8):Nat→Nat→List B8→Option (List B8×Nat)
 |0,a,o=>some (o,a)
 |k+1,a,o=>match fJj b a with
  |none=>none
  |some (n,e)=>whN b k e (o++fHk n)
def whE (b:List B8) (t:BitVec 16) (en:Nat):Option (List B8×Nat)→Option (List B8×Nat)
 |none=>none
 |some (o,e)=>if bhN t≤b.length-e then(if e+bhN t=en then some (o++(b.drop e).take (bhN t),e+bhN t)else none)else none
def whR (b:List B8) (t:BitVec 16) (en a:Nat):Option (List B8×Nat):=
 if ahN t≤b.length-a then whE b t en (whN b (ctN t) (a+ahN t) ((b.drop a).take (ahN t)))else none
theorem gDw {b:List B8}: ∀ {k a:Nat} {o d:List B8} {e:Nat},a≤b.length→whN b k a o=some (d,e)→e≤b.length∧d.length≤o.length+255*k
 |0,a,o,d,e,ha,h=>by
  simp only[whN,Option.some.injEq,Prod.mk.injEq]at h
  obtain⟨rfl,rfl⟩:=h
  exact⟨ha,by omega⟩
 |k+1,a,o,d,e,ha,h=>by
  rw[whN]at h
  rcases hn:fJj b a with _|⟨n,e2⟩
  ·rw[hn]at h;cases h
  rw[hn]at h;simp only at h
  obtain⟨h1,_,h3⟩:=fLw hn
  obtain⟨h4,h5⟩:=gDw h1 h
  have h6:(fHk n).length≤255:=by
   have: ∀n:Nm,(eRs n).length=(n.map fun l=>l.length+1).sum:=fun n=>by
    induction n with
    |nil=>rfl
    |cons p r ih=>rw[gX,List.map_cons,List.sum_cons,ih]
   rw[fHk,List.length_append,this,List.length_singleton];omega
  rw[List.length_append]at h5
  exact⟨h4,by omega⟩
theorem fZx (n:Nm):(eRs n).length=(n.map fun l=>l.length+1).sum:=by
 induction n with
 |nil=>rfl
 |cons p r ih=>rw[gX,List.map_cons,List.sum_cons,ih]
def slA (b:List B8):Option (List B8×Nat)→Option (AV×List AV)
 |none=>none
 |some (o,e)=>some (.sl o.length (c8 o),[.sl b.length (c8 b),.i (e:Int)])
def whG:List AV→List AV→Option (Option (AV×List AV))
 |[.op _ 0,.w16 t,.i en],[.sl n xs,.i a]=>aK (fHq xs) fun b=>aN (b.length=n∧0≤a∧a≤n∧n≤100000∧0≤en) (some (slA b (whR b t en.toNat a.toNat)))
 |_,_=>none
theorem gGt (id n:Nat) (t:BitVec 16) (en a:Int) (xs:List AV):whG [.op id 0,.w16 t,.i en] [.sl n xs,.i a]=aK (fHq xs) fun b=>aN (b.length=n∧0≤a∧a≤n∧n≤100000∧0≤en) (some (slA b (whR b t en.toNat a.toNat))):=(rfl)
attribute [go_sem] gGt
theorem gEw (t:BitVec 16):ahN t≤2:=by unfold ahN;split<;>omega
theorem gEq (t:BitVec 16):ctN t≤2:=by unfold ctN;split;omega;split<;>omega
theorem gEt (t:BitVec 16):bhN t≤20:=by unfold bhN;split<;>omega
theorem fSr {g:H} {a b:Nat} {x y:AO} (h1:g a=some x:=by simp(disch:=omega) only[aV,kE,bY,↓reduceIte,if_true,if_false]<;>rfl) (h2:g b=some y:=by simp(disch:=omega) only[aV,kE,bY,↓reduceIte,if_true,if_false]<;>rfl): ∀j o,upd (upd (fun _=>none) a x) b y j=some o→g j=some o:=by
 intro j o h
 simp only[bJ]at h
 split at h
 ·rename_i e;rw[e,h2];exact h
 split at h
 ·rename_i e;rw[e,h1];exact h
 cases h
structure WHI where
 k:Nat
 e:Nat
 o:List B8
 q:Nat
 c:Nat
set_option maxHeartbeats 8000000 in
theorem gCn:fHs Tryz.prog GLh 66 (rdH whG)∧dE Tryz.prog GLh 66 chM (rdP whG):=by
 refine dT Tryz.func66 (aT rfl) ?_
 intro id off rest nx xs o hg
 unfold whG at hg
 split at hg
 ·rename_i id2 t en n xs2 a0 heq
  simp only[List.cons.injEq,AV.op.injEq]at heq
  obtain⟨⟨rfl,rfl⟩,rfl⟩:=heq
  replace hg:=aJ hg;obtain⟨b,hl,hg⟩:=hg
  replace hg:=aP hg;obtain⟨⟨rfl,ha,han,hnb,hen⟩,hg⟩:=hg
  obtain rfl:=J0 hg
  have:=bW hl;subst this
  obtain⟨a,rfl⟩:=Int.eq_ofNat_of_zero_le ha
  obtain⟨en,rfl⟩:=Int.eq_ofNat_of_zero_le hen
  simp only[U2]at*
  refine⟨J1 rfl,fun hid=>?_⟩
  clear hl hg
  have hA2:=gEw t
  have hC2:=gEq t
  have hB2:=gEt t
  obtain⟨A,hA⟩: ∃A,ahN t=A:=⟨_,rfl⟩
  obtain⟨C,hC⟩: ∃A,ctN t=A:=⟨_,rfl⟩
  obtain⟨B,hB⟩: ∃A,bhN t=A:=⟨_,rfl⟩
  rw[hA]at hA2
  rw[hC]at hC2
  rw[hB]at hB2
  refine ySq (yRn [0,1,2] fun K hK=>?_)
  simp(disch:=omega) only[go_sem]
  refine hK _ (aB ?_)
  refine ySq (yRg [0,2,7,8,9] (aH gGm aO) fun K hK=>?_)
  simp(disch:=omega) only[go_sem,hA,hB,hC]
  refine hK _ (aB ?_)
  by_cases hka:A≤b.length-a
  ·have ht:=eMu hka
   have hW:whR b t en a=whE b t en (whN b C (a+A) ((b.drop a).take A)):=by unfold whR;rw[hA,hC,J4 hka]
   rw[hW]
   obtain⟨d,hd⟩: ∃d,(b.drop a).take A=d:=⟨_,rfl⟩
   have hdl:d.length=A:=by rw[←hd,List.length_take,List.length_drop];omega
   rw[hd]at ht⊢
   obtain⟨ans,hrun⟩: ∃x,whN b C (a+A) d=x:=⟨_,rfl⟩
   rw[hrun]
   refine ySq (yRg [0,2,8,9,10] (aH eLb (aH fTu aO)) fun K hK=>?_)
   simp(disch:=omega) only[go_sem,ht,hdl,U2]
   refine hK _ (aB ?_)
   refine ySq (ySq (yRn [0,2,9,10,21,22] fun K hK=>?_))
   simp(disch:=omega) only[go_sem]
   refine hK _ (aB ?_)
   refine yBl 0 ?_
   refine bR (fun p:WHI=> {fr:=[(0,.op id 0),(2,.i (en:Int)),(9,.i (B:Int)),(10,.os p.q 0 p.o.length 1 true),(21,.i (C:Int)),(22,.i (p.k:Int))],hp:=upd (upd (fun _=>none) id (.cells [.sl b.length (c8 b),.i (p.e:Int)] true)) p.q (.cells (c8 p.o) true),nx:=0,cx:=p.c}) (fun p=>p.k≤C∧p.e≤b.length∧p.o.length≤2+255*p.k∧whN b (C-p.k) p.e p.o=ans∧id<p.q∧p.q<p.c) (fun p=>C-p.k) rfl ⟨⟨0,a+A,d,_,_⟩,⟨Nat.zero_le _,by simp only;omega,by simp only;omega,hrun,by simp only;omega,by simp only;omega⟩,bD (by simp only[hdl,Int.natCast_zero]) rfl (U3 _)⟩ ?_
   rintro⟨k,e,o,q,c⟩ ⟨hk,he,hol,hrun,hq1,hq2⟩ n0
   simp only at hk he hol hrun hq1 hq2⊢
   refine ySq (yRn [23,0,2,9,10,21,22] fun K hK=>?_)
   simp(disch:=omega) only[go_sem]
   refine hK _ (aB ?_)
   refine ySq (gLb rfl (fun h=>?_) (fun h=>?_))
   ·refine yDr ?_
    obtain⟨j,hj⟩: ∃j,C-k=j+1:=⟨C-k-1,by omega⟩
    rw[hj,whN]at hrun
    clear h
    refine ySk (aB (ySq (yBl 1 ?_)))
    rcases hn:fJj b e with _|⟨n,e2⟩
    ·rw[hn]at hrun;simp only at hrun
     subst hrun
     have hA:nmA b none=none:=rfl
     refine dCn 2 (rM) fOb (aH fKm (aH eVk aO)) rfl rfl rfl (fun Z hZ=>?_)
     simp(disch:=omega) only[U0,U1,go_sem,bG,eq_self,true_and,bP,List.map_cons,List.map_nil,List.append_nil,hn,hA,U2]
     refine hZ _ ?_;clear hZ Z
     exact rfl
    rw[hn]at hrun;simp only at hrun
    have hA:nmA b (some (n,e2))=some (.sl n.length (cS n),[.sl b.length (c8 b),.i (e2:Int)]):=rfl
    obtain⟨he2,_,hsum⟩:=fLw hn
    have hwb:=fZx n
    have hwl:(fHk n).length=(eRs n).length+1:=by simp[fHk]
    refine yRg [0,2,9,10,21,22] (aH fKm (aH eVk aO)) fun K hK=>?_
    simp(disch:=omega) only[go_sem,hn,hA,U2]
    refine hK _ (bU (aB ?_))
    refine yRn [0,2,9,10,21,22] fun K hK=>?_
    simp(disch:=omega) only[go_sem]
    refine hK _ (bT ?_)
    refine⟨⟨k+1,e2,o++fHk n,c+1+4,_⟩,⟨by simp only;omega,he2,by simp only[List.length_append];omega,by rw[show C-(k+1)=j by omega];exact hrun,by simp only;omega,by simp only;omega⟩,by simp only;omega,⟨fun _=> .inr ?_,fun i o hi=>?_,U3 _⟩⟩
    ·simp only[List.length_append,Int.natCast_add,Int.natCast_one]
    simp only at hi
    exact(fSr) i o hi
   refine yDr ?_
   obtain rfl:k=C:=by omega
   rw[Nat.sub_self,whN]at hrun
   subst hrun
   refine yEx 0 (aY (aZ (bE (aB ?_))))
   have hol2:o.length≤512:=by omega
   by_cases hkb:B≤b.length-e
   ·have ht2:=eMu hkb
    obtain⟨z,hz⟩: ∃z,(b.drop e).take B=z:=⟨_,rfl⟩
    have hzl:z.length=B:=by rw[←hz,List.length_take,List.length_drop];omega
    rw[hz]at ht2
    refine ySq (yRg [0,2,10] (aH eLb aO) fun K hK=>?_)
    simp(disch:=omega) only[go_sem,ht2,hzl,U2]
    refine hK _ (aB ?_)
    by_cases hend:e+B=en
    ·have hE:whE b t en (some (o,e))=some (o++z,e+B):=by unfold whE;rw[hB];simp only;rw[J4 hkb,J4 hend,hz]
     rw[hE]
     have de:decide (((e+B:Nat):Int)=(en:Int))=true:=J5 (by omega)
     refine ySq (yRg [10] (aH rP aO) fun K hK=>?_)
     simp(disch:=omega) only[go_sem,de]
     refine hK _ (aB ?_)
     refine ySq (yRn [6] fun K hK=>?_)
     simp(disch:=omega) only[go_sem]
     refine hK _ (aB ?_)
     have htk:List.take (o.length+B) (o++z)=o++z:=List.take_of_length_le (by rw[List.length_append];omega)
     refine aS rfl (⟨by simp(disch:=omega) only[bV,bK,bQ,go_sem,aV,kE,bY,eq_self,hzl,htk,List.length_append],by simp(disch:=omega) only[aV,kE,bY,↓reduceIte,eq_self],?_,?_⟩)
     ·exact eLf _ _
     exact fVp _ _ _
    have hE:whE b t en (some (o,e))=none:=by unfold whE;rw[hB];simp only;rw[J4 hkb,J3 hend]
    rw[hE]
    have de:decide (((e+B:Nat):Int)=(en:Int))=false:=J6 (by omega)
    refine ySq (dCn 6 (fPd) rD (aH rP aO) rfl rfl rfl (fun Z hZ=>?_))
    simp(disch:=omega) only[U0,U1,go_sem,bG,eq_self,true_and,bP,List.map_cons,List.map_nil,List.append_nil,de]
    refine hZ _ ?_;clear hZ Z
    exact rfl
   have hE:whE b t en (some (o,e))=none:=by unfold whE;rw[hB];simp only;rw[J3 hkb]
   rw[hE]
   have ht2:=eOp hkb
   refine ySq (dCn 3 (rH) eLj (aH eLb aO) rfl rfl rfl (fun Z hZ=>?_))
   simp(disch:=omega) only[U0,U1,go_sem,bG,eq_self,true_and,bP,List.map_cons,List.map_nil,List.append_nil,ht2,U2]
   refine hZ _ ?_;clear hZ Z
   exact rfl
  have ht:=eOp hka
  have hW:whR b t en a=none:=by unfold whR;rw[hA,J3 hka]
  rw[hW]
  refine ySq (dCn (Γ:=bC [(50,.heap (rdH fJ)),(67,.fresh true dDv)]) 2 (rH) eLj (aH eLb (aH fTu aO)) rfl rfl rfl (fun Z hZ=>?_))
  simp(disch:=omega) only[U0,U1,go_sem,bG,eq_self,true_and,bP,List.map_cons,List.map_nil,List.append_nil,ht,U2]
  refine hZ _ ?_;clear hZ Z
  exact rfl
 cases hg
theorem gGs:dE Tryz.prog GLh 66 chM (rdP whG):=gCn.2
theorem gIg:fHm Tryz.prog 66:=⟨_,Tryz.func66,rfl,rfl⟩
theorem gGl:bX Tryz.prog GLh 66 (.heap (rdH whG)):=⟨⟨_,Tryz.func66,rfl,rfl⟩,gCn.1⟩
end Go.AX

namespace Go.AX
open Go
section
variable {P : Program} {Γ : Env} {c : Ctx} {σ0 : Nat → Loc} {I0 : Nat → Prop} {w0 : World} {md : Nat → Nat} {ops : Array Oper}
theorem gCg (hΓ:eT P c.GL Γ) {Q:Exit→Act→World→Prop} (hdst:fK c.nt ops.toList=true) (hok:sF P Γ md ops=true) {m:Nat} {o:Oper} (hm:ops[m]? =some o) (hn:m<ops.size) (htl: ∀i,m<i→i<ops.size→((Region.before ops).getD i 0).testBit m=true)
  (hb: ∀j,j<m→((Region.before ops).getD m 0).testBit j=true) {s':S}
  (hP: ∀a w,R c σ0 I0 w0 (fun k=>k=m) s' a w→Region.wanted o (yielded ops a.tmps)=true∧∀K,o.wp P a w K Q):
  ∀(fuel:Nat) (listed:Array Bool) (s sf:S) (a:Act) (w:World),listed.size=ops.size→listed.getD m true=false→(unl ops.size listed).length≤fuel→
   (∀m o,listed.getD m false=true→ops[m]? =some o→∀e∈o.after,Region.binds .any e=true→listed.getD e.on false=true)→
   dQ P Γ c.GL md ops ((unl ops.size listed).filter (· <m)) s=some sf→fVo s' sf→R c σ0 I0 w0 (fun k=>k∈unl ops.size listed) s a w→wpAny P .any ops Q fuel listed a w:=by
 have hchk: ∀j y,ops[j]? =some y→(∀e∈y.after,Region.binds .any e=true→e.on<j)∧∀i x,i<j→ops[i]? =some x→((Region.before ops).getD j 0).testBit i=true∨(x.apart ops y=true∧eEq i j (tI P Γ (md i) x.op) (tI P Γ (md j) y.op)=true):=by
  intro j y hy
  have hlt:=(Array.getElem?_eq_some_iff.1 hy).1
  have h:=List.all_eq_true.1 hok j (List.mem_range.2 hlt)
  simp only[hy,Bool.and_eq_true]at h
  refine⟨fun e he hb=>?_,fun i x hi hx=>?_⟩
  ·have:=Array.all_eq_true_iff_forall_mem.1 h.1 e he
   simpa [hb]using this
  have:=List.all_eq_true.1 h.2 i (List.mem_range.2 hi)
  simp only[hx,Bool.or_eq_true,Bool.and_eq_true]at this
  exact this
 have mem_unl: ∀(listed:Array Bool) i,i∈unl ops.size listed↔i<ops.size∧listed.getD i true=false:=by
  intro listed i;simp[unl]
 have noready: ∀(listed:Array Bool),listed.size=ops.size→Region.ready .any ops listed=[]→unl ops.size listed=[]:=by
  intro listed hsz hr
  refine List.eq_nil_iff_forall_not_mem.2 fun i=>?_
  induction i using Nat.strongRecOn with
  |_ i ih=>
   intro hi
   obtain⟨hlt,hun⟩:=(mem_unl listed i).1 hi
   have:i∈Region.ready .any ops listed:=by
    rw[mem_ready]
    refine⟨hun,ops[i],Array.getElem?_eq_getElem hlt,fun e he hb=>?_⟩
    have hlt':=(hchk i _ (Array.getElem?_eq_getElem hlt)).1 e he hb
    have hn:=ih e.on hlt'
    rw[mem_unl]at hn
    have hs2:e.on<listed.size:=by omega
    rw[Array.getD_eq_getD_getElem?,Array.getElem?_eq_getElem hs2]at hn⊢
    simp only[Option.getD_some]at hn⊢
    cases hv:listed[e.on]with
    |true=>rfl
    |false=>exact absurd ⟨by omega,hv⟩ hn
   rw[hr]at this;cases this
 have hmu: ∀(listed:Array Bool),listed.getD m true=false→m∈unl ops.size listed:=fun listed h=>(mem_unl listed m).2 ⟨by omega,h⟩
 intro fuel
 induction fuel with
 |zero=>
  intro listed s sf a w hsz hml hlen hdc hrun heq hR
  have h0:unl ops.size listed=[]:=List.eq_nil_of_length_eq_zero (by omega)
  have:=hmu listed hml
  rw[h0]at this;cases this
 |succ fuel ih=>
  intro listed s sf a w hsz hml hlen hdc hrun heq hR
  refine⟨fun hr=>?_,fun i hi=>?_⟩
  ·have h0:=noready listed hsz hr
   have:=hmu listed hml
   rw[h0]at this;cases this
  obtain⟨hun,x,hx,hall⟩:=mem_ready.1 hi
  have hlt:=(Array.getElem?_eq_some_iff.1 hx).1
  have hmem:i∈unl ops.size listed:=(mem_unl listed i).2 ⟨hlt,hun⟩
  have hanc: ∀m j,Anc ops m j→(∀o,ops[m]? =some o→∀e∈o.after,Region.binds .any e=true→listed.getD e.on false=true)→listed.getD j false=true:=by
   intro m j ha
   induction ha with
   |edge ho he hb=>exact fun h=>h _ ho _ he hb
   |step ho he hb _ ih2=>exact fun h=>ih2 fun o ho' e' he' hb'=>hdc _ o (h _ ho _ he hb) ho' e' he' hb'
  by_cases him:i=m
  ·subst him
   rw[hm]at hx
   obtain rfl:=J0 hx
   have hlisted: ∀j,j<i→j∉unl ops.size listed:=by
    intro j hj hju
    have h1:=hanc i j (oR ops i j (hb j hj)) (fun o' ho e he hb=>by rw[hm]at ho;obtain rfl:=J0 ho;exact hall e he hb)
    have h2:=((mem_unl listed j).1 hju).2
    have hs2:j<listed.size:=by omega
    rw[Array.getD_eq_getD_getElem?,Array.getElem?_eq_getElem hs2]at h1 h2
    simp only[Option.getD_some]at h1 h2
    rw[h1]at h2;cases h2
   have hnil:(unl ops.size listed).filter (· <i)=[]:=by
    refine List.filter_eq_nil_iff.2 fun j hj=>?_
    simp only[decide_eq_true_eq]
    exact fun h=>hlisted j h hj
   rw[hnil]at hrun
   obtain rfl:=J0 hrun
   obtain⟨h1,h2⟩:=hP a w ((hR.un fun k hk=>by subst hk;exact hmem).eqv heq.symm)
   unfold wpOp
   simp only[hm]
   rw[J4 h1];exact .inl (h2 _)
  have hlm:i<m:=by
   apply Classical.byContradiction
   intro hc
   have h1:=hanc i m (oR ops i m (htl i (by omega) hlt)) (fun o' ho e he hb=>by rw[hx]at ho;obtain rfl:=J0 ho;exact hall e he hb)
   have hs2:m<listed.size:=by omega
   rw[Array.getD_eq_getD_getElem?,Array.getElem?_eq_getElem hs2]at h1 hml
   simp only[Option.getD_some]at h1 hml
   rw[h1]at hml;cases hml
  have hmem2:i∈(unl ops.size listed).filter (· <m):=List.mem_filter.2 ⟨hmem,by simpa using hlm⟩
  obtain⟨l1,l2,hl⟩:=List.append_of_mem hmem2
  have hpw:((unl ops.size listed).filter (· <m)).Pairwise (· < ·):=List.Pairwise.filter _ (List.Pairwise.filter _ List.pairwise_lt_range)
  rw[hl]at hpw hrun
  have hlt1: ∀j∈l1,j<i:=fun j hj=>(List.pairwise_append.1 hpw).2.2 j hj i (by simp)
  have hlt2: ∀j∈l2,i<j:=fun j hj=>(List.pairwise_cons.1 (List.pairwise_append.1 hpw).2.1).1 j hj
  obtain⟨s1,sf1,f1,f2,f3⟩:=wK hx l1 l2 (fun j hj=>by
   have hjm:j∈unl ops.size listed:=(List.mem_filter.1 (show j∈(unl ops.size listed).filter (· <m)by rw[hl];simp[hj])).1
   obtain⟨hjlt,hjun⟩:=(mem_unl listed j).1 hjm
   refine⟨by have:=hlt1 j hj;omega,ops[j],Array.getElem?_eq_getElem hjlt,?_⟩
   rcases(hchk i x hx).2 j _ (hlt1 j hj) (Array.getElem?_eq_getElem hjlt)with h|h
   ·have:=hanc i j (oR ops i j h) (fun o ho e he hb=>by rw[hx]at ho;obtain rfl:=J0 ho;exact hall e he hb)
    have hs2:j<listed.size:=by omega
    rw[Array.getD_eq_getD_getElem?,Array.getElem?_eq_getElem hs2]at hjun this
    simp only[Option.getD_some]at hjun this
    rw[hjun]at this;cases this
   exact h) hrun
  have e0:unl ops.size (listed.setIfInBounds i true)=(unl ops.size listed).filter (fun k=>k !=i):=by
   unfold unl
   rw[List.filter_filter]
   refine List.filter_congr fun k hk=>?_
   by_cases hki:k=i
   ·subst hki
    rw[Array.getD_eq_getD_getElem?,Array.getElem?_setIfInBounds_self_of_lt (by omega)];simp
   rw[getD_set_ne true (Ne.symm hki)]
   simp[hki]
  have hnew:(unl ops.size (listed.setIfInBounds i true)).filter (· <m)=l1++l2:=by
   have e1:(unl ops.size (listed.setIfInBounds i true)).filter (· <m)=((unl ops.size listed).filter (· <m)).filter (fun k=>k !=i):=by
    rw[e0,List.filter_filter,List.filter_filter]
    refine List.filter_congr fun k _=>Bool.and_comm _ _
   rw[e1,hl,List.filter_append,List.filter_cons]
   simp only[bne_self_eq_false,Bool.false_eq_true,if_false]
   congr 1
   ·exact List.filter_eq_self.2 fun k hk=>by have:=hlt1 k hk;simp;omega
   exact List.filter_eq_self.2 fun k hk=>by have:=hlt2 k hk;simp;omega
  have hlen2:(unl ops.size (listed.setIfInBounds i true)).length<(unl ops.size listed).length:=by
   rw[e0]
   refine Nat.lt_of_le_of_ne (List.length_filter_le _ _) fun e=>?_
   have:=List.length_filter_eq_length_iff.1 e i hmem
   simp at this
  have hstep:=fX (K:=wpAny P .any ops Q fuel (listed.setIfInBounds i true)) (Q:=Q) (ops:=ops) hΓ f1 (lU hdst (Array.mem_toList_iff.2 (Array.mem_of_getElem? hx))) (rem:=fun k=>k∈unl ops.size listed) hmem hR (fun a' w' hR'=>
   ih (listed.setIfInBounds i true) s1 sf1 a' w' (by simpa using hsz) (by rw[getD_set_ne true him];exact hml) (by omega) (fun m' o' hm' ho e he hb=>by
     by_cases hmi:m'=i
     ·subst hmi
      rw[hx]at ho;obtain rfl:=J0 ho
      exact getD_set_true (hall e he hb)
     ·rw[getD_set_ne false (Ne.symm hmi)]at hm'
      exact getD_set_true (hdc m' o' hm' ho e he hb))
    (by rw[hnew];exact f2) (heq.trans f3) (hR'.un fun k hk=>by
     rw[e0,List.mem_filter]at hk
     exact⟨hk.1,by simpa using hk.2⟩))
  unfold wpOp
  simp only[hx]
  split
  ·rename_i hw;rw[J4 hw]at hstep;exact .inl hstep
  rename_i hw;rw[J3 hw]at hstep;exact hstep
end
def gKo (c:Code) (m:Nat):Bool:=decide (m<(aM c).size)&&((List.range m).all fun j=>((Region.before (aM c)).getD m 0).testBit j)&&((List.range (aM c).size).all fun i=>decide (i≤m)||((Region.before (aM c)).getD i 0).testBit m)
theorem gCe: ∀ {k n:Nat},k≤n→(List.range n).filter (· <k)=List.range k:=by
 intro k n h
 obtain⟨d,rfl⟩: ∃d,n=k+d:=⟨n-k,by omega⟩
 rw[List.range_add,List.filter_append]
 have a1:(List.range k).filter (· <k)=List.range k:=List.filter_eq_self.2 fun j hj=>by have:=List.mem_range.1 hj;simpa using this
 have a2:((List.range d).map (k+ ·)).filter (· <k)=[]:=by
  refine List.filter_eq_nil_iff.2 fun j hj=>?_
  obtain⟨i,_,rfl⟩:=List.mem_map.1 hj
  simp
 rw[a1,a2,List.append_nil]
theorem gEu {P:Program} {GL:Nat→Option (List AV)} {nt:Nat} {Q:Exit→S→Prop} {s:S} {code:Code} {Γ:Env} (k:Nat) (md:Nat→Nat) {f:FuncId} {ch:List PanicEntry} {g:List AV→H→Nat→Option (H×Nat)} (hm:P.follows .mixedOrders=true) (hpan:dE P GL f ch g) (hcall:fHm P f) (hΓ:eT P GL Γ) (hc:eEs code=true) (hd:lZ code=true) (ho:fK nt (aM code).toList=true)
  (hk:sF P Γ md (aM code)=true) (hb:gKo code k=true)
  (h: ∀Z:S→Prop,(∀t,Q (.panic ch) t→Z t)→nH (aRf P Γ GL md (rN code) ((aF code).take k) (cX (rN code) s)) (bVn GL f g Z (aF code)[k]?)):Awp P GL nt code s Q:=by
 replace h:=h (Q (.panic ch)) fun _ h=>h
 cases code with
 |region id ops dr=>
  simp only[lZ]at hd
  subst hd
  intro c h1 h2 σ0 I0 w0 a w hR
  subst h1;subst h2
  simp only[aM]at ho hk
  simp only[gKo,aM,Bool.and_eq_true]at hb
  obtain⟨⟨hn,hb⟩,htl⟩:=hb
  replace hn:=of_decide_eq_true hn
  have hlt:k<ops.toList.length:=by rw[Array.length_toList];omega
  have hk2:ops.toList[k]? =some ops.toList[k]:=List.getElem?_eq_getElem hlt
  obtain⟨o,hko⟩: ∃o,ops.toList[k]=o:=⟨_,rfl⟩
  rw[hko]at hk2
  have hka:ops[k]? =some o:=by rw[←Array.getElem?_toList];exact hk2
  have hl:(aF (.region id ops true))[k]? =some (light ops o):=by simp only[aF,aM,List.getElem?_map,hk2,Option.map_some]
  have ht:(aF (.region id ops true)).take k=(ops.toList.take k).map (light ops):=by simp only[aF,aM,List.map_take]
  rw[hl,ht]at h
  have hr:aRf P Γ c.GL md (rN (.region id ops true)) ((ops.toList.take k).map (light ops)) (cX (rN (.region id ops true)) s)=oT P Γ c.GL md ops 0 (ops.toList.take k) (cX ops.size s):=by
   rw[aBn];rfl
  rw[hr]at h
  obtain⟨t,e1,e2⟩:=mR h
  have h0:unl ops.size (Array.replicate ops.size false)=List.range ops.size:=by
   unfold unl
   refine List.filter_eq_self.2 fun k hk=>?_
   rw[List.mem_range]at hk
   rw[Array.getD_eq_getD_getElem?,Array.getElem?_replicate,J4 hk];rfl
  have h0f:(unl ops.size (Array.replicate ops.size false)).filter (· <k)=List.range k:=by
   rw[h0]
   exact gCe (Nat.le_of_lt hn)
  have hbk: ∀j,j<k→((Region.before ops).getD k 0).testBit j=true:=fun j hj=>List.all_eq_true.1 hb j (List.mem_range.2 hj)
  have hlk:(ops.toList.take k).length=k:=by rw[List.length_take];omega
  have hrun2:dQ P Γ c.GL md ops (List.range k) (cX ops.size s)=some t:=by
   have hgen: ∀(l:List Oper) (q:Nat) (s:S),(∀m,m<l.length→l[m]? =ops[q+m]?)→oT P Γ c.GL md ops q l s=dQ P Γ c.GL md ops (List.range' q l.length) s:=by
    intro l
    induction l with
    |nil=>intro q s _;rfl
    |cons o r ih=>
     intro q s hq
     have h0:ops[q]? =some o:=by have:=(hq 0 (by simp)).symm;simpa using this
     simp only[oT,List.length_cons,List.range'_succ,dQ,h0]
     congr 1
     funext s'
     exact ih (q+1) s' (fun m hm=>by have:=hq (m+1) (by simpa using hm);simpa [Nat.add_assoc,Nat.add_comm 1 m]using this)
   have:=hgen (ops.toList.take k) 0 (cX ops.size s) (fun m hm=>by rw[hlk]at hm;rw[List.getElem?_take,J4 hm,Nat.zero_add,Array.getElem?_toList])
   rw[hlk]at this
   rw[List.range_eq_range',←this];exact e1
  refine wp_region_any hm (gCg (σ0:=σ0) (I0:=I0) (w0:=w0) hΓ ho hk hka hn (fun i h1 h2=>by have:=List.all_eq_true.1 htl i (List.mem_range.2 h2);simpa [Nat.not_le.2 h1]using this) hbk (fun a' w' hR'=>?_) ops.size _ (cX ops.size s) t a _ (by simp) ?_ (by rw[h0];simp) (fun m o hl=>?_) (by rw[h0f];exact hrun2) (fVo.refl _) ?_)
  ·have key:=fun K=>bIn (K:=K) (ops:=ops) (Q':=fun e a' w'=> ∃s',Q e s'∧R c σ0 I0 w0 (fun _=>False) s' a' w') hpan hcall e2 hR' (fun t' a' w' hZ hR'=>⟨t',hZ,hR'⟩)
   exact⟨(key fun _ _=>True).1,fun K=>(key K).2⟩
  ·rw[Array.getD_eq_getD_getElem?,Array.getElem?_replicate,J4 (by omega)];rfl
  ·rw[Array.getD_eq_getD_getElem?,Array.getElem?_replicate]at hl;split at hl<;>cases hl
  exact((hR.enter ops.size).un fun k hk=>by rw[h0]at hk;exact List.mem_range.1 hk).world rfl rfl rfl rfl
 |_=>cases hc
end Go.AX

namespace Go.AX
open Go Go.Proofs
set_option maxRecDepth 20000
def dtB (b:List B8) (t c:BitVec 16) (sz a:Nat):Option (List B8×Nat):=if 0<ctN t∧c=1#16 then whR b t (a+sz) a else some ((b.drop a).take sz,a+sz)
def dtC (t c:BitVec 16):Option (List B8×Nat)→Option (List B8×Nat)
 |none=>none
 |some (o,e)=>if c=1#16→t=41#16∨D5.chkF t o=0 then some (o,e)else none
def dtR (b:List B8) (t c:BitVec 16) (sz a:Nat):Option (List B8×Nat):=if sz≤b.length-a then dtC t c (dtB b t c sz a)else none
theorem gBw {t c:BitVec 16} {o:List B8} {e:Nat} (h:c=1#16→t=41#16∨D5.chkF t o=0):dtC t c (some (o,e))=some (o,e):=J4 h
theorem gGq {t c:BitVec 16} {o:List B8} {e:Nat} (h: ¬(c=1#16→t=41#16∨D5.chkF t o=0)):dtC t c (some (o,e))=none:=J3 h
theorem gKf {b:List B8} {t c:BitVec 16} {sz a:Nat} (h:sz≤b.length-a):dtR b t c sz a=dtC t c (dtB b t c sz a):=J4 h
theorem gDv {b:List B8} {t:BitVec 16} {en a e:Nat} {o:List B8} (ha:a≤b.length) (h:whR b t en a=some (o,e)):e=en∧en≤b.length∧o.length≤600:=by
 unfold whR at h
 split at h
 ·rename_i h0
  rcases hw:whN b (ctN t) (a+ahN t) ((b.drop a).take (ahN t))with _|⟨d,e1⟩
  ·rw[hw]at h;cases h
  rw[hw]at h
  have hA:=gEw t
  have hC:=gEq t
  have hB:=gEt t
  obtain⟨h1,h2⟩:=gDw (by omega) hw
  rw[List.length_take,List.length_drop]at h2
  unfold whE at h
  simp only at h
  split at h
  ·split at h
   ·simp only[Option.some.injEq,Prod.mk.injEq]at h
    obtain⟨rfl,rfl⟩:=h
    rw[List.length_append,List.length_take,List.length_drop]
    omega
   cases h
  cases h
 cases h
theorem gHx {b:List B8} {t c:BitVec 16} {sz a e:Nat} {o:List B8} (ha:a≤b.length) (h:dtR b t c sz a=some (o,e)):e=a+sz∧a+sz≤b.length:=by
 unfold dtR at h
 split at h
 ·rename_i h0
  rcases hw:dtB b t c sz a with _|⟨d,e1⟩
  ·rw[hw]at h;cases h
  rw[hw]at h
  have h2:(o,e)=(d,e1):=by
   unfold dtC at h
   simp only at h
   split at h
   ·exact(J0 h).symm
   cases h
  obtain⟨rfl,rfl⟩:=Prod.mk.inj h2
  unfold dtB at hw
  split at hw
  ·obtain⟨h3,h4,_⟩:=gDv ha hw
   exact⟨h3,h4⟩
  simp only[Option.some.injEq,Prod.mk.injEq]at hw
  omega
 cases h
def gBj:List AV→List AV→Option (Option (AV×List AV))
 |[.op _ 0,.agg [.sl _ _,.w16 t,.w16 c,.w32 _,.v (.slice none 0 0)],.i sz],[.sl n xs,.i a]=>aK (fHq xs) fun b=>aN (b.length=n∧0≤a∧a≤n∧n≤100000∧0≤sz∧sz≤100000) (some (slA b (dtR b t c sz.toNat a.toNat)))
 |_,_=>none
theorem gGc (id n nn:Nat) (t c:BitVec 16) (u:W32) (sz a:Int) (ns xs:List AV):gBj [.op id 0,.agg [.sl nn ns,.w16 t,.w16 c,.w32 u,.v (.slice none 0 0)],.i sz] [.sl n xs,.i a]=aK (fHq xs) fun b=>aN (b.length=n∧0≤a∧a≤n∧n≤100000∧0≤sz∧sz≤100000) (some (slA b (dtR b t c sz.toNat a.toNat))):=(rfl)
attribute [go_sem] gGc
set_option maxHeartbeats 8000000 in
theorem gBx:fHs Tryz.prog GLh 60 (rdH gBj)∧dE Tryz.prog GLh 60 chM (rdP gBj):=by
 refine dT Tryz.func60 (aT rfl) ?_
 intro id off rest nx xs o hg
 unfold gBj at hg
 split at hg
 ·rename_i id2 nn ns t c u sz0 n xs2 a0 heq
  simp only[List.cons.injEq,AV.op.injEq]at heq
  obtain⟨⟨rfl,rfl⟩,rfl⟩:=heq
  replace hg:=aJ hg;obtain⟨b,hl,hg⟩:=hg
  replace hg:=aP hg;obtain⟨⟨rfl,ha,han,hnb,hsz,hszn⟩,hg⟩:=hg
  obtain rfl:=J0 hg
  have:=bW hl;subst this
  obtain⟨a,rfl⟩:=Int.eq_ofNat_of_zero_le ha
  obtain⟨sz,rfl⟩:=Int.eq_ofNat_of_zero_le hsz
  simp only[U2]at*
  refine⟨J1 rfl,fun hid=>?_⟩
  clear hl hg
  refine ySq (yRn [0,2,4] fun K hK=>?_)
  simp(disch:=omega) only[go_sem]
  refine hK _ (aB ?_)
  by_cases hk:sz≤b.length-a
  ·have ht:=eMu hk
   have d0:decide ((sz:Int)≤(b.length:Int)-(a:Int))=true:=J5 (by omega)
   rw[gKf hk]
   refine ySq (bB (fun k=>if k=12 then 0 else 2) [0,2,4] bZ (aH rP aO) rfl rfl rfl (by kernel_rfl) (fun K hK=>?_))
   simp(disch:=omega) only[go_sem,d0]
   refine hK _ (aB ?_)
   refine ySq (yRg [0,2,4,8] (aH gGm aO) fun K hK=>?_)
   simp(disch:=omega) only[go_sem]
   refine hK _ (aB ?_)
   refine ySq (yRn [0,2,4,8,10] fun K hK=>?_)
   simp(disch:=omega) only[go_sem]
   refine hK _ (aB ?_)
   refine ySq (yRn [0,2,4,8,10] fun K hK=>?_)
   simp(disch:=omega) only[go_sem]
   refine hK _ (aB ?_)
   have hct:(0<ctN t)=((0:Int)<(ctN t:Int)):=propext ⟨fun h=>by omega,fun h=>by omega⟩
   rcases(by by_cases h1:0<ctN t<;>by_cases h2:c=1#16<;>simp only[h1,h2,and_true,and_false,not_true_eq_false,not_false_eq_true,or_false,or_true]:(0<ctN t∧c=1#16)∨(¬0<ctN t∧c=1#16)∨(0<ctN t∧¬c=1#16)∨(¬0<ctN t∧¬c=1#16))with⟨h1,h2⟩|⟨h1,h2⟩|⟨h1,h2⟩|⟨h1,h2⟩
   ·have d1:decide ((0:Int)<(ctN t:Int))=true:=J5 (by omega)
    have hB:dtB b t c sz a=whR b t (a+sz) a:=J4 ⟨h1,h2⟩
    have h41: ¬t=41#16:=by
     rintro rfl
     exact absurd h1 (by decide)
    have e41:decide (t=41#16)=false:=J6 h41
    rw[J5 h2,hB]
    refine ySq (ySq (yRn [39,0,2,4,10] fun K hK=>?_))
    simp(disch:=omega) only[go_sem,d1]
    refine hK _ (aB ?_)
    refine iTd ?_
    have hz:(a:Int)+(sz:Int)=((a+sz:Nat):Int):=rfl
    rcases hw:whR b t (a+sz) a with _|⟨o,e⟩
    ·have hA:slA b none=none:=rfl
     have hD:dtC t c none=none:=rfl
     rw[hD]
     refine gEu 9 (fun _=>2) bZ (gGs) gIg (aH gGl aO) rfl rfl rfl (by kernel_rfl) (by kernel_rfl) (fun Z hZ=>?_)
     simp(disch:=omega) only[U0,U1,go_sem,bG,eq_self,true_and,bP,List.map_cons,List.map_nil,List.append_nil,hz,hw,hA,U2]
     refine hZ _ ?_;clear hZ Z
     exact rfl
    have hA:slA b (some (o,e))=some (.sl o.length (c8 o),[.sl b.length (c8 b),.i (e:Int)]):=rfl
    obtain⟨_,_,hol⟩:=gDv (by omega) hw
    refine bB (fun k=>if k=9 then 0 else 2) [4,10,11] bZ (aH gGl aO) rfl rfl rfl (by kernel_rfl) (fun K hK=>?_)
    simp(disch:=omega) only[go_sem,hz,hw,hA,U2]
    refine hK _ (aB ?_)
    by_cases hck:D5.chkF t o=0
    ·rw[gBw fun _=> .inr hck]
     have dk:decide (D5.chkF t o=0)=true:=J5 hck
     refine ySq (yRg [11] (aH D5.ok13f (aH rP aO)) fun K hK=>?_)
     simp(disch:=omega) only[go_sem,e41,dk,Bool.not_true]
     refine hK _ (aB ?_)
     refine ySq (yRn [6] fun K hK=>?_)
     simp(disch:=omega) only[go_sem]
     refine hK _ (aB ?_)
     refine aS rfl (⟨by simp(disch:=omega) only[bV,bK,bQ,go_sem,eq_self],by simp(disch:=omega) only[aV,↓reduceIte,eq_self],?_,?_⟩)
     ·exact eLf _ _
     exact fVp _ _ _
    rw[gGq fun hh=>(hh h2).elim h41 hck]
    have dk:decide (D5.chkF t o=0)=false:=J6 hck
    refine ySq (dCn 14 (fPd) rD (aH D5.ok13f (aH rP aO)) rfl rfl rfl (fun Z hZ=>?_))
    simp(disch:=omega) only[U0,U1,go_sem,bG,eq_self,true_and,and_true,bP,List.map_cons,List.map_nil,List.append_nil,e41,dk,Bool.not_true]
    refine hZ _ ?_;clear hZ Z
    exact rfl
   ·have d1:decide ((0:Int)<(ctN t:Int))=false:=J6 (by omega)
    have hB:dtB b t c sz a=some ((b.drop a).take sz,a+sz):=J3 (by rintro⟨h3,h4⟩;exact h1 h3)
    obtain⟨d,hd⟩: ∃d,(b.drop a).take sz=d:=⟨_,rfl⟩
    have hdl:d.length=sz:=by rw[←hd,List.length_take,List.length_drop];omega
    rw[hd]at ht hB
    rw[J5 h2,hB]
    refine ySq (ySq (yRn [39,0,2,4,10] fun K hK=>?_))
    simp(disch:=omega) only[go_sem,d1]
    refine hK _ (aB ?_)
    refine iFd (yRg [4,10,11] (aH eLb (aH fTu aO)) fun K hK=>?_)
    simp(disch:=omega) only[go_sem,ht,hdl,U2]
    refine hK _ (aB ?_)
    by_cases h41:t=41#16
    ·have e41:decide (t=41#16)=true:=J5 h41
     rw[gBw fun _=> .inl h41]
     refine ySq (yRg [11] (aH D5.ok13f (aH rP aO)) fun K hK=>?_)
     simp(disch:=omega) only[go_sem,e41,Bool.not_true]
     refine hK _ (aB ?_)
     refine ySq (yRn [6] fun K hK=>?_)
     simp(disch:=omega) only[go_sem]
     refine hK _ (aB ?_)
     refine aS rfl (⟨by simp(disch:=omega) only[bV,bK,bQ,go_sem,aV,kE,bY,eq_self,hdl],by simp(disch:=omega) only[aV,bY,↓reduceIte,eq_self],?_,?_⟩)
     ·exact eLf _ _
     exact fVp _ _ _
    have e41:decide (t=41#16)=false:=J6 h41
    by_cases hck:D5.chkF t d=0
    ·rw[gBw fun _=> .inr hck]
     have dk:decide (D5.chkF t d=0)=true:=J5 hck
     refine ySq (yRg [11] (aH D5.ok13f (aH rP aO)) fun K hK=>?_)
     simp(disch:=omega) only[go_sem,e41,dk,hdl,Bool.not_true]
     refine hK _ (aB ?_)
     refine ySq (yRn [6] fun K hK=>?_)
     simp(disch:=omega) only[go_sem]
     refine hK _ (aB ?_)
     refine aS rfl (⟨by simp(disch:=omega) only[bV,bK,bQ,go_sem,aV,kE,bY,eq_self,hdl],by simp(disch:=omega) only[aV,bY,↓reduceIte,eq_self],?_,?_⟩)
     ·exact eLf _ _
     exact fVp _ _ _
    rw[gGq fun hh=>(hh h2).elim h41 hck]
    have dk:decide (D5.chkF t d=0)=false:=J6 hck
    refine ySq (dCn 14 (fPd) rD (aH D5.ok13f (aH rP aO)) rfl rfl rfl (fun Z hZ=>?_))
    simp(disch:=omega) only[U0,U1,go_sem,bG,eq_self,true_and,and_true,bP,List.map_cons,List.map_nil,List.append_nil,e41,dk,hdl,Bool.not_true]
    refine hZ _ ?_;clear hZ Z
    exact rfl
   ·have d1:decide ((0:Int)<(ctN t:Int))=true:=J5 (by omega)
    have hB:dtB b t c sz a=some ((b.drop a).take sz,a+sz):=J3 (by rintro⟨h3,h4⟩;exact h2 h4)
    obtain⟨d,hd⟩: ∃d,(b.drop a).take sz=d:=⟨_,rfl⟩
    have hdl:d.length=sz:=by rw[←hd,List.length_take,List.length_drop];omega
    rw[hd]at ht hB
    rw[J6 h2,hB]
    refine ySq (ySq (yRn [39,0,2,4,10] fun K hK=>?_))
    simp(disch:=omega) only[go_sem,d1]
    refine hK _ (aB ?_)
    refine iFd (yRg [4,10,11] (aH eLb (aH fTu aO)) fun K hK=>?_)
    simp(disch:=omega) only[go_sem,ht,hdl,U2]
    refine hK _ (aB ?_)
    rw[gBw fun hh=>absurd hh h2]
    refine ySq (yRg [11] (aH D5.ok13f (aH rP aO)) fun K hK=>?_)
    simp(disch:=omega) only[go_sem,Bool.not_false]
    refine hK _ (aB ?_)
    refine ySq (yRn [6] fun K hK=>?_)
    simp(disch:=omega) only[go_sem]
    refine hK _ (aB ?_)
    refine aS rfl (⟨by simp(disch:=omega) only[bV,bK,bQ,go_sem,aV,kE,bY,eq_self,hdl],by simp(disch:=omega) only[aV,bY,↓reduceIte,eq_self],?_,?_⟩)
    ·exact eLf _ _
    exact fVp _ _ _
   have d1:decide ((0:Int)<(ctN t:Int))=false:=J6 (by omega)
   have hB:dtB b t c sz a=some ((b.drop a).take sz,a+sz):=J3 (by rintro⟨h3,h4⟩;exact h1 h3)
   obtain⟨d,hd⟩: ∃d,(b.drop a).take sz=d:=⟨_,rfl⟩
   have hdl:d.length=sz:=by rw[←hd,List.length_take,List.length_drop];omega
   rw[hd]at ht hB
   rw[J6 h2,hB]
   refine ySq (ySq (yRn [39,0,2,4,10] fun K hK=>?_))
   simp(disch:=omega) only[go_sem,d1]
   refine hK _ (aB ?_)
   refine iFd (yRg [4,10,11] (aH eLb (aH fTu aO)) fun K hK=>?_)
   simp(disch:=omega) only[go_sem,ht,hdl,U2]
   refine hK _ (aB ?_)
   rw[gBw fun hh=>absurd hh h2]
   refine ySq (yRg [11] (aH D5.ok13f (aH rP aO)) fun K hK=>?_)
   simp(disch:=omega) only[go_sem,Bool.not_false]
   refine hK _ (aB ?_)
   refine ySq (yRn [6] fun K hK=>?_)
   simp(disch:=omega) only[go_sem]
   refine hK _ (aB ?_)
   refine aS rfl (⟨by simp(disch:=omega) only[bV,bK,bQ,go_sem,aV,kE,bY,eq_self,hdl],by simp(disch:=omega) only[aV,bY,↓reduceIte,eq_self],?_,?_⟩)
   ·exact eLf _ _
   exact fVp _ _ _
  have hR:dtR b t c sz a=none:=J3 hk
  rw[hR]
  have d0:decide ((sz:Int)≤(b.length:Int)-(a:Int))=false:=J6 (by omega)
  refine ySq (dCo 12 (fun _=>2) bZ (fPd) rD (aH rP aO) rfl rfl rfl (by kernel_rfl) rfl (by kernel_rfl) (fun Z hZ=>?_))
  simp(disch:=omega) only[U0,U1,go_sem,bG,eq_self,true_and,bP,List.map_cons,List.map_nil,List.append_nil,d0]
  refine hZ _ ?_;clear hZ Z
  exact rfl
 cases hg
theorem gGb:dE Tryz.prog GLh 60 chM (rdP gBj):=gBx.2
theorem gIj:fHm Tryz.prog 60:=⟨_,Tryz.func60,rfl,rfl⟩
theorem gEj:bX Tryz.prog GLh 60 (.heap (rdH gBj)):=⟨⟨_,Tryz.func60,rfl,rfl⟩,gBx.1⟩
end Go.AX

namespace Go.AX
open Go
def pB (ops:Array Oper) (m:Nat) (i:Nat):Bool:=i !=m&& !((Region.before ops).getD i 0).testBit m
def okW (P:Program) (Γ:Env) (md:Nat→Nat) (ops:Array Oper) (m:Nat):Bool:=
 (List.range ops.size).all fun j=> !pB ops m j||((Region.before ops).getD m 0).testBit j||match ops[j]?,ops[m]? with
  |some y,some o=> !decide (cls P y.op=.call)&&y.apart ops o&&eEq j m (tI P Γ (md j) y.op) (tI P Γ (md m) o.op)
  |_,_=>false
theorem gFw {P:Program} {Γ:Env} {md:Nat→Nat} {ops:Array Oper} {m j:Nat} {o:Oper} (h:okW P Γ md ops m=true) (hm:ops[m]? =some o) (hj:j<ops.size) (hp:pB ops m j=true) (hb: ¬((Region.before ops).getD m 0).testBit j=true):
  j≠m∧∃y,ops[j]? =some y∧cls P y.op≠.call∧y.apart ops o=true∧eEq j m (tI P Γ (md j) y.op) (tI P Γ (md m) o.op)=true:=by
 have h1:=List.all_eq_true.1 h j (List.mem_range.2 hj)
 have hne:j≠m:=by
  unfold pB at hp
  simp only[Bool.and_eq_true,bne_iff_ne,ne_eq]at hp
  exact hp.1
 rw[hp,Bool.not_eq_true]at*
 rw[hb,Array.getElem?_eq_getElem hj,hm]at h1
 simp only[Bool.not_true,Bool.false_or,Bool.and_eq_true,Bool.not_eq_true',decide_eq_false_iff_not]at h1
 exact⟨hne,ops[j],Array.getElem?_eq_getElem hj,h1.1.1,h1.1.2,h1.2⟩
section
variable {P : Program} {Γ Γ2 : Env} {md : Nat → Nat} {ops : Array Oper} {GL : Nat → Option (List AV)}
theorem gDh {i:Nat} {y:Oper} (h:cls P y.op≠.call) (s:S):kA P Γ GL md ops i y s=kA P Γ2 GL md ops i y s:=by
 unfold kA eff
 cases hc:cls P y.op<;>first|rfl|exact absurd hc h
theorem gAw: ∀(l:List Nat) (s:S),(∀j∈l,∃y,ops[j]? =some y∧cls P y.op≠.call)→dQ P Γ GL md ops l s=dQ P Γ2 GL md ops l s
 |[],_,_=>rfl
 |j::r,s,h=>by
  obtain⟨y,h1,h2⟩:=h j (by simp)
  simp only[dQ,h1]
  rw[gDh h2]
  cases kA P Γ2 GL md ops j y s with
  |none=>rfl
  |some t=>exact gAw r t fun k hk=>h k (by simp[hk])
theorem fZu: ∀(l:List Nat) {i:Nat} {x:Oper} {s sf t:S},ops[i]? =some x→dQ P Γ GL md ops l s=some sf→kA P Γ GL md ops i x sf=some t→dQ P Γ GL md ops (l++[i]) s=some t
 |[],i,x,s,sf,t,hx,h1,h2=>by
  obtain rfl:=J0 h1
  simp only[List.nil_append,dQ,hx,h2];rfl
 |j::r,i,x,s,sf,t,hx,h1,h2=>by
  simp only[List.cons_append,dQ]at h1⊢
  split at h1
  ·rename_i y hy
   obtain⟨s1,e1,e2⟩:=aJ h1
   rw[e1]
   exact fZu r hx e2 h2
  cases h1
theorem gDj {m:Nat} {o:Oper} {l:List Nat} {s sf s' s'':S} (hm:ops[m]? =some o) (h1: ∀j∈l,∃y,ops[j]? =some y∧cls P y.op≠.call) (h2: ∀j∈l,j≠m∧∃y,ops[j]? =some y∧y.apart ops o=true∧eEq j m (tI P Γ2 (md j) y.op) (tI P Γ2 (md m) o.op)=true)
  (hr:dQ P Γ GL md ops l s=some sf) (he:fVo s' sf) (hs:kA P Γ2 GL md ops m o s'=some s''): ∃t,kA P Γ2 GL md ops m o s=some t:=by
 rw[gAw (Γ2:=Γ2) l s h1]at hr
 obtain⟨t,ht⟩: ∃t,kA P Γ2 GL md ops m o sf=some t:=by
  obtain⟨t',e1,_⟩:=aFu ([]++[m]) (fZu [] hm rfl hs) he
  simp only[List.nil_append,dQ,hm]at e1
  obtain⟨t,e2,_⟩:=aJ e1
  exact⟨t,e2⟩
 obtain⟨s1,_,e1,_,_⟩:=wK hm l [] h2 (fZu l hm hr ht)
 exact⟨s1,e1⟩
end
section
variable {P : Program} {Γ : Env} {c : Ctx} {σ0 : Nat → Loc} {I0 : Nat → Prop} {w0 : World} {md : Nat → Nat} {ops : Array Oper}
theorem gCf (hΓ:eT P c.GL Γ) {Q:Exit→Act→World→Prop} (hdst:fK c.nt ops.toList=true) (hok:sF P Γ md ops=true) {m:Nat} {o:Oper} (hm:ops[m]? =some o) {Γ2:Env}
  (hU:okW P Γ2 md ops m=true) {s' s'':S}
  (hs2:kA P Γ2 c.GL md ops m o s'=some s'')
  (hP: ∀rem s t a w,kA P Γ2 c.GL md ops m o s=some t→R c σ0 I0 w0 rem s a w→Region.wanted o (yielded ops a.tmps)=true∧∀K,o.wp P a w K Q):
  ∀(fuel:Nat) (listed:Array Bool) (s sf:S) (a:Act) (w:World),listed.size=ops.size→listed.getD m true=false→(unl ops.size listed).length≤fuel→
   (∀m o,listed.getD m false=true→ops[m]? =some o→∀e∈o.after,Region.binds .any e=true→listed.getD e.on false=true)→
   dQ P Γ c.GL md ops ((unl ops.size listed).filter (pB ops m)) s=some sf→fVo s' sf→R c σ0 I0 w0 (fun k=>k∈unl ops.size listed) s a w→wpAny P .any ops Q fuel listed a w:=by
 have hchk: ∀j y,ops[j]? =some y→(∀e∈y.after,Region.binds .any e=true→e.on<j)∧∀i x,i<j→ops[i]? =some x→((Region.before ops).getD j 0).testBit i=true∨(x.apart ops y=true∧eEq i j (tI P Γ (md i) x.op) (tI P Γ (md j) y.op)=true):=by
  intro j y hy
  have hlt:=(Array.getElem?_eq_some_iff.1 hy).1
  have h:=List.all_eq_true.1 hok j (List.mem_range.2 hlt)
  simp only[hy,Bool.and_eq_true]at h
  refine⟨fun e he hb=>?_,fun i x hi hx=>?_⟩
  ·have:=Array.all_eq_true_iff_forall_mem.1 h.1 e he
   simpa [hb]using this
  have:=List.all_eq_true.1 h.2 i (List.mem_range.2 hi)
  simp only[hx,Bool.or_eq_true,Bool.and_eq_true]at this
  exact this
 have mem_unl: ∀(listed:Array Bool) i,i∈unl ops.size listed↔i<ops.size∧listed.getD i true=false:=by
  intro listed i;simp[unl]
 have noready: ∀(listed:Array Bool),listed.size=ops.size→Region.ready .any ops listed=[]→unl ops.size listed=[]:=by
  intro listed hsz hr
  refine List.eq_nil_iff_forall_not_mem.2 fun i=>?_
  induction i using Nat.strongRecOn with
  |_ i ih=>
   intro hi
   obtain⟨hlt,hun⟩:=(mem_unl listed i).1 hi
   have:i∈Region.ready .any ops listed:=by
    rw[mem_ready]
    refine⟨hun,ops[i],Array.getElem?_eq_getElem hlt,fun e he hb=>?_⟩
    have hlt':=(hchk i _ (Array.getElem?_eq_getElem hlt)).1 e he hb
    have hn:=ih e.on hlt'
    rw[mem_unl]at hn
    have hs2:e.on<listed.size:=by omega
    rw[Array.getD_eq_getD_getElem?,Array.getElem?_eq_getElem hs2]at hn⊢
    simp only[Option.getD_some]at hn⊢
    cases hv:listed[e.on]with
    |true=>rfl
    |false=>exact absurd ⟨by omega,hv⟩ hn
   rw[hr]at this;cases this
 have hmu: ∀(listed:Array Bool),listed.getD m true=false→m∈unl ops.size listed:=fun listed h=>(mem_unl listed m).2 ⟨(Array.getElem?_eq_some_iff.1 hm).1,h⟩
 intro fuel
 induction fuel with
 |zero=>
  intro listed s sf a w hsz hml hlen hdc hrun heq hR
  have h0:unl ops.size listed=[]:=List.eq_nil_of_length_eq_zero (by omega)
  have:=hmu listed hml
  rw[h0]at this;cases this
 |succ fuel ih=>
  intro listed s sf a w hsz hml hlen hdc hrun heq hR
  refine⟨fun hr=>?_,fun i hi=>?_⟩
  ·have h0:=noready listed hsz hr
   have:=hmu listed hml
   rw[h0]at this;cases this
  obtain⟨hun,x,hx,hall⟩:=mem_ready.1 hi
  have hlt:=(Array.getElem?_eq_some_iff.1 hx).1
  have hmem:i∈unl ops.size listed:=(mem_unl listed i).2 ⟨hlt,hun⟩
  have hanc: ∀m j,Anc ops m j→(∀o,ops[m]? =some o→∀e∈o.after,Region.binds .any e=true→listed.getD e.on false=true)→listed.getD j false=true:=by
   intro m j ha
   induction ha with
   |edge ho he hb=>exact fun h=>h _ ho _ he hb
   |step ho he hb _ ih2=>exact fun h=>ih2 fun o ho' e' he' hb'=>hdc _ o (h _ ho _ he hb) ho' e' he' hb'
  by_cases him:i=m
  ·subst him
   rw[hm]at hx
   obtain rfl:=J0 hx
   have hrem: ∀j∈(unl ops.size listed).filter (pB ops i),j≠i∧∃y,ops[j]? =some y∧cls P y.op≠.call∧y.apart ops o=true∧eEq j i (tI P Γ2 (md j) y.op) (tI P Γ2 (md i) o.op)=true:=by
    intro j hj
    obtain⟨hj1,hj2⟩:=List.mem_filter.1 hj
    obtain⟨hjlt,hjun⟩:=(mem_unl listed j).1 hj1
    have hnb: ¬((Region.before ops).getD i 0).testBit j=true:=by
     intro hc
     have h1:=hanc i j (oR ops i j hc) (fun o' ho e he hb=>by rw[hm]at ho;obtain rfl:=J0 ho;exact hall e he hb)
     have hs3:j<listed.size:=by omega
     rw[Array.getD_eq_getD_getElem?,Array.getElem?_eq_getElem hs3]at h1 hjun
     simp only[Option.getD_some]at h1 hjun
     rw[h1]at hjun;cases hjun
    exact gFw hU hm hjlt hj2 hnb
   obtain⟨s1,hs1⟩:=gDj hm (fun j hj=>let⟨_,y,h2,h3,_⟩:=hrem j hj;⟨y,h2,h3⟩) (fun j hj=>let⟨h1,y,h2,_,h4,h5⟩:=hrem j hj;⟨h1,y,h2,h4,h5⟩) hrun heq hs2
   obtain⟨h1,h2⟩:=hP _ _ _ a w hs1 hR
   unfold wpOp
   simp only[hm]
   rw[J4 h1];exact .inl (h2 _)
  have hlm:pB ops m i=true:=by
   unfold pB
   simp only[Bool.and_eq_true,bne_iff_ne,ne_eq,Bool.not_eq_true']
   refine⟨him,?_⟩
   rw[←Bool.not_eq_true]
   intro hc
   have h1:=hanc i m (oR ops i m hc) (fun o' ho e he hb=>by rw[hx]at ho;obtain rfl:=J0 ho;exact hall e he hb)
   have hs3:m<listed.size:=by have:=(Array.getElem?_eq_some_iff.1 hm).1;omega
   rw[Array.getD_eq_getD_getElem?,Array.getElem?_eq_getElem hs3]at h1 hml
   simp only[Option.getD_some]at h1 hml
   rw[h1]at hml;cases hml
  have hmem2:i∈(unl ops.size listed).filter (pB ops m):=List.mem_filter.2 ⟨hmem,hlm⟩
  obtain⟨l1,l2,hl⟩:=List.append_of_mem hmem2
  have hpw:((unl ops.size listed).filter (pB ops m)).Pairwise (· < ·):=List.Pairwise.filter _ (List.Pairwise.filter _ List.pairwise_lt_range)
  rw[hl]at hpw hrun
  have hlt1: ∀j∈l1,j<i:=fun j hj=>(List.pairwise_append.1 hpw).2.2 j hj i (by simp)
  have hlt2: ∀j∈l2,i<j:=fun j hj=>(List.pairwise_cons.1 (List.pairwise_append.1 hpw).2.1).1 j hj
  obtain⟨s1,sf1,f1,f2,f3⟩:=wK hx l1 l2 (fun j hj=>by
   have hjm:j∈unl ops.size listed:=(List.mem_filter.1 (show j∈(unl ops.size listed).filter (pB ops m)by rw[hl];simp[hj])).1
   obtain⟨hjlt,hjun⟩:=(mem_unl listed j).1 hjm
   refine⟨by have:=hlt1 j hj;omega,ops[j],Array.getElem?_eq_getElem hjlt,?_⟩
   rcases(hchk i x hx).2 j _ (hlt1 j hj) (Array.getElem?_eq_getElem hjlt)with h|h
   ·have:=hanc i j (oR ops i j h) (fun o ho e he hb=>by rw[hx]at ho;obtain rfl:=J0 ho;exact hall e he hb)
    have hs2:j<listed.size:=by omega
    rw[Array.getD_eq_getD_getElem?,Array.getElem?_eq_getElem hs2]at hjun this
    simp only[Option.getD_some]at hjun this
    rw[hjun]at this;cases this
   exact h) hrun
  have e0:unl ops.size (listed.setIfInBounds i true)=(unl ops.size listed).filter (fun k=>k !=i):=by
   unfold unl
   rw[List.filter_filter]
   refine List.filter_congr fun k hk=>?_
   by_cases hki:k=i
   ·subst hki
    rw[Array.getD_eq_getD_getElem?,Array.getElem?_setIfInBounds_self_of_lt (by omega)];simp
   rw[getD_set_ne true (Ne.symm hki)]
   simp[hki]
  have hnew:(unl ops.size (listed.setIfInBounds i true)).filter (pB ops m)=l1++l2:=by
   have e1:(unl ops.size (listed.setIfInBounds i true)).filter (pB ops m)=((unl ops.size listed).filter (pB ops m)).filter (fun k=>k !=i):=by
    rw[e0,List.filter_filter,List.filter_filter]
    refine List.filter_congr fun k _=>Bool.and_comm _ _
   rw[e1,hl,List.filter_append,List.filter_cons]
   simp only[bne_self_eq_false,Bool.false_eq_true,if_false]
   congr 1
   ·exact List.filter_eq_self.2 fun k hk=>by have:=hlt1 k hk;simp;omega
   exact List.filter_eq_self.2 fun k hk=>by have:=hlt2 k hk;simp;omega
  have hlen2:(unl ops.size (listed.setIfInBounds i true)).length<(unl ops.size listed).length:=by
   rw[e0]
   refine Nat.lt_of_le_of_ne (List.length_filter_le _ _) fun e=>?_
   have:=List.length_filter_eq_length_iff.1 e i hmem
   simp at this
  have hstep:=fX (K:=wpAny P .any ops Q fuel (listed.setIfInBounds i true)) (Q:=Q) (ops:=ops) hΓ f1 (lU hdst (Array.mem_toList_iff.2 (Array.mem_of_getElem? hx))) (rem:=fun k=>k∈unl ops.size listed) hmem hR (fun a' w' hR'=>
   ih (listed.setIfInBounds i true) s1 sf1 a' w' (by simpa using hsz) (by rw[getD_set_ne true him];exact hml) (by omega) (fun m' o' hm' ho e he hb=>by
     by_cases hmi:m'=i
     ·subst hmi
      rw[hx]at ho;obtain rfl:=J0 ho
      exact getD_set_true (hall e he hb)
     ·rw[getD_set_ne false (Ne.symm hmi)]at hm'
      exact getD_set_true (hdc m' o' hm' ho e he hb))
    (by rw[hnew];exact f2) (heq.trans f3) (hR'.un fun k hk=>by
     rw[e0,List.mem_filter]at hk
     exact⟨hk.1,by simpa using hk.2⟩))
  unfold wpOp
  simp only[hx]
  split
  ·rename_i hw;rw[J4 hw]at hstep;exact .inl hstep
  rename_i hw;rw[J3 hw]at hstep;exact hstep
end
def gFu (Γ:Env) (f:FuncId) (g:List AV→H→Nat→Option (H×Nat)):Env:=fun f'=>if f'=f then some (.heap fun args hp nx=>(g args hp nx).map fun p=>(.tup [],p.1,p.2))else Γ f'
def gEs (c:Code) (k f:Nat):Bool:=match (aM c)[k]? with
 |some o=>decide (o.guard=none)&&match o.op with
  | .call cl=>match cl.callee with
   | .value (.func f')=>decide (f'=f)
   |_=>false
  |_=>false
 |none=>false
theorem gDp {c:Code} {k f:Nat} (h:gEs c k f=true): ∃o cl,(aM c)[k]? =some o∧o.guard=none∧o.op=.call cl∧cl.callee=.value (.func f):=by
 unfold gEs at h
 split at h
 ·rename_i o ho
  simp only[Bool.and_eq_true,decide_eq_true_eq]at h
  obtain⟨h1,h2⟩:=h
  split at h2
  ·rename_i cl hcl
   split at h2
   ·rename_i f' hf
    have:=of_decide_eq_true h2
    subst this
    exact⟨o,cl,ho,h1,hcl,hf⟩
   cases h2
  cases h2
 cases h
theorem fZq {P:Program} {GL:Nat→Option (List AV)} {nt:Nat} {Q:Exit→S→Prop} {s:S} {code:Code} {Γ:Env} (k:Nat) (L:List Nat) (md:Nat→Nat) {f:FuncId} {ch:List PanicEntry} {g:List AV→H→Nat→Option (H×Nat)} (hm:P.follows .mixedOrders=true) (hpan:dE P GL f ch g) (hcall:fHm P f) (hΓ:eT P GL Γ) (hc:eEs code=true) (hd:lZ code=true) (ho:fK nt (aM code).toList=true)
  (hk:sF P Γ md (aM code)=true) (hw:okW P (gFu Γ f g) md (aM code) k=true) (hcf:gEs code k f=true) (hmd:md k=0) (hL:(List.range (aM code).size).filter (pB (aM code) k)=L) (hq: ∀t,Q (.panic ch) t)
  (h:nH (xL P Γ GL md (rN code) (aF code) L (cX (rN code) s)) (bVn GL f g (fun _=>True) (aF code)[k]?)):Awp P GL nt code s Q:=by
 obtain⟨o,cl,hko,hgd,hop,hcl⟩:=gDp hcf
 cases code<;>first|(cases hc;done)|skip
 rename_i id ops d
 simp only[lZ]at hd
 subst hd
 intro c e1 e2 σ0 I0 w0 a w hR
 subst e1;subst e2
 simp only[aM]at ho hk hw hL hko
 have hlt:=(Array.getElem?_eq_some_iff.1 hko).1
 have h0:unl ops.size (Array.replicate ops.size false)=List.range ops.size:=by
  unfold unl
  refine List.filter_eq_self.2 fun k hk=>?_
  rw[List.mem_range]at hk
  rw[Array.getD_eq_getD_getElem?,Array.getElem?_replicate,J4 hk];rfl
 have hrun: ∀(l:List Nat) (s:S),xL P Γ c.GL md (rN (.region id ops true)) (aF (.region id ops true)) l s=dQ P Γ c.GL md ops l s:=by
  intro l
  induction l with
  |nil=>intro s;rfl
  |cons i r ih=>
   intro s
   have hl:(aF (.region id ops true))[i]? =(ops[i]?).map (light ops):=by simp only[aF,aM,List.getElem?_map,Array.getElem?_toList]
   simp only[xL,dQ,hl]
   cases ops[i]? with
   |none=>rfl
   |some o=>
    simp only[Option.map_some,yR,vJ]
    congr 1
    funext s'
    exact ih s'
 obtain⟨t,h1,h2⟩:=mR h
 rw[hrun]at h1
 have hlk:(aF (.region id ops true))[k]? =some (light ops o):=by simp only[aF,aM,List.getElem?_map,Array.getElem?_toList,hko,Option.map_some]
 rw[hlk]at h2
 have hg0: ∀fr,gdO ops fr o=some true:=fun fr=>by unfold gdO;rw[hgd]
 have hce: ∀s:S,eff P (gFu Γ f g) o.op (ev c.GL s.fr) (md k) s.nx ops.size s.hp (s.nx+k) s.cx=(g (cl.args.toList.map (ev c.GL s.fr)++[]) s.hp s.cx).map fun p=>(.tup [],p.1,p.2):=fun s=>by
  rw[hop,hmd]
  have e1:cls P (.call cl)=.call:=by unfold cls;simp only[hcl]
  unfold eff
  rw[e1]
  simp only[eEr,hcl,ev,eFj,gFu,if_true]
  exact eE _ trivial
 obtain⟨t2,ht2⟩: ∃t2,kA P (gFu Γ f g) c.GL md ops k o t=some t2:=by
  obtain⟨_,h3⟩:=h2
  have h4:(light ops o).op=.call cl:=hop
  simp only[h4,hcl,ev]at h3
  obtain⟨_,p,h5,_⟩:=h3
  unfold kA
  rw[hg0,aX]
  simp only
  rw[hce,h5]
  exact⟨_,rfl⟩
 refine wp_region_any hm (gCf (σ0:=σ0) (I0:=I0) (w0:=w0) (md:=md) hΓ ho hk hko hw ht2 (fun rem s t a' w' hs hR'=>?_) ops.size _ (cX ops.size s) t a _ (by simp) ?_ (by rw[h0];simp) (fun m o hl=>?_) (by rw[h0,hL];exact h1) (fVo.refl _) ?_)
 ·have hpc:bIo c.GL f g (fun _=>True) (light ops o) s:=by
   unfold kA at hs
   rw[hg0,aX]at hs
   simp only at hs
   rw[hce]at hs
   refine⟨by rw[←bNa];exact hg0 _,?_⟩
   have h4:(light ops o).op=.call cl:=hop
   simp only[h4,hcl,ev]
   rcases hgp:g (cl.args.toList.map (ev c.GL s.fr)++[]) s.hp s.cx with _|p
   ·rw[hgp]at hs;cases hs
   exact⟨trivial,p,rfl,trivial⟩
  have key:=fun K=>bIn (K:=K) (ops:=ops) (Q':=fun e a' w'=> ∃s',Q e s'∧R c σ0 I0 w0 (fun _=>False) s' a' w') hpan hcall hpc hR' (fun t' a' w' _ hR'=>⟨t',hq t',hR'⟩)
  exact⟨(key fun _ _=>True).1,fun K=>(key K).2⟩
 ·rw[Array.getD_eq_getD_getElem?,Array.getElem?_replicate,J4 hlt];rfl
 ·rw[Array.getD_eq_getD_getElem?,Array.getElem?_replicate]at hl;split at hl<;>cases hl
 exact((hR.enter ops.size).un fun k hk=>by rw[h0]at hk;exact List.mem_range.1 hk).world rfl rfl rfl rfl
end Go.AX

namespace Go.AX
open Go Go.Proofs
set_option maxRecDepth 20000
def n32 (b:List B8) (a:Nat):W32:=fRs ((b.drop a).take 4)
def reK (b:List B8) (n:Nm) (e:Nat):Option (List B8×Nat)→Option (RC×Nat)
 |none=>none
 |some (d,e2)=>some (⟨n,n16 b e,n16 b (e+2),n32 b (e+2+2),d⟩,e2)
def fZv (b:List B8) (a:Nat):Option (RC×Nat):=match fJj b a with
 |none=>none
 |some (n,e)=>if e+2+2+4+2≤b.length then reK b n e (dtR b (n16 b e) (n16 b (e+2)) (c16 b (e+2+2+4)) (e+2+2+4+2))else none
theorem gAm {b:List B8} {a e:Nat} {n:Nm} (h:fJj b a=some (n,e)) (h1: ¬e+2+2+4+2≤b.length):fZv b a=none:=by
 unfold fZv;rw[h];simp only;rw[J3 h1]
theorem gEg {b:List B8} {a e:Nat} {n:Nm} (h:fJj b a=some (n,e)) (h1:e+2+2+4+2≤b.length):fZv b a=reK b n e (dtR b (n16 b e) (n16 b (e+2)) (c16 b (e+2+2+4)) (e+2+2+4+2)):=by
 unfold fZv;rw[h];simp only;rw[J4 h1]
theorem gBq {b:List B8} {a:Nat} {c:RC} {e2:Nat} (h:fZv b a=some (c,e2)): ∃n e,fJj b a=some (n,e)∧e2=e+2+2+4+2+c16 b (e+2+2+4)∧e2≤b.length:=by
 rcases hn:fJj b a with _|⟨n,e⟩
 ·unfold fZv at h;rw[hn]at h;cases h
 by_cases h1:e+2+2+4+2≤b.length
 ·rw[gEg hn h1]at h
  rcases hd:dtR b (n16 b e) (n16 b (e+2)) (c16 b (e+2+2+4)) (e+2+2+4+2)with _|⟨d,e3⟩
  ·rw[hd]at h;cases h
  rw[hd]at h
  simp only[reK,Option.some.injEq,Prod.mk.injEq]at h
  obtain⟨_,rfl⟩:=h
  obtain⟨h2,h3⟩:=gHx h1 hd
  exact⟨n,e,rfl,h2,by omega⟩
 rw[gAm hn h1]at h;cases h
theorem gCs {b:List B8} {a:Nat} {c:RC} {e2:Nat} (h:fZv b a=some (c,e2)):e2≤b.length:=(gBq h).choose_spec.choose_spec.2.2
def reA (b:List B8):Option (RC×Nat)→Option (AV×List AV)
 |none=>none
 |some (c,e)=>some (.agg (fLo c),[.sl b.length (c8 b),.i (e:Int)])
def gBr:List AV→List AV→Option (Option (AV×List AV))
 |[.op _ 0],[.sl n xs,.i a]=>aK (fHq xs) fun b=>aN (b.length=n∧0≤a∧a≤n∧n≤100000) (some (reA b (fZv b a.toNat)))
 |_,_=>none
theorem gFn (id n:Nat) (a:Int) (xs:List AV):gBr [.op id 0] [.sl n xs,.i a]=aK (fHq xs) fun b=>aN (b.length=n∧0≤a∧a≤n∧n≤100000) (some (reA b (fZv b a.toNat))):=(rfl)
attribute [go_sem] gFn
theorem fSk (c:RC):AV.ids (.agg (fLo c))=0:=by
 show max (AV.ids (.sl c.nm.length (cS c.nm))) (max 0 (max 0 (max 0 (max (AV.ids (.sl c.d.length (c8 c.d))) 0))))=0
 rw[eKy,eLf];rfl
set_option maxHeartbeats 8000000 in
theorem gBp:fHs Tryz.prog GLh 52 (rdH gBr)∧dE Tryz.prog GLh 52 chM (rdP gBr):=by
 refine dT Tryz.func52 (aT rfl) ?_
 intro id off rest nx xs o hg
 unfold gBr at hg
 split at hg
 ·rename_i id2 n xs2 a0 heq
  simp only[List.cons.injEq,AV.op.injEq]at heq
  obtain⟨⟨rfl,rfl⟩,rfl⟩:=heq
  replace hg:=aJ hg;obtain⟨b,hl,hg⟩:=hg
  replace hg:=aP hg;obtain⟨⟨rfl,ha,han,hnb⟩,hg⟩:=hg
  obtain rfl:=J0 hg
  have:=bW hl;subst this
  obtain⟨a,rfl⟩:=Int.eq_ofNat_of_zero_le ha
  simp only[U2]at*
  refine⟨J1 rfl,fun hid=>?_⟩
  clear hl hg
  refine ySq (yRn [0,2] fun K hK=>?_)
  simp(disch:=omega) only[go_sem]
  refine hK _ (aB ?_)
  rcases hn:fJj b a with _|⟨nm,e⟩
  ·have hR:fZv b a=none:=by unfold fZv;rw[hn]
   have hA:nmA b none=none:=rfl
   rw[hR]
   refine ySq (dCn 1 (rM) fOb (aH fKm (aH fL aO)) rfl rfl rfl (fun Z hZ=>?_))
   simp(disch:=omega) only[U0,U1,go_sem,bG,eq_self,true_and,bP,List.map_cons,List.map_nil,List.append_nil,hn,hA,U2]
   refine hZ _ ?_;clear hZ Z
   exact rfl
  have hA:nmA b (some (nm,e))=some (.sl nm.length (cS nm),[.sl b.length (c8 b),.i (e:Int)]):=rfl
  obtain⟨he,hlb,hsum⟩:=fLw hn
  rcases(by omega: ¬2≤b.length-e∨(2≤b.length-e∧¬2≤b.length-(e+2))∨(2≤b.length-(e+2)∧2≤b.length-e∧¬4≤b.length-(e+2+2))∨(4≤b.length-(e+2+2)∧2≤b.length-(e+2)∧2≤b.length-e))with h2|⟨h2,h4⟩|⟨h4,h2,h6⟩|⟨h6,h4,h2⟩
  ·rw[gAm hn (by omega)]
   have n2:=fPs h2
   refine ySq (dCn 3 (dK) fSe (aH fKm (aH fL aO)) rfl rfl rfl (fun Z hZ=>?_))
   simp(disch:=omega) only[U0,U1,go_sem,bG,eq_self,true_and,bP,List.map_cons,List.map_nil,List.append_nil,hn,hA,n2,U2]
   refine hZ _ ?_;clear hZ Z
   exact rfl
  ·rw[gAm hn (by omega)]
   have n2:=eKs h2
   have n4:=fPs h4
   refine ySq (dCn 6 (dK) fSe (aH fKm (aH fL aO)) rfl rfl rfl (fun Z hZ=>?_))
   simp(disch:=omega) only[U0,U1,go_sem,bG,eq_self,true_and,bP,List.map_cons,List.map_nil,List.append_nil,hn,hA,n2,n4,U2]
   refine hZ _ ?_;clear hZ Z
   exact rfl
  ·rw[gAm hn (by omega)]
   have n2:=eKs h2
   have n4:=eKs h4
   have n6:=fPs h6
   refine ySq (dCn 9 (dK) fSe (aH fKm (aH fL aO)) rfl rfl rfl (fun Z hZ=>?_))
   simp(disch:=omega) only[U0,U1,go_sem,bG,eq_self,true_and,bP,List.map_cons,List.map_nil,List.append_nil,hn,hA,n2,n4,n6,U2]
   refine hZ _ ?_;clear hZ Z
   exact rfl
  have n2:=eKs h2
  have n4:=eKs h4
  have n6:=eKs h6
  have v2:(fRs (List.take 2 (List.drop e b))).setWidth 16=n16 b e:=rfl
  have v4:(fRs (List.take 2 (List.drop (e+2) b))).setWidth 16=n16 b (e+2):=rfl
  have v6:fRs (List.take 4 (List.drop (e+2+2) b))=n32 b (e+2+2):=rfl
  refine ySq (yRg [0,2,3] (aH fKm (aH fL aO)) fun K hK=>?_)
  simp(disch:=omega) only[go_sem,hn,hA,n2,n4,n6,v2,v4,v6,U2]
  refine hK _ (aB ?_)
  by_cases h8:2≤b.length-(e+2+2+4)
  ·have n8:=eKs h8
   rw[gEg hn (by omega)]
   have v8:(fRs (List.take 2 (List.drop (e+2+2+4) b))).toNat=c16 b (e+2+2+4):=rfl
   have hcl:=fOe b (e+2+2+4)
   obtain⟨sz,hsz⟩: ∃s,c16 b (e+2+2+4)=s:=⟨_,rfl⟩
   rw[hsz]at hcl v8⊢
   rcases hd:dtR b (n16 b e) (n16 b (e+2)) sz (e+2+2+4+2)with _|⟨d,e2⟩
   ·have hA2:slA b none=none:=rfl
    have hK:reK b nm e none=none:=rfl
    rw[hK]
    refine lW 3 (nx+1+11) 0 rfl (by simp(disch:=omega) only[aV,↓reduceIte]<;>rfl) ?_
    refine ySq (fZq 5 [0,1,2,3,4] (fun k=>if k=1 then 1 else if k=3 then 0 else if k=5 then 0 else 2) bZ (gGb) gIj (aH fL (aH gEj aO)) rfl rfl rfl (by kernel_rfl) (by kernel_rfl) rfl rfl (by kernel_rfl) (fun _=>rfl) ?_)
    simp(disch:=omega) only[U0,U1,go_sem,cHk,eJ,lY,eDt,List.getElem?_cons_zero,List.getElem?_cons_succ,bG,eq_self,true_and,and_true,List.map_cons,List.map_nil,List.append_nil,n8,v8,hd,hA2,J9,U2]
    exact⟨_,rfl⟩
   have hA2:slA b (some (d,e2))=some (.sl d.length (c8 d),[.sl b.length (c8 b),.i (e2:Int)]):=rfl
   refine ySq (aKy 1 3 [1,0,2,3,4,5,6,7] [2,3,0,1,4,5,6,7] (fun k=>if k=3 then 0 else if k=5 then 0 else 2) [2,3] bZ (aH fL (aH gEj aO)) (by decide) rfl rfl rfl (by kernel_rfl) (fun K hK=>?_) (fun K hK=>?_))
   ·simp(disch:=omega) only[go_sem,eJ,lY,eDt,List.getElem?_cons_zero,List.getElem?_cons_succ,n8,v8,hd,hA2,U2]
    refine hK _ (aB ?_)
    refine ySq (yRn [2] fun K hK=>?_)
    simp(disch:=omega) only[go_sem]
    refine hK _ (aB ?_)
    refine aS rfl (⟨by simp(disch:=omega) only[bV,bK,bQ,go_sem,aV,eq_self,fLo,U0,U1,J9],by simp(disch:=omega) only[aV,bY,↓reduceIte,eq_self],?_,?_⟩)
    ·exact fSk ⟨nm,n16 b e,n16 b (e+2),n32 b (e+2+2),d⟩
    exact fVp _ _ _
   simp(disch:=omega) only[go_sem,eJ,lY,eDt,List.getElem?_cons_zero,List.getElem?_cons_succ,n8,v8,hd,hA2,U2]
   refine hK _ (aB ?_)
   refine ySq (yRn [2] fun K hK=>?_)
   simp(disch:=omega) only[go_sem]
   refine hK _ (aB ?_)
   refine aS rfl (⟨by simp(disch:=omega) only[bV,bK,bQ,go_sem,aV,eq_self,fLo,U0,U1,J9],by simp(disch:=omega) only[aV,bY,↓reduceIte,eq_self],?_,?_⟩)
   ·exact fSk ⟨nm,n16 b e,n16 b (e+2),n32 b (e+2+2),d⟩
   exact fVp _ _ _
  rw[gAm hn (by omega)]
  have n8:=fPs h8
  refine lW 3 (nx+1+11) 0 rfl (by simp(disch:=omega) only[aV,↓reduceIte]<;>rfl) ?_
  refine ySq (fZq 3 [0,1,2] (fun k=>if k=1 then 1 else if k=3 then 0 else if k=5 then 0 else 2) bZ (dK) fSe (aH fL (aH gEj aO)) rfl rfl rfl (by kernel_rfl) (by kernel_rfl) rfl rfl (by kernel_rfl) (fun _=>rfl) ?_)
  simp(disch:=omega) only[U0,U1,go_sem,cHk,eJ,lY,eDt,List.getElem?_cons_zero,List.getElem?_cons_succ,bG,eq_self,true_and,and_true,List.map_cons,List.map_nil,List.append_nil,n8,J9,U2]
  exact⟨_,rfl⟩
 cases hg
theorem gFm:dE Tryz.prog GLh 52 chM (rdP gBr):=gBp.2
theorem gIh:fHm Tryz.prog 52:=⟨_,Tryz.func52,rfl,rfl⟩
theorem gGn:bX Tryz.prog GLh 52 (.heap (rdH gBr)):=⟨⟨_,Tryz.func52,rfl,rfl⟩,gBp.1⟩
end Go.AX

namespace Go.AX
open Go Go.Proofs
set_option maxRecDepth 20000
def gJk (P:Program) (rs:List ResultVar) (ch:List PanicEntry) (id:Nat):Option (Nat×Nat×List AV×List AV)→Exit→S→Prop
 |some (n,e,zs,ys)=>gJj P rs id n e zs ys
 |none=>rdQ P rs ch id none
def gBf (g:List AV→List AV→Option (Option (Nat×Nat×List AV×List AV))) (a x:List AV):Option (Nat×Nat×List AV×List AV):=aK (g a x) fun o=>o
def gCd (g:List AV→List AV→Option (Option (Nat×Nat×List AV×List AV))) (a x:List AV):Option (Option (AV×List AV)):=match g a x with
 |some none=>some none
 |_=>none
theorem gBs {P:Program} {GL:Nat→Option (List AV)} {f:FuncId} {fn:Func} {code:Code} {ch:List PanicEntry} {g:List AV→List AV→Option (Option (Nat×Nat×List AV×List AV))} (hf:P.funcs[f]? =some fn) (hb:fn.body=some code)
  (h: ∀id off rest nx xs o,g (.op id off::rest) xs=some o→rest.length+1≤fn.ntmps∧(id<nx→Awp P GL fn.ntmps code (sN (.op id off::rest) (upd (fun _=>none) id (.cells xs true)) nx) (gJk P fn.results.toList ch id o))):fHs P GL f (rdF (gBf g))∧dE P GL f ch (rdP (gCd g)):=by
 refine⟨fSc hf hb fun id off rest nx xs n e zs ys hg=>?_,(dT (g:=gCd g) hf hb fun id off rest nx xs o hg=>?_).2⟩
 ·obtain⟨o,h1,rfl⟩:=aJ hg
  exact h id off rest nx xs _ h1
 unfold gCd at hg
 split at hg
 ·rename_i h1
  obtain rfl:=J0 hg
  exact h id off rest nx xs none h1
 cases hg
def fZw (c:RC):RC:=if c.ty≠41#16∧2147483648≤c.ttl.toNat then {c with ttl:=0#32} else c
def gC (b:List B8):Nat→Nat→List RC→Option (List RC×Nat)
 |0,a,l=>some (l,a)
 |k+1,a,l=>match fZv b a with
  |none=>none
  |some (c,e)=>gC b k e (l++[fZw c])
theorem fZr {b:List B8}: ∀ {k a:Nat} {l L:List RC} {E:Nat},a≤b.length→gC b k a l=some (L,E)→E≤b.length∧L.length=l.length+k
 |0,a,l,L,E,ha,h=>by
  rw[gC]at h
  simp only[Option.some.injEq,Prod.mk.injEq]at h
  obtain⟨rfl,rfl⟩:=h
  exact⟨ha,rfl⟩
 |k+1,a,l,L,E,ha,h=>by
  rw[gC]at h
  rcases hx:fZv b a with _|⟨x,e⟩
  ·rw[hx]at h;cases h
  rw[hx]at h;simp only at h
  obtain⟨h1,h2⟩:=fZr (gCs hx) h
  rw[List.length_append,List.length_singleton]at h2
  exact⟨h1,by omega⟩
def rs2T (b:List B8):Option (List RC×Nat)→Option (Nat×Nat×List AV×List AV)
 |none=>none
 |some (L,E)=>some (L.length,5,rcC L,[.sl b.length (c8 b),.i (E:Int)])
def gAa:List AV→List AV→Option (Option (Nat×Nat×List AV×List AV))
 |[.op _ 0,.i k],[.sl n xs,.i a]=>aK (fHq xs) fun b=>aN (b.length=n∧0≤a∧a≤n∧n≤100000∧0≤k∧k≤65535) (some (rs2T b (gC b k.toNat a.toNat [])))
 |_,_=>none
theorem gBc (id n:Nat) (k a:Int) (b:List B8) {L:List RC} {E:Nat} (h:b.length=n∧0≤a∧a≤n∧n≤100000∧0≤k∧k≤65535) (hr:gC b k.toNat a.toNat []=some (L,E)):gBf gAa [.op id 0,.i k] [.sl n (c8 b),.i a]=some (L.length,5,rcC L,[.sl b.length (c8 b),.i (E:Int)]):=by
 unfold gBf gAa
 simp only[iA,aX]
 rw[eE _ h,hr];rfl
theorem gBb (id n:Nat) (k a:Int) (b:List B8) (h:b.length=n∧0≤a∧a≤n∧n≤100000∧0≤k∧k≤65535) (hr:gC b k.toNat a.toNat []=none):gCd gAa [.op id 0,.i k] [.sl n (c8 b),.i a]=some none:=by
 unfold gCd gAa
 simp only[iA,aX]
 rw[eE _ h,hr];rfl
theorem fSa: ∀l:List RC,AV.ids.idsL (rcC l)=0
 |[]=>rfl
 |c::r=>by
  show max (AV.ids (.sl c.nm.length (cS c.nm))) (max 0 (max 0 (max 0 (max (AV.ids (.sl c.d.length (c8 c.d))) (AV.ids.idsL (rcC r))))))=0
  rw[eKy,eLf,fSa r];rfl
theorem fTr {g:H} {a b c:Nat} {x y z:AO} (h1:g a=some x:=by simp(disch:=omega) only[aV,kE,bY,↓reduceIte,if_true,if_false]<;>rfl) (h2:g b=some y:=by simp(disch:=omega) only[aV,kE,bY,↓reduceIte,if_true,if_false]<;>rfl) (h3:g c=some z:=by simp(disch:=omega) only[aV,kE,bY,↓reduceIte,if_true,if_false]<;>rfl): ∀j o,upd (upd (upd (fun _=>none) a x) b y) c z j=some o→g j=some o:=by
 intro j o h
 simp only[bJ]at h
 split at h
 ·rename_i e;rw[e,h3];exact h
 split at h
 ·rename_i e;rw[e,h2];exact h
 split at h
 ·rename_i e;rw[e,h1];exact h
 cases h
theorem sp5 (a b c d e v w x y z:AV):eG [a,b,c,d,e] 0 [v,w,x,y,z]=[v,w,x,y,z]:=(rfl)
attribute [go_sem] sp5
structure RSI where
 k:Nat
 e:Nat
 l:List RC
 q:Nat
 c:Nat
set_option maxHeartbeats 8000000 in
theorem gBo:fHs Tryz.prog GLh 34 (rdF (gBf gAa))∧dE Tryz.prog GLh 34 chM (rdP (gCd gAa)):=by
 refine gBs Tryz.func34 (aT rfl) ?_
 intro id off rest nx xs o hg
 unfold gAa at hg
 split at hg
 ·rename_i id2 k0 n xs2 a0 heq
  simp only[List.cons.injEq,AV.op.injEq]at heq
  obtain⟨⟨rfl,rfl⟩,rfl⟩:=heq
  replace hg:=aJ hg;obtain⟨b,hl,hg⟩:=hg
  replace hg:=aP hg;obtain⟨⟨rfl,ha,han,hnb,hk0,hkb⟩,hg⟩:=hg
  obtain rfl:=J0 hg
  have:=bW hl;subst this
  obtain⟨a,rfl⟩:=Int.eq_ofNat_of_zero_le ha
  obtain⟨N,rfl⟩:=Int.eq_ofNat_of_zero_le hk0
  simp only[U2]at*
  refine⟨J1 rfl,fun hid=>?_⟩
  clear hl
  obtain⟨ans,hrs⟩: ∃x,gC b N a []=x:=⟨_,rfl⟩
  rw[hrs]
  refine ySq (yRn [0,1] fun K hK=>?_)
  simp(disch:=omega) only[go_sem]
  refine hK _ (aB ?_)
  refine ySq (yRn [0,1,5] fun K hK=>?_)
  simp(disch:=omega) only[go_sem]
  refine hK _ (aB ?_)
  refine iE 5 5 rfl (fPg [0,1,5] ?_)
  simp only[iB,fU,eW,↓reduceIte,Nat.reduceEqDiff]
  refine ySq (ySq (yRn [0,5,7,8] fun K hK=>?_))
  simp(disch:=omega) only[go_sem]
  refine hK _ (aB ?_)
  refine yBl 0 ?_
  refine bR (fun p:RSI=> {fr:=[(0,.op id 0),(5,.os p.q 0 p.l.length 5 true),(7,.i (N:Int)),(8,.i (p.k:Int))],hp:=upd (upd (fun _=>none) id (.cells [.sl b.length (c8 b),.i (p.e:Int)] true)) p.q (.cells (rcC p.l) true),nx:=0,cx:=p.c}) (fun p=>p.k≤N∧p.l.length=p.k∧p.e≤b.length∧gC b (N-p.k) p.e p.l=ans∧id<p.q∧p.q<p.c) (fun p=>N-p.k) rfl ⟨⟨0,a,[],_,_⟩,⟨Nat.zero_le _,rfl,by simp only;omega,hrs,by simp only;omega,by simp only;omega⟩,bD rfl rfl (U3 _)⟩ ?_
  rintro⟨k,e,l,q,c⟩ ⟨hk,hll,he,hrun,hq1,hq2⟩ n0
  simp only at hk hll he hrun hq1 hq2⊢
  refine ySq (yRn [9,0,5,7,8] fun K hK=>?_)
  simp(disch:=omega) only[go_sem]
  refine hK _ (aB ?_)
  refine ySq (gLb rfl (fun h=>?_) (fun h=>?_))
  ·refine yDr ?_
   obtain⟨j,hj⟩: ∃j,N-k=j+1:=⟨N-k-1,by omega⟩
   rw[hj,gC]at hrun
   clear h
   refine ySk (aB (ySq (yBl 1 (ySq ?_))))
   rcases hx:fZv b e with _|⟨x,e'⟩
   ·rw[hx]at hrun;simp only at hrun
    subst hrun
    have hA:reA b none=none:=rfl
    refine dCn 1 (gFm) gIh (aH gGn aO) rfl rfl rfl (fun Z hZ=>?_)
    simp(disch:=omega) only[U0,U1,go_sem,bG,eq_self,true_and,bP,List.map_cons,List.map_nil,List.append_nil,hx,hA,U2]
    refine hZ _ ?_;clear hZ Z
    exact rfl
   rw[hx]at hrun
   simp only at hrun
   have he':=gCs hx
   have hA:reA b (some (x,e'))=some (.agg (fLo x),[.sl b.length (c8 b),.i (e':Int)]):=rfl
   have hcl:=fIh l
   have hsn:rcC l++[.sl (fZw x).nm.length (cS (fZw x).nm),.w16 (fZw x).ty,.w16 (fZw x).cl,.w32 (fZw x).ttl,.sl (fZw x).d.length (c8 (fZw x).d)]=rcC (l++[fZw x]):=by rw[fKk];rfl
   have hl1:(l++[fZw x]).length=l.length+1:=by simp
   refine yRg [0,5,6,7,8] (aH gGn aO) fun K hK=>?_
   simp(disch:=omega) only[go_sem,hx,hA,fLo,U2]
   refine hK _ (aB ?_)
   refine ySq (dWd (fun p:Nat=> {fr:=[(0,.op id 0),(5,.os q 0 l.length 5 true),(6,.op (c+1+2) 0),(7,.i (N:Int)),(8,.i (k:Int))],hp:=upd (upd (upd (fun _=>none) id (.cells [.sl b.length (c8 b),.i (e':Int)] true)) q (.cells (rcC l) true)) (c+1+2) (.cells (fLo (fZw x)) true),nx:=0,cx:=p}) (fun p=>c+1+2<p) ?_ ?_)
   ·by_cases h41:x.ty=41#16
    ·have d41:decide (x.ty=41#16)=true:=J5 h41
     have hfx:fZw x=x:=J3 fun h=>h.1 h41
     refine ySq (yRn [19,0,5,6,7,8] fun K hK=>?_)
     simp(disch:=omega) only[go_sem,d41,Bool.not_true]
     refine hK _ (aB ?_)
     refine iFd (ySk (dWa ?_))
     rw[hfx]
     refine⟨_,by omega,⟨fun _=> .inr rfl,fTr,U3 _⟩⟩
    have d41:decide (x.ty=41#16)=false:=J6 h41
    by_cases ht:x.ttl.toNat<2147483648
    ·have hfx:fZw x=x:=J3 fun h=>by have:=h.2;omega
     have dt:decide (2147483648#32≤x.ttl)=false:=J6 (by rw[BitVec.le_def];show¬2147483648≤_;omega)
     refine ySq (yRn [19,0,5,6,7,8] fun K hK=>?_)
     simp(disch:=omega) only[go_sem,d41,dt,Bool.not_false]
     refine hK _ (aB ?_)
     refine iFd (ySk (dWa ?_))
     rw[hfx]
     refine⟨_,by omega,⟨fun _=> .inr rfl,fTr,U3 _⟩⟩
    have hfx:fZw x= {x with ttl:=0#32}:=J4 ⟨h41,by omega⟩
    have dt:decide (2147483648#32≤x.ttl)=true:=J5 (by rw[BitVec.le_def];show 2147483648≤_;omega)
    refine ySq (yRn [19,0,5,6,7,8] fun K hK=>?_)
    simp(disch:=omega) only[go_sem,d41,dt,Bool.not_false]
    refine hK _ (aB ?_)
    refine iTd (yRn [0,5,6,7,8] fun K hK=>?_)
    simp(disch:=omega) only[go_sem]
    refine hK _ (dWa ?_)
    rw[hfx]
    refine⟨_,by omega,⟨fun _=> .inr rfl,fTr,U3 _⟩⟩
   rintro c2 hc2 n0
   simp only at hc2⊢
   refine yRn [0,5,7,8] fun K hK=>?_
   simp(disch:=omega) only[go_sem,fLo,hcl,hsn,U0,U1,J9]
   refine hK _ (bU (aB ?_))
   refine yRn [0,5,7,8] fun K hK=>?_
   simp(disch:=omega) only[go_sem]
   refine hK _ (bT ?_)
   refine⟨⟨k+1,e',l++[fZw x],c2+3,_⟩,⟨by simp only;omega,hl1.trans (by rw[hll]),he',by rw[show N-(k+1)=j by omega];exact hrun,by simp only;omega,by simp only;omega⟩,by simp only;omega,⟨fun _=> .inr ?_,fun i o hi=>?_,U3 _⟩⟩
   ·simp only[hl1,Int.natCast_add,Int.natCast_one]
   simp only at hi
   exact(fSr) i o hi
  refine yDr ?_
  obtain rfl:k=N:=by omega
  rw[Nat.sub_self,gC]at hrun
  subst hrun
  refine yEx 0 (aY (aZ (bE (aB (ySq (yRn [4] fun K hK=>?_))))))
  simp(disch:=omega) only[go_sem]
  refine hK _ (aB ?_)
  refine aS rfl ?_
  refine⟨.inl rfl,q,?_,?_,by omega,by rw[fIh];omega,?_,fSa _,fVp _ _ _⟩
  ·simp only[bV,bK,bQ,Tryz.f34,go_sem]
  ·simp(disch:=omega) only[aV,↓reduceIte]
  simp(disch:=omega) only[aV,bY,↓reduceIte]
 cases hg
theorem gBd:dE Tryz.prog GLh 34 chM (rdP (gCd gAa)):=gBo.2
theorem gCh:fHm Tryz.prog 34:=⟨_,Tryz.func34,rfl,rfl⟩
theorem gCx:bX Tryz.prog GLh 34 (.heap (rdF (gBf gAa))):=⟨⟨_,Tryz.func34,rfl,rfl⟩,gBo.1⟩
end Go.AX

namespace Go.AX
open Go Go.Proofs
set_option maxRecDepth 20000
def meR (b:List B8):Option Nat:=
 match fJv b (c16 b 4) 12 []with
 |none=>none
 |some (_,e1)=>match gC b (c16 b 6) e1 []with
  |none=>none
  |some (_,e2)=>match gC b (c16 b 8) e2 []with
   |none=>none
   |some (_,e3)=>match gC b (c16 b 10) e3 []with
    |none=>none
    |some (_,e4)=>some e4
def gBh (b:List B8):Prop:=b.length<12∨meR b≠some b.length
instance (b:List B8):Decidable (gBh b):=by unfold gBh;infer_instance
def mpG:List AV→List AV→Option (Option (AV×List AV))
 |[.op _ 0],[.sl n xs,.i 0]=>aK (fHq xs) fun b=>aN (b.length=n∧n≤100000∧gBh b) (some none)
 |_,_=>none
theorem gHo (id n:Nat) (xs:List AV):mpG [.op id 0] [.sl n xs,.i 0]=aK (fHq xs) fun b=>aN (b.length=n∧n≤100000∧gBh b) (some none):=(rfl)
attribute [go_sem] gHo
set_option maxHeartbeats 8000000 in
theorem fZt:fHs Tryz.prog GLh 18 (rdH mpG)∧dE Tryz.prog GLh 18 chM (rdP mpG):=by
 refine dT Tryz.func18 (aT rfl) ?_
 intro id off rest nx xs o hg
 unfold mpG at hg
 split at hg
 ·rename_i id2 n xs2 heq
  simp only[List.cons.injEq,AV.op.injEq]at heq
  obtain⟨⟨rfl,rfl⟩,rfl⟩:=heq
  replace hg:=aJ hg;obtain⟨b,hl,hg⟩:=hg
  replace hg:=aP hg;obtain⟨⟨rfl,hnb,hmg⟩,hg⟩:=hg
  obtain rfl:=J0 hg
  have:=bW hl;subst this
  refine⟨J1 rfl,fun hid=>?_⟩
  clear hl hg
  refine ySq (yRn [0,2] fun K hK=>?_)
  simp(disch:=omega) only[go_sem]
  refine hK _ (aB ?_)
  by_cases hb2:b.length<2
  ·have n0:rL b 2 0=none:=fPs (by omega)
   refine ySq (dCn 1 (dK) fSe (aH fL aO) rfl rfl rfl (fun Z hZ=>?_))
   simp(disch:=omega) only[U0,U1,go_sem,bG,eq_self,true_and,bP,List.map_cons,List.map_nil,List.append_nil,n0]
   refine hZ _ ?_;clear hZ Z
   exact rfl
  have n0:rL b 2 0=some (.w32 (fRs (b.take 2)),[.sl b.length (c8 b),.i ((0+2:Nat):Int)]):=eKs (by omega)
  refine ySq (yRg [0,2,3] (aH fL aO) fun K hK=>?_)
  simp(disch:=omega) only[go_sem,n0]
  refine hK _ (aB ?_)
  rcases(by omega:b.length<3∨(3≤b.length∧b.length<4)∨4≤b.length)with hb3|⟨hb3,hb4⟩|hb4
  ·have n2:rL b 1 2=none:=fPs (by omega)
   refine ySq (dCn 1 (dK) fSe (aH fL aO) rfl rfl rfl (fun Z hZ=>?_))
   simp(disch:=omega) only[U0,U1,go_sem,bG,eq_self,true_and,bP,List.map_cons,List.map_nil,List.append_nil,n2,U2]
   refine hZ _ ?_;clear hZ Z
   exact rfl
  ·have n2:=eKs (l:=b) (k:=1) (a:=2) (by omega)
   have n3:rL b 1 3=none:=fPs (by omega)
   refine ySq (dCn 3 (dK) fSe (aH fL aO) rfl rfl rfl (fun Z hZ=>?_))
   simp(disch:=omega) only[U0,U1,go_sem,bG,eq_self,true_and,bP,List.map_cons,List.map_nil,List.append_nil,n2,n3,U2]
   refine hZ _ ?_;clear hZ Z
   exact rfl
  have n2:=eKs (l:=b) (k:=1) (a:=2) (by omega)
  have n3:=eKs (l:=b) (k:=1) (a:=3) (by omega)
  refine ySq (yRg [0,2,3,4,5] (aH fL aO) fun K hK=>?_)
  simp(disch:=omega) only[go_sem,n2,n3,U2]
  refine hK _ (aB ?_)
  refine ySq (yRn [0,2,3,5] fun K hK=>?_)
  simp(disch:=omega) only[go_sem]
  refine hK _ (aB ?_)
  refine ySq (yRn [0,2,3] fun K hK=>?_)
  simp(disch:=omega) only[go_sem]
  refine hK _ (aB ?_)
  refine ySq (yRn [0,2,3,6] fun K hK=>?_)
  simp(disch:=omega) only[go_sem]
  refine hK _ (aB ?_)
  refine ySq (ySq (yRn [0,2,3,6,47] fun K hK=>?_))
  simp(disch:=omega) only[go_sem]
  refine hK _ (aB ?_)
  refine yK (fMn (a:=id) (b:=nx) (c:=nx+1+4) (d:=nx+49) (x:=.cells [.sl b.length (c8 b),.i ((4:Nat):Int)] true) (y:=.cells z15 true) (z:=.cells (ms0 b (.v (.slice none 0 0))) true) (w:=.cells (fKi b 0) true) ?_ ?_ ?_ ?_) ?_
  ·simp(disch:=omega) only[aV,bY,↓reduceIte]
  ·simp(disch:=omega) only[aV,bY,↓reduceIte,z15]
  ·simp(disch:=omega) only[aV,bY,↓reduceIte]
   rfl
  ·simp(disch:=omega) only[aV,↓reduceIte,fOa]
  obtain⟨mi,hmi⟩: ∃y,nx+1+4=y:=⟨_,rfl⟩
  obtain⟨ci,hci⟩: ∃y,nx+49=y:=⟨_,rfl⟩
  rw[hmi,hci]
  refine yBl 0 ?_
  refine bR (fun p:MGI=> {fr:=[(0,.op id 0),(2,.op nx 0),(3,.op mi 0),(6,.op ci 0),(47,.i (p.k:Int))],hp:=upd (upd (upd (upd (fun _=>none) id (.cells [.sl b.length (c8 b),.i ((4+2*p.k:Nat):Int)] true)) nx (.cells z15 true)) mi (.cells (ms0 b (.v (.slice none 0 0))) true)) ci (.cells (fKi b p.k) true),nx:=0,cx:=p.c}) (fun p=>p.k≤4∧4+2*p.k≤b.length∧ci<p.c) (fun p=>4-p.k) rfl ⟨⟨0,_⟩,⟨Nat.zero_le _,hb4,by simp only;omega⟩,bD rfl rfl (U3 _)⟩ ?_
  rintro⟨k,c⟩ ⟨hk,hkb,hcc⟩ n0
  simp only at hk hkb hcc⊢
  refine ySq (yRn [48,0,2,3,6,47] fun K hK=>?_)
  simp(disch:=omega) only[go_sem]
  refine hK _ (aB ?_)
  refine ySq (gLb rfl (fun h=>?_) (fun h=>?_))
  ·refine yDr ?_
   have hk4:k<4:=by omega
   clear h
   refine ySk (aB (ySq (yBl 1 (ySq (yRn [0,2,3,6,7,47] fun K hK=>?_)))))
   simp(disch:=omega) only[go_sem]
   refine hK _ (aB ?_)
   by_cases hkn:2≤b.length-(4+2*k)
   ·have nk:=eKs hkn
    have hset:=fMf b hk4
    have hcv:(fRs (List.take 2 (List.drop (4+2*k) b))).toNat=c16 b (4+2*k):=rfl
    refine yRg [0,2,3,6,47] (aH fL aO) fun K hK=>?_
    simp(disch:=omega) only[go_sem,nk,fMg,hcv,hset,U2]
    refine hK _ (bU (aB ?_))
    refine yRn [0,2,3,6,47] fun K hK=>?_
    simp(disch:=omega) only[go_sem]
    refine hK _ (bT ?_)
    refine⟨⟨k+1,_⟩,⟨by simp only;omega,by simp only;omega,by simp only;omega⟩,by simp only;omega,⟨fun _=> .inr ?_,fun j o hj=>?_,U3 _⟩⟩
    ·simp only[Int.natCast_add,Int.natCast_one]
    simp only at hj
    rw[show 4+2*(k+1)=4+2*k+2 by omega]at hj
    exact(fMn) j o hj
   have nk:=fPs hkn
   refine dCn 2 (dK) fSe (aH fL aO) rfl rfl rfl (fun Z hZ=>?_)
   simp(disch:=omega) only[U0,U1,go_sem,bG,eq_self,true_and,bP,List.map_cons,List.map_nil,List.append_nil,nk,U2]
   refine hZ _ ?_;clear hZ Z
   exact rfl
  refine yDr ?_
  obtain rfl:k=4:=by omega
  refine yEx 0 (aY (aZ (bE (aB (ySq (ySq ?_))))))
  have h12:12≤b.length:=by omega
  have hme:meR b≠some b.length:=hmg.resolve_left (by omega)
  rw[fNz]
  unfold meR at hme
  obtain⟨N1,hN1⟩: ∃N,c16 b 6=N:=⟨_,rfl⟩
  obtain⟨N2,hN2⟩: ∃N,c16 b 8=N:=⟨_,rfl⟩
  obtain⟨N3,hN3⟩: ∃N,c16 b 10=N:=⟨_,rfl⟩
  have hb1:N1<65536:=by rw[←hN1];exact fOe b 6
  have hb2:N2<65536:=by rw[←hN2];exact fOe b 8
  have hb3:N3<65536:=by rw[←hN3];exact fOe b 10
  rw[hN1,hN2,hN3]at hme⊢
  refine yRn [0,2,3,6,57,58] fun K hK=>?_
  simp(disch:=omega) only[go_sem,J8,J9]
  refine hK _ (aB ?_)
  refine aDn mi 3 (fKg b) fKf true (by simp(disch:=omega) only[aV,bY,↓reduceIte];rfl) (by omega) ?_
  obtain⟨N,hN⟩: ∃N,c16 b 4=N:=⟨_,rfl⟩
  rw[hN]at hme⊢
  obtain⟨ans,hqs⟩: ∃a,fJv b N 12 []=a:=⟨_,rfl⟩
  rw[hqs]at hme
  have hNl:N<65536:=by rw[←hN];exact fOe b 4
  refine yBl 2 ?_
  refine bR (fun p:QLI=> {fr:=[(0,.op id 0),(2,.op nx 0),(3,.op mi 0),(6,.op ci 0),(57,.i (N:Int)),(58,.i (p.k:Int))],hp:=upd (upd (upd (upd (upd (fun _=>none) id (.cells [.sl b.length (c8 b),.i (p.e:Int)] true)) nx (.cells z15 true)) ci (.cells [.i (N:Int),.i (N1:Int),.i (N2:Int),.i (N3:Int)] true)) p.q (.cells (qsC p.l) true)) mi (.cells (fKg b++ .os p.q 0 p.l.length 3 true::fKf) true),nx:=0,cx:=p.c}) (fun p=>p.k≤N∧p.l.length=p.k∧p.e≤b.length∧fJv b (N-p.k) p.e p.l=ans∧ci<p.q∧p.q<p.c) (fun p=>N-p.k) rfl ⟨⟨0,12,[],c+1+3,_⟩,⟨Nat.zero_le _,rfl,h12,hqs,by simp only;omega,by simp only;omega⟩,⟨fun _=> .inr rfl,fNi,U3 _⟩⟩ ?_
  rintro⟨k,e,l,q,c⟩ ⟨hk,hl,he,hrun,hq1,hq2⟩ n0
  simp only at hk hl he hrun hq1 hq2⊢
  refine ySq (yRn [59,0,2,3,6,57,58] fun K hK=>?_)
  simp(disch:=omega) only[go_sem]
  refine hK _ (aB ?_)
  refine ySq (gLb rfl (fun h=>?_) (fun h=>?_))
  ·refine yDr ?_
   obtain⟨j,hj⟩: ∃j,N-k=j+1:=⟨N-k-1,by omega⟩
   rw[hj,fJv]at hrun
   clear h
   refine ySk (aB (ySq (yBl 3 ?_)))
   rcases hx:qnR b e with _|⟨x,e'⟩
   ·rw[hx]at hrun
    have hA:qsA b none=none:=rfl
    have hd8: ∀y:AV,(List.drop 8 (fKg b++y::fKf)).head? =some y:=fun y=>rfl
    have hl8: ∀y:AV,(fKg b++y::fKf).length=15:=fun y=>rfl
    refine fQk 3 [[],[0],[0,1]] [[0,1,2],[0,2],[0,2,1],[2],[2,0],[2,0,1]] (fun k=>if k=3 then 0 else 2) bZ (fPr) fRa (aH fOp aO) rfl rfl rfl (by kernel_rfl) ?_ (fun Z hZ=>?_)
    ·simp(disch:=omega) only[go_sem,aHu,aQh,cHk,eJ,lY,eDt,List.getElem?_cons_zero,List.getElem?_cons_succ,eq_self,and_self,List.map_cons,List.map_nil,hd8]
    simp(disch:=omega) only[go_sem,aHu,aQh,cHk,eJ,lY,eDt,List.getElem?_cons_zero,List.getElem?_cons_succ,bG,eq_self,true_and,and_true,bP,List.map_cons,List.map_nil,List.append_nil,hd8,hx,hA,U2]
    exact⟨hZ _ (by exact rfl),hZ _ (by exact rfl),hZ _ (by exact rfl),hZ _ (by exact rfl),hZ _ (by exact rfl),hZ _ (by exact rfl)⟩
   rw[hx]at hrun
   simp only at hrun
   have he':=fNn hx
   have hA:qsA b (some (x,e'))=some (qA x,[.sl b.length (c8 b),.i (e':Int)]):=rfl
   have hd8: ∀y:AV,(List.drop 8 (fKg b++y::fKf)).head? =some y:=fun y=>rfl
   have hs8: ∀y z:AV,(fKg b++y::fKf).set 8 z=fKg b++z::fKf:=fun y z=>rfl
   have hl8: ∀y:AV,(fKg b++y::fKf).length=15:=fun y=>rfl
   have hsn:qsC l++[.sl x.n.length (cS x.n),.w16 x.t,.w16 x.c]=qsC (l++[x]):=by rw[fKl];rfl
   have hcl:=fIi l
   have hl1:(l++[x]).length=l.length+1:=by simp
   refine aKy 1 3 [0,1,2,3,4,5,6,7] [2,3,0,1,4,5,6,7] (fun k=>if k=3 then 0 else 2) [0,2,3,6,57,58] bZ (aH fOp aO) (by decide) rfl rfl rfl (by kernel_rfl) (fun K hK=>?_) (fun K hK=>?_)
   ·simp(disch:=omega) only[go_sem,eJ,lY,eDt,List.getElem?_cons_zero,List.getElem?_cons_succ,hd8,hs8,hl8,hx,hA,qA,hcl,hsn,U2,U0,U1,J9]
    refine hK _ (bU (aB ?_))
    refine yRn [0,2,3,6,57,58] fun K hK=>?_
    simp(disch:=omega) only[go_sem]
    refine hK _ (bT ?_)
    refine⟨⟨k+1,e',l++[x],c+1+5,_⟩,⟨by simp only;omega,hl1.trans (by rw[hl]),he',by rw[show N-(k+1)=j by omega];exact hrun,by simp only;omega,by simp only;omega⟩,by simp only;omega,⟨fun _=> .inr ?_,fun j o hj=>?_,U3 _⟩⟩
    ·simp only[Int.natCast_add,Int.natCast_one]
    simp only at hj
    rw[hl1]at hj
    exact(fNi) j o hj
   simp(disch:=omega) only[go_sem,eJ,lY,eDt,List.getElem?_cons_zero,List.getElem?_cons_succ,hd8,hs8,hl8,hx,hA,qA,hcl,hsn,U2,U0,U1,J9]
   refine hK _ (bU (aB ?_))
   refine yRn [0,2,3,6,57,58] fun K hK=>?_
   simp(disch:=omega) only[go_sem]
   refine hK _ (bT ?_)
   refine⟨⟨k+1,e',l++[x],c+1+5,_⟩,⟨by simp only;omega,hl1.trans (by rw[hl]),he',by rw[show N-(k+1)=j by omega];exact hrun,by simp only;omega,by simp only;omega⟩,by simp only;omega,⟨fun _=> .inr ?_,fun j o hj=>?_,U3 _⟩⟩
   ·simp only[Int.natCast_add,Int.natCast_one]
   simp only at hj
   rw[hl1]at hj
   exact(fNi) j o hj
  refine yDr ?_
  obtain rfl:k=N:=by omega
  rw[Nat.sub_self,fJv]at hrun
  subst hrun
  simp only at hme
  refine yEx 2 (aY (aZ (bE (aB ?_))))
  refine lW 6 ci 0 rfl (by simp(disch:=omega) only[aV,bY,↓reduceIte]<;>rfl) ?_
  rcases h1:gC b N1 e []with _|⟨an,e2⟩
  ·have p1:=gBb id b.length (N1:Int) (e:Int) b ⟨rfl,by omega,by omega,hnb,by omega,by omega⟩ h1
   refine ySq (fZq 3 [0,1,2,4,5,6,8,9,10] (fun k=>if k=3 then 0 else if k=7 then 0 else if k=11 then 0 else if k=2 then 1 else if k=6 then 1 else if k=10 then 1 else 2) bZ (gBd) gCh (aH gCx aO) rfl rfl rfl (by kernel_rfl) (by kernel_rfl) rfl rfl (by kernel_rfl) (fun _=>rfl) ?_)
   simp(disch:=omega) only[go_sem,cHk,eJ,lY,eDt,List.getElem?_cons_zero,List.getElem?_cons_succ,bG,eq_self,true_and,and_true,List.map_cons,List.map_nil,List.append_nil,p1,fKg,fKf,List.cons_append,List.nil_append,J8,J7,J9]
   exact⟨_,rfl⟩
  obtain⟨he2,hl1⟩:=fZr he h1
  have p1:=gBc id b.length (N1:Int) (e:Int) b ⟨rfl,by omega,by omega,hnb,by omega,by omega⟩ h1
  rw[h1]at hme;simp only at hme
  rcases h2:gC b N2 e2 []with _|⟨au,e3⟩
  ·have p2:=gBb id b.length (N2:Int) (e2:Int) b ⟨rfl,by omega,by omega,hnb,by omega,by omega⟩ h2
   refine ySq (fZq 7 [0,1,2,3,4,5,6,8,9,10,12] (fun k=>if k=3 then 0 else if k=7 then 0 else if k=11 then 0 else if k=2 then 1 else if k=6 then 1 else if k=10 then 1 else 2) bZ (gBd) gCh (aH gCx aO) rfl rfl rfl (by kernel_rfl) (by kernel_rfl) rfl rfl (by kernel_rfl) (fun _=>rfl) ?_)
   simp(disch:=omega) only[go_sem,cHk,eJ,lY,eDt,List.getElem?_cons_zero,List.getElem?_cons_succ,bG,eq_self,true_and,and_true,List.map_cons,List.map_nil,List.append_nil,p1,p2,fKg,fKf,List.cons_append,List.nil_append,J8,J7,J9]
   exact⟨_,rfl⟩
  obtain⟨he3,hl2⟩:=fZr he2 h2
  have p2:=gBc id b.length (N2:Int) (e2:Int) b ⟨rfl,by omega,by omega,hnb,by omega,by omega⟩ h2
  rw[h2]at hme;simp only at hme
  rcases h3:gC b N3 e3 []with _|⟨ad,e4⟩
  ·have p3:=gBb id b.length (N3:Int) (e3:Int) b ⟨rfl,by omega,by omega,hnb,by omega,by omega⟩ h3
   refine ySq (fZq 11 [0,1,2,3,4,5,6,7,8,9,10,12] (fun k=>if k=3 then 0 else if k=7 then 0 else if k=11 then 0 else if k=2 then 1 else if k=6 then 1 else if k=10 then 1 else 2) bZ (gBd) gCh (aH gCx aO) rfl rfl rfl (by kernel_rfl) (by kernel_rfl) rfl rfl (by kernel_rfl) (fun _=>rfl) ?_)
   simp(disch:=omega) only[go_sem,cHk,eJ,lY,eDt,List.getElem?_cons_zero,List.getElem?_cons_succ,bG,eq_self,true_and,and_true,List.map_cons,List.map_nil,List.append_nil,p1,p2,p3,fKg,fKf,List.cons_append,List.nil_append,J8,J7,J9]
   exact⟨_,rfl⟩
  obtain⟨he4,hl3⟩:=fZr he3 h3
  have p3:=gBc id b.length (N3:Int) (e3:Int) b ⟨rfl,by omega,by omega,hnb,by omega,by omega⟩ h3
  rw[h3]at hme;simp only at hme
  refine ySq (bB (fun k=>if k=3 then 0 else if k=7 then 0 else if k=11 then 0 else if k=2 then 1 else if k=6 then 1 else if k=10 then 1 else 2) [0,2,3] bZ (aH gCx aO) rfl rfl rfl (by kernel_rfl) (fun K hK=>?_))
  simp(disch:=omega) only[go_sem,p1,p2,p3,fKg,fKf,List.cons_append,List.nil_append,J8,List.set_cons_succ,List.set_cons_zero,J7,J9]
  refine hK _ (aB ?_)
  have de:decide ((e4:Int)=(b.length:Int))=false:=J6 fun h=>hme (by rw[Int.ofNat_inj.1 h])
  refine ySq (dCo (Γ:=bC [(36,.pure true fLh),(37,.pure true fLg),(35,.pure true eO)]) 22 (fun _=>2) bZ (fPd) rD (aH fNe (aH fLt (aH rP aO))) rfl rfl rfl (by kernel_rfl) rfl (by kernel_rfl) (fun Z hZ=>?_))
  simp(disch:=omega) only[U0,U1,go_sem,bG,eq_self,true_and,bP,List.map_cons,List.map_nil,List.append_nil,de,J8,U0,U1,J7,J9]
  refine hZ _ ?_;clear hZ Z
  exact rfl
 cases hg
theorem gBg:dE Tryz.prog GLh 18 chM (rdP mpG):=fZt.2
theorem gIi:fHm Tryz.prog 18:=⟨_,Tryz.func18,rfl,rfl⟩
theorem gJr:bX Tryz.prog GLh 18 (.heap (rdH mpG)):=⟨⟨_,Tryz.func18,rfl,rfl⟩,fZt.1⟩
end Go.AX

namespace Go.AX
open Go Go.Proofs
set_option maxRecDepth 20000
def gCa:List AV→Option AV
 |[.sl n xs]=>aK (fHq xs) fun b=>aN (b.length=n∧n≤65535∧gBh b) (some (.tup [msZ,.i 60]))
 |_=>none
theorem gFc (n:Nat) (xs:List AV):gCa [.sl n xs]=aK (fHq xs) fun b=>aN (b.length=n∧n≤65535∧gBh b) (some (.tup [msZ,.i 60])):=(rfl)
attribute [go_sem] gFc
set_option maxHeartbeats 4000000 in
theorem gEd (b:List B8) (h100:b.length≤100000) (hmg:gBh b) {i nx cx:Nat} (hic:i+1<cx):
  Awp Tryz.prog GLh Tryz.f7.ntmps (cr (cr (cr (aE Tryz.f7)))) {fr:=[(9,.fn 17 [.op i 0,.op (i+1) 0]),(0,.sl b.length (c8 b)),(2,.op i 0),(3,.op (i+1) 0)],hp:=upd (upd (fun _=>none) i (.cells z15 true)) (i+1) (.cells [.i 0] true),nx:=nx,cx:=cx} (fDc Tryz.prog Tryz.f7.results.toList chM (fQc 2) fMh [.op i 0,.op (i+1) 0] (.tup [msZ,.i 60])):=by
 refine ySq (yRn [2,3,4] fun K hK=>?_)
 simp(disch:=omega) only[go_sem]
 refine hK _ (aB ?_)
 refine ySq (dCn 1 (gBg) gIi (aH gJr aO) rfl rfl rfl (fun Z hZ=>?_))
 simp(disch:=omega) only[U0,U1,go_sem,bG,eq_self,true_and,and_true,bP,List.map_cons,List.map_nil,List.append_nil,h100,hmg]
 refine hZ _ ?_;clear hZ Z
 refine fMe (gI:=fQc 2) (p:=_) (by simp(disch:=omega) only[go_sem,aV,kE,bY];exact eE _ ⟨rfl,by omega⟩) ?_
 simp(disch:=omega) only[bV,bK,bQ,go_sem,aV,bY,z15,msZ,J8,U0,U1,J9]
set_option maxHeartbeats 4000000 in
theorem gEe:fHn Tryz.prog GLh 7 gCa:=by
 refine fLc (r0:=(cl (aE Tryz.f7))) (r1:=(cl (cr (aE Tryz.f7)))) (C:=(cr (cr (cr (aE Tryz.f7))))) (k:=9) (d:=17) (caps:= #[.tmp 2,.tmp 3]) Tryz.func7 rfl (J1 rfl) fOd fOx fMy rfl ?_
 intro args r hg
 unfold gCa at hg
 split at hg
 ·rename_i n xs
  replace hg:=aJ hg;obtain⟨b,hl,hg⟩:=hg
  replace hg:=aP hg;obtain⟨⟨rfl,hnb,hmg⟩,hg⟩:=hg
  obtain rfl:=J0 hg
  have:=bW hl;subst this
  refine⟨J1 rfl,fun nx=>⟨[.op nx 0,.op (nx+1) 0],?_⟩⟩
  clear hl hg
  have h100:b.length≤100000:=by omega
  have d0:decide ((65535:Int)<(b.length:Int))=false:=J6 (by omega)
  refine yRn [0,2,3] fun K hK=>?_
  simp(disch:=omega) only[go_sem]
  refine hK _ (aB ?_)
  refine ySq (yRn [7,0,2,3] fun K hK=>?_)
  simp(disch:=omega) only[go_sem,d0]
  refine hK _ (aB ?_)
  refine iFd (ySk (⟨rfl,?_⟩))
  simp only[dBa]
  exact gEd b (by omega) hmg (by omega)
 cases hg
theorem okc7:bX Tryz.prog GLh 7 (.pure false gCa):=⟨⟨_,Tryz.func7,rfl,rfl⟩,gEe⟩
end Go.AX

namespace Go.AX
open Go Go.Proofs
set_option maxRecDepth 20000
inductive Wn:List B8→Prop
 |nil:Wn [0#8]
 |ptr (x y:B8):192≤x.toNat→Wn [x,y]
 |lab (l t:List B8):1≤l.length→l.length≤63→Wn t→Wn (ePy l++t)
theorem gJl (x:W32):192≤(((49152#32|||x)>>>(8*(2-1-0))).setWidth 8).toNat:=by
 have h7:(((49152#32|||x)>>>(8*(2-1-0))).setWidth 8).toNat.testBit 7=true:=by
  rw[BitVec.testBit_toNat,BitVec.getLsbD_setWidth,BitVec.getLsbD_ushiftRight,BitVec.getLsbD_or];rfl
 have h6:(((49152#32|||x)>>>(8*(2-1-0))).setWidth 8).toNat.testBit 6=true:=by
  rw[BitVec.testBit_toNat,BitVec.getLsbD_setWidth,BitVec.getLsbD_ushiftRight,BitVec.getLsbD_or];rfl
 obtain⟨v,hv⟩: ∃v:Nat,(((49152#32|||x)>>>(8*(2-1-0))).setWidth 8:B8).toNat=v:=⟨_,rfl⟩
 rw[hv]at h7 h6⊢
 rw[Nat.testBit_eq_decide_div_mod_eq]at h7 h6
 have:=of_decide_eq_true h7
 have:=of_decide_eq_true h6
 omega
theorem gBz: ∀(n:Nm) (b:List B8) (F:WF),(∀l∈n,gZ l)→∃w,(wnS n b F).1=b++w∧Wn w
 |[],b,F,_=>⟨[0#8],rfl,.nil⟩
 |l::r,b,F,h=>by
  have hl:=h l (List.mem_cons_self ..)
  rcases hg:iK (fHk (l::r)) F with _|a
  ·rw[fIg hg]
   obtain⟨w,hw,hn⟩:=gBz r (b++ePy l) (if b.length<16384 then kT (fHk (l::r)) b.length F else F) fun x hx=>h x (List.mem_cons_of_mem _ hx)
   exact⟨ePy l++w,by rw[hw,List.append_assoc],.lab l w hl.1 hl.2 hn⟩
  rw[fJq hg]
  exact⟨_,rfl,.ptr _ _ (gJl _)⟩
theorem gCz {b:List B8}: ∀ {f:Nat} {s:NS} {m:Nm} {e e0:Nat},s.en=some e0→fIv b f s=some (m,e)→e=e0
 |0,_,_,_,_,_,h=>by cases h
 |f+1,s,m,e,e0,h0,h=>by
  rcases hs:fHj b s with _|⟨n2,e2⟩|t
  ·rw[fHz hs]at h;cases h
  ·rw[fJi hs]at h
   simp only[Option.some.injEq,Prod.mk.injEq]at h
   obtain⟨rfl,rfl⟩:=h
   unfold fHj at hs
   split at hs
   ·cases hs
   split at hs
   ·cases hs;rw[h0];rfl
   split at hs
   ·split at hs
    ·cases hs
    split at hs<;>cases hs
   split at hs
   ·cases hs
   split at hs<;>cases hs
  rw[fIo hs]at h
  refine gCz ?_ h
  unfold fHj at hs
  split at hs
  ·cases hs
  split at hs
  ·cases hs
  split at hs
  ·split at hs
   ·cases hs
   split at hs
   ·cases hs
   cases hs;simp only[h0,Option.getD_some]
  split at hs
  ·cases hs
  split at hs
  ·cases hs
  cases hs;exact h0
theorem gDm {l:List B8} (h:l.length≤63):(BitVec.ofInt 8 (l.length:Int):B8).toNat=l.length:=by rw[BitVec.toNat_ofInt];omega
theorem nEnd {b:List B8} {w:List B8} (hw:Wn w): ∀ {f:Nat} {s:NS} {m:Nm} {e:Nat},s.en=none→(∀i,i<w.length→s.pl+i<b.length→b.getD (s.pl+i) 0#8=w.getD i 0#8)→fIv b f s=some (m,e)→e=s.pl+w.length:=by
 induction hw with
 |nil=>
  intro f s m e h0 hb h
  rcases f with _|f
  ·cases h
  have hb0:=hb 0 (by simp)
  simp only[Nat.add_zero]at hb0
  by_cases hp:b.length≤s.pl
  ·rw[fHz (by unfold fHj;rw[J4 hp])]at h;cases h
  have hk:(b.getD s.pl 0#8).toNat=0:=by rw[hb0 (by omega)];rfl
  rw[fJi (n:=s.acc) (e:=s.pl+1) (by unfold fHj;rw[J3 hp,J4 hk,h0];rfl)]at h
  simp only[Option.some.injEq,Prod.mk.injEq]at h
  exact h.2.symm
 |ptr x y hx=>
  intro f s m e h0 hb h
  rcases f with _|f
  ·cases h
  have hb0:=hb 0 (by simp)
  simp only[Nat.add_zero]at hb0
  by_cases hp:b.length≤s.pl
  ·rw[fHz (by unfold fHj;rw[J4 hp])]at h;cases h
  have hk:(b.getD s.pl 0#8).toNat=x.toNat:=by rw[hb0 (by omega)];rfl
  rcases hs:fHj b s with _|⟨n2,e2⟩|t
  ·rw[fHz hs]at h;cases h
  ·unfold fHj at hs
   rw[J3 hp,J3 (by omega),J4 (by omega)]at hs
   split at hs
   ·cases hs
   split at hs<;>cases hs
  rw[fIo hs]at h
  refine gCz ?_ h
  unfold fHj at hs
  rw[J3 hp,J3 (by omega),J4 (by omega)]at hs
  split at hs
  ·cases hs
  split at hs
  ·cases hs
  cases hs;simp only[h0,Option.getD_none];rfl
 |lab l t h1 h63 ht ih=>
  intro f s m e h0 hb h
  rcases f with _|f
  ·cases h
  have hb0:=hb 0 (by simp[ePy])
  simp only[Nat.add_zero]at hb0
  by_cases hp:b.length≤s.pl
  ·rw[fHz (by unfold fHj;rw[J4 hp])]at h;cases h
  have hk:(b.getD s.pl 0#8).toNat=l.length:=by rw[hb0 (by omega)];exact gDm h63
  rcases hs:fHj b s with _|⟨n2,e2⟩|u
  ·rw[fHz hs]at h;cases h
  ·unfold fHj at hs
   rw[J3 hp,J3 (by omega),J3 (by omega)]at hs
   split at hs
   ·cases hs
   split at hs<;>cases hs
  rw[fIo hs]at h
  have hu:u.en=none∧u.pl=s.pl+1+l.length:=by
   unfold fHj at hs
   rw[J3 hp,J3 (by omega),J3 (by omega)]at hs
   split at hs
   ·cases hs
   split at hs
   ·cases hs
   cases hs;exact⟨h0,by simp only[hk]⟩
  have hll:(ePy l).length=1+l.length:=by simp[ePy];omega
  have:=ih hu.1 (fun i hi hpi=>by
   rw[hu.2]at hpi⊢
   have h3:=hb (1+l.length+i) (by rw[List.length_append,hll];omega) (by omega)
   rw[show s.pl+1+l.length+i=s.pl+(1+l.length+i)by omega,h3]
   rw[List.getD_eq_getElem?_getD,List.getElem?_append_right (by omega),hll,show 1+l.length+i-(1+l.length)=i by omega,←List.getD_eq_getElem?_getD]) h
  rw[this,hu.2,List.length_append,hll];omega
def Ag (b B:List B8):Prop:= ∀i,i<b.length→i<B.length→b.getD i 0#8=B.getD i 0#8
theorem gCl {b B b0 w:List B8} (h:Ag b B) (hp:b0++w <+:B) {i:Nat} (hi:i<w.length) (hb:b0.length+i<b.length):b.getD (b0.length+i) 0#8=w.getD i 0#8:=by
 obtain⟨t,rfl⟩:=hp
 rw[h _ hb (by simp only[List.length_append];omega),List.getD_eq_getElem?_getD,List.append_assoc,List.getElem?_append_right (by omega),Nat.add_sub_cancel_left,List.getElem?_append_left hi,←List.getD_eq_getElem?_getD]
theorem gAx {b B b0 w:List B8} (h:Ag b B) (hp:b0++w <+:B) (hw:Wn w) {m:Nm} {e:Nat} (hn:fJj b b0.length=some (m,e)):e=b0.length+w.length:=
 nEnd hw (s:=ns0 b0.length) rfl (fun _ hi hb=>gCl h hp hi hb) hn
theorem gGv {b:List B8} {a:Nat} (h:a+2≤b.length):(b.drop a).take 2=[b.getD a 0#8,b.getD (a+1) 0#8]:=by
 rw[List.drop_eq_getElem_cons (by omega),U0,List.drop_eq_getElem_cons (by omega),U0,U1,List.getD_eq_getElem?_getD,List.getD_eq_getElem?_getD,List.getElem?_eq_getElem (by omega),List.getElem?_eq_getElem (by omega)];rfl
theorem gKe {v:Nat} (h:v<65536):(fRs (beL (BitVec.ofInt 32 (v:Int)) 2 2)).toNat=v:=by
 have hv:(BitVec.ofInt 32 (v:Int)).toNat=v:=by rw[BitVec.toNat_ofInt];omega
 obtain⟨x,hx⟩: ∃x:B8,((BitVec.ofInt 32 (v:Int))>>>(8*(2-1-0))).setWidth 8=x:=⟨_,rfl⟩
 obtain⟨y,hy⟩: ∃y:B8,((BitVec.ofInt 32 (v:Int))>>>(8*(2-1-1))).setWidth 8=y:=⟨_,rfl⟩
 have hx2:x.toNat=v/256:=by
  rw[←hx,BitVec.toNat_setWidth,BitVec.toNat_ushiftRight,hv,Nat.shiftRight_eq_div_pow];omega
 have hy2:y.toNat=v%256:=by
  rw[←hy,BitVec.toNat_setWidth,BitVec.toNat_ushiftRight,hv,Nat.shiftRight_eq_div_pow,show 2^(8*(2-1-1))=1 from rfl,Nat.div_one]
 have hb:beL (BitVec.ofInt 32 (v:Int)) 2 2=[x,y]:=by rw[←hx,←hy];rfl
 have h1:=x.isLt
 have h2:=y.isLt
 rw[hb]
 show(((((0#32 <<<8)|||x.setWidth 32) <<<8)|||y.setWidth 32).toNat)=_
 have e0:((0#32 <<<8)|||x.setWidth 32)=x.setWidth 32:=by rw[show(0#32 <<<8)=0#32 from rfl,BitVec.zero_or]
 rw[e0,BitVec.toNat_or]
 have e1:((x.setWidth 32:W32) <<<8).toNat=x.toNat <<<8:=by
  rw[BitVec.toNat_shiftLeft,BitVec.toNat_setWidth,Nat.shiftLeft_eq,Nat.shiftLeft_eq];omega
 have e2:(y.setWidth 32:W32).toNat=y.toNat:=by rw[BitVec.toNat_setWidth];omega
 rw[e1,e2,←Nat.shiftLeft_add_eq_or_of_lt h2,Nat.shiftLeft_eq,hx2,hy2];omega
theorem gAs {b B b0:List B8} {v:Nat} (h:Ag b B) (hp:b0++beL (BitVec.ofInt 32 (v:Int)) 2 2 <+:B) (hl:b0.length+2≤b.length) (hv:v<65536):c16 b b0.length=v:=by
 have hb2:beL (BitVec.ofInt 32 (v:Int)) 2 2=[((BitVec.ofInt 32 (v:Int))>>>(8*(2-1-0))).setWidth 8,((BitVec.ofInt 32 (v:Int))>>>(8*(2-1-1))).setWidth 8]:=rfl
 have h0:=gCl h hp (i:=0) (by rw[hb2];simp) (by omega)
 have h1:=gCl h hp (i:=1) (by rw[hb2];simp) (by omega)
 rw[Nat.add_zero]at h0
 unfold c16
 rw[gGv hl,h0,h1]
 have:[(beL (BitVec.ofInt 32 (v:Int)) 2 2).getD 0 0#8,(beL (BitVec.ofInt 32 (v:Int)) 2 2).getD 1 0#8]=beL (BitVec.ofInt 32 (v:Int)) 2 2:=by rw[hb2];rfl
 rw[this,gKe hv]
theorem fZm: ∀(l:List QN) (b:List B8) (F:WF),b <+:(fJp l b F).1
 |[],b,F=>List.prefix_refl b
 |q::r,b,F=>by
  rw[fJp]
  refine List.IsPrefix.trans ?_ (fZm r _ _)
  obtain⟨t,ht⟩: ∃t,(wnS q.n b F).1=b++t:=wnS_pre q.n b F
  rw[ht,List.append_assoc,List.append_assoc]
  exact List.prefix_append _ _
where
 wnS_pre: ∀(n:Nm) (b:List B8) (F:WF),∃t,(wnS n b F).1=b++t
  |[],b,F=>⟨[0#8],rfl⟩
  |l::r,b,F=>by
   rcases hg:iK (fHk (l::r)) F with _|a
   ·rw[fIg hg]
    obtain⟨t,ht⟩:=wnS_pre r (b++ePy l) (if b.length<16384 then kT (fHk (l::r)) b.length F else F)
    exact⟨ePy l++t,by rw[ht,List.append_assoc]⟩
   rw[fJq hg];exact⟨_,rfl⟩
theorem gCm (c:RC) (b:List B8) (F:WF):b <+:(wrS c b F).1:=by
 obtain⟨t,ht⟩:=fZm.wnS_pre c.nm b F
 unfold wrS
 simp only
 rw[ht]
 simp only[List.append_assoc]
 exact List.prefix_append _ _
theorem gH: ∀(l:List RC) (b:List B8) (F:WF),b <+:(fJa l b F).1
 |[],b,F=>List.prefix_refl b
 |c::r,b,F=>by
  rw[fJa]
  exact(gCm c b F).trans (gH r _ _)
theorem gCu {b B:List B8} (h:Ag b B): ∀(l:List QN) (b0:List B8) (F:WF) {acc L:List QN} {E:Nat},(∀q∈l,okN q.n)→(fJp l b0 F).1 <+:B→fJv b l.length b0.length acc=some (L,E)→E=(fJp l b0 F).1.length
 |[],b0,F,acc,L,E,_,_,hr=>by
  rw[List.length_nil,fJv]at hr
  simp only[Option.some.injEq,Prod.mk.injEq]at hr
  exact hr.2.symm
 |q::r,b0,F,acc,L,E,ho,hp,hr=>by
  rw[List.length_cons,fJv]at hr
  rcases hq:qnR b b0.length with _|⟨x,e⟩
  ·rw[hq]at hr;cases hr
  rw[hq]at hr;simp only at hr
  rw[fJp]at hp⊢
  obtain⟨w,hw,hwn⟩:=gBz q.n b0 F (ho q (List.mem_cons_self ..)).1
  have hp2:=(fZm r _ _).trans hp
  rw[hw]at hp2
  have he:e=b0.length+w.length+2+2:=by
   unfold qnR at hq
   rcases hn:fJj b b0.length with _|⟨m,e1⟩
   ·rw[hn]at hq;cases hq
   rw[hn]at hq;simp only at hq
   have:=gAx h (b0:=b0) (w:=w) ((by rw[List.append_assoc];exact List.prefix_append _ _:b0++w <+:b0++w++beL (BitVec.setWidth 32 q.t) 2 2++beL (BitVec.setWidth 32 q.c) 2 2).trans hp2) hwn hn
   subst this
   split at hq
   ·simp only[Option.some.injEq,Prod.mk.injEq]at hq;exact hq.2.symm
   cases hq
  have he2:e=((wnS q.n b0 F).1++beL (BitVec.setWidth 32 q.t) 2 2++beL (BitVec.setWidth 32 q.c) 2 2).length:=by rw[he,hw];simp only[List.length_append,cZ]
  rw[he2]at hr
  exact gCu h r _ _ (fun q hq=>ho q (List.mem_cons_of_mem _ hq)) hp hr
theorem fZz {b B:List B8} (h:Ag b B): ∀(l:List RC) (b0:List B8) (F:WF) {acc L:List RC} {E:Nat},(∀c∈l,okN c.nm∧c.d.length≤65535)→(fJa l b0 F).1 <+:B→gC b l.length b0.length acc=some (L,E)→E=(fJa l b0 F).1.length
 |[],b0,F,acc,L,E,_,_,hr=>by
  rw[List.length_nil,gC]at hr
  simp only[Option.some.injEq,Prod.mk.injEq]at hr
  exact hr.2.symm
 |c::r,b0,F,acc,L,E,ho,hp,hr=>by
  rw[List.length_cons,gC]at hr
  rcases hq:fZv b b0.length with _|⟨x,e⟩
  ·rw[hq]at hr;cases hr
  rw[hq]at hr;simp only at hr
  rw[fJa]at hp⊢
  obtain⟨hok,hdl⟩:=ho c (List.mem_cons_self ..)
  obtain⟨w,hw,hwn⟩:=gBz c.nm b0 F hok.1
  have hp2:=(gH r _ _).trans hp
  have hws:(wrS c b0 F).1=((b0++w)++beL (BitVec.setWidth 32 c.ty) 2 2++beL (BitVec.setWidth 32 c.cl) 2 2++beL c.ttl 4 4)++beL (BitVec.ofInt 32 (c.d.length:Int)) 2 2++c.d:=by unfold wrS;rw[hw]
  rw[hws]at hp2
  obtain⟨n,e1,hn,he,hle⟩:=gBq hq
  have h1:=gAx h (b0:=b0) (w:=w) ((by simp only[List.append_assoc];exact List.prefix_append_right_inj b0|>.2 (List.prefix_append _ _):b0++w <+:(b0++w)++beL (BitVec.setWidth 32 c.ty) 2 2++beL (BitVec.setWidth 32 c.cl) 2 2++beL c.ttl 4 4++beL (BitVec.ofInt 32 (c.d.length:Int)) 2 2++c.d).trans hp2) hwn hn
  have hl0:((b0++w)++beL (BitVec.setWidth 32 c.ty) 2 2++beL (BitVec.setWidth 32 c.cl) 2 2++beL c.ttl 4 4).length=e1+2+2+4:=by rw[h1];simp only[List.length_append,cZ]
  have hc:=gAs h (b0:=(b0++w)++beL (BitVec.setWidth 32 c.ty) 2 2++beL (BitVec.setWidth 32 c.cl) 2 2++beL c.ttl 4 4) (v:=c.d.length) ((List.prefix_append _ _).trans hp2) (by rw[hl0];omega) (by omega)
  rw[hl0]at hc
  rw[hc]at he
  have he2:e=(wrS c b0 F).1.length:=by rw[he,hws,List.length_append,List.length_append,hl0,cZ]
  rw[he2]at hr
  exact fZz h r _ _ (fun q hq=>ho q (List.mem_cons_of_mem _ hq)) hp hr
theorem gBm: ∀(l m:List RC) (b:List B8) (F:WF),fJa (l++m) b F=fJa m (fJa l b F).1 (fJa l b F).2
 |[],m,b,F=>rfl
 |c::r,m,b,F=>by rw[List.cons_append,fJa,fJa,gBm r m]
def adO (M:MD):List RC:=M.ad++if M.ed=true then[fLd M]else[]
theorem gDb (M:MD):mbS M=(fJa (adO M) (fJa M.au (fJa M.an (fJp M.qs (hdB M) []).1 (fJp M.qs (hdB M) []).2).1 (fJa M.an (fJp M.qs (hdB M) []).1 (fJp M.qs (hdB M) []).2).2).1 (fJa M.au (fJa M.an (fJp M.qs (hdB M) []).1 (fJp M.qs (hdB M) []).2).1 (fJa M.an (fJp M.qs (hdB M) []).1 (fJp M.qs (hdB M) []).2).2).2).1:=by
 unfold adO
 rw[gBm]
 unfold mbS mbF
 simp only[fKd]
 split
 ·rw[fJa,fJa]
 rw[fJa]
theorem gDd (M:MD):(hdB M).length=12:=by unfold hdB;simp only[List.length_append,cZ]
structure Few (M:MD):Prop where
 qs: ∀q∈M.qs,okN q.n
 an: ∀c∈M.an,okN c.nm∧c.d.length≤65535
 au: ∀c∈M.au,okN c.nm∧c.d.length≤65535
 ad: ∀c∈M.ad,okN c.nm∧c.d.length≤65535
 nq:M.qs.length<60000
 na:M.an.length<60000
 nu:M.au.length<60000
 nd:M.ad.length<60000
theorem gFx:okN []:=⟨(fun _ h=>nomatch h),(by rw[fBj];decide)⟩
theorem gIn {M:MD} (h:Few M): ∀c∈adO M,okN c.nm∧c.d.length≤65535:=by
 intro c hc
 unfold adO at hc
 rcases List.mem_append.1 hc with hc|hc
 ·exact h.ad c hc
 split at hc
 ·rw[List.mem_singleton]at hc;subst hc;exact⟨gFx,Nat.zero_le _⟩
 cases hc
theorem gGe (n:Nat):BitVec.ofInt 32 (n:Int)+1#32=BitVec.ofInt 32 ((n+1:Nat):Int):=by
 rw[Int.natCast_add,BitVec.ofInt_add];rfl
theorem gDa {M:MD} {b:List B8} (hf:Few M) (h:Ag b (mbS M)) (h12:12≤b.length) {E:Nat} (hE:meR b=some E):E=(mbS M).length:=by
 have hB:=gDb M
 obtain⟨s1,e1⟩: ∃s,fJp M.qs (hdB M) []=s:=⟨_,rfl⟩
 obtain⟨s2,e2⟩: ∃s,fJa M.an s1.1 s1.2=s:=⟨_,rfl⟩
 obtain⟨s3,e3⟩: ∃s,fJa M.au s2.1 s2.2=s:=⟨_,rfl⟩
 obtain⟨s4,e4⟩: ∃s,fJa (adO M) s3.1 s3.2=s:=⟨_,rfl⟩
 rw[e1,e2,e3,e4]at hB
 obtain⟨B,hBB⟩: ∃B,mbS M=B:=⟨_,rfl⟩
 rw[hBB]at hB h⊢
 have p4:s4.1 <+:B:=by rw[hB];exact List.prefix_refl _
 have p3:s3.1 <+:B:=(by rw[←e4];exact gH _ _ _:s3.1 <+:s4.1).trans p4
 have p2:s2.1 <+:B:=(by rw[←e3];exact gH _ _ _:s2.1 <+:s3.1).trans p3
 have p1:s1.1 <+:B:=(by rw[←e2];exact gH _ _ _:s1.1 <+:s2.1).trans p2
 have p0:hdB M <+:B:=(by rw[←e1];exact fZm _ _ _:hdB M <+:s1.1).trans p1
 have hq:=hf.nq
 have ha:=hf.na
 have hu:=hf.nu
 have hd:=hf.nd
 have hadl:(adO M).length=M.ad.length+(if M.ed=true then 1 else 0):=by unfold adO;split<;>simp
 have hadl2:(adO M).length≤M.ad.length+1:=by rw[hadl];split<;>omega
 have had:BitVec.ofInt 32 (M.ad.length:Int)+(if M.ed=true then 1#32 else 0#32)=BitVec.ofInt 32 ((adO M).length:Int):=by
  rw[hadl];split
  ·exact gGe _
  rw[BitVec.add_zero];rfl
 have p0':=p0
 unfold hdB at p0'
 rw[had]at p0'
 have c10:=gAs h (b0:=beL (BitVec.setWidth 32 M.id) 2 2++beL (fl1 M) 1 1++beL (fl2 M) 1 1++beL (BitVec.ofInt 32 (M.qs.length:Int)) 2 2++beL (BitVec.ofInt 32 (M.an.length:Int)) 2 2++beL (BitVec.ofInt 32 (M.au.length:Int)) 2 2) p0' (by simp only[List.length_append,cZ];omega) (by omega)
 have p8:=(List.prefix_append _ _).trans p0'
 have c8':=gAs h (b0:=beL (BitVec.setWidth 32 M.id) 2 2++beL (fl1 M) 1 1++beL (fl2 M) 1 1++beL (BitVec.ofInt 32 (M.qs.length:Int)) 2 2++beL (BitVec.ofInt 32 (M.an.length:Int)) 2 2) p8 (by simp only[List.length_append,cZ];omega) (by omega)
 have p6:=(List.prefix_append _ _).trans p8
 have c6:=gAs h (b0:=beL (BitVec.setWidth 32 M.id) 2 2++beL (fl1 M) 1 1++beL (fl2 M) 1 1++beL (BitVec.ofInt 32 (M.qs.length:Int)) 2 2) p6 (by simp only[List.length_append,cZ];omega) (by omega)
 have p4':=(List.prefix_append _ _).trans p6
 have c4:=gAs h (b0:=beL (BitVec.setWidth 32 M.id) 2 2++beL (fl1 M) 1 1++beL (fl2 M) 1 1) p4' (by simp only[List.length_append,cZ];omega) (by omega)
 simp only[List.length_append,cZ,Nat.reduceAdd]at c10 c8' c6 c4
 unfold meR at hE
 rw[c4,c6,c8',c10]at hE
 rcases h1:fJv b M.qs.length 12 []with _|⟨L1,E1⟩
 ·rw[h1]at hE;cases hE
 rw[h1]at hE;simp only at hE
 have g1:=gCu h M.qs (hdB M) [] hf.qs (by rw[e1];exact p1) (by rw[gDd];exact h1)
 rw[e1]at g1
 rw[g1]at hE
 rcases h2:gC b M.an.length s1.1.length []with _|⟨L2,E2⟩
 ·rw[h2]at hE;cases hE
 rw[h2]at hE;simp only at hE
 have g2:=fZz h M.an s1.1 s1.2 hf.an (by rw[e2];exact p2) h2
 rw[e2]at g2
 rw[g2]at hE
 rcases h3:gC b M.au.length s2.1.length []with _|⟨L3,E3⟩
 ·rw[h3]at hE;cases hE
 rw[h3]at hE;simp only at hE
 have g3:=fZz h M.au s2.1 s2.2 hf.au (by rw[e3];exact p3) h3
 rw[e3]at g3
 rw[g3]at hE
 rcases h4:gC b (adO M).length s3.1.length []with _|⟨L4,E4⟩
 ·rw[h4]at hE;cases hE
 rw[h4]at hE;simp only at hE
 have g4:=fZz h (adO M) s3.1 s3.2 (gIn hf) (by rw[e4];exact p4) h4
 rw[e4]at g4
 rw[←J0 hE,g4,hB]
theorem gGd {M:MD} (hf:Few M) {k:Nat} (hk:k<(mbS M).length):gBh ((mbS M).take k):=by
 by_cases h12:((mbS M).take k).length<12
 ·exact .inl h12
 refine .inr fun hE=>?_
 have:=gDa hf (b:=(mbS M).take k) (fun i hi _=>?_) (by omega) hE
 ·rw[List.length_take]at this;omega
 rw[List.length_take]at hi
 rw[List.getD_eq_getElem?_getD,List.getElem?_take_of_lt (by omega),←List.getD_eq_getElem?_getD]
theorem gEl {M:MD} (hf:Few M) (x:B8):gBh (mbS M++[x]):=by
 by_cases h12:(mbS M++[x]).length<12
 ·exact .inl h12
 refine .inr fun hE=>?_
 have:=gDa hf (b:=mbS M++[x]) (fun i _ hi=>?_) (by omega) hE
 ·rw[List.length_append,List.length_singleton]at this;omega
 rw[List.getD_eq_getElem?_getD,List.getElem?_append_left hi,←List.getD_eq_getElem?_getD]
theorem fXl (M:MD):12≤(mbS M).length:=by
 have hB:=gDb M
 obtain⟨s1,e1⟩: ∃s,fJp M.qs (hdB M) []=s:=⟨_,rfl⟩
 obtain⟨s2,e2⟩: ∃s,fJa M.an s1.1 s1.2=s:=⟨_,rfl⟩
 obtain⟨s3,e3⟩: ∃s,fJa M.au s2.1 s2.2=s:=⟨_,rfl⟩
 obtain⟨s4,e4⟩: ∃s,fJa (adO M) s3.1 s3.2=s:=⟨_,rfl⟩
 rw[e1,e2,e3,e4]at hB
 have p0:hdB M <+:s1.1:=by rw[←e1];exact fZm _ _ _
 have p1:s1.1 <+:s2.1:=by rw[←e2];exact gH _ _ _
 have p2:s2.1 <+:s3.1:=by rw[←e3];exact gH _ _ _
 have p3:s3.1 <+:s4.1:=by rw[←e4];exact gH _ _ _
 have h:=(((p0.trans p1).trans p2).trans p3).length_le
 rw[gDd]at h
 rw[hB]
 exact h
end Go.AX

namespace Go.AX
open Go Go.Proofs
set_option maxRecDepth 8000
def gCk (ls:Nm):Bool:=ls.any fun l=>decide (l=[])
def gAv (ls:Nm):Bool:=ls.any fun l=>decide (63<l.length)
def wc (ls:Nm):Nat:=1+(ls.map fun l=>min l.length 255+1).sum
def gBk (ls:Nm):Int:=if gCk ls=true then 30 else if gAv ls=true∨255<wc ls then 31 else 0
theorem gEz (p:Nm) (l:List B8):wc (p++[l])=wc p+(min l.length 255+1):=by
 unfold wc;simp only[List.map_append,List.sum_append,List.map_cons,List.map_nil,List.sum_cons,List.sum_nil];omega
theorem gAl (ls:Nm) {k:Nat} (h:k<ls.length):ls.take (k+1)=ls.take k++[ls.getD k []]:=by
 rw[List.take_succ_eq_append_getElem h,List.getD_eq_getElem?_getD,List.getElem?_eq_getElem h];rfl
theorem gBy {α:Type} (f:α→Bool) (p:List α) (l:α):(p++[l]).any f=(p.any f||f l):=by simp
theorem gEv {ls:Nm}:gCk ls=false↔∀l∈ls,l≠[]:=by unfold gCk;simp
theorem gCj {ls:Nm}:gAv ls=false↔∀l∈ls,l.length≤63:=by unfold gAv;simp
theorem gGj {ls:Nm} (h:gAv ls=false):wc ls=wl ls:=by
 have h:=gCj.1 h
 unfold wc wl
 congr 2
 refine List.map_congr_left fun l hl=>?_
 have:=h l hl;omega
theorem gAr {ls:Nm}:gBk ls=0↔okN ls:=by
 unfold gBk okN
 constructor
 ·intro h
  split at h
  ·omega
  rename_i h1
  split at h
  ·omega
  rename_i h2
  obtain⟨h3,h4⟩:=not_or.1 h2
  have h3:=Bool.not_eq_true _▸h3
  have h1:=Bool.not_eq_true _▸h1
  refine⟨fun l hl=>⟨?_,gCj.1 h3 l hl⟩,by rw[←gGj h3];omega⟩
  have:=gEv.1 h1 l hl
  exact List.length_pos_iff.2 this
 rintro⟨h1,h2⟩
 have h3:gCk ls=false:=gEv.2 fun l hl e=>by have:=(h1 l hl).1;rw[e]at this;simp at this
 have h4:gAv ls=false:=gCj.2 fun l hl=>(h1 l hl).2
 rw[J3 (by simp[h3]),J3 (by simp only[h4,gGj h4,Bool.false_eq_true,false_or];omega)]
def gBl:List AV→Option AV
 |[.sl n xs]=>aK (unS xs) fun ls=>aN (ls.length=n∧n≤1000000) (some (.i (gBk ls)))
 |_=>none
theorem gGh (n:Nat) (xs:List AV):gBl [.sl n xs]=aK (unS xs) fun ls=>aN (ls.length=n∧n≤1000000) (some (.i (gBk ls))):=(rfl)
attribute [go_sem] gGh
set_option maxHeartbeats 4000000 in
theorem gGg:fHn Tryz.prog GLh 45 gBl:=by
 refine zK Tryz.func45 (aT rfl) ?_
 intro args r hg
 unfold gBl at hg
 split at hg
 ·rename_i n xs
  replace hg:=aJ hg;obtain⟨ls,hl,hg⟩:=hg
  replace hg:=aP hg;obtain⟨⟨rfl,hn⟩,hg⟩:=hg
  obtain rfl:=J0 hg
  have:=gT hl;subst this
  refine⟨J1 rfl,fun nx=>?_⟩
  clear hl hg
  obtain⟨ans,hans⟩: ∃x,gBk ls=x:=⟨_,rfl⟩
  rw[hans]
  refine ySq (yRn [0] fun K hK=>?_)
  simp(disch:=omega) only[go_sem]
  refine hK _ (aB ?_)
  refine ySq (yRn [0,3,4] fun K hK=>?_)
  simp(disch:=omega) only[go_sem]
  refine hK _ (aB ?_)
  refine ySq (ySq (yRn [3,4,7,8,9] fun K hK=>?_))
  simp(disch:=omega) only[go_sem]
  refine hK _ (aB ?_)
  refine yBl 0 (bR (fun p:KC5=> {fr:=[(3,.i ((min (wc (ls.take p.k)) 510:Nat):Int)),(4,.b (gAv (ls.take p.k))),(7,.sl ls.length (cS ls)),(8,.i (ls.length:Int)),(9,.i (p.k:Int))],hp:=fun _=>none,nx:=0,cx:=p.c}) (fun p=>p.k≤ls.length∧gCk (ls.take p.k)=false) (fun p=>ls.length-p.k) rfl ⟨⟨0,_⟩,⟨Nat.zero_le _,rfl⟩,bD rfl rfl (U3 _)⟩ ?_)
  rintro⟨k,c⟩ ⟨hk,hE⟩ n0
  simp only at hk hE⊢
  refine ySq (yRn [10,3,4,7,8,9] fun K hK=>?_)
  simp(disch:=omega) only[go_sem]
  refine hK _ (aB ?_)
  refine ySq (gLb rfl (fun h=>?_) (fun h=>?_))
  ·refine yDr ?_
   have hkl:k<ls.length:=by omega
   have hsn:=gAl ls hkl
   obtain⟨l,hl⟩: ∃l,ls.getD k []=l:=⟨_,rfl⟩
   have hlm:l∈ls:=by
    rw[←hl,List.getD_eq_getElem?_getD,List.getElem?_eq_getElem hkl]
    exact List.getElem_mem hkl
   rw[hl]at hsn
   have hw:wc (ls.take (k+1))=wc (ls.take k)+(min l.length 255+1):=by rw[hsn,gEz]
   have hL:gAv (ls.take (k+1))=(gAv (ls.take k)||decide (63<l.length)):=by rw[hsn];exact gBy _ _ _
   have hEs:gCk (ls.take (k+1))=(gCk (ls.take k)||decide (l=[])):=by rw[hsn];exact gBy _ _ _
   clear h
   refine ySk (aB (ySq (yBl 1 (ySq (yRn [3,4,6,7,8,9] fun K hK=>?_)))))
   simp(disch:=omega) only[go_sem,hl]
   refine hK _ (aB ?_)
   by_cases he:l=[]
   ·have de:decide (l=[])=true:=J5 he
    have ha:ans=30:=by
     rw[←hans];unfold gBk
     exact J4 (List.any_eq_true.2 ⟨l,hlm,de⟩)
    subst ha
    refine ySq (ySq (yRn [14,3,4,6,7,8,9] fun K hK=>?_))
    simp(disch:=omega) only[go_sem,de,eKw]
    refine hK _ (aB ?_)
    refine iTd (ySq (yRn [2] fun K hK=>?_))
    simp(disch:=omega) only[go_sem]
    refine hK _ (aB ?_)
    refine aS rfl (bI (bN (bI (dF (bN (bI ?_))))))
    simp(disch:=omega) only[fHo,bV,bK,bQ,go_sem]
   have de:decide (l=[])=false:=J6 he
   rw[hE,de]at hEs
   refine ySq (ySq (yRn [14,3,4,6,7,8,9] fun K hK=>?_))
   simp(disch:=omega) only[go_sem,de,eKw]
   refine hK _ (aB ?_)
   refine iFd (ySk (aB (ySq ?_)))
   obtain⟨a1,ha1⟩: ∃x,gAv (ls.take k)=x:=⟨_,rfl⟩
   obtain⟨w1,hw1⟩: ∃x,wc (ls.take k)=x:=⟨_,rfl⟩
   rw[ha1]at hL⊢
   rw[hw1]at hw⊢
   have d63:decide ((63:Int)<(l.length:Int))=decide (63<l.length):=decide_eq_decide.2 (by omega)
   have e1:(if(255:Int)<(l.length:Int)then(255:Int)else(l.length:Int))=((min l.length 255:Nat):Int):=by split<;>omega
   have e2:(if(510:Int)<((min w1 510:Nat):Int)+1+((min l.length 255:Nat):Int)then(510:Int)else((min w1 510:Nat):Int)+1+((min l.length 255:Nat):Int))=((min (wc (ls.take (k+1))) 510:Nat):Int):=by rw[hw];split<;>omega
   rcases a1 with _|_
   ·refine yRn [3,4,6,7,8,9] fun K hK=>?_
    simp(disch:=omega) only[go_sem,d63]
    refine hK _ (aB ?_)
    refine yRn [3,4,7,8,9] fun K hK=>?_
    simp(disch:=omega) only[go_sem,e1,e2]
    refine hK _ (bU (aB ?_))
    refine yRn [3,4,7,8,9] fun K hK=>?_
    simp(disch:=omega) only[go_sem]
    refine hK _ (bT ?_)
    refine⟨⟨k+1,_⟩,⟨by simp only;omega,hEs⟩,by simp only;omega,bD ?_ rfl (U3 _)⟩
    simp only[hL,Bool.false_or,Int.natCast_add,Int.natCast_one]
   refine yRn [3,4,6,7,8,9] fun K hK=>?_
   simp(disch:=omega) only[go_sem]
   refine hK _ (aB ?_)
   refine yRn [3,4,7,8,9] fun K hK=>?_
   simp(disch:=omega) only[go_sem,e1,e2]
   refine hK _ (bU (aB ?_))
   refine yRn [3,4,7,8,9] fun K hK=>?_
   simp(disch:=omega) only[go_sem]
   refine hK _ (bT ?_)
   refine⟨⟨k+1,_⟩,⟨by simp only;omega,hEs⟩,by simp only;omega,bD ?_ rfl (U3 _)⟩
   simp only[hL,Bool.true_or,Int.natCast_add,Int.natCast_one]
  refine yDr ?_
  obtain rfl:k=ls.length:=by omega
  have et:ls.take ls.length=ls:=List.take_length
  rw[et]at hE⊢
  clear h
  refine yEx 0 (aY (aZ (bE (aB ?_))))
  unfold gBk at hans
  rw[J3 (by simp[hE])]at hans
  obtain⟨a1,ha1⟩: ∃x,gAv ls=x:=⟨_,rfl⟩
  obtain⟨w1,hw1⟩: ∃x,wc ls=x:=⟨_,rfl⟩
  rw[ha1,hw1]at hans
  rw[ha1,hw1]
  rcases a1 with _|_
  ·by_cases hw:255<w1
   ·have hd:decide (255<((min w1 510:Nat):Int))=true:=J5 (by omega)
    rw[J4 (.inr hw)]at hans
    subst hans
    refine ySq (ySq (yRn [33] fun K hK=>?_))
    simp(disch:=omega) only[go_sem,hd]
    refine hK _ (aB ?_)
    refine iTd (ySq (yRn [2] fun K hK=>?_))
    simp(disch:=omega) only[go_sem]
    refine hK _ (aB ?_)
    refine aS rfl (bI ?_)
    simp(disch:=omega) only[fHo,bV,bK,bQ,go_sem]
   have hd:decide (255<((min w1 510:Nat):Int))=false:=J6 (by omega)
   rw[J3 (by simp[hw])]at hans
   subst hans
   refine ySq (ySq (yRn [33] fun K hK=>?_))
   simp(disch:=omega) only[go_sem,hd]
   refine hK _ (aB ?_)
   refine iFd (ySk (aB (ySq (yRn [2] fun K hK=>?_))))
   simp(disch:=omega) only[go_sem]
   refine hK _ (aB ?_)
   refine aS rfl ?_
   simp(disch:=omega) only[fHo,bV,bK,bQ,go_sem]
  rw[J4 (.inl rfl)]at hans
  subst hans
  refine ySq (ySq (yRn [33] fun K hK=>?_))
  simp(disch:=omega) only[go_sem]
  refine hK _ (aB ?_)
  refine iTd (ySq (yRn [2] fun K hK=>?_))
  simp(disch:=omega) only[go_sem]
  refine hK _ (aB ?_)
  refine aS rfl (bI ?_)
  simp(disch:=omega) only[fHo,bV,bK,bQ,go_sem]
 cases hg
theorem gBt:bX Tryz.prog GLh 45 (.pure true gBl):=⟨⟨_,Tryz.func45,rfl,rfl⟩,gGg⟩
end Go.AX

namespace Go.AX
open Go Go.Proofs
set_option maxRecDepth 8000
structure Sm (M:MD):Prop where
 nq:M.qs.length≤1000
 qs: ∀q∈M.qs,q.n.length≤1000000
 ls: ∀l∈[M.an,M.au,M.ad],l.length≤1000∧∀c∈l,c.nm.length≤1000000
def rcY (l:List RC):Prop:= ∀c∈l,okN c.nm∧c.d.length≤65535
def hdY (M:MD):Prop:=0≤M.op∧M.op≤15∧0≤M.rc∧M.rc≤fIw M
structure RY (M:MD):Prop where
 hd:hdY M
 qs: ∀q∈M.qs,okN q.n
 ls: ∀l∈[M.an,M.au,M.ad],rcY l
noncomputable instance (M:MD):Decidable (RY M):=Classical.propDecidable _
noncomputable instance (M:MD):Decidable (Sm M):=Classical.propDecidable _
noncomputable def gCc:List AV→Option AV
 |[.agg xs]=>aK (fJd xs) fun M=>if Sm M then some (.b (decide (RY M)))else none
 |_=>none
theorem gHg {xs:List AV} {M:MD} (h:fJd xs=some M) (h2:Sm M) (h3:RY M):gCc [.agg xs]=some (.b true):=by
 show aK (fJd xs) _=_
 rw[h,aX,J4 h2,J5 h3]
theorem gHh {xs:List AV} {M:MD} (h:fJd xs=some M) (h2:Sm M) (h3: ¬RY M):gCc [.agg xs]=some (.b false):=by
 show aK (fJd xs) _=_
 rw[h,aX,J4 h2,J6 h3]
theorem fZn {α:Type} {l:List α} {k:Nat} (h:k<l.length) {P:α→Prop} (h1: ∀x∈l.take k,P x) (h2:P l[k]): ∀x∈l.take (k+1),P x:=by
 rw[List.take_succ_eq_append_getElem h]
 intro x hx
 rcases List.mem_append.1 hx with hx|hx
 ·exact h1 x hx
 rw[List.mem_singleton]at hx;rw[hx];exact h2
set_option maxHeartbeats 4000000 in
theorem gFj:fHn Tryz.prog GLh 25 gCc:=by
 refine zK Tryz.func25 (aT rfl) ?_
 intro args r hg
 unfold gCc at hg
 split at hg
 ·rename_i xs
  replace hg:=aJ hg;obtain⟨M,hM,hg⟩:=hg
  have hS:Sm M:=Classical.byContradiction fun hn=>by rw[J3 hn]at hg;cases hg
  rw[J4 hS]at hg
  obtain rfl:=J0 hg
  have:=fJz hM;subst this
  refine⟨J1 rfl,fun nx=>?_⟩
  obtain⟨ans,hans⟩: ∃x,decide (RY M)=x:=⟨_,rfl⟩
  have hy:RY M→ans=true:=fun h=>by rw[←hans];exact J5 h
  have hno: ¬RY M→ans=false:=fun h=>by rw[←hans];exact J6 h
  rw[hans]
  clear hg hM hans
  obtain⟨lim,hlim⟩: ∃x:Int,fIw M=x:=⟨_,rfl⟩
  have hle:M.ed=true→lim=4095:=fun h=>by rw[←hlim,fIw,J4 h]
  have hlf:M.ed=false→lim=15:=fun h=>by rw[←hlim,fIw,J3 (by simp[h])]
  have hhd:hdY M↔0≤M.op∧M.op≤15∧0≤M.rc∧M.rc≤lim:=by unfold hdY;rw[hlim]
  clear hlim
  obtain⟨hnq,hsq,hsl⟩:=hS
  have hyy: ∀(h1:hdY M) (h2: ∀q∈M.qs,okN q.n) (h3: ∀l∈[M.an,M.au,M.ad],rcY l),ans=true:=fun h1 h2 h3=>hy ⟨h1,h2,h3⟩
  have hn1: ¬hdY M→ans=false:=fun h=>hno fun h2=>h h2.hd
  have hn2: ∀q∈M.qs,¬okN q.n→ans=false:=fun q hq h=>hno fun h2=>h (h2.qs q hq)
  have hn3: ∀l∈[M.an,M.au,M.ad],∀c∈l,¬(okN c.nm∧c.d.length≤65535)→ans=false:=fun l hl c hc h=>hno fun h2=>h (h2.ls l hl c hc)
  clear hy hno
  obtain⟨Hd,hHd⟩: ∃H:Prop,hdY M=H:=⟨_,rfl⟩
  rw[hHd]at hhd hyy hn1
  clear hHd
  obtain⟨id,rp,op,aa,tc,rd,ra,rc,qs,an,au,ad,ed,sz,dn⟩:=M
  simp only at hhd hyy hn1 hn2 hn3 hle hlf hnq hsq hsl⊢
  have hlb:15≤lim∧lim≤4095:=by
   cases ed with
   |true=>have:=hle rfl;omega
   |false=>have:=hlf rfl;omega
  refine ySq (yRn [1] fun K hK=>?_)
  simp(disch:=omega) only[go_sem,↓reduceIte,mdA]
  refine hK _ (aB ?_)
  refine lW 1 nx 0 rfl (by simp(disch:=omega) only[aV,↓reduceIte];rfl) ?_
  refine yK (hp':=fun _=>none) (fun _ _ h=>by cases h) (ySq (yRn [1,3] fun K hK=>?_))
  simp(disch:=omega) only[go_sem,↓reduceIte]
  refine hK _ (aB ?_)
  refine ySq (dWd (fun p:Unit=> {fr:=[(1,.rp [AV.w16 id,AV.b rp,AV.i op,AV.b aa,AV.b tc,AV.b rd,AV.b ra,AV.i rc,AV.sl qs.length (qsC qs),AV.sl an.length (rcC an),AV.sl au.length (rcC au),AV.sl ad.length (rcC ad),AV.b ed,AV.w16 sz,AV.b dn]),(3,.i lim)],hp:=fun _=>none,nx:=0,cx:=nx+100}) (fun p=>True) ?_ ?_)
  ·refine ySq (yRn [11,1,3] fun K hK=>?_)
   simp(disch:=omega) only[go_sem,↓reduceIte]
   refine hK _ (aB ?_)
   refine gLc rfl (fun h=>?_) (fun h=>?_)
   ·refine yDr (yRn [1,3] fun K hK=>?_)
    simp(disch:=omega) only[go_sem,↓reduceIte]
    refine hK _ (dWa ?_)
    refine⟨(),trivial,bD ?_ rfl (by simp only;omega)⟩
    simp only[hle h]
   refine yDr (ySk (dWa (⟨(),trivial,bD ?_ rfl (by simp only;omega)⟩)))
   simp only[hlf h]
  rintro _ _ n0
  simp only at⊢
  have d5:decide ((65535:Int)<(qs.length:Int))=false:=J6 (by omega)
  rcases(by omega:op<0∨(0≤op∧15<op)∨(0≤op∧op≤15∧rc<0)∨(0≤op∧op≤15∧0≤rc∧lim<rc)∨(0≤op∧op≤15∧0≤rc∧rc≤lim))with g1|⟨g1,g2⟩|⟨g1,g2,g3⟩|⟨g1,g2,g3,g4⟩|⟨g1,g2,g3,g4⟩
  ·have ha:=hn1 fun h=>by have:=hhd.1 h;omega
   subst ha
   have d1:decide (op<0)=true:=J5 g1
   refine ySq (ySq (yRn [36,1] fun K hK=>?_))
   simp(disch:=omega) only[go_sem,↓reduceIte,d1]
   refine hK _ (aB ?_)
   refine iTd (ySq (yRn [2] fun K hK=>?_))
   simp(disch:=omega) only[go_sem,↓reduceIte]
   refine hK _ (aB ?_)
   refine aS rfl (bI ?_)
   simp(disch:=omega) only[fHo,bV,bK,bQ,go_sem,↓reduceIte]
  ·have ha:=hn1 fun h=>by have:=hhd.1 h;omega
   subst ha
   have d1:decide (op<0)=false:=J6 (by omega)
   have d2:decide (15<op)=true:=J5 g2
   refine ySq (ySq (yRn [36,1] fun K hK=>?_))
   simp(disch:=omega) only[go_sem,↓reduceIte,d1,d2]
   refine hK _ (aB ?_)
   refine iTd (ySq (yRn [2] fun K hK=>?_))
   simp(disch:=omega) only[go_sem,↓reduceIte]
   refine hK _ (aB ?_)
   refine aS rfl (bI ?_)
   simp(disch:=omega) only[fHo,bV,bK,bQ,go_sem,↓reduceIte]
  ·have ha:=hn1 fun h=>by have:=hhd.1 h;omega
   subst ha
   have d1:decide (op<0)=false:=J6 (by omega)
   have d2:decide (15<op)=false:=J6 (by omega)
   have d3:decide (rc<0)=true:=J5 (by omega)
   refine ySq (ySq (yRn [36,1] fun K hK=>?_))
   simp(disch:=omega) only[go_sem,↓reduceIte,d1,d2,d3]
   refine hK _ (aB ?_)
   refine iTd (ySq (yRn [2] fun K hK=>?_))
   simp(disch:=omega) only[go_sem,↓reduceIte]
   refine hK _ (aB ?_)
   refine aS rfl (bI ?_)
   simp(disch:=omega) only[fHo,bV,bK,bQ,go_sem,↓reduceIte]
  ·have ha:=hn1 fun h=>by have:=hhd.1 h;omega
   subst ha
   have d1:decide (op<0)=false:=J6 (by omega)
   have d2:decide (15<op)=false:=J6 (by omega)
   have d3:decide (rc<0)=false:=J6 (by omega)
   have d4:decide (lim<rc)=true:=J5 (by omega)
   refine ySq (ySq (yRn [36,1] fun K hK=>?_))
   simp(disch:=omega) only[go_sem,↓reduceIte,d1,d2,d3,d4]
   refine hK _ (aB ?_)
   refine iTd (ySq (yRn [2] fun K hK=>?_))
   simp(disch:=omega) only[go_sem,↓reduceIte]
   refine hK _ (aB ?_)
   refine aS rfl (bI ?_)
   simp(disch:=omega) only[fHo,bV,bK,bQ,go_sem,↓reduceIte]
  have hH:Hd:=hhd.2 ⟨g1,g2,g3,g4⟩
  have d1:decide (op<0)=false:=J6 (by omega)
  have d2:decide (15<op)=false:=J6 (by omega)
  have d3:decide (rc<0)=false:=J6 (by omega)
  have d4:decide (lim<rc)=false:=J6 (by omega)
  refine ySq (ySq (yRn [36,1] fun K hK=>?_))
  simp(disch:=omega) only[go_sem,↓reduceIte,d1,d2,d3,d4,d5]
  refine hK _ (aB ?_)
  refine iFd ?_
  clear d1 d2 d3 d4 d5 hn1 hhd g1 g2 g3 g4 hle hlf hlb
  refine ySk (aB (ySq (ySq (yRn [1,38,39,40] fun K hK=>?_))))
  simp(disch:=omega) only[go_sem,↓reduceIte]
  refine hK _ (aB ?_)
  refine yBl 0 (bR (fun p:LCI=> {fr:=[(1,.rp [AV.w16 id,AV.b rp,AV.i op,AV.b aa,AV.b tc,AV.b rd,AV.b ra,AV.i rc,AV.sl qs.length (qsC qs),AV.sl an.length (rcC an),AV.sl au.length (rcC au),AV.sl ad.length (rcC ad),AV.b ed,AV.w16 sz,AV.b dn]),(38,.sl qs.length (qsC qs)),(39,.i qs.length),(40,.i p.k)],hp:=fun _=>none,nx:=0,cx:=p.c}) (fun p=>p.k≤qs.length∧∀q∈qs.take p.k,okN q.n) (fun p=>qs.length-p.k) rfl ⟨⟨0,_⟩,⟨Nat.zero_le _,fun q hq=>by cases hq⟩,bD rfl rfl (U3 _)⟩ ?_)
  rintro⟨k,c⟩ ⟨hk,hqk⟩ n0
  simp only at hk hqk⊢
  refine ySq (yRn [41,1,38,39,40] fun K hK=>?_)
  simp(disch:=omega) only[go_sem,↓reduceIte]
  refine hK _ (aB ?_)
  refine ySq (gLb rfl (fun h=>?_) (fun h=>?_))
  ·refine yDr ?_
   have hkl:k<qs.length:=by omega
   have hcl:=fIi qs
   obtain⟨q,hq⟩: ∃q,qs[k]=q:=⟨_,rfl⟩
   have hdr:(qsC qs).drop (3*k)=[.sl q.n.length (cS q.n),.w16 q.t,.w16 q.c]++qsC (qs.drop (k+1)):=by
    rw[fIs,List.drop_eq_getElem_cons hkl,hq];rfl
   have hdr2:(qsC qs).drop (k*3)=[.sl q.n.length (cS q.n),.w16 q.t,.w16 q.c]++qsC (qs.drop (k+1)):=by rw[Nat.mul_comm];exact hdr
   have hqm:q∈qs:=hq▸List.getElem_mem hkl
   have hqs:=hsq q hqm
   clear h
   refine ySk (aB (ySq (yBl 1 (ySq (yRn [1,5,38,39,40] fun K hK=>?_)))))
   simp(disch:=omega) only[go_sem,↓reduceIte,hdr2,List.cons_append,List.nil_append]
   refine hK _ (aB ?_)
   by_cases hok:okN q.n
   ·have hw:=gAr.2 hok
    refine ySq (yRg [47,1,38,39,40] (aH gBt aO) fun K hK=>?_)
    simp(disch:=omega) only[go_sem,↓reduceIte,hw]
    refine hK _ (aB ?_)
    refine iFd (ySk (bU (aB (yRn [1,38,39,40] fun K hK=>?_))))
    simp(disch:=omega) only[go_sem,↓reduceIte]
    refine hK _ (bT ?_)
    refine⟨⟨k+1,_⟩,⟨by simp only;omega,fZn hkl hqk (by rw[hq];exact hok)⟩,by simp only;omega,⟨fun _=> .inr ?_,fun j o hj=>(by cases hj),U3 _⟩⟩
    simp only[Int.natCast_add,Int.natCast_one]
   have ha:=hn2 q hqm hok
   subst ha
   have hw:decide (gBk q.n=0)=false:=J6 fun h=>hok (gAr.1 h)
   refine ySq (yRg [47,1,38,39,40] (aH gBt aO) fun K hK=>?_)
   simp(disch:=omega) only[go_sem,↓reduceIte,hw,Bool.not_false]
   refine hK _ (aB ?_)
   refine iTd (ySq (yRn [2] fun K hK=>?_))
   simp(disch:=omega) only[go_sem,↓reduceIte]
   refine hK _ (aB ?_)
   refine aS rfl (bN (bI (dF (bN (bI ?_)))))
   simp(disch:=omega) only[fHo,bV,bK,bQ,go_sem,↓reduceIte]
  refine yDr ?_
  obtain rfl:k=qs.length:=by omega
  clear h
  rw[List.take_length]at hqk
  refine yEx 0 (aY (aZ (bE (aB (ySq (ySq (yRn [55,56,57] fun K hK=>?_)))))))
  simp(disch:=omega) only[go_sem,↓reduceIte]
  refine hK _ (aB ?_)
  obtain⟨L,hLL⟩: ∃L,[an,au,ad]=L:=⟨_,rfl⟩
  have hsc:[AV.sl an.length (rcC an),AV.sl au.length (rcC au),AV.sl ad.length (rcC ad)]=scC L:=by rw[←hLL];rfl
  have hL3:L.length=3:=by rw[←hLL];rfl
  rw[hLL]at hsl hn3 hyy
  rw[hsc]
  refine pS 55 (c+1+6) 0 3 1 rfl (by simp(disch:=omega) only[aV,↓reduceIte];rfl) (by rw[fIm,hL3];decide) ?_
  rw[J9,List.take_of_length_le (by rw[fIm,hL3];decide)]
  refine yK (hp':=fun _=>none) (fun _ _ h=>by cases h) (fPg [55,56,57] ?_)
  simp only[iB,fU,eW,↓reduceIte,Nat.reduceEqDiff]
  clear hsc hLL hsq hnq hn2
  replace hyy:=hyy hH hqk
  refine yBl 2 (bR (fun p:LCI=> {fr:=[(55,.sl 3 (scC L)),(56,.i (3:Nat)),(57,.i p.k)],hp:=fun _=>none,nx:=0,cx:=p.c}) (fun p=>p.k≤3∧∀l∈L.take p.k,rcY l) (fun p=>3-p.k) rfl ⟨⟨0,_⟩,⟨Nat.zero_le _,fun q hq=>by cases hq⟩,bD rfl rfl (U3 _)⟩ ?_)
  rintro⟨k2,c2⟩ ⟨hk2,hq2⟩ n0
  simp only at hk2 hq2⊢
  refine ySq (yRn [58,55,56,57] fun K hK=>?_)
  simp(disch:=omega) only[go_sem,↓reduceIte]
  refine hK _ (aB ?_)
  refine ySq (gLb rfl (fun h=>?_) (fun h=>?_))
  ·refine yDr ?_
   have hk3:k2<L.length:=by omega
   have hd2:=fJu L k2 hk3
   obtain⟨l,hl⟩: ∃l,L[k2]=l:=⟨_,rfl⟩
   rw[hl]at hd2
   have hlL:l∈L:=hl▸List.getElem_mem hk3
   obtain⟨hln,hlr⟩:=hsl l hlL
   clear h
   refine ySk (aB (ySq (yBl 3 (ySq (yRn [7,55,56,57] fun K hK=>?_)))))
   simp(disch:=omega) only[go_sem,↓reduceIte,hd2]
   refine hK _ (aB ?_)
   refine ySq (ySq (yRn [63,7,55,56,57] fun K hK=>?_))
   simp(disch:=omega) only[go_sem,↓reduceIte]
   refine hK _ (aB ?_)
   refine gLb rfl (fun h=>?_) (fun h=>?_)
   ·refine yDr ?_
    omega
   refine yDr ?_
   clear h
   refine ySk (aB (ySq (yRn [55,56,57,64,65,66] fun K hK=>?_)))
   simp(disch:=omega) only[go_sem,↓reduceIte]
   refine hK _ (aB ?_)
   refine yBl 4 (bR (fun p:LCI=> {fr:=[(55,.sl 3 (scC L)),(56,.i (3:Nat)),(57,.i k2),(64,.sl l.length (rcC l)),(65,.i l.length),(66,.i p.k)],hp:=fun _=>none,nx:=0,cx:=p.c}) (fun p=>p.k≤l.length∧rcY (l.take p.k)) (fun p=>l.length-p.k) rfl ⟨⟨0,_⟩,⟨Nat.zero_le _,fun q hq=>by cases hq⟩,bD rfl rfl (U3 _)⟩ ?_)
   rintro⟨k3,c3⟩ ⟨hk3,hq3⟩ n0
   simp only at hk3 hq3⊢
   refine ySq (yRn [67,55,56,57,64,65,66] fun K hK=>?_)
   simp(disch:=omega) only[go_sem,↓reduceIte]
   refine hK _ (aB ?_)
   refine ySq (gLb rfl (fun h=>?_) (fun h=>?_))
   ·refine yDr ?_
    have hkl:k3<l.length:=by omega
    have hcl:=fIh l
    obtain⟨q,hq⟩: ∃q,l[k3]=q:=⟨_,rfl⟩
    have hdr:(rcC l).drop (5*k3)=[.sl q.nm.length (cS q.nm),.w16 q.ty,.w16 q.cl,.w32 q.ttl,.sl q.d.length (c8 q.d)]++rcC (l.drop (k3+1)):=by
     rw[fIr,List.drop_eq_getElem_cons hkl,hq];rfl
    have hdr2:(rcC l).drop (k3*5)=[.sl q.nm.length (cS q.nm),.w16 q.ty,.w16 q.cl,.w32 q.ttl,.sl q.d.length (c8 q.d)]++rcC (l.drop (k3+1)):=by rw[Nat.mul_comm];exact hdr
    have hqm:q∈l:=hq▸List.getElem_mem hkl
    have hqs:=hlr q hqm
    clear h
    refine ySk (aB (ySq (yBl 5 (ySq (yRn [9,55,56,57,64,65,66] fun K hK=>?_)))))
    simp(disch:=omega) only[go_sem,↓reduceIte,hdr2,List.cons_append,List.nil_append]
    refine hK _ (aB ?_)
    rcases(by by_cases h1:okN q.nm;by_cases h2:q.d.length≤65535;exact .inl ⟨h1,h2⟩;exact .inr (.inl ⟨h1,h2⟩);exact .inr (.inr h1):(okN q.nm∧q.d.length≤65535)∨(okN q.nm∧¬q.d.length≤65535)∨¬okN q.nm)with⟨hok,hdl⟩|⟨hok,hdl⟩|hok
    ·have hw:=gAr.2 hok
     have hdd:decide ((65535:Int)<(q.d.length:Int))=false:=J6 (by omega)
     refine ySq (yRg [79,55,56,57,64,65,66] (aH gBt aO) fun K hK=>?_)
     simp(disch:=omega) only[go_sem,↓reduceIte,hw,hdd]
     refine hK _ (aB ?_)
     refine iFd (ySk (bU (aB (yRn [55,56,57,64,65,66] fun K hK=>?_))))
     simp(disch:=omega) only[go_sem,↓reduceIte]
     refine hK _ (bT ?_)
     refine⟨⟨k3+1,_⟩,⟨by simp only;omega,fZn hkl hq3 (by rw[hq];exact⟨hok,hdl⟩)⟩,by simp only;omega,⟨fun _=> .inr ?_,fun j o hj=>(by cases hj),U3 _⟩⟩
     simp only[Int.natCast_add,Int.natCast_one]
    ·have ha:=hn3 l hlL q hqm fun h=>hdl h.2
     subst ha
     have hw:=gAr.2 hok
     have hdd:decide ((65535:Int)<(q.d.length:Int))=true:=J5 (by omega)
     refine ySq (yRg [79,55,56,57,64,65,66] (aH gBt aO) fun K hK=>?_)
     simp(disch:=omega) only[go_sem,↓reduceIte,hw,hdd]
     refine hK _ (aB ?_)
     refine iTd (ySq (yRn [2] fun K hK=>?_))
     simp(disch:=omega) only[go_sem,↓reduceIte]
     refine hK _ (aB ?_)
     refine aS rfl (bN (bI (dF (bN (bN (bI (dF (bN (bI ?_)))))))))
     simp(disch:=omega) only[fHo,bV,bK,bQ,go_sem,↓reduceIte]
    have ha:=hn3 l hlL q hqm fun h=>hok h.1
    subst ha
    have hw:decide (gBk q.nm=0)=false:=J6 fun h=>hok (gAr.1 h)
    refine ySq (yRg [79,55,56,57,64,65,66] (aH gBt aO) fun K hK=>?_)
    simp(disch:=omega) only[go_sem,↓reduceIte,hw,Bool.not_false]
    refine hK _ (aB ?_)
    refine iTd (ySq (yRn [2] fun K hK=>?_))
    simp(disch:=omega) only[go_sem,↓reduceIte]
    refine hK _ (aB ?_)
    refine aS rfl (bN (bI (dF (bN (bN (bI (dF (bN (bI ?_)))))))))
    simp(disch:=omega) only[fHo,bV,bK,bQ,go_sem,↓reduceIte]
   refine yDr ?_
   obtain rfl:k3=l.length:=by omega
   clear h
   rw[List.take_length]at hq3
   refine yEx 4 (aY (aZ (bE (bU (aB (yRn [55,56,57] fun K hK=>?_))))))
   simp(disch:=omega) only[go_sem,↓reduceIte]
   refine hK _ (bT ?_)
   refine⟨⟨k2+1,_⟩,⟨by simp only;omega,fZn (by omega) hq2 (by rw[hl];exact hq3)⟩,by simp only;omega,⟨fun _=> .inr ?_,fun j o hj=>(by cases hj),U3 _⟩⟩
   simp only[Int.natCast_add,Int.natCast_one]
  refine yDr ?_
  obtain rfl:k2=3:=by omega
  clear h
  rw[List.take_of_length_le (by omega)]at hq2
  have ha:=hyy hq2
  subst ha
  refine yEx 2 (aY (aZ (bE (aB (ySq (yRn [2] fun K hK=>?_))))))
  simp(disch:=omega) only[go_sem,↓reduceIte]
  refine hK _ (aB ?_)
  refine aS rfl ?_
  simp(disch:=omega) only[fHo,bV,bK,bQ,go_sem,↓reduceIte]
 cases hg
theorem gGo:bX Tryz.prog GLh 25 (.pure true gCc):=⟨⟨_,Tryz.func25,rfl,rfl⟩,gFj⟩
end Go.AX

namespace Go.AX
open Go Go.Proofs
set_option maxRecDepth 8000
theorem gAj: ∀(L:List (List RC)) (b:List B8) (F:WF),b <+:(fKd L b F).1
 |[],b,F=>List.prefix_refl b
 |l::r,b,F=>by
  rw[fKd]
  exact(gH l b F).trans (gAj r _ _)
theorem gDc (M:MD):(mbF M).1 <+:mbS M:=by
 unfold mbS
 split
 ·exact gCm _ _ _
 exact List.prefix_refl _
noncomputable def byT (M:MD):AV:=if RY M then(if 65535<(mbS M).length then .tup [.sl 0 [],.i 61]else .tup [.sl (mbS M).length (c8 (mbS M)),.i 0])else .tup [.sl 0 [],.i 60]
noncomputable def byA:List AV→Option AV
 |[.agg xs]=>aK (fJd xs) fun M=>if Sm M then some (byT M)else none
 |_=>none
theorem gIm {xs:List AV} {M:MD} (h:fJd xs=some M) (h2:Sm M):byA [.agg xs]=some (byT M):=by
 show aK (fJd xs) _=_
 rw[h,aX,J4 h2]
set_option maxHeartbeats 4000000 in
theorem gIl:fHn Tryz.prog GLh 11 byA:=by
 refine zK Tryz.func11 (aT rfl) ?_
 intro args r hg
 unfold byA at hg
 split at hg
 ·rename_i xs
  replace hg:=aJ hg;obtain⟨M,hM,hg⟩:=hg
  have hSm:Sm M:=Classical.byContradiction fun hn=>by rw[J3 hn]at hg;cases hg
  rw[J4 hSm]at hg
  obtain rfl:=J0 hg
  have hM2:=hM
  have:=fJz hM;subst this
  refine⟨J1 rfl,fun nx=>?_⟩
  clear hg hM
  obtain⟨ans,hans⟩: ∃x,byT M=x:=⟨_,rfl⟩
  rw[hans]
  unfold byT at hans
  simp only[mdA]at hM2
  have hqn:=hSm.nq
  refine ySq (yRn [1] fun K hK=>?_)
  simp(disch:=omega) only[go_sem,↓reduceIte,mdA]
  refine hK _ (aB ?_)
  refine lW 1 nx 0 rfl (by simp(disch:=omega) only[aV,↓reduceIte];rfl) ?_
  refine yK (hp':=fun _=>none) (fun _ _ h=>by cases h) ?_
  by_cases hRY:RY M
  ·have hrg:=gHg hM2 hSm hRY
   rw[J4 hRY]at hans
   have hlong: ∀b,b <+:mbS M→65535<b.length→AV.tup [.sl 0 [],.i 61]=ans:=fun b hb hl=>by
    rw[J4 (Nat.lt_of_lt_of_le hl hb.length_le)]at hans;exact hans
   have hshort: ¬65535<(mbS M).length→AV.tup [.sl (mbS M).length (c8 (mbS M)),.i 0]=ans:=fun hl=>by
    rw[J3 hl]at hans;exact hans
   clear hans
   obtain⟨hhdY,hqs,hls⟩:=hRY
   have hok0:fKd [M.an,M.au,M.ad] (fJp M.qs (hdB M) []).1 (fJp M.qs (hdB M) []).2=mbF M:=rfl
   have hpq:(fJp M.qs (hdB M) []).1 <+:mbS M:=(gAj [M.an,M.au,M.ad] _ _).trans (by rw[hok0];exact gDc M)
   obtain⟨hop0,hop1,hrc0,hrc1⟩:=hhdY
   refine ySq (ySq (yRg [13,1] (aH gGo aO) fun K hK=>?_))
   simp(disch:=omega) only[go_sem,↓reduceIte,hrg,Bool.not_true]
   refine hK _ (aB ?_)
   refine iFd (ySk (aB (ySq (yRn [1,4] fun K hK=>?_))))
   simp(disch:=omega) only[go_sem,↓reduceIte]
   refine hK _ (aB ?_)
   refine aDn (nx+3+3+2) 1 [] [AV.mp (nx+6)] true (by simp(disch:=omega) only[aV,↓reduceIte];rfl) (by omega) ?_
   simp only[List.nil_append]
   obtain⟨g0,hg0⟩: ∃y,upd (upd (upd (upd (fun _=>none) (nx+6) (AO.mapo [] true)) (nx+3+3+2) (AO.cells [AV.v (Value.slice none 0 0),AV.mp (nx+6)] true)) (nx+3+3+4) (AO.cells [] true)) (nx+3+3+2) (AO.cells [AV.os (nx+3+3+4) 0 0 1 true,AV.mp (nx+6)] true)=y:=⟨_,rfl⟩
   have h0:WS (fun _=>none) (nx+10) (nx+3+3+2) (nx+10) (nx+6) g0 (nx+10) [] []:=by
    refine⟨⟨⟨?_,?_,by omega⟩,?_,by omega,by omega⟩,fun _ _ _ _ _ _ h=>(by cases h),.inl rfl,by omega,by omega⟩
    ·rw[←hg0,bJ,J4 rfl];rfl
    ·rw[←hg0,bJ,J3 (by omega),bJ,J4 rfl];rfl
    rw[←hg0,bJ,J3 (by omega),bJ,J3 (by omega),bJ,J3 (by omega),bJ,J4 rfl];rfl
   rw[hg0]
   have hl0:([]:List B8).length≤0:=U3 _
   clear hg0
   refine ySq (yRg [1,4] (aH fHt aO) fun K hK=>?_)
   simp(disch:=omega) only[go_sem,↓reduceIte,yQ h0.h.h]
   refine hK _ (aB ?_)
   simp only[fHr,Nat.mul_one]
   refine fHl h0 (by omega) fun g1 b1 eb1 h1=>?_
   have hl1:b1.length≤2:=by rw[eb1];simp only[cZ];omega
   refine ySq (bB (fun k=>if k=21 then 0 else 2) [1,4] bZ (aH fKn (aH fHt aO)) rfl rfl rfl (by kernel_rfl) (fun K hK=>?_))
   simp(disch:=omega) only[go_sem,↓reduceIte,yQ h1.h.h]
   refine hK _ (aB ?_)
   simp only[fHr]
   refine fHl h1 (by omega) fun g2 b2 eb2 h2=>?_
   have hl2:b2.length≤4:=by rw[eb2];simp only[List.length_append,cZ];omega
   refine ySq (bB (fun k=>if k=9 then 0 else 2) [1,4] bZ (aH fKn (aH fHt aO)) rfl rfl rfl (by kernel_rfl) (fun K hK=>?_))
   simp(disch:=omega) only[go_sem,↓reduceIte,yQ h2.h.h]
   refine hK _ (aB ?_)
   simp only[fHr]
   refine fHl h2 (by omega) fun g3 b3 eb3 h3=>?_
   have hl3:b3.length≤6:=by rw[eb3];simp only[List.length_append,cZ];omega
   refine ySq (yRg [1,4] (aH fHt aO) fun K hK=>?_)
   simp(disch:=omega) only[go_sem,↓reduceIte,yQ h3.h.h]
   refine hK _ (aB ?_)
   simp only[fHr,Nat.mul_one]
   refine fHl h3 (by omega) fun g4 b4 eb4 h4=>?_
   have hl4:b4.length≤8:=by rw[eb4];simp only[List.length_append,cZ];omega
   refine ySq (yRg [1,4] (aH fHt aO) fun K hK=>?_)
   simp(disch:=omega) only[go_sem,↓reduceIte,yQ h4.h.h]
   refine hK _ (aB ?_)
   simp only[fHr,Nat.mul_one]
   refine fHl h4 (by omega) fun g5 b5 eb5 h5=>?_
   have hl5:b5.length≤10:=by rw[eb5];simp only[List.length_append,cZ];omega
   refine ySq (yRg [1,4] (aH fHt aO) fun K hK=>?_)
   simp(disch:=omega) only[go_sem,↓reduceIte,yQ h5.h.h]
   refine hK _ (aB ?_)
   simp only[fHr,Nat.mul_one]
   refine fHl h5 (by omega) fun g6 b6 eb6 h6=>?_
   have hl6:b6.length≤12:=by rw[eb6];simp only[List.length_append,cZ];omega
   refine ySq (bB (fun k=>if k=9 then 0 else 2) [1,4] bZ (aH fKn (aH fHt aO)) rfl rfl rfl (by kernel_rfl) (fun K hK=>?_))
   simp(disch:=omega) only[go_sem,↓reduceIte,yQ h6.h.h]
   refine hK _ (aB ?_)
   simp only[fHr,Nat.mul_one]
   refine fHl h6 (by omega) fun g7 b7 eb7 h7=>?_
   have hl7:b7.length≤14:=by rw[eb7];simp only[List.length_append,cZ];omega
   have hhd:b7=hdB M:=by rw[eb7,eb6,eb5,eb4,eb3,eb2,eb1];rfl
   clear eb1 eb2 eb3 eb4 eb5 eb6 eb7 h0 h1 h2 h3 h4 h5 h6 hl0 hl1 hl2 hl3 hl4 hl5 hl6
   obtain⟨w,hw⟩: ∃w,nx+3+3+2=w:=⟨_,rfl⟩
   obtain⟨m,hm⟩: ∃m,nx+6=m:=⟨_,rfl⟩
   obtain⟨q0,hq0⟩: ∃m,nx+10=m:=⟨_,rfl⟩
   obtain⟨c7,hc7⟩: ∃c,nx+3+3+4+1+5+400+22+400+10+400+6+400+6+400+6+400+10+400=c:=⟨_,rfl⟩
   obtain⟨q7,hq7⟩: ∃c,nx+3+3+4+1+5+400+22+400+10+400+6+400+6+400+6+400+10+17+21=c:=⟨_,rfl⟩
   have hqc:q7<c7∧q0≤c7:=by omega
   rw[hq7,hw,hq0,hm]at h7
   rw[hc7,hw]
   refine ySq (ySq (yRn [1,4,83,84,85] fun K hK=>?_))
   simp(disch:=omega) only[go_sem,↓reduceIte]
   refine hK _ (aB ?_)
   refine yBl 0 ?_
   refine bR (fun p:YI=> {fr:=[(1,.rp (mdA M)),(4,.op w 0),(83,.sl M.qs.length (qsC M.qs)),(84,.i M.qs.length),(85,.i p.k)],hp:=p.g,nx:=0,cx:=p.c}) (fun p=>p.k≤M.qs.length∧fJp (M.qs.drop p.k) p.b p.F=fJp M.qs b7 []∧WS (fun _=>none) q0 w q0 m p.g p.q p.b p.F∧p.q<p.c∧q0≤p.c∧p.b.length≤65535) (fun p=>M.qs.length-p.k) rfl ⟨⟨0,g7,q7,b7,[],_⟩,⟨Nat.zero_le _,rfl,h7,by simp only;omega,by simp only;omega,by simp only;omega⟩,bD rfl rfl (U3 _)⟩ ?_
   rintro⟨k,g,q,b,F,c⟩ ⟨hk,hS,hW,hqc1,hcq,hlen⟩ n0
   simp only at hk hS hW hqc1 hcq hlen⊢
   refine ySq (yRn [86,1,4,83,84,85] fun K hK=>?_)
   simp(disch:=omega) only[go_sem,↓reduceIte]
   refine hK _ (aB ?_)
   refine ySq (gLb rfl (fun h=>?_) (fun h=>?_))
   ·refine yDr ?_
    have hkl:k<M.qs.length:=by omega
    have hcl:=fIi M.qs
    obtain⟨u,hu⟩: ∃u,M.qs[k]=u:=⟨_,rfl⟩
    have hdr:(qsC M.qs).drop (3*k)=[.sl u.n.length (cS u.n),.w16 u.t,.w16 u.c]++qsC (M.qs.drop (k+1)):=by
     rw[fIs,List.drop_eq_getElem_cons hkl,hu];rfl
    have hdr2:(qsC M.qs).drop (k*3)=[.sl u.n.length (cS u.n),.w16 u.t,.w16 u.c]++qsC (M.qs.drop (k+1)):=by rw[Nat.mul_comm];exact hdr
    have hqm:=hqs u (hu▸List.getElem_mem hkl)
    have hln:=eYr hqm
    have hwl1:=hqm.2
    have hwl2:=fZx u.n
    have hwl3:(eRs u.n).length≤254:=by unfold wl at hwl1;omega
    clear hwl1 hwl2
    have hS2:=hS
    rw[List.drop_eq_getElem_cons hkl,hu,fJp]at hS2
    clear h
    refine ySk (aB (ySq (yBl 1 (ySq (yRn [1,4,6,83,84,85] fun K hK=>?_)))))
    simp(disch:=omega) only[go_sem,↓reduceIte,hdr2,List.cons_append,List.nil_append]
    refine hK _ (aB ?_)
    refine lW 6 (c+1+2) 0 rfl (by rw[bJ,J4 rfl]) ?_
    obtain⟨g0,h0,hg0⟩: ∃y,WS (fun _=>none) q0 w q0 m y q b F∧upd (upd g (c+1+2) (AO.cells [AV.sl u.n.length (cS u.n),AV.w16 u.t,AV.w16 u.c] true)) (c+1+2) (AO.cells [AV.sl u.n.length (cS u.n),AV.w16 u.t,AV.w16 u.c] false)=y:=
     ⟨_,(hW.upd (by omega) (by omega)).upd (by omega) (by omega),rfl⟩
    rw[hg0]
    clear hg0
    refine ySq (yRg [1,4,6,83,84,85] (aH fLu aO) fun K hK=>?_)
    simp(disch:=omega) only[go_sem,↓reduceIte,fIa h0.h,J9]
    refine hK _ (aB ?_)
    refine fIe h0 (Nat.le_trans (by omega) (fKe _ _ _)) fun g1 b1 F1 eb1 eF1 h1=>?_
    have hwn:=fJk u.n b F
    rw[←eb1]at hwn
    refine ySq (yRg [1,4,6,83,84,85] (aH fHt aO) fun K hK=>?_)
    simp(disch:=omega) only[go_sem,↓reduceIte,yQ h1.h.h]
    refine hK _ (aB ?_)
    simp only[fHr,Nat.mul_one]
    refine fHl h1 (by omega) fun g2 b2 eb2 h2=>?_
    have hl2:b2.length=b1.length+2:=by rw[eb2,List.length_append,cZ]
    refine ySq (yRg [1,4,83,84,85] (aH fHt aO) fun K hK=>?_)
    simp(disch:=omega) only[go_sem,↓reduceIte,yQ h2.h.h]
    refine hK _ (aB ?_)
    simp only[fHr,Nat.mul_one]
    refine fHl h2 (by omega) fun g3 b3 eb3 h3=>?_
    have hl3:b3.length=b1.length+4:=by rw[eb3,List.length_append,cZ];omega
    have hp3:b3 <+:mbS M:=by
     refine List.IsPrefix.trans ?_ hpq
     rw[←hhd,←hS2,eb3,eb2,eb1]
     exact fZm _ _ _
    refine ySq (yRn [108,1,4,83,84,85] fun K hK=>?_)
    simp(disch:=omega) only[go_sem,↓reduceIte,h3.h.h.hw]
    refine hK _ (aB ?_)
    refine gLb rfl (fun h=>?_) (fun h=>?_)
    ·refine yDr ?_
     have ha:=hlong b3 hp3 (by omega)
     subst ha
     refine ySq (yRn [2,3] fun K hK=>?_)
     simp(disch:=omega) only[go_sem,↓reduceIte]
     refine hK _ (aB ?_)
     refine aS rfl (bN (bI (dF (bN (bI ?_)))))
     simp(disch:=omega) only[fHo,bV,bK,bQ,go_sem,↓reduceIte]
    refine yDr ?_
    have hle3:b3.length≤65535:=by omega
    clear h
    refine ySk (bU (aB (yRn [1,4,83,84,85] fun K hK=>?_)))
    simp(disch:=omega) only[go_sem,↓reduceIte]
    refine hK _ (bT ?_)
    refine⟨⟨k+1,g3,_,b3,F1,_⟩,⟨by simp only;omega,?_,h3,by simp only;omega,by simp only;omega,by simp only;omega⟩,by simp only;omega,bD ?_ rfl (U3 _)⟩
    ·simp only
     rw[←hS2,eb3,eb2,eb1,eF1]
    simp only[Int.natCast_add,Int.natCast_one]
   refine yDr ?_
   obtain rfl:k=M.qs.length:=by omega
   rw[List.drop_length]at hS
   clear h
   refine yEx 0 (aY (aZ (bE (aB (ySq (ySq (yRn [1,4,116,117,118] fun K hK=>?_)))))))
   simp(disch:=omega) only[go_sem,↓reduceIte,mdA]
   refine hK _ (aB ?_)
   obtain⟨L,hLL⟩: ∃L,[M.an,M.au,M.ad]=L:=⟨_,rfl⟩
   have hsc:[AV.sl M.an.length (rcC M.an),AV.sl M.au.length (rcC M.au),AV.sl M.ad.length (rcC M.ad)]=scC L:=by rw[←hLL];rfl
   rw[hLL]at hls hok0
   have hLr:=hSm.ls
   rw[hLL]at hLr
   have hL3:L.length=3:=by rw[←hLL];rfl
   rw[hsc]
   refine pS 116 (c+1+6) 0 3 1 rfl (by rw[bJ,J4 rfl]) (by rw[fIm,hL3];decide) ?_
   rw[J9,List.take_of_length_le (by rw[fIm,hL3];decide)]
   obtain⟨g0,h0,hg0⟩: ∃y,WS (fun _=>none) q0 w q0 m y q b F∧upd (upd g (c+1+6) (AO.cells (scC L) true)) (c+1+6) (AO.cells (scC L) false)=y:=
    ⟨_,(hW.upd (by omega) (by omega)).upd (by omega) (by omega),rfl⟩
   rw[hg0]
   clear hg0 hsc hqs
   have hS9:fKd L b F=mbF M:=by rw[←hLL,mbF,←hhd,←hS,fJp]
   refine fPg [1,4,116,117,118] ?_
   simp only[iB,fU,eW,↓reduceIte,Nat.reduceEqDiff]
   refine yBl 2 ?_
   refine bR (fun p:YI=> {fr:=[(1,.rp (mdA M)),(4,.op w 0),(116,.sl 3 (scC L)),(117,.i (3:Nat)),(118,.i p.k)],hp:=p.g,nx:=0,cx:=p.c}) (fun p=>p.k≤3∧fKd (L.drop p.k) p.b p.F=mbF M∧WS (fun _=>none) q0 w q0 m p.g p.q p.b p.F∧p.q<p.c∧q0≤p.c∧p.b.length≤65535) (fun p=>3-p.k) rfl ⟨⟨0,g0,q,b,F,_⟩,⟨Nat.zero_le _,hS9,h0,by simp only;omega,by simp only;omega,hlen⟩,bD rfl rfl (U3 _)⟩ ?_
   rintro⟨k2,g2,q2,b2,F2,c2⟩ ⟨hk2,hS2,hW2,hqc2,hcq2,hlen2⟩ n0
   simp only at hk2 hS2 hW2 hqc2 hcq2 hlen2⊢
   refine ySq (yRn [119,1,4,116,117,118] fun K hK=>?_)
   simp(disch:=omega) only[go_sem,↓reduceIte]
   refine hK _ (aB ?_)
   refine ySq (gLb rfl (fun h=>?_) (fun h=>?_))
   ·refine yDr ?_
    have hk3:k2<L.length:=by omega
    have hd2:=fJu L k2 hk3
    obtain⟨l,hl⟩: ∃l,L[k2]=l:=⟨_,rfl⟩
    rw[hl]at hd2
    have hlr:=hls l (hl▸List.getElem_mem hk3)
    have hln:=(hLr l (hl▸List.getElem_mem hk3)).1
    have hS3:=hS2
    rw[List.drop_eq_getElem_cons hk3,hl,fKd]at hS3
    clear h hl
    refine ySk (aB (ySq (yBl 3 (ySq (yRn [1,4,8,116,117,118] fun K hK=>?_)))))
    simp(disch:=omega) only[go_sem,↓reduceIte,hd2]
    refine hK _ (aB ?_)
    refine ySq (yRn [1,4,116,117,118,122,123,124] fun K hK=>?_)
    simp(disch:=omega) only[go_sem,↓reduceIte]
    refine hK _ (aB ?_)
    refine yBl 4 ?_
    refine bR (fun p:YI=> {fr:=[(1,.rp (mdA M)),(4,.op w 0),(116,.sl 3 (scC L)),(117,.i (3:Nat)),(118,.i k2),(122,.sl l.length (rcC l)),(123,.i l.length),(124,.i p.k)],hp:=p.g,nx:=0,cx:=p.c}) (fun p=>p.k≤l.length∧fJa (l.drop p.k) p.b p.F=fJa l b2 F2∧WS (fun _=>none) q0 w q0 m p.g p.q p.b p.F∧p.q<p.c∧q0≤p.c∧p.b.length≤65535) (fun p=>l.length-p.k) rfl ⟨⟨0,g2,q2,b2,F2,_⟩,⟨Nat.zero_le _,rfl,hW2,by simp only;omega,by simp only;omega,by simp only;omega⟩,bD rfl rfl (U3 _)⟩ ?_
    rintro⟨k3,g3,q3,b3,F3,c3⟩ ⟨hk3,hS4,hW3,hqc3,hcq3,hlen3⟩ n0
    simp only at hk3 hS4 hW3 hqc3 hcq3 hlen3⊢
    refine ySq (yRn [125,1,4,116,117,118,122,123,124] fun K hK=>?_)
    simp(disch:=omega) only[go_sem,↓reduceIte]
    refine hK _ (aB ?_)
    refine ySq (gLb rfl (fun h=>?_) (fun h=>?_))
    ·refine yDr ?_
     have hkl:k3<l.length:=by omega
     have hcl:=fIh l
     obtain⟨u,hu⟩: ∃u,l[k3]=u:=⟨_,rfl⟩
     have hdr:(rcC l).drop (5*k3)=[.sl u.nm.length (cS u.nm),.w16 u.ty,.w16 u.cl,.w32 u.ttl,.sl u.d.length (c8 u.d)]++rcC (l.drop (k3+1)):=by
      rw[fIr,List.drop_eq_getElem_cons hkl,hu];rfl
     have hdr2:(rcC l).drop (k3*5)=[.sl u.nm.length (cS u.nm),.w16 u.ty,.w16 u.cl,.w32 u.ttl,.sl u.d.length (c8 u.d)]++rcC (l.drop (k3+1)):=by rw[Nat.mul_comm];exact hdr
     obtain⟨hqm,hqd⟩:=hlr u (hu▸List.getElem_mem hkl)
     have hln2:=eYr hqm
     have hwl1:=hqm.2
     have hwl2:=fZx u.nm
     have hwl3:(eRs u.nm).length≤254:=by unfold wl at hwl1;omega
     clear hwl1 hwl2
     have hS5:=hS4
     rw[List.drop_eq_getElem_cons hkl,hu,fJa]at hS5
     have hrec:=fMp u
     rw[fLo]at hrec
     clear h
     refine ySk (aB (ySq (yBl 5 (ySq (yRn [1,4,10,116,117,118,122,123,124] fun K hK=>?_)))))
     simp(disch:=omega) only[go_sem,↓reduceIte,hdr2,List.cons_append,List.nil_append]
     refine hK _ (aB ?_)
     refine lW 10 (c3+1+2) 0 rfl (by rw[bJ,J4 rfl]) ?_
     obtain⟨g4,h4,hg4⟩: ∃y,WS (fun _=>none) q0 w q0 m y q3 b3 F3∧upd (upd g3 (c3+1+2) (AO.cells [AV.sl u.nm.length (cS u.nm),AV.w16 u.ty,AV.w16 u.cl,AV.w32 u.ttl,AV.sl u.d.length (c8 u.d)] true)) (c3+1+2) (AO.cells [AV.sl u.nm.length (cS u.nm),AV.w16 u.ty,AV.w16 u.cl,AV.w32 u.ttl,AV.sl u.d.length (c8 u.d)] false)=y:=
      ⟨_,(hW3.upd (by omega) (by omega)).upd (by omega) (by omega),rfl⟩
     rw[hg4]
     clear hg4
     refine ySq (yRg [1,4,116,117,118,122,123,124] (aH fNg aO) fun K hK=>?_)
     simp(disch:=omega) only[go_sem,↓reduceIte,fIa h4.h,J9,hrec]
     refine hK _ (aB ?_)
     refine fIe h4 (by omega) fun g5 b5 F5 eb5 eF5 h5=>?_
     have hwn:=fKj u b3 F3
     rw[←eb5]at hwn
     simp only[szR]at hwn
     have hp5:b5 <+:mbS M:=by
      have e5:b5 <+:(fJa l b2 F2).1:=by rw[←hS5,eb5];exact gH _ _ _
      have e6:(fJa l b2 F2).1 <+:(mbF M).1:=by rw[←hS3];exact gAj _ _ _
      exact(e5.trans e6).trans (gDc M)
     refine ySq (yRn [136,1,4,116,117,118,122,123,124] fun K hK=>?_)
     simp(disch:=omega) only[go_sem,↓reduceIte,h5.h.h.hw]
     refine hK _ (aB ?_)
     refine gLb rfl (fun h=>?_) (fun h=>?_)
     ·refine yDr ?_
      have ha:=hlong b5 hp5 (by omega)
      subst ha
      refine ySq (yRn [2,3] fun K hK=>?_)
      simp(disch:=omega) only[go_sem,↓reduceIte]
      refine hK _ (aB ?_)
      refine aS rfl (bN (bI (dF (bN (bN (bI (dF (bN (bI ?_)))))))))
      simp(disch:=omega) only[fHo,bV,bK,bQ,go_sem,↓reduceIte]
     refine yDr ?_
     have hle5:b5.length≤65535:=by omega
     clear h
     refine ySk (bU (aB (yRn [1,4,116,117,118,122,123,124] fun K hK=>?_)))
     simp(disch:=omega) only[go_sem,↓reduceIte]
     refine hK _ (bT ?_)
     refine⟨⟨k3+1,g5,_,b5,F5,_⟩,⟨by simp only;omega,?_,h5,by simp only;omega,by simp only;omega,by simp only;omega⟩,by simp only;omega,bD ?_ rfl (U3 _)⟩
     ·simp only
      rw[←hS5,eb5,eF5]
     simp only[Int.natCast_add,Int.natCast_one]
    refine yDr ?_
    obtain rfl:k3=l.length:=by omega
    rw[List.drop_length]at hS4
    clear h
    refine yEx 4 (aY (aZ (bE (bU (aB (yRn [1,4,116,117,118] fun K hK=>?_))))))
    simp(disch:=omega) only[go_sem,↓reduceIte]
    refine hK _ (bT ?_)
    refine⟨⟨k2+1,g3,q3,b3,F3,_⟩,⟨by simp only;omega,?_,hW3,by simp only;omega,by simp only;omega,by simp only;omega⟩,by simp only;omega,bD ?_ rfl (U3 _)⟩
    ·simp only
     rw[←hS3,←hS4,fJa]
    simp only[Int.natCast_add,Int.natCast_one]
   refine yDr ?_
   obtain rfl:k2=3:=by omega
   rw[List.drop_eq_nil_of_le (by omega),fKd]at hS2
   clear h
   refine yEx 2 (aY (aZ (bE (aB ?_))))
   obtain⟨e1,e2⟩:b2=(mbF M).1∧F2=(mbF M).2:=by rw[←hS2];exact⟨rfl,rfl⟩
   have hlb:b2.length≤65535:=by omega
   refine ySq (ySq (yRn [140,1,4] fun K hK=>?_))
   simp(disch:=omega) only[go_sem,↓reduceIte,mdA]
   refine hK _ (aB ?_)
   rcases Bool.eq_false_or_eq_true M.ed with hd|hd
   ·simp only[hd]
    refine iTd ?_
    have hrec:fIq [.v (.slice none 0 0),.w16 41#16,.w16 M.sz,.w32 (BitVec.ofInt 32 (M.rc.fdiv (2^min 4 64)) <<<24|||(if M.dn=true then 32768#32 else 0#32)),.v (.slice none 0 0)]=some (fLd M):=rfl
    have ho1:(fLd M).nm.length=0:=rfl
    have ho2:(eRs (fLd M).nm).length=0:=rfl
    have ho3:(fLd M).d.length=0:=rfl
    refine bB (fun k=>if k=13 then 0 else 2) [4] bZ (aH fKn (aH fNg aO)) rfl rfl rfl (by kernel_rfl) (fun K hK=>?_)
    simp(disch:=omega) only[go_sem,↓reduceIte,fIa hW2.h,hrec,ho1,ho2,ho3]
    refine hK _ (aB ?_)
    refine fIe hW2 (by omega) fun g5 b5 F5 eb5 eF5 h5=>?_
    have hwn:=fKj (fLd M) b2 F2
    rw[←eb5]at hwn
    simp only[szR,ho2,ho3]at hwn
    have hmb:mbS M=b5:=by rw[mbS,J4 hd,eb5,e1,e2]
    rw[hmb]at hlong hshort
    refine ySq (ySq (yRn [160,4] fun K hK=>?_))
    simp(disch:=omega) only[go_sem,↓reduceIte,h5.h.h.hw]
    refine hK _ (aB ?_)
    refine gLb rfl (fun h=>?_) (fun h=>?_)
    ·refine yDr ?_
     have ha:=hlong b5 (List.prefix_refl _) (by omega)
     subst ha
     refine ySq (yRn [2,3] fun K hK=>?_)
     simp(disch:=omega) only[go_sem,↓reduceIte]
     refine hK _ (aB ?_)
     refine aS rfl (bI ?_)
     simp(disch:=omega) only[fHo,bV,bK,bQ,go_sem,↓reduceIte]
    refine yDr ?_
    have ha:=hshort (by omega)
    subst ha
    clear h
    refine ySk (aB (ySq (yRn [2,3] fun K hK=>?_)))
    simp(disch:=omega) only[go_sem,↓reduceIte,h5.h.h.hw]
    refine hK _ (aB ?_)
    refine aS rfl ?_
    simp(disch:=omega) only[fHo,bV,bK,bQ,go_sem,↓reduceIte,h5.h.h.hq]
   simp only[hd]
   refine iFd ?_
   have hmb:mbS M=b2:=by rw[mbS,J3 (by simp[hd]),e1]
   rw[hmb]at hlong hshort
   refine ySk (aB (ySq (ySq (yRn [160,4] fun K hK=>?_))))
   simp(disch:=omega) only[go_sem,↓reduceIte,hW2.h.h.hw]
   refine hK _ (aB ?_)
   refine gLb rfl (fun h=>?_) (fun h=>?_)
   ·refine yDr ?_
    omega
   refine yDr ?_
   have ha:=hshort (by omega)
   subst ha
   clear h
   refine ySk (aB (ySq (yRn [2,3] fun K hK=>?_)))
   simp(disch:=omega) only[go_sem,↓reduceIte,hW2.h.h.hw]
   refine hK _ (aB ?_)
   refine aS rfl ?_
   simp(disch:=omega) only[fHo,bV,bK,bQ,go_sem,↓reduceIte,hW2.h.h.hq]
  have hrg:=gHh hM2 hSm hRY
  rw[J3 hRY]at hans
  subst hans
  refine ySq (ySq (yRg [13,1] (aH gGo aO) fun K hK=>?_))
  simp(disch:=omega) only[go_sem,↓reduceIte,hrg,Bool.not_false]
  refine hK _ (aB ?_)
  refine iTd (ySq (yRn [2,3] fun K hK=>?_))
  simp(disch:=omega) only[go_sem,↓reduceIte]
  refine hK _ (aB ?_)
  refine aS rfl (bI ?_)
  simp(disch:=omega) only[fHo,bV,bK,bQ,go_sem,↓reduceIte]
 cases hg
theorem gEk:bX Tryz.prog GLh 11 (.pure false byA):=⟨⟨_,Tryz.func11,rfl,rfl⟩,gIl⟩
end Go.AX

namespace Go.AX
open Go Go.Proofs
set_option maxRecDepth 8000
def smL (n:Nm):Nat:=(n.map List.length).sum
def lnP (n:Nm):Prop:=n.length≤200∧(∀l∈n,l.length≤300)∧smL n≤2000
instance (n:Nm):Decidable (lnP n):=by unfold lnP;infer_instance
theorem gEb (p:Nm) (l:List B8):smL (p++[l])=smL p+l.length:=by
 unfold smL;simp only[List.map_append,List.sum_append,List.map_cons,List.map_nil,List.sum_cons,List.sum_nil];omega
def lnG:List AV→Option AV
 |[.sl n xs]=>aK (unS xs) fun ls=>aN (ls.length=n) (some (.b (decide (lnP ls))))
 |_=>none
theorem gHu (n:Nat) (xs:List AV):lnG [.sl n xs]=aK (unS xs) fun ls=>aN (ls.length=n) (some (.b (decide (lnP ls)))):=(rfl)
attribute [go_sem] gHu
set_option maxHeartbeats 4000000 in
theorem gJz:fHn Tryz.prog GLh 23 lnG:=by
 refine zK Tryz.func23 (aT rfl) ?_
 intro args r hg
 unfold lnG at hg
 split at hg
 ·rename_i n xs
  replace hg:=aJ hg;obtain⟨ls,hl,hg⟩:=hg
  replace hg:=aP hg;obtain⟨rfl,hg⟩:=hg
  obtain rfl:=J0 hg
  have:=gT hl;subst this
  refine⟨J1 rfl,fun nx=>?_⟩
  clear hl hg
  obtain⟨ans,hans⟩: ∃x,decide (lnP ls)=x:=⟨_,rfl⟩
  have hy:lnP ls→ans=true:=fun h=>by rw[←hans];exact J5 h
  have hno: ¬lnP ls→ans=false:=fun h=>by rw[←hans];exact J6 h
  rw[hans]
  clear hans
  refine ySq (yRn [0] fun K hK=>?_)
  simp(disch:=omega) only[go_sem,↓reduceIte]
  refine hK _ (aB ?_)
  by_cases h200:ls.length≤200
  ·have d0:decide ((200:Int)<(ls.length:Int))=false:=J6 (by omega)
   refine ySq (ySq (yRn [7,0] fun K hK=>?_))
   simp(disch:=omega) only[go_sem,↓reduceIte,d0]
   refine hK _ (aB ?_)
   refine iFd (ySk (aB (ySq (yRn [0,3] fun K hK=>?_))))
   simp(disch:=omega) only[go_sem,↓reduceIte]
   refine hK _ (aB ?_)
   refine ySq (ySq (yRn [0,3,4] fun K hK=>?_))
   simp(disch:=omega) only[go_sem,↓reduceIte]
   refine hK _ (aB ?_)
   refine yBl 0 (bR (fun p:KC5=> {fr:=[(0,.sl ls.length (cS ls)),(3,.i (smL (ls.take p.k):Int)),(4,.i (p.k:Int))],hp:=fun _=>none,nx:=0,cx:=p.c}) (fun p=>p.k≤ls.length∧(∀l∈ls.take p.k,l.length≤300)∧smL (ls.take p.k)≤300*p.k) (fun p=>ls.length-p.k) rfl ⟨⟨0,_⟩,⟨Nat.zero_le _,(fun q hq=>(by cases hq)),U3 _⟩,bD rfl rfl (U3 _)⟩ ?_)
   rintro⟨k,c⟩ ⟨hk,hq,hs⟩ n0
   simp only at hk hq hs⊢
   refine ySq (ySq (yRn [11,0,3,4] fun K hK=>?_))
   simp(disch:=omega) only[go_sem,↓reduceIte]
   refine hK _ (aB ?_)
   refine gLb rfl (fun h=>?_) (fun h=>?_)
   ·refine yDr ?_
    have hkl:k<ls.length:=by omega
    have hsn:=gAl ls hkl
    obtain⟨l,hl⟩: ∃l,ls.getD k []=l:=⟨_,rfl⟩
    have hgl:ls[k]=l:=by rw[←hl,List.getD_eq_getElem?_getD,List.getElem?_eq_getElem hkl];rfl
    rw[hl]at hsn
    have hw:smL (ls.take (k+1))=smL (ls.take k)+l.length:=by rw[hsn,gEb]
    clear h
    refine ySk (aB (ySq (yBl 1 (ySq (ySq ?_)))))
    by_cases h300:l.length≤300
    ·have d1:decide ((300:Int)<(l.length:Int))=false:=J6 (by omega)
     refine yRn [19,0,3,4] fun K hK=>?_
     simp(disch:=omega) only[go_sem,↓reduceIte,hl,d1]
     refine hK _ (aB ?_)
     refine iFd (ySk (aB (yRn [0,3,4] fun K hK=>?_)))
     simp(disch:=omega) only[go_sem,↓reduceIte,hl]
     refine hK _ (bU (aB ?_))
     refine yRn [0,3,4] fun K hK=>?_
     simp(disch:=omega) only[go_sem,↓reduceIte]
     refine hK _ (bT ?_)
     refine⟨⟨k+1,_⟩,⟨by simp only;omega,fZn hkl hq (by rw[hgl];exact h300),by simp only[hw];omega⟩,by simp only;omega,bD ?_ rfl (U3 _)⟩
     simp only[hw,Int.natCast_add,Int.natCast_one]
    have ha:=hno fun h=>h300 (h.2.1 l (hgl▸List.getElem_mem hkl))
    subst ha
    have d1:decide ((300:Int)<(l.length:Int))=true:=J5 (by omega)
    refine yRn [19,0,3,4] fun K hK=>?_
    simp(disch:=omega) only[go_sem,↓reduceIte,hl,d1]
    refine hK _ (aB ?_)
    refine iTd (ySq (yRn [2] fun K hK=>?_))
    simp(disch:=omega) only[go_sem,↓reduceIte]
    refine hK _ (aB ?_)
    refine aS rfl (bI (bN (bI (dF (bN (bI ?_))))))
    simp(disch:=omega) only[fHo,bV,bK,bQ,go_sem,↓reduceIte]
   refine yDr ?_
   obtain rfl:k=ls.length:=by omega
   rw[List.take_length]at hq hs⊢
   clear h
   refine yEx 0 (aY (aZ (bE (aB ?_))))
   by_cases h2000:smL ls≤2000
   ·have d2:decide ((smL ls:Int)≤2000)=true:=J5 (by omega)
    have ha:=hy ⟨h200,hq,h2000⟩
    subst ha
    refine ySq (yRn [2] fun K hK=>?_)
    simp(disch:=omega) only[go_sem,↓reduceIte,d2]
    refine hK _ (aB ?_)
    refine aS rfl ?_
    simp(disch:=omega) only[fHo,bV,bK,bQ,go_sem,↓reduceIte]
   have d2:decide ((smL ls:Int)≤2000)=false:=J6 (by omega)
   have ha:=hno fun h=>h2000 h.2.2
   subst ha
   refine ySq (yRn [2] fun K hK=>?_)
   simp(disch:=omega) only[go_sem,↓reduceIte,d2]
   refine hK _ (aB ?_)
   refine aS rfl ?_
   simp(disch:=omega) only[fHo,bV,bK,bQ,go_sem,↓reduceIte]
  have d0:decide ((200:Int)<(ls.length:Int))=true:=J5 (by omega)
  have ha:=hno fun h=>h200 h.1
  subst ha
  refine ySq (ySq (yRn [7,0] fun K hK=>?_))
  simp(disch:=omega) only[go_sem,↓reduceIte,d0]
  refine hK _ (aB ?_)
  refine iTd (ySq (yRn [2] fun K hK=>?_))
  simp(disch:=omega) only[go_sem,↓reduceIte]
  refine hK _ (aB ?_)
  refine aS rfl (bI ?_)
  simp(disch:=omega) only[fHo,bV,bK,bQ,go_sem,↓reduceIte]
 cases hg
theorem gBu:bX Tryz.prog GLh 23 (.pure true lnG):=⟨⟨_,Tryz.func23,rfl,rfl⟩,gJz⟩
def rlP (c:RC):Prop:=lnP c.nm∧c.d.length≤2000
instance (c:RC):Decidable (rlP c):=by unfold rlP;infer_instance
def lgP (l:List RC) (k:Nat):Prop:=l.length≤k∧∀c∈l,rlP c
instance (l:List RC) (k:Nat):Decidable (lgP l k):=by unfold lgP;infer_instance
def lgG:List AV→Option AV
 |[.sl n xs,.i k]=>aK (unR xs) fun l=>aN (l.length=n∧0≤k∧k≤1000) (some (.b (decide (lgP l k.toNat))))
 |_=>none
theorem gHv (n:Nat) (xs:List AV) (k:Int):lgG [.sl n xs,.i k]=aK (unR xs) fun l=>aN (l.length=n∧0≤k∧k≤1000) (some (.b (decide (lgP l k.toNat)))):=(rfl)
attribute [go_sem] gHv
set_option maxHeartbeats 4000000 in
theorem gKd:fHn Tryz.prog GLh 24 lgG:=by
 refine zK Tryz.func24 (aT rfl) ?_
 intro args r hg
 unfold lgG at hg
 split at hg
 ·rename_i n xs k0
  replace hg:=aJ hg;obtain⟨l,hl,hg⟩:=hg
  replace hg:=aP hg;obtain⟨⟨rfl,hk0,hk1⟩,hg⟩:=hg
  obtain rfl:=J0 hg
  have:=fJl hl;subst this
  obtain⟨KM,rfl⟩:=Int.eq_ofNat_of_zero_le hk0
  simp only[U2]at*
  refine⟨J1 rfl,fun nx=>?_⟩
  clear hl hg
  obtain⟨ans,hans⟩: ∃x,decide (lgP l KM)=x:=⟨_,rfl⟩
  have hy:lgP l KM→ans=true:=fun h=>by rw[←hans];exact J5 h
  have hno: ¬lgP l KM→ans=false:=fun h=>by rw[←hans];exact J6 h
  rw[hans]
  clear hans
  have hcl:=fIh l
  refine ySq (yRn [0,1] fun K hK=>?_)
  simp(disch:=omega) only[go_sem,↓reduceIte]
  refine hK _ (aB ?_)
  by_cases hlK:l.length≤KM
  ·have d0:decide ((KM:Int)<(l.length:Int))=false:=J6 (by omega)
   refine ySq (ySq (yRn [9,0] fun K hK=>?_))
   simp(disch:=omega) only[go_sem,↓reduceIte,d0]
   refine hK _ (aB ?_)
   refine iFd (ySk (aB (ySq (ySq (yRn [0,5] fun K hK=>?_)))))
   simp(disch:=omega) only[go_sem,↓reduceIte]
   refine hK _ (aB ?_)
   refine yBl 0 (bR (fun p:KC5=> {fr:=[(0,.sl l.length (rcC l)),(5,.i (p.k:Int))],hp:=fun _=>none,nx:=0,cx:=p.c}) (fun p=>p.k≤l.length∧∀c∈l.take p.k,rlP c) (fun p=>l.length-p.k) rfl ⟨⟨0,_⟩,⟨Nat.zero_le _,fun q hq=>by cases hq⟩,bD rfl rfl (U3 _)⟩ ?_)
   rintro⟨k,c⟩ ⟨hk,hq⟩ n0
   simp only at hk hq⊢
   refine ySq (ySq (yRn [13,0,5] fun K hK=>?_))
   simp(disch:=omega) only[go_sem,↓reduceIte]
   refine hK _ (aB ?_)
   refine gLb rfl (fun h=>?_) (fun h=>?_)
   ·refine yDr ?_
    have hkl:k<l.length:=by omega
    obtain⟨u,hu⟩: ∃u,l[k]=u:=⟨_,rfl⟩
    have hum:u∈l:=hu▸List.getElem_mem hkl
    have hdr:(rcC l).drop (5*k)=[.sl u.nm.length (cS u.nm),.w16 u.ty,.w16 u.cl,.w32 u.ttl,.sl u.d.length (c8 u.d)]++rcC (l.drop (k+1)):=by
     rw[fIr,List.drop_eq_getElem_cons hkl,hu];rfl
    have hdr2:(rcC l).drop (k*5)=[.sl u.nm.length (cS u.nm),.w16 u.ty,.w16 u.cl,.w32 u.ttl,.sl u.d.length (c8 u.d)]++rcC (l.drop (k+1)):=by rw[Nat.mul_comm];exact hdr
    have hdr4:(rcC l).drop (k*5+4)=.sl u.d.length (c8 u.d)::rcC (l.drop (k+1)):=by rw[←List.drop_drop,hdr2];rfl
    clear h
    refine ySk (aB (ySq (yBl 1 (ySq ?_))))
    rcases(by by_cases h1:lnP u.nm;by_cases h2:u.d.length≤2000;exact .inl ⟨h1,h2⟩;exact .inr (.inl ⟨h1,h2⟩);exact .inr (.inr h1):(lnP u.nm∧u.d.length≤2000)∨(lnP u.nm∧¬u.d.length≤2000)∨¬lnP u.nm)with⟨h1,h2⟩|⟨h1,h2⟩|h1
    ·have d1:decide (lnP u.nm)=true:=J5 h1
     have d2:decide ((2000:Int)<(u.d.length:Int))=false:=J6 (by omega)
     refine yRg [31,0,5] (aH gBu aO) fun K hK=>?_
     simp(disch:=omega) only[go_sem,↓reduceIte,hdr2,d1,d2,Bool.not_true,List.cons_append,List.nil_append]
     refine hK _ (aB ?_)
     refine iFd (ySk (bU (aB (yRn [0,5] fun K hK=>?_))))
     simp(disch:=omega) only[go_sem,↓reduceIte]
     refine hK _ (bT ?_)
     refine⟨⟨k+1,_⟩,⟨by simp only;omega,fZn hkl hq (by rw[hu];exact⟨h1,h2⟩)⟩,by simp only;omega,bD ?_ rfl (U3 _)⟩
     simp only[Int.natCast_add,Int.natCast_one]
    ·have ha:=hno fun h=>h2 (h.2 u hum).2
     subst ha
     have d1:decide (lnP u.nm)=true:=J5 h1
     have d2:decide ((2000:Int)<(u.d.length:Int))=true:=J5 (by omega)
     refine yRg [31,0,5] (aH gBu aO) fun K hK=>?_
     simp(disch:=omega) only[go_sem,↓reduceIte,hdr2,d1,d2,Bool.not_true,List.cons_append,List.nil_append]
     refine hK _ (aB ?_)
     refine iTd (ySq (yRn [4] fun K hK=>?_))
     simp(disch:=omega) only[go_sem,↓reduceIte]
     refine hK _ (aB ?_)
     refine aS rfl (bN (bI (dF (bN (bI ?_)))))
     simp(disch:=omega) only[fHo,bV,bK,bQ,go_sem,↓reduceIte]
    have ha:=hno fun h=>h1 (h.2 u hum).1
    subst ha
    have d1:decide (lnP u.nm)=false:=J6 h1
    refine yRg [31,0,5] (aH gBu aO) fun K hK=>?_
    simp(disch:=omega) only[go_sem,↓reduceIte,hdr2,d1,Bool.not_false,List.cons_append,List.nil_append]
    refine hK _ (aB ?_)
    refine iTd (ySq (yRn [4] fun K hK=>?_))
    simp(disch:=omega) only[go_sem,↓reduceIte]
    refine hK _ (aB ?_)
    refine aS rfl (bN (bI (dF (bN (bI ?_)))))
    simp(disch:=omega) only[fHo,bV,bK,bQ,go_sem,↓reduceIte]
   refine yDr ?_
   obtain rfl:k=l.length:=by omega
   rw[List.take_length]at hq
   have ha:=hy ⟨hlK,hq⟩
   subst ha
   clear h
   refine yEx 0 (aY (aZ (bE (aB (ySq (yRn [4] fun K hK=>?_))))))
   simp(disch:=omega) only[go_sem,↓reduceIte]
   refine hK _ (aB ?_)
   refine aS rfl ?_
   simp(disch:=omega) only[fHo,bV,bK,bQ,go_sem,↓reduceIte]
  have d0:decide ((KM:Int)<(l.length:Int))=true:=J5 (by omega)
  have ha:=hno fun h=>hlK h.1
  subst ha
  refine ySq (ySq (yRn [9,0] fun K hK=>?_))
  simp(disch:=omega) only[go_sem,↓reduceIte,d0]
  refine hK _ (aB ?_)
  refine iTd (ySq (yRn [4] fun K hK=>?_))
  simp(disch:=omega) only[go_sem,↓reduceIte]
  refine hK _ (aB ?_)
  refine aS rfl (bI ?_)
  simp(disch:=omega) only[fHo,bV,bK,bQ,go_sem,↓reduceIte]
 cases hg
theorem gCy:bX Tryz.prog GLh 24 (.pure true lgG):=⟨⟨_,Tryz.func24,rfl,rfl⟩,gKd⟩
structure LiP (M:MD):Prop where
 nq:M.qs.length≤20
 qs: ∀q∈M.qs,lnP q.n
 an:lgP M.an 20
 au:lgP M.au 20
 ad:lgP M.ad 20
noncomputable instance (M:MD):Decidable (LiP M):=Classical.propDecidable _
noncomputable def liG:List AV→Option AV
 |[.agg xs]=>aK (fJd xs) fun M=>some (.b (decide (LiP M)))
 |_=>none
theorem gKb {xs:List AV} {M:MD} (h:fJd xs=some M) (h3:LiP M):liG [.agg xs]=some (.b true):=by
 show aK (fJd xs) _=_
 rw[h,aX,J5 h3]
theorem gKc {xs:List AV} {M:MD} (h:fJd xs=some M) (h3: ¬LiP M):liG [.agg xs]=some (.b false):=by
 show aK (fJd xs) _=_
 rw[h,aX,J6 h3]
set_option maxHeartbeats 4000000 in
theorem gKa:fHn Tryz.prog GLh 10 liG:=by
 refine zK Tryz.func10 (aT rfl) ?_
 intro args r hg
 unfold liG at hg
 split at hg
 ·rename_i xs
  replace hg:=aJ hg;obtain⟨M,hM,hg⟩:=hg
  obtain rfl:=J0 hg
  have:=fJz hM;subst this
  refine⟨J1 rfl,fun nx=>?_⟩
  obtain⟨ans,hans⟩: ∃x,decide (LiP M)=x:=⟨_,rfl⟩
  have hy:LiP M→ans=true:=fun h=>by rw[←hans];exact J5 h
  have hno: ¬LiP M→ans=false:=fun h=>by rw[←hans];exact J6 h
  rw[hans]
  clear hg hM hans
  have hyy: ∀(h1:M.qs.length≤20) (h2: ∀q∈M.qs,lnP q.n) (h3:lgP M.an 20) (h4:lgP M.au 20) (h5:lgP M.ad 20),ans=true:=fun h1 h2 h3 h4 h5=>hy ⟨h1,h2,h3,h4,h5⟩
  have hn1: ¬M.qs.length≤20→ans=false:=fun h=>hno fun h2=>h h2.nq
  have hn2: ∀q∈M.qs,¬lnP q.n→ans=false:=fun q hq h=>hno fun h2=>h (h2.qs q hq)
  have hn3: ¬lgP M.an 20→ans=false:=fun h=>hno fun h2=>h h2.an
  have hn4: ¬lgP M.au 20→ans=false:=fun h=>hno fun h2=>h h2.au
  have hn5: ¬lgP M.ad 20→ans=false:=fun h=>hno fun h2=>h h2.ad
  clear hy hno
  obtain⟨id,rp,op,aa,tc,rd,ra,rc,qs,an,au,ad,ed,sz,dn⟩:=M
  simp only at hyy hn1 hn2 hn3 hn4 hn5⊢
  refine ySq (yRn [1] fun K hK=>?_)
  simp(disch:=omega) only[go_sem,↓reduceIte,mdA]
  refine hK _ (aB ?_)
  refine lW 1 nx 0 rfl (by simp(disch:=omega) only[aV,↓reduceIte];rfl) ?_
  refine yK (hp':=fun _=>none) (fun _ _ h=>by cases h) ?_
  by_cases h20:qs.length≤20
  ·have d0:decide ((20:Int)<(qs.length:Int))=false:=J6 (by omega)
   refine ySq (ySq (yRn [7,1] fun K hK=>?_))
   simp(disch:=omega) only[go_sem,↓reduceIte,d0]
   refine hK _ (aB ?_)
   refine iFd (ySk (aB (ySq (ySq (yRn [1,3] fun K hK=>?_)))))
   simp(disch:=omega) only[go_sem,↓reduceIte]
   refine hK _ (aB ?_)
   refine yBl 0 (bR (fun p:LCI=> {fr:=[(1,.rp [AV.w16 id,AV.b rp,AV.i op,AV.b aa,AV.b tc,AV.b rd,AV.b ra,AV.i rc,AV.sl qs.length (qsC qs),AV.sl an.length (rcC an),AV.sl au.length (rcC au),AV.sl ad.length (rcC ad),AV.b ed,AV.w16 sz,AV.b dn]),(3,.i p.k)],hp:=fun _=>none,nx:=0,cx:=p.c}) (fun p=>p.k≤qs.length∧∀q∈qs.take p.k,lnP q.n) (fun p=>qs.length-p.k) rfl ⟨⟨0,_⟩,⟨Nat.zero_le _,fun q hq=>by cases hq⟩,bD rfl rfl (U3 _)⟩ ?_)
   rintro⟨k,c⟩ ⟨hk,hqk⟩ n0
   simp only at hk hqk⊢
   refine ySq (ySq (yRn [12,1,3] fun K hK=>?_))
   simp(disch:=omega) only[go_sem,↓reduceIte]
   refine hK _ (aB ?_)
   refine gLb rfl (fun h=>?_) (fun h=>?_)
   ·refine yDr ?_
    have hkl:k<qs.length:=by omega
    have hcl:=fIi qs
    obtain⟨q,hq⟩: ∃q,qs[k]=q:=⟨_,rfl⟩
    have hdr:(qsC qs).drop (3*k)=[.sl q.n.length (cS q.n),.w16 q.t,.w16 q.c]++qsC (qs.drop (k+1)):=by
     rw[fIs,List.drop_eq_getElem_cons hkl,hq];rfl
    have hdr2:(qsC qs).drop (k*3)=[.sl q.n.length (cS q.n),.w16 q.t,.w16 q.c]++qsC (qs.drop (k+1)):=by rw[Nat.mul_comm];exact hdr
    have hqm:q∈qs:=hq▸List.getElem_mem hkl
    clear h
    refine ySk (aB (ySq (yBl 1 (ySq ?_))))
    by_cases hok:lnP q.n
    ·have d1:decide (lnP q.n)=true:=J5 hok
     refine yRg [22,1,3] (aH gBu aO) fun K hK=>?_
     simp(disch:=omega) only[go_sem,↓reduceIte,hdr2,d1,Bool.not_true,List.cons_append,List.nil_append]
     refine hK _ (aB ?_)
     refine iFd (ySk (bU (aB (yRn [1,3] fun K hK=>?_))))
     simp(disch:=omega) only[go_sem,↓reduceIte]
     refine hK _ (bT ?_)
     refine⟨⟨k+1,_⟩,⟨by simp only;omega,fZn hkl hqk (by rw[hq];exact hok)⟩,by simp only;omega,⟨fun _=> .inr ?_,fun j o hj=>(by cases hj),U3 _⟩⟩
     simp only[Int.natCast_add,Int.natCast_one]
    have ha:=hn2 q hqm hok
    subst ha
    have d1:decide (lnP q.n)=false:=J6 hok
    refine yRg [22,1,3] (aH gBu aO) fun K hK=>?_
    simp(disch:=omega) only[go_sem,↓reduceIte,hdr2,d1,Bool.not_false,List.cons_append,List.nil_append]
    refine hK _ (aB ?_)
    refine iTd (ySq (yRn [2] fun K hK=>?_))
    simp(disch:=omega) only[go_sem,↓reduceIte]
    refine hK _ (aB ?_)
    refine aS rfl (bN (bI (dF (bN (bI ?_)))))
    simp(disch:=omega) only[fHo,bV,bK,bQ,go_sem,↓reduceIte]
   refine yDr ?_
   obtain rfl:k=qs.length:=by omega
   clear h
   rw[List.take_length]at hqk
   refine yEx 0 (aY (aZ (bE (aB ?_))))
   rcases(by by_cases h1:lgP an 20;by_cases h2:lgP au 20;by_cases h3:lgP ad 20;exact .inl ⟨h1,h2,h3⟩;exact .inr (.inl ⟨h1,h2,h3⟩);exact .inr (.inr (.inl ⟨h1,h2⟩));exact .inr (.inr (.inr h1)):(lgP an 20∧lgP au 20∧lgP ad 20)∨(lgP an 20∧lgP au 20∧¬lgP ad 20)∨(lgP an 20∧¬lgP au 20)∨¬lgP an 20)with⟨h1,h2,h3⟩|⟨h1,h2,h3⟩|⟨h1,h2⟩|h1
   ·have ha:=hyy h20 hqk h1 h2 h3
    subst ha
    refine ySq (yRg [2] (aH gCy aO) fun K hK=>?_)
    simp(disch:=omega) only[go_sem,↓reduceIte,fNa,J5 h1,J5 h2,J5 h3]
    refine hK _ (aB ?_)
    refine aS rfl ?_
    simp(disch:=omega) only[fHo,bV,bK,bQ,go_sem,↓reduceIte]
   ·have ha:=hn5 h3
    subst ha
    refine ySq (yRg [2] (aH gCy aO) fun K hK=>?_)
    simp(disch:=omega) only[go_sem,↓reduceIte,fNa,J5 h1,J5 h2,J6 h3]
    refine hK _ (aB ?_)
    refine aS rfl ?_
    simp(disch:=omega) only[fHo,bV,bK,bQ,go_sem,↓reduceIte]
   ·have ha:=hn4 h2
    subst ha
    refine ySq (yRg [2] (aH gCy aO) fun K hK=>?_)
    simp(disch:=omega) only[go_sem,↓reduceIte,fNa,J5 h1,J6 h2]
    refine hK _ (aB ?_)
    refine aS rfl ?_
    simp(disch:=omega) only[fHo,bV,bK,bQ,go_sem,↓reduceIte]
   have ha:=hn3 h1
   subst ha
   refine ySq (yRg [2] (aH gCy aO) fun K hK=>?_)
   simp(disch:=omega) only[go_sem,↓reduceIte,fNa,J6 h1]
   refine hK _ (aB ?_)
   refine aS rfl ?_
   simp(disch:=omega) only[fHo,bV,bK,bQ,go_sem,↓reduceIte]
  have ha:=hn1 h20
  subst ha
  have d0:decide ((20:Int)<(qs.length:Int))=true:=J5 (by omega)
  refine ySq (ySq (yRn [7,1] fun K hK=>?_))
  simp(disch:=omega) only[go_sem,↓reduceIte,d0]
  refine hK _ (aB ?_)
  refine iTd (ySq (yRn [2] fun K hK=>?_))
  simp(disch:=omega) only[go_sem,↓reduceIte]
  refine hK _ (aB ?_)
  refine aS rfl (bI ?_)
  simp(disch:=omega) only[fHo,bV,bK,bQ,go_sem,↓reduceIte]
 cases hg
theorem gGp:bX Tryz.prog GLh 10 (.pure true liG):=⟨⟨_,Tryz.func10,rfl,rfl⟩,gKa⟩
end Go.AX

namespace Go.AX.D5
open Go Go.Proofs
theorem gFv (f:Nat) (last:Int) (R:List B8) (h:2≤R.length):opR (f+1) last R=if last<((R.getD 0 0#8).toNat:Int)∧1≤(R.getD 1 0#8).toNat∧(R.getD 1 0#8).toNat≤32∧(R.getD 1 0#8).toNat≤R.length-2∧R.getD (1+(R.getD 1 0#8).toNat) 0#8≠0#8
  then(opR f ((R.getD 0 0#8).toNat:Int) (R.drop (2+(R.getD 1 0#8).toNat))).map (rR (R.getD 0 0#8).toNat ((R.drop 2).take (R.getD 1 0#8).toNat)++ ·)else none:=by
 conv=>lhs;rw[eTz R h]
 simp only[opR,List.length_drop,List.drop_drop]
 by_cases h1:1≤(R.getD 1 0#8).toNat
 ·have e:(R.drop 2).getD ((R.getD 1 0#8).toNat-1) 0#8=R.getD (1+(R.getD 1 0#8).toNat) 0#8:=by rw[eTh];congr 1;omega
  rw[e]
  split
  ·cases opR f ((R.getD 0 0#8).toNat:Int) (R.drop (2+(R.getD 1 0#8).toNat))<;>rfl
  rfl
 rw[J3 (fun hh=>h1 hh.2.1),J3 (fun hh=>h1 hh.2.1)]
theorem gDk (f:Nat) (last:Int) (R:List B8) (h:0<R.length) (h2:R.length<2):opR (f+1) last R=none:=by
 match R,h,h2 with
 |[a],_,_=>rfl
theorem gDx (w k j:Nat):BitVec.ofInt 16 ((w:Int)*256+(k:Int)*8+(j:Int))=BitVec.ofNat 16 (w*256+(8*k+j)):=by
 have e:(w:Int)*256+(k:Int)*8+(j:Int)=((w*256+(8*k+j):Nat):Int):=by omega
 rw[e,BitVec.ofInt_natCast]
structure SLF where
 i:Nat
 f:Nat
 last:Int
 id:Nat
 out:List T16
 c:Nat
set_option maxHeartbeats 8000000 in
theorem gFh:fHn Tryz.prog GLh 62 dFi:=by
 refine zK Tryz.func62 (aT rfl) ?_
 intro args r hg
 unfold dFi at hg
 split at hg
 ·rename_i n xs
  replace hg:=aJ hg;obtain⟨b,hb,hg⟩:=hg
  replace hg:=aP hg;obtain⟨⟨hn,hbig⟩,hg⟩:=hg
  obtain rfl:=J0 hg
  have:=iX _ hb;subst this
  refine⟨J1 rfl,fun nx=>?_⟩
  clear hb hg
  subst hn
  obtain⟨ans,hans⟩: ∃a,opR (b.length+1) (-1) b=a:=⟨_,rfl⟩
  rw[hans]
  refine ySq (yRn [0] fun K hK=>?_)
  simp(disch:=omega) only[go_sem,↓reduceIte]
  refine hK _ (aB ?_)
  refine ySq (yRn [0,4] fun K hK=>?_)
  simp(disch:=omega) only[go_sem,↓reduceIte]
  refine hK _ (aB ?_)
  refine ySq (yRn [0,4,5] fun K hK=>?_)
  simp(disch:=omega) only[go_sem,↓reduceIte]
  refine hK _ (aB ?_)
  refine ySq (ySq (yRn [0,4,5,6] fun K hK=>?_))
  simp(disch:=omega) only[go_sem,↓reduceIte]
  refine hK _ (aB ?_)
  refine iE 4 1 rfl (fPg [0,4,5,6] ?_)
  simp only[iB,fU,eW,↓reduceIte,Nat.reduceEqDiff]
  refine yBl 0 ?_
  refine bR (fun p:SLF=> {fr:=[(0,.sl b.length (c8 b)),(4,.os p.id 0 p.out.length 1 true),(5,.i p.last),(6,.i p.i)],hp:=upd (fun _=>none) p.id (.cells (c16 p.out) true),nx:=0,cx:=p.c}) (fun p=>p.i≤b.length∧b.length-p.i<p.f∧ans=(opR p.f p.last (b.drop p.i)).map (p.out++ ·)∧p.out.length≤8*p.i∧p.id<p.c) (fun p=>b.length-p.i) rfl ⟨⟨0,b.length+1,-1,_,[],_⟩,⟨Nat.zero_le _,by simp only;omega,by simp[←hans],Nat.zero_le _,by simp only;omega⟩,bD rfl rfl (U3 _)⟩ ?_
  rintro⟨i,f,last,id,out,c⟩ ⟨hi,hf,hop,hol,hid⟩ n0
  simp only at hi hf hop hol hid⊢
  refine ySq (ySq (yRn [14,0,4,5,6] fun K hK=>?_))
  simp(disch:=omega) only[go_sem,↓reduceIte]
  refine hK _ (aB ?_)
  refine gLb rfl (fun h=>?_) (fun h=>?_)
  ·refine yDr ?_
   have hib:i<b.length:=by omega
   obtain⟨R,hR⟩: ∃R,b.drop i=R:=⟨_,rfl⟩
   have hRl:R.length=b.length-i:=by rw[←hR,List.length_drop]
   obtain⟨g,rfl⟩: ∃g,f=g+1:=⟨f-1,by omega⟩
   rw[hR]at hop
   refine ySk (aB (yBl 1 (ySq (ySq (yRn [19,0,4,5,6] fun K hK=>?_)))))
   simp(disch:=omega) only[go_sem,↓reduceIte]
   refine hK _ (aB ?_)
   refine gLb rfl (fun h=>?_) (fun h=>?_)
   ·refine yDr ?_
    rw[gDk g last R (by omega) (by omega)]at hop
    refine ySq (yRn [2,3] fun K hK=>?_)
    simp(disch:=omega) only[go_sem,↓reduceIte]
    refine hK _ (aB ?_)
    refine aS rfl (bI (bN (dF (bN (bI ?_)))))
    simp(disch:=omega) only[fHo,bV,bK,bQ,go_sem,↓reduceIte,hop,Option.map_none]
   refine yDr ?_
   have hR2:2≤R.length:=by omega
   rw[gFv g last R hR2]at hop
   have hgd: ∀k,b.getD (i+k) 0#8=R.getD k 0#8:=fun k=>by rw[←hR,eTh]
   have hg0:=hgd 0
   rw[Nat.add_zero]at hg0
   have hg1:=hgd 1
   obtain⟨w,hw⟩: ∃w,R.getD 0 0#8=w:=⟨_,rfl⟩
   obtain⟨z,hz⟩: ∃z,R.getD 1 0#8=z:=⟨_,rfl⟩
   rw[hw]at hg0
   rw[hz]at hg1
   rw[hw,hz]at hop
   have ei1:((i:Int)+1).toNat=i+1:=by omega
   refine ySk (aB (ySq (bB (Γ:=aL) (fun _=>2) [0,4,5,6,7,8] bZ (aD _ _) rfl rfl rfl (by kernel_rfl) (fun K hK=>?_))))
   simp(disch:=omega) only[go_sem,↓reduceIte,ei1,hg0,hg1]
   refine hK _ (aB ?_)
   by_cases q1:(w.toNat:Int)≤last
   ·have d1:decide ((w.toNat:Int)≤last)=true:=J5 q1
    rw[J3 (fun hh=>by omega)]at hop
    refine ySq (ySq (yRn [60,0,4,6,7,8] fun K hK=>?_))
    simp(disch:=omega) only[go_sem,↓reduceIte,d1]
    refine hK _ (aB ?_)
    refine iTd (ySq (yRn [2,3] fun K hK=>?_))
    simp(disch:=omega) only[go_sem,↓reduceIte]
    refine hK _ (aB ?_)
    refine aS rfl (bI (bN (dF (bN (bI ?_)))))
    simp(disch:=omega) only[fHo,bV,bK,bQ,go_sem,↓reduceIte,hop,Option.map_none]
   have d1:decide ((w.toNat:Int)≤last)=false:=J6 q1
   by_cases q2:(z.toNat:Int)<1
   ·have d2:decide ((z.toNat:Int)<1)=true:=J5 q2
    rw[J3 (fun hh=>by omega)]at hop
    refine ySq (ySq (yRn [60,0,4,6,7,8] fun K hK=>?_))
    simp(disch:=omega) only[go_sem,↓reduceIte,d1,d2]
    refine hK _ (aB ?_)
    refine iTd (ySq (yRn [2,3] fun K hK=>?_))
    simp(disch:=omega) only[go_sem,↓reduceIte]
    refine hK _ (aB ?_)
    refine aS rfl (bI (bN (dF (bN (bI ?_)))))
    simp(disch:=omega) only[fHo,bV,bK,bQ,go_sem,↓reduceIte,hop,Option.map_none]
   have d2:decide ((z.toNat:Int)<1)=false:=J6 q2
   by_cases q3:32<(z.toNat:Int)
   ·have d3:decide (32<(z.toNat:Int))=true:=J5 q3
    rw[J3 (fun hh=>by omega)]at hop
    refine ySq (ySq (yRn [60,0,4,6,7,8] fun K hK=>?_))
    simp(disch:=omega) only[go_sem,↓reduceIte,d1,d2,d3]
    refine hK _ (aB ?_)
    refine iTd (ySq (yRn [2,3] fun K hK=>?_))
    simp(disch:=omega) only[go_sem,↓reduceIte]
    refine hK _ (aB ?_)
    refine aS rfl (bI (bN (dF (bN (bI ?_)))))
    simp(disch:=omega) only[fHo,bV,bK,bQ,go_sem,↓reduceIte,hop,Option.map_none]
   have d3:decide (32<(z.toNat:Int))=false:=J6 q3
   by_cases q4:(b.length:Int)<(i:Int)+2+(z.toNat:Int)
   ·have d4:decide ((b.length:Int)<(i:Int)+2+(z.toNat:Int))=true:=J5 q4
    rw[J3 (fun hh=>by omega)]at hop
    refine ySq (ySq (yRn [60,0,4,6,7,8] fun K hK=>?_))
    simp(disch:=omega) only[go_sem,↓reduceIte,d1,d2,d3,d4]
    refine hK _ (aB ?_)
    refine iTd (ySq (yRn [2,3] fun K hK=>?_))
    simp(disch:=omega) only[go_sem,↓reduceIte]
    refine hK _ (aB ?_)
    refine aS rfl (bI (bN (dF (bN (bI ?_)))))
    simp(disch:=omega) only[fHo,bV,bK,bQ,go_sem,↓reduceIte,hop,Option.map_none]
   have d4:decide ((b.length:Int)<(i:Int)+2+(z.toNat:Int))=false:=J6 q4
   have ei2:((i:Int)+1+(z.toNat:Int)).toNat=i+1+z.toNat:=by omega
   by_cases q5:b.getD (i+1+z.toNat) 0#8=0#8
   ·have d5:decide (b.getD (i+1+z.toNat) 0#8=0#8)=true:=J5 q5
    rw[J3 (fun hh=>by have h5:=hgd (1+z.toNat);rw[←Nat.add_assoc,q5]at h5;exact hh.2.2.2.2 h5.symm)]at hop
    refine ySq (ySq (yRn [60,0,4,6,7,8] fun K hK=>?_))
    simp(disch:=omega) only[go_sem,↓reduceIte,d1,d2,d3,d4,d5,ei2]
    refine hK _ (aB ?_)
    refine iTd (ySq (yRn [2,3] fun K hK=>?_))
    simp(disch:=omega) only[go_sem,↓reduceIte]
    refine hK _ (aB ?_)
    refine aS rfl (bI (bN (dF (bN (bI ?_)))))
    simp(disch:=omega) only[fHo,bV,bK,bQ,go_sem,↓reduceIte,hop,Option.map_none]
   have d5:decide (b.getD (i+1+z.toNat) 0#8=0#8)=false:=J6 q5
   have q6:R.getD (1+z.toNat) 0#8≠0#8:=by rw[←hgd,←Nat.add_assoc];exact q5
   rw[J4 ⟨by omega,by omega,by omega,by omega,q6⟩]at hop
   refine ySq (ySq (yRn [60,0,4,6,7,8] fun K hK=>?_))
   simp(disch:=omega) only[go_sem,↓reduceIte,d1,d2,d3,d4,d5,ei2]
   refine hK _ (aB ?_)
   refine iFd (ySk (aB (ySq (ySq (yRn [0,4,6,7,8,9] fun K hK=>?_)))))
   simp(disch:=omega) only[go_sem,↓reduceIte]
   refine hK _ (aB ?_)
   obtain⟨bs,hbs⟩: ∃bs,(R.drop 2).take z.toNat=bs:=⟨_,rfl⟩
   have hbl:bs.length=z.toNat:=by rw[←hbs,List.length_take,List.length_drop];omega
   have hbd: ∀k,k<z.toNat→b.getD (i+2+k) 0#8=bs.getD k 0#8:=fun k hk=>by rw[←hbs,eSb _ _ _ hk,eTh,Nat.add_assoc,hgd]
   rw[hbs]at hop
   refine yBl 2 ?_
   refine bR (fun p:KOC=> {fr:=[(0,.sl b.length (c8 b)),(4,.os p.id 0 (out++eLg w.toNat bs (8*p.k)).length 1 true),(6,.i i),(7,.i w.toNat),(8,.i z.toNat),(9,.i p.k)],hp:=upd (fun _=>none) p.id (.cells (c16 (out++eLg w.toNat bs (8*p.k))) true),nx:=0,cx:=p.c}) (fun p=>p.k≤z.toNat∧p.id<p.c) (fun p=>z.toNat-p.k) rfl ⟨⟨0,id,_⟩,⟨Nat.zero_le _,by simp only;omega⟩,⟨fun _=> .inr (by simp only[Nat.mul_zero,eOj,List.append_nil];rfl),fun a b h=>by simp only[Nat.mul_zero,eOj,List.append_nil]at h;exact h,U3 _⟩⟩ ?_
   rintro⟨k,id2,c2⟩ ⟨hk,hid2⟩ n0
   simp only at hk hid2⊢
   refine ySq (ySq (yRn [63,0,4,6,7,8,9] fun K hK=>?_))
   simp(disch:=omega) only[go_sem,↓reduceIte]
   refine hK _ (aB ?_)
   refine gLb rfl (fun h=>?_) (fun h=>?_)
   ·refine yDr ?_
    have hkz:k<z.toNat:=by omega
    refine ySk (aB (ySq (yBl 3 (ySq (yRn [0,4,6,7,8,9,10] fun K hK=>?_)))))
    simp(disch:=omega) only[go_sem,↓reduceIte]
    refine hK _ (aB ?_)
    refine yBl 4 ?_
    refine bR (fun p:KOC=> {fr:=[(0,.sl b.length (c8 b)),(4,.os p.id 0 (out++eLg w.toNat bs (8*k+p.k)).length 1 true),(6,.i i),(7,.i w.toNat),(8,.i z.toNat),(9,.i k),(10,.i p.k)],hp:=upd (fun _=>none) p.id (.cells (c16 (out++eLg w.toNat bs (8*k+p.k))) true),nx:=0,cx:=p.c}) (fun p=>p.k≤8∧p.id<p.c) (fun p=>8-p.k) rfl ⟨⟨0,id2,_⟩,⟨Nat.zero_le _,by simp only;omega⟩,⟨fun _=> .inr (by simp only[Nat.add_zero,List.length_append];rfl),fun a b h=>h,U3 _⟩⟩ ?_
    rintro⟨j,id3,c3⟩ ⟨hj,hid3⟩ n0
    simp only at hj hid3⊢
    have hdl:=eWo w.toNat bs (8*k+j)
    refine ySq (ySq (yRn [67,0,4,6,7,8,9,10] fun K hK=>?_))
    simp(disch:=omega) only[go_sem,↓reduceIte]
    refine hK _ (aB ?_)
    refine gLb rfl (fun h=>?_) (fun h=>?_)
    ·refine yDr ?_
     have hj8:j<8:=by omega
     have hq1:(8*k+j)/8=k:=by omega
     have hq2:(8*k+j)%8=j:=by omega
     have hbk:=hbd k hkz
     have ei3:((i:Int)+2+(k:Int)).toNat=i+2+k:=by omega
     refine ySk (aB (ySq (yBl 5 (ySq (bB (Γ:=aL) (fun k=>if k=6 then 0 else 2) [80,0,4,6,7,8,9,10] bZ (aD _ _) rfl rfl rfl (by kernel_rfl) (fun K hK=>?_))))))
     simp(disch:=omega) only[go_sem,↓reduceIte,ei3,hbk,U2,eRz]
     refine hK _ (aB ?_)
     refine eGn (.tmp 80) rfl rfl rfl (fun h=>?_) (fun h=>?_)
     ·refine yDr ?_
      have hst:=eWn w.toNat bs (8*k+j) (by rw[hq1,hq2];exact h)
      have hl2:(out++eLg w.toNat bs (8*k+j+1)).length=out.length+(eLg w.toNat bs (8*k+j)).length+1:=by rw[hst];simp only[List.length_append,List.length_cons,List.length_nil];omega
      have hr2:out++eLg w.toNat bs (8*k+j)++[BitVec.ofNat 16 (w.toNat*256+(8*k+j))]=out++eLg w.toNat bs (8*k+j+1):=by rw[hst,List.append_assoc]
      refine yRn [0,4,6,7,8,9,10] fun K hK=>?_
      simp(disch:=omega) only[go_sem,↓reduceIte,gDx,eQg]
      refine hK _ (bU (aB ?_))
      refine yRn [0,4,6,7,8,9,10] fun K hK=>?_
      simp(disch:=omega) only[go_sem,↓reduceIte]
      refine hK _ (bT ?_)
      refine⟨⟨j+1,c3+2+11+10,_⟩,⟨by simp only;omega,by simp only;omega⟩,by simp only;omega,⟨fun _=> .inr ?_,fun j o h=>?_,U3 _⟩⟩
      ·simp only[←Nat.add_assoc,hl2,Int.natCast_add,Int.natCast_one]
      simp only[←Nat.add_assoc]at h
      exact bS (by simp(disch:=omega) only[aV,↓reduceIte,eq_self,hr2]) (fKa) j o h
     refine yDr ?_
     have hst:=eZh w.toNat bs (8*k+j) (by rw[hq1,hq2];exact h)
     refine ySk (bU (aB (yRn [0,4,6,7,8,9,10] fun K hK=>?_)))
     simp(disch:=omega) only[go_sem,↓reduceIte]
     refine hK _ (bT ?_)
     refine⟨⟨j+1,id3,_⟩,⟨by simp only;omega,by simp only;omega⟩,by simp only;omega,⟨fun _=> .inr ?_,fun j o h=>?_,U3 _⟩⟩
     ·simp only[←Nat.add_assoc,hst,List.length_append,Int.natCast_add,Int.natCast_one]
     simp only[←Nat.add_assoc]at h
     exact bS (by simp(disch:=omega) only[aV,↓reduceIte,eq_self,hst]) (fKa) j o h
    refine yDr ?_
    obtain rfl:j=8:=by omega
    have h88:8*k+8=8*(k+1):=by omega
    refine yEx 4 (aY (aZ (bE (bU (aB (yRn [0,4,6,7,8,9] fun K hK=>?_))))))
    simp(disch:=omega) only[go_sem,↓reduceIte,h88]
    refine hK _ (bT ?_)
    refine⟨⟨k+1,id3,_⟩,⟨by simp only;omega,by simp only;omega⟩,by simp only;omega,⟨fun _=> .inr ?_,fun j o h=>?_,U3 _⟩⟩
    ·simp only[List.length_append,Int.natCast_add,Int.natCast_one]
    simp only at h
    exact bS (by simp(disch:=omega) only[aV,↓reduceIte,eq_self]) (fKa) j o h
   refine yDr ?_
   obtain rfl:k=z.toNat:=by omega
   have hall:=eWp w.toNat bs (8*z.toNat) (by omega)
   have hdl:=eWo w.toNat bs (8*z.toNat)
   rw[hall]at hdl
   have hrd:R.drop (2+z.toNat)=b.drop (i+(2+z.toNat)):=by rw[←hR,List.drop_drop]
   refine yEx 2 (aY (aZ (bE (aB (ySq (yRn [0,4,5,6,8] fun K hK=>?_))))))
   simp(disch:=omega) only[go_sem,↓reduceIte,hall]
   refine hK _ (aB ?_)
   refine yRn [0,4,5,6] fun K hK=>?_
   simp(disch:=omega) only[go_sem,↓reduceIte]
   refine hK _ (bU (bT ?_))
   refine⟨⟨i+(2+z.toNat),g,(w.toNat:Int),id2,out++rR w.toNat bs,_⟩,⟨by simp only;omega,by simp only;omega,?_,by simp only[List.length_append];omega,by simp only;omega⟩,by simp only;omega,⟨fun _=> .inr ?_,fun j o h=>?_,U3 _⟩⟩
   ·rw[hop,hrd]
    cases opR g (w.toNat:Int) (b.drop (i+(2+z.toNat)))with
    |none=>rfl
    |some l=>simp
   ·simp only[List.length_append,Int.natCast_add]
    rfl
   simp only at h
   exact bS (by simp(disch:=omega) only[aV,↓reduceIte,eq_self]) (fKa) j o h
  refine yDr ?_
  obtain rfl:i=b.length:=by omega
  rw[List.drop_length]at hop
  obtain⟨g,rfl⟩: ∃g,f=g+1:=⟨f-1,by omega⟩
  have hop2:ans=some out:=by rw[hop];simp[opR]
  refine yEx 0 (aY (aZ (bE (aB (ySq (yRn [2,3] fun K hK=>?_))))))
  simp(disch:=omega) only[go_sem,↓reduceIte]
  refine hK _ (aB ?_)
  refine aS rfl ?_
  simp(disch:=omega) only[fHo,bV,bK,bQ,go_sem,↓reduceIte,hop2]
 cases hg
theorem gJt:bX Tryz.prog GLh 62 (.pure false dFi):=⟨⟨_,Tryz.func62,rfl,rfl⟩,gFh⟩
end Go.AX.D5

namespace Go.AX.D5
open Go Go.Proofs
def bBg:List AV→Option AV
 |[.sl n xs]=>aK (fHq xs) fun l=>aN (l.length=n∧n≤100000) (some (.w32 (fRs l)))
 |_=>none
theorem bZv (n:Nat) (xs:List AV):bBg [.sl n xs]=aK (fHq xs) fun l=>aN (l.length=n∧n≤100000) (some (.w32 (fRs l))):=(rfl)
attribute [go_sem] bZv
set_option maxHeartbeats 2000000 in
theorem cOi:fHn Tryz.prog GLh 40 bBg:=by
 refine zK Tryz.func40 (aT rfl) ?_
 intro args r hg
 unfold bBg at hg
 split at hg
 ·rename_i n xs
  replace hg:=aJ hg;obtain⟨l,hl,hg⟩:=hg
  replace hg:=aP hg;obtain⟨⟨rfl,hn⟩,hg⟩:=hg
  obtain rfl:=J0 hg
  have:=bW hl;subst this
  refine⟨J1 rfl,fun nx=>?_⟩
  clear hl hg
  refine ySq (yRn [0] fun K hK=>?_)
  simp(disch:=omega) only[go_sem]
  refine hK _ (aB ?_)
  refine ySq (yRn [0,3] fun K hK=>?_)
  simp(disch:=omega) only[go_sem]
  refine hK _ (aB ?_)
  refine ySq (ySq (yRn [0,3,4] fun K hK=>?_))
  simp(disch:=omega) only[go_sem]
  refine hK _ (aB ?_)
  refine yBl 0 (bR (fun p:KC5=> {fr:=[(0,.sl l.length (c8 l)),(3,.w32 (fRs (l.take p.k))),(4,.i (p.k:Int))],hp:=fun _=>none,nx:=0,cx:=p.c}) (fun p=>p.k≤l.length) (fun p=>l.length-p.k) rfl ⟨⟨0,_⟩,Nat.zero_le _,bD rfl rfl (U3 _)⟩ ?_)
  rintro⟨i,c⟩ hi n0
  simp only at hi⊢
  refine ySq (ySq (yRn [8,0,3,4] fun K hK=>?_))
  simp(disch:=omega) only[go_sem]
  refine hK _ (aB ?_)
  refine gLb rfl (fun h=>?_) (fun h=>?_)
  ·refine yDr ?_
   have hil:i<l.length:=by omega
   have hix:=fQy l i hil
   have hst:=eOi l i hil
   refine ySk (aB (ySq (yBl 1 (yRn [0,3,4] fun K hK=>?_))))
   simp(disch:=omega) only[go_sem]
   refine hK _ (bU (aB ?_))
   refine yRn [0,3,4] fun K hK=>?_
   simp(disch:=omega) only[go_sem]
   refine hK _ (bT ?_)
   refine⟨⟨i+1,_⟩,by simp only;omega,by simp only;omega,bD ?_ rfl (U3 _)⟩
   simp only[hst,Int.natCast_add,Int.natCast_one]
  refine yDr ?_
  obtain rfl:i=l.length:=by omega
  have e1:l.take l.length=l:=List.take_length
  refine yEx 0 (aY (aZ (bE (aB (ySq (yRn [2] fun K hK=>?_))))))
  simp(disch:=omega) only[go_sem,e1]
  refine hK _ (aB ?_)
  refine aS rfl ?_
  simp(disch:=omega) only[fHo,bV,bK,bQ,go_sem]
 cases hg
theorem gFy:bX Tryz.prog GLh 40 (.pure true bBg):=⟨⟨_,Tryz.func40,rfl,rfl⟩,cOi⟩
set_option maxHeartbeats 4000000 in
theorem bHq:fHn Tryz.prog GLh 61 iH:=by
 refine zK Tryz.func61 (aT rfl) ?_
 intro args r hg
 unfold iH at hg
 split at hg
 ·rename_i n xs
  replace hg:=aJ hg;obtain⟨b,hl,hg⟩:=hg
  replace hg:=aP hg;obtain⟨⟨rfl,hn⟩,hg⟩:=hg
  obtain rfl:=J0 hg
  have:=bW hl;subst this
  refine⟨J1 rfl,fun nx=>?_⟩
  clear hl hg
  obtain⟨ans,hans⟩: ∃a,opN (b.length+1) b=a:=⟨_,rfl⟩
  have hok: ∀n s,ans=some (n,s)→wl n=s:=fun n s e=>(eOv _ _ _ _ (hans.trans e)).2.1
  rw[hans]
  have hadd:eRb [] 0 (opN (b.length+1) (b.drop 0))=ans:=by
   rw[J9,hans]
   cases ans with
   |none=>rfl
   |some p=>obtain⟨n,s⟩:=p;simp[eRb]
  refine ySq (yRn [0] fun K hK=>?_)
  simp(disch:=omega) only[go_sem]
  refine hK _ (aB ?_)
  refine ySq (yRn [0,5] fun K hK=>?_)
  simp(disch:=omega) only[go_sem]
  refine hK _ (aB ?_)
  refine ySq (yRn [0,5,6] fun K hK=>?_)
  simp(disch:=omega) only[go_sem]
  refine hK _ (aB ?_)
  refine iE 5 1 rfl (fPg [0,5,6] ?_)
  simp only[iB,fU,eW,↓reduceIte,Nat.reduceEqDiff]
  refine ySq (yBl 0 ?_)
  refine bR (fun p:SON=> {fr:=[(0,.sl b.length (c8 b)),(5,.os p.id 0 p.ns.length 1 true),(6,.i (p.i:Int))],hp:=upd (fun _=>none) p.id (.cells (cS p.ns) true),nx:=0,cx:=p.c}) (fun p=>p.i≤b.length∧p.ns.length≤p.i∧b.length<p.i+p.f∧eRb p.ns p.i (opN p.f (b.drop p.i))=ans∧p.id<p.c) (fun p=>b.length-p.i) rfl ⟨⟨0,b.length+1,_,[],_⟩,⟨Nat.zero_le _,Nat.zero_le _,by simp only;omega,hadd,by simp only;omega⟩,bD rfl rfl (U3 _)⟩ ?_
  rintro⟨i,f,id,ns,cx⟩ ⟨hi,hnl,hf,hop,hid⟩ n0
  simp only at hi hnl hf hop hid⊢
  refine yBl 1 (ySq (ySq (yRn [11,0,5,6] fun K hK=>?_)))
  simp(disch:=omega) only[go_sem]
  refine hK _ (aB ?_)
  refine gLb rfl (fun h=>?_) (fun h=>?_)
  ·refine yDr ?_
   obtain⟨g,rfl⟩: ∃g,f=g+1:=⟨f-1,by omega⟩
   have hno:ans=none:=by
    rw[←hop,List.drop_of_length_le (by omega),eYo];rfl
   rw[hno]
   refine ySq (yRn [2,3,4] fun K hK=>?_)
   simp(disch:=omega) only[go_sem]
   refine hK _ (aB ?_)
   refine aS rfl (bI (bN (dF (bN (bI ?_)))))
   simp(disch:=omega) only[fHo,bV,bK,bQ,go_sem,eLs]
  refine yDr ?_
  have hil:i<b.length:=by omega
  obtain⟨g,rfl⟩: ∃g,f=g+1:=⟨f-1,by omega⟩
  have hend:=eYp (f:=g) hil
  have hbad:=eYq (f:=g) hil
  have hstep:=eVh (f:=g) ns hil
  obtain⟨k,hk⟩: ∃k,b.getD i 0#8=k:=⟨_,rfl⟩
  rw[hk]at hend hbad hstep
  have hkl:=k.isLt
  refine ySk (aB (ySq (yRn [0,5,6,7] fun K hK=>?_)))
  simp(disch:=omega) only[go_sem,hk]
  refine hK _ (aB ?_)
  refine ySq (ySq (yRn [18,0,5,6,7] fun K hK=>?_))
  simp(disch:=omega) only[go_sem]
  refine hK _ (aB ?_)
  refine gLb rfl (fun h=>?_) (fun h=>?_)
  ·refine yDr ?_
   have hyes:ans=some (ns,i+1):=by rw[←hop,hend (by omega)];simp[eRb]
   have hw:=hok ns (i+1) hyes
   rw[hyes]
   refine yEx 0 (aY (mW (aZ (bE ?_)) rfl))
   refine aB (ySq (ySq (yRn [48,5,6] fun K hK=>?_)))
   simp(disch:=omega) only[go_sem]
   refine hK _ (aB ?_)
   refine gLb rfl (fun h=>?_) (fun h=>?_)
   ·refine yDr ?_
    have e:eLs (some (ns,i+1))=.tup [.sl 0 [],.i 0,.i 31]:=J4 (by omega)
    rw[e]
    refine ySq (yRn [2,3,4] fun K hK=>?_)
    simp(disch:=omega) only[go_sem]
    refine hK _ (aB ?_)
    refine aS rfl (bI ?_)
    simp(disch:=omega) only[fHo,bV,bK,bQ,go_sem]
   refine yDr ?_
   have e:eLs (some (ns,i+1))=.tup [.sl ns.length (cS ns),.i ((i+1:Nat):Int),.i 0]:=J3 (by omega)
   rw[e]
   have ei:(i:Int)+1=((i+1:Nat):Int):=rfl
   refine ySk (aB (ySq (yRn [2,3,4] fun K hK=>?_)))
   simp(disch:=omega) only[go_sem,ei]
   refine hK _ (aB ?_)
   refine aS rfl ?_
   simp(disch:=omega) only[fHo,bV,bK,bQ,go_sem]
  refine yDr (ySk (aB (ySq (ySq ?_))))
  by_cases h63:63<k.toNat
  ·have d:decide (63<(k.toNat:Int))=true:=J5 (by omega)
   have hno:ans=none:=by rw[←hop,hbad (by omega) (.inl (by omega))];rfl
   rw[hno]
   refine yRn [29,0,5,6,7] fun K hK=>?_
   simp(disch:=omega) only[go_sem,d]
   refine hK _ (aB ?_)
   refine iTd (ySq (yRn [2,3,4] fun K hK=>?_))
   simp(disch:=omega) only[go_sem]
   refine hK _ (aB ?_)
   refine aS rfl (bI (bN (dF (bN (bI ?_)))))
   simp(disch:=omega) only[fHo,bV,bK,bQ,go_sem,eLs]
  have d:decide (63<(k.toNat:Int))=false:=J6 (by omega)
  refine yRn [29,0,5,6,7] fun K hK=>?_
  simp(disch:=omega) only[go_sem,d]
  refine hK _ (aB ?_)
  refine gLb rfl (fun h=>?_) (fun h=>?_)
  ·refine yDr ?_
   have hno:ans=none:=by rw[←hop,hbad (by omega) (.inr (by omega))];rfl
   rw[hno]
   refine ySq (yRn [2,3,4] fun K hK=>?_)
   simp(disch:=omega) only[go_sem]
   refine hK _ (aB ?_)
   refine aS rfl (bI (bN (dF (bN (bI ?_)))))
   simp(disch:=omega) only[fHo,bV,bK,bQ,go_sem,eLs]
  refine yDr ?_
  have hst:=hstep (by omega) (by omega) (by omega)
  rw[hop]at hst
  have e1:((i:Int)+1).toNat=i+1:=by omega
  have e2:((i:Int)+1+(k.toNat:Int)).toNat=i+1+k.toNat:=by omega
  have e3:i+1+k.toNat-(i+1)=k.toNat:=by omega
  obtain⟨d8,hd⟩: ∃d,(b.drop (i+1)).take k.toNat=d:=⟨_,rfl⟩
  have hdl:d8.length=k.toNat:=by rw[←hd,List.length_take,List.length_drop];omega
  rw[hd]at hst
  refine ySk (aB (ySq (yRn [0,5,6,7] fun K hK=>?_)))
  simp(disch:=omega) only[go_sem,e1,e2,e3,hd,hdl]
  refine hK _ (aB ?_)
  have e4:(i:Int)+(1+(k.toNat:Int))=((i+1+k.toNat:Nat):Int):=by omega
  refine yRn [0,5,6] fun K hK=>?_
  simp(disch:=omega) only[go_sem,e4]
  refine hK _ (bU (bT ?_))
  have hsn:cS ns++[AV.s d8]=cS (ns++[d8]):=cQq ns [d8]
  refine⟨⟨i+1+k.toNat,g,cx+4+6+2+11+11,ns++[d8],_⟩,⟨by simp only;omega,by simp only[List.length_append,List.length_singleton];omega,by simp only;omega,hst.symm,by simp only;omega⟩,by simp only;omega,⟨fun _=> .inr ?_,fun j o h=>?_,U3 _⟩⟩
  ·simp only[List.length_append,List.length_singleton,Int.natCast_add,Int.natCast_one]
  simp only at h
  exact bS (by simp(disch:=omega) only[aV,↓reduceIte,eq_self,hsn]) (fKa) j o h
 cases hg
theorem gBv:bX Tryz.prog GLh 61 (.pure false iH):=⟨⟨_,Tryz.func61,rfl,rfl⟩,bHq⟩
end Go.AX.D5

namespace Go.AX.D5
open Go Go.Proofs
theorem gBi (l:List B8) (p k:Nat) (h:p+k≤l.length):((l.drop p).take k).length=k:=by rw[List.length_take,List.length_drop];omega
theorem gEn (l:List B8) (k:Nat) (h:k≤l.length):(l.take k).length=k:=by rw[List.length_take];omega
set_option maxHeartbeats 4000000 in
theorem gFi:fHn Tryz.prog GLh 56 dJl:=by
 refine zK Tryz.func56 (aT rfl) ?_
 intro args r hg
 unfold dJl at hg
 split at hg
 ·rename_i n xs
  replace hg:=aJ hg;obtain⟨l,hl,hg⟩:=hg
  replace hg:=aP hg;obtain⟨⟨rfl,hnb⟩,hg⟩:=hg
  obtain rfl:=J0 hg
  have:=bW hl;subst this
  refine⟨J1 rfl,fun nx=>?_⟩
  clear hl hg
  have hdl:(l.drop 4).length=l.length-4:=List.length_drop ..
  have et:(l.drop 4).take (l.length-4)=l.drop 4:=List.take_of_length_le (by omega)
  unfold eWc gE
  refine ySq (yRn [0,2] fun K hK=>?_)
  simp(disch:=omega) only[go_sem]
  refine hK _ (aB ?_)
  refine ySq (ySq (yRn [6,0,2] fun K hK=>?_))
  simp(disch:=omega) only[go_sem]
  refine hK _ (aB ?_)
  refine gLb rfl (fun h=>?_) (fun h=>?_)
  ·refine yDr ?_
   rw[J3 (by omega),eOd]
   refine ySq (yRn [2,3] fun K hK=>?_)
   simp(disch:=omega) only[go_sem]
   refine hK _ (aB ?_)
   refine aS rfl (bI ?_)
   simp(disch:=omega) only[fHo,bV,bK,bQ,go_sem]
  refine yDr ?_
  rw[J4 (by omega),fO _ _ _ rfl]
  unfold fGg
  refine ySk (aB (ySq (bB (fun _=>1) [2,3] bZ (aH gFy aO) rfl rfl rfl (by kernel_rfl) (fun K hK=>?_))))
  simp(disch:=omega) only[go_sem,et,hdl,gEn]
  refine hK _ (aB ?_)
  refine aS rfl ?_
  simp(disch:=omega) only[fHo,bV,bK,bQ,go_sem]
 cases hg
theorem ok32:bX Tryz.prog GLh 56 (.pure false dJl):=⟨⟨_,Tryz.func56,rfl,rfl⟩,gFi⟩
theorem gHm {l:List B8} (h:nmO l=none):nm2 l=none:=by unfold nm2;rw[h]
theorem gHl {l:List B8} {n:Nm} {s:Nat} (h:nmO l=some (n,s)) (h2:nmO (l.drop s)=none):nm2 l=none:=by unfold nm2;rw[h];simp only;rw[h2]
theorem gJu {l:List B8} {n m:Nm} {s k:Nat} (h:nmO l=some (n,s)) (h2:nmO (l.drop s)=some (m,k)):nm2 l=some (n,m,s+k):=by unfold nm2;rw[h];simp only;rw[h2]
theorem gEa {l:List B8} (h:nm2 l=none):ePm l=.tup [.agg [.sl 0 [],.sl 0 [],.w32 0#32,.w32 0#32,.w32 0#32,.w32 0#32,.w32 0#32],.i 50]:=by unfold ePm eX;rw[h];exact eOd _ _
theorem gGx {l:List B8} {n m:Nm} {p:Nat} (h:nm2 l=some (n,m,p)) (hp: ¬l.length=p+20):ePm l=.tup [.agg [.sl 0 [],.sl 0 [],.w32 0#32,.w32 0#32,.w32 0#32,.w32 0#32,.w32 0#32],.i 50]:=by
 unfold ePm eX;rw[h]
 simp only[eOb]
 split
 ·exact iD _ _ _ (by omega)
 exact eOd _ _
theorem gGw {l:List B8} {n m:Nm} {p:Nat} (h:nm2 l=some (n,m,p)) (hp:l.length=p+20):ePm l=.tup [eUm l n m p,.i 0]:=by
 unfold ePm eX;rw[h]
 simp only[eOb]
 rw[J4 (by omega)]
 exact fO _ _ _ (by omega)
theorem gAo (l:List B8) (p k:Nat):fRs (((l.drop p).drop k).take 4)=dX l (p+k):=by unfold dX;rw[List.drop_drop]
set_option maxHeartbeats 8000000 in
theorem gFd:fHn Tryz.prog GLh 54 eQo:=by
 refine zK Tryz.func54 (aT rfl) ?_
 intro args r hg
 unfold eQo at hg
 split at hg
 ·rename_i n xs
  replace hg:=aJ hg;obtain⟨l,hl,hg⟩:=hg
  replace hg:=aP hg;obtain⟨⟨rfl,hnb⟩,hg⟩:=hg
  obtain rfl:=J0 hg
  have:=bW hl;subst this
  refine⟨J1 rfl,fun nx=>?_⟩
  clear hl hg
  refine ySq (yRn [0,2] fun K hK=>?_)
  simp(disch:=omega) only[go_sem]
  refine hK _ (aB ?_)
  rcases iI l with⟨hn,k,hk,hc⟩|⟨n,s,hn,hsb,hc⟩
  ·have hd0:decide (k=0)=false:=J6 hk
   rw[gEa (gHm hn)]
   refine ySq (yRg [0,2,4,5,6] (aH gBv aO) fun K hK=>?_)
   simp(disch:=omega) only[go_sem,hc]
   refine hK _ (aB ?_)
   refine ySq (ySq (yRn [18,0,2,4,5] fun K hK=>?_))
   simp(disch:=omega) only[go_sem,hd0,Bool.not_false]
   refine hK _ (aB ?_)
   refine iTd (ySq (yRn [2,3] fun K hK=>?_))
   simp(disch:=omega) only[go_sem]
   refine hK _ (aB ?_)
   refine aS rfl (bI ?_)
   simp(disch:=omega) only[fHo,bV,bK,bQ,go_sem]
  refine ySq (yRg [0,2,4,5,6] (aH gBv aO) fun K hK=>?_)
  simp(disch:=omega) only[go_sem,hc]
  refine hK _ (aB ?_)
  refine ySq (ySq (yRn [18,0,2,4,5] fun K hK=>?_))
  simp(disch:=omega) only[go_sem]
  refine hK _ (aB ?_)
  refine iFd (ySk (aB (ySq ?_)))
  have hdl:(l.drop s).length=l.length-s:=List.length_drop ..
  have hdd: ∀k,l.drop (s+k)=(l.drop s).drop k:=fun k=>by rw[List.drop_drop]
  obtain⟨d,hd⟩: ∃d,l.drop s=d:=⟨_,rfl⟩
  have et:d.take (l.length-s)=d:=List.take_of_length_le (by rw[←hd];omega)
  have hcs:=iI d
  rcases hcs with⟨hn2,k,hk,hc2⟩|⟨m,s2,hn2,hsb2,hc2⟩
  ·have hd0:decide (k=0)=false:=J6 hk
   rw[gEa (gHl hn (by rw[hd];exact hn2))]
   rw[hd]at hdl
   rw[hdl]at hc2
   refine yRg [0,2,4,5,7,8,9] (aH gBv aO) fun K hK=>?_
   simp(disch:=omega) only[go_sem,U2,hd,et,hc2,hdl]
   refine hK _ (aB ?_)
   refine ySq (ySq (yRn [38,0,2,4,5,7,8] fun K hK=>?_))
   simp(disch:=omega) only[go_sem,hd0,Bool.not_false]
   refine hK _ (aB ?_)
   refine iTd (ySq (yRn [2,3] fun K hK=>?_))
   simp(disch:=omega) only[go_sem]
   refine hK _ (aB ?_)
   refine aS rfl (bI ?_)
   simp(disch:=omega) only[fHo,bV,bK,bQ,go_sem]
  have hnm:=gJu hn (show nmO (l.drop s)=some (m,s2)by rw[hd];exact hn2)
  rw[hd]at hdl
  rw[hdl]at hc2
  refine yRg [0,2,4,5,7,8,9] (aH gBv aO) fun K hK=>?_
  simp(disch:=omega) only[go_sem,U2,hd,et,hc2,hdl]
  refine hK _ (aB ?_)
  by_cases q:l.length=s+s2+20
  ·have dq:decide ((l.length:Int)=(s:Int)+(s2:Int)+20)=true:=J5 (by omega)
   refine ySq (ySq (yRn [38,0,2,4,5,7,8] fun K hK=>?_))
   simp(disch:=omega) only[go_sem,dq,Bool.not_true]
   refine hK _ (aB ?_)
   refine iFd ?_
   rw[gGw hnm q]
   have ep:((s:Int)+(s2:Int)).toNat=s+s2:=by omega
   have eq20:l.length-(s+s2)=20:=by omega
   have hCl:(l.drop (s+s2)).length=20:=by rw[List.length_drop];omega
   have n0:=gAo l (s+s2) 0
   have n1:=gAo l (s+s2) 4
   have n2:=gAo l (s+s2) 8
   have n3:=gAo l (s+s2) 12
   have n4:=gAo l (s+s2) 16
   obtain⟨C,hC⟩: ∃C,l.drop (s+s2)=C:=⟨_,rfl⟩
   rw[hC]at hCl n0 n1 n2 n3 n4
   rw[J9,Nat.add_zero]at n0
   have eC:C.take 20=C:=List.take_of_length_le (by omega)
   refine ySk (aB (ySq (yRn [2,4,7,10] fun K hK=>?_)))
   simp(disch:=omega) only[go_sem,ep,hC,eq20,eC]
   refine hK _ (aB ?_)
   refine ySq (bB (fun k=>if k=4 then 0 else if k=7 then 0 else if k=10 then 0 else if k=13 then 0 else if k=16 then 0 else 2) [2,3] bZ (aH gFy aO) rfl rfl rfl (by kernel_rfl) (fun K hK=>?_))
   simp(disch:=omega) only[go_sem,gEn,gBi,n0,n1,n2,n3,n4]
   refine hK _ (aB ?_)
   unfold eUm
   refine aS rfl ?_
   simp(disch:=omega) only[fHo,bV,bK,bQ,go_sem]
  have dq:decide ((l.length:Int)=(s:Int)+(s2:Int)+20)=false:=J6 (by omega)
  rw[gGx hnm q]
  refine ySq (ySq (yRn [38,0,2,4,5,7,8] fun K hK=>?_))
  simp(disch:=omega) only[go_sem,dq,Bool.not_false]
  refine hK _ (aB ?_)
  refine iTd (ySq (yRn [2,3] fun K hK=>?_))
  simp(disch:=omega) only[go_sem]
  refine hK _ (aB ?_)
  refine aS rfl (bI ?_)
  simp(disch:=omega) only[fHo,bV,bK,bQ,go_sem]
 cases hg
theorem dQx:bX Tryz.prog GLh 54 (.pure false eQo):=⟨⟨_,Tryz.func54,rfl,rfl⟩,gFd⟩
end Go.AX.D5

namespace Go.AX.D5
open Go Go.Proofs
def gHa:AV:=.agg [.w16 0#16,.w8 0#8,.w8 0#8,.w32 0#32,.w32 0#32,.w32 0#32,.w16 0#16,.sl 0 [],.sl 0 []]
theorem gEc {l:List B8} (h:eY l=none):eSe l=.tup [gHa,.i 50]:=by unfold eSe;rw[h];exact eOd _ _
theorem gHb {l:List B8} {n:Nm} {s:Nat} (h:18≤l.length) (hn:nmO (l.drop 18)=some (n,s)):eSe l=.tup [eUr l n (18+s),.i 0]:=by
 unfold eSe eY;rw[J4 h,hn];exact fO _ _ _ rfl
theorem gGz {l:List B8} (h:l.length<18):eY l=none:=by unfold eY;rw[J3 (by omega)]
theorem gGy {l:List B8} (h:nmO (l.drop 18)=none):eY l=none:=by unfold eY;rw[h];split<;>rfl
set_option maxHeartbeats 8000000 in
theorem gFe:fHn Tryz.prog GLh 55 eSf:=by
 refine zK Tryz.func55 (aT rfl) ?_
 intro args r hg
 unfold eSf at hg
 split at hg
 ·rename_i n xs
  replace hg:=aJ hg;obtain⟨l,hl,hg⟩:=hg
  replace hg:=aP hg;obtain⟨⟨rfl,hnb⟩,hg⟩:=hg
  obtain rfl:=J0 hg
  have:=bW hl;subst this
  refine⟨J1 rfl,fun nx=>?_⟩
  clear hl hg
  refine ySq (yRn [0,2] fun K hK=>?_)
  simp(disch:=omega) only[go_sem,↓reduceIte]
  refine hK _ (aB ?_)
  refine ySq (ySq (yRn [9,0,2] fun K hK=>?_))
  simp(disch:=omega) only[go_sem,↓reduceIte]
  refine hK _ (aB ?_)
  refine gLb rfl (fun h=>?_) (fun h=>?_)
  ·refine yDr ?_
   rw[gEc (gGz (by omega))]
   refine ySq (yRn [2,3] fun K hK=>?_)
   simp(disch:=omega) only[go_sem,↓reduceIte]
   refine hK _ (aB ?_)
   refine aS rfl (bI ?_)
   simp(disch:=omega) only[fHo,bV,bK,bQ,go_sem,↓reduceIte,gHa]
  refine yDr ?_
  have hl18:18≤l.length:=by omega
  have hdl:(l.drop 18).length=l.length-18:=List.length_drop ..
  have hdd: ∀k,l.drop (18+k)=(l.drop 18).drop k:=fun k=>by rw[List.drop_drop]
  obtain⟨d,hd⟩: ∃d,l.drop 18=d:=⟨_,rfl⟩
  rw[hd]at hdl
  have et:d.take (l.length-18)=d:=List.take_of_length_le (by omega)
  have hcs:=iI d
  refine ySk (aB (ySq ?_))
  rcases hcs with⟨hn,k,hk,hc⟩|⟨n,s,hn,hsb,hc⟩
  ·have hd0:decide (k=0)=false:=J6 hk
   rw[gEc (gGy (by rw[hd];exact hn))]
   rw[hdl]at hc
   refine yRg [0,2,4,5,6] (aH gBv aO) fun K hK=>?_
   simp(disch:=omega) only[go_sem,↓reduceIte,U2,hd,et,hc,hdl]
   refine hK _ (aB ?_)
   refine ySq (ySq (yRn [19,0,2,4,5] fun K hK=>?_))
   simp(disch:=omega) only[go_sem,↓reduceIte,hd0,Bool.not_false]
   refine hK _ (aB ?_)
   refine iTd (ySq (yRn [2,3] fun K hK=>?_))
   simp(disch:=omega) only[go_sem,↓reduceIte]
   refine hK _ (aB ?_)
   refine aS rfl (bI ?_)
   simp(disch:=omega) only[fHo,bV,bK,bQ,go_sem,↓reduceIte,gHa]
  rw[gHb hl18 (by rw[hd];exact hn)]
  rw[hdl]at hc
  refine yRg [0,2,4,5,6] (aH gBv aO) fun K hK=>?_
  simp(disch:=omega) only[go_sem,↓reduceIte,U2,hd,et,hc,hdl]
  refine hK _ (aB ?_)
  refine ySq (ySq (yRn [19,0,2,4,5] fun K hK=>?_))
  simp(disch:=omega) only[go_sem,↓reduceIte]
  refine hK _ (aB ?_)
  refine iFd (ySk (aB (ySq ?_)))
  have ep:(18+(s:Int)).toNat=18+s:=by omega
  have eL:(l.drop (18+s)).take (l.length-(18+s))=l.drop (18+s):=List.take_of_length_le (by rw[List.length_drop];omega)
  have eLl:(l.drop (18+s)).length=l.length-(18+s):=List.length_drop ..
  have n1:fRs ((l.drop 4).take 4)=dX l 4:=rfl
  have n2:fRs ((l.drop 8).take 4)=dX l 8:=rfl
  have n3:fRs ((l.drop 12).take 4)=dX l 12:=rfl
  refine bB (fun _=>1) [2,3] bZ (aH gFy aO) rfl rfl rfl (by kernel_rfl) (fun K hK=>?_)
  simp(disch:=omega) only[go_sem,↓reduceIte,ep,eL,eLl,gEn,gBi,n1,n2,n3]
  refine hK _ (aB ?_)
  unfold eUr
  refine aS rfl ?_
  simp(disch:=omega) only[fHo,bV,bK,bQ,go_sem,↓reduceIte]
 cases hg
theorem bWa:bX Tryz.prog GLh 55 (.pure false eSf):=⟨⟨_,Tryz.func55,rfl,rfl⟩,gFe⟩
def gDo:AV:=.agg [.w8 0#8,.w8 0#8,.w16 0#16,.sl 0 [],.sl 0 [],.sl 0 []]
theorem gAq {l:List B8} (h:gW l=none):eZm l=.tup [gDo,.i 50]:=by unfold eZm;rw[h];exact eOd _ _
theorem gId {l:List B8} (h:l.length<5):gW l=none:=by
 unfold gW
 have:txE l 4=none:=J3 (by omega)
 rw[this];split<;>rfl
theorem gAk {l:List B8} {a k:Nat} (h:a<l.length) (hk:(l.getD a 0#8).toNat=k) (h2:a+1+k≤l.length):txE l a=some (a+1+k):=by
 unfold txE;rw[hk];exact J4 ⟨h,by omega⟩
theorem gDy {l:List B8} {a k:Nat} (hk:(l.getD a 0#8).toNat=k) (h2:l.length<a+1+k):txE l a=none:=by
 unfold txE;rw[hk];exact J3 (by omega)
theorem gIc {l:List B8} {x:Nat} (h:5≤l.length) (hx:(l.getD 4 0#8).toNat=x) (h2:l.length<5+x+1):gW l=none:=by
 unfold gW
 rw[J4 (by omega)]
 by_cases h3:5+x≤l.length
 ·rw[gAk (by omega) hx (by omega)]
  have:txE l (4+1+x)=none:=J3 (by omega)
  simp only[fDi];rw[this];rfl
 rw[gDy hx (by omega)];rfl
theorem gIb {l:List B8} {x:Nat} (hx:(l.getD 4 0#8).toNat=x) (h2:5+x+1≤l.length) (h0:(l.getD (5+x) 0#8).toNat=0):gW l=none:=by
 unfold gW
 rw[J4 (by omega),gAk (by omega) hx (by omega)]
 have e:4+1+x=5+x:=by omega
 have hz:txD l (5+x)=[]:=by unfold txD;rw[h0];rfl
 simp only[fDi,e]
 rw[gAk (by omega) h0 (by omega)]
 simp only[fDh,hz]
 exact J3 (by simp)
theorem gIa {l:List B8} {x y:Nat} (hx:(l.getD 4 0#8).toNat=x) (h2:5+x+1≤l.length) (hy:(l.getD (5+x) 0#8).toNat=y) (h3:l.length<5+x+1+y):gW l=none:=by
 unfold gW
 rw[J4 (by omega),gAk (by omega) hx (by omega)]
 have e:4+1+x=5+x:=by omega
 simp only[fDi,e]
 rw[gDy hy (by omega)];rfl
theorem gHz {l:List B8} {x y:Nat} (hx:(l.getD 4 0#8).toNat=x) (hy:(l.getD (5+x) 0#8).toNat=y) (hy0:0<y) (h3:5+x+1+y≤l.length):gW l=fGv l (5+x) (bmO (l.drop (5+x+1+y))):=by
 unfold gW
 rw[J4 (by omega),gAk (by omega) hx (by omega)]
 have e:4+1+x=5+x:=by omega
 have hz:(txD l (5+x)).length=y:=by unfold txD;rw[hy,List.length_take,List.length_drop];omega
 simp only[fDi,e]
 rw[gAk (by omega) hy (by omega)]
 simp only[fDh,hz]
 exact J4 hy0
theorem gIe {l:List B8} {p:Nat} {ty:List T16} (h:gW l=fGv l p (some ty)):eZm l=.tup [fGu l p ty,.i 0]:=by unfold eZm;rw[h];exact fO _ _ _ rfl
theorem ob5 (x:BitVec 8):(x=0#8)↔(x.toNat=0):=⟨fun h=>by rw[h];rfl,fun h=>BitVec.eq_of_toNat_eq h⟩
set_option maxHeartbeats 8000000 in
theorem gFr:fHn Tryz.prog GLh 57 eWv:=by
 refine zK Tryz.func57 (aT rfl) ?_
 intro args r hg
 unfold eWv at hg
 split at hg
 ·rename_i n xs
  replace hg:=aJ hg;obtain⟨l,hl,hg⟩:=hg
  replace hg:=aP hg;obtain⟨⟨rfl,hnb⟩,hg⟩:=hg
  obtain rfl:=J0 hg
  have:=bW hl;subst this
  refine⟨J1 rfl,fun nx=>?_⟩
  clear hl hg
  refine ySq (yRn [0,2] fun K hK=>?_)
  simp(disch:=omega) only[go_sem,↓reduceIte]
  refine hK _ (aB ?_)
  refine ySq (ySq (yRn [10,0,2] fun K hK=>?_))
  simp(disch:=omega) only[go_sem,↓reduceIte]
  refine hK _ (aB ?_)
  refine gLb rfl (fun h=>?_) (fun h=>?_)
  ·refine yDr ?_
   rw[gAq (gId (by omega))]
   refine ySq (yRn [2,3] fun K hK=>?_)
   simp(disch:=omega) only[go_sem,↓reduceIte]
   refine hK _ (aB ?_)
   refine aS rfl (bI ?_)
   simp(disch:=omega) only[fHo,bV,bK,bQ,go_sem,↓reduceIte,gDo]
  refine yDr ?_
  have h5:5≤l.length:=by omega
  obtain⟨xb,hxb⟩: ∃x,l.getD 4 0#8=x:=⟨_,rfl⟩
  have hxn:(l.getD 4 0#8).toNat=xb.toNat:=by rw[hxb]
  have hxl:=xb.isLt
  obtain⟨x,hx⟩: ∃x,xb.toNat=x:=⟨_,rfl⟩
  rw[hx]at hxn hxl
  have ei:5+(x:Int)=((5+x:Nat):Int):=rfl
  refine ySk (aB (ySq (yRn [0,2,4] fun K hK=>?_)))
  simp(disch:=omega) only[go_sem,↓reduceIte,hxb,hx,ei]
  refine hK _ (aB ?_)
  by_cases q2:l.length<5+x+1
  ·have d2:decide ((l.length:Int)<((5+x:Nat):Int)+1)=true:=J5 (by omega)
   rw[gAq (gIc h5 hxn q2)]
   refine ySq (ySq (yRn [28,0,2,4] fun K hK=>?_))
   simp(disch:=omega) only[go_sem,↓reduceIte,d2]
   refine hK _ (aB ?_)
   refine iTd (ySq (yRn [2,3] fun K hK=>?_))
   simp(disch:=omega) only[go_sem,↓reduceIte]
   refine hK _ (aB ?_)
   refine aS rfl (bI ?_)
   simp(disch:=omega) only[fHo,bV,bK,bQ,go_sem,↓reduceIte,gDo]
  have d2:decide ((l.length:Int)<((5+x:Nat):Int)+1)=false:=J6 (by omega)
  have hi5:5+x<l.length:=by omega
  obtain⟨yb,hyb⟩: ∃y,l.getD (5+x) 0#8=y:=⟨_,rfl⟩
  have hyn:(l.getD (5+x) 0#8).toNat=yb.toNat:=by rw[hyb]
  have hyl:=yb.isLt
  have hz:=ob5 yb
  by_cases q3:yb.toNat=0
  ·have d3:decide (yb=0#8)=true:=J5 (hz.2 q3)
   rw[gAq (gIb hxn (by omega) (by rw[hyn,q3]))]
   refine ySq (ySq (yRn [28,0,2,4] fun K hK=>?_))
   simp(disch:=omega) only[go_sem,↓reduceIte,d2,U2,hyb,d3]
   refine hK _ (aB ?_)
   refine iTd (ySq (yRn [2,3] fun K hK=>?_))
   simp(disch:=omega) only[go_sem,↓reduceIte]
   refine hK _ (aB ?_)
   refine aS rfl (bI ?_)
   simp(disch:=omega) only[fHo,bV,bK,bQ,go_sem,↓reduceIte,gDo]
  have d3:decide (yb=0#8)=false:=J6 (fun e=>q3 (hz.1 e))
  refine ySq (ySq (yRn [28,0,2,4] fun K hK=>?_))
  simp(disch:=omega) only[go_sem,↓reduceIte,d2,U2,hyb,d3]
  refine hK _ (aB ?_)
  refine iFd ?_
  obtain⟨y,hy⟩: ∃y,yb.toNat=y:=⟨_,rfl⟩
  rw[hy]at hyn hyl q3
  have ek:((5+x:Nat):Int)+1+(y:Int)=((5+x+1+y:Nat):Int):=rfl
  refine ySk (aB (ySq (yRn [0,2,4,5] fun K hK=>?_)))
  simp(disch:=omega) only[go_sem,↓reduceIte,U2,hyb,hy,ek]
  refine hK _ (aB ?_)
  refine ySq (ySq (yRn [41,0,2,4,5] fun K hK=>?_))
  simp(disch:=omega) only[go_sem,↓reduceIte]
  refine hK _ (aB ?_)
  refine gLb rfl (fun h=>?_) (fun h=>?_)
  ·refine yDr ?_
   rw[gAq (gIa hxn (by omega) hyn (by omega))]
   refine ySq (yRn [2,3] fun K hK=>?_)
   simp(disch:=omega) only[go_sem,↓reduceIte]
   refine hK _ (aB ?_)
   refine aS rfl (bI ?_)
   simp(disch:=omega) only[fHo,bV,bK,bQ,go_sem,↓reduceIte,gDo]
  refine yDr ?_
  have hk:5+x+1+y≤l.length:=by omega
  have hch:=gHz hxn hyn (by omega) hk
  have hdl:(l.drop (5+x+1+y)).length=l.length-(5+x+1+y):=List.length_drop ..
  obtain⟨D,hD⟩: ∃D,l.drop (5+x+1+y)=D:=⟨_,rfl⟩
  rw[hD]at hdl hch
  have hun:un8 (c8 D)=some D:=kK D
  have et:D.take (l.length-(5+x+1+y))=D:=List.take_of_length_le (by omega)
  refine ySk (aB (ySq ?_))
  rcases ho:bmO D with _|ty
  ·rw[ho]at hch
   rw[gAq hch]
   have ho2:opR (l.length-(5+x+1+y)+1) (-1) D=none:=by rw[←hdl];exact ho
   refine yRg [0,2,4,5,6,7] (aH gJt aO) fun K hK=>?_
   simp(disch:=omega) only[go_sem,↓reduceIte,U2,hD,et,hdl,hun,ho2]
   refine hK _ (aB ?_)
   refine ySq (ySq (yRn [51,0,2,4,5,6] fun K hK=>?_))
   simp(disch:=omega) only[go_sem,↓reduceIte]
   refine hK _ (aB ?_)
   refine gLc rfl (fun h=>?_) (fun h=>?_)
   ·refine yDr (ySq (yRn [2,3] fun K hK=>?_))
    simp(disch:=omega) only[go_sem,↓reduceIte]
    refine hK _ (aB ?_)
    refine aS rfl (bI ?_)
    simp(disch:=omega) only[fHo,bV,bK,bQ,go_sem,↓reduceIte,gDo]
   exact yDr (absurd h (by decide))
  rw[ho]at hch
  rw[gIe hch]
  have ho2:opR (l.length-(5+x+1+y)+1) (-1) D=some ty:=by rw[←hdl];exact ho
  refine yRg [0,2,4,5,6,7] (aH gJt aO) fun K hK=>?_
  simp(disch:=omega) only[go_sem,↓reduceIte,U2,hD,et,hdl,hun,ho2]
  refine hK _ (aB ?_)
  refine ySq (ySq (yRn [51,0,2,4,5,6] fun K hK=>?_))
  simp(disch:=omega) only[go_sem,↓reduceIte]
  refine hK _ (aB ?_)
  refine iFd ?_
  have t4:txD l 4=(l.drop 5).take x:=by unfold txD;rw[hxn]
  have t5:txD l (5+x)=(l.drop (5+x+1)).take y:=by unfold txD;rw[hyn]
  have t4l:((l.drop 5).take x).length=x:=by rw[List.length_take,List.length_drop];omega
  have t5l:((l.drop (5+x+1)).take y).length=y:=by rw[List.length_take,List.length_drop];omega
  have s4:5+x-5=x:=by omega
  have s5:5+x+1+y-(5+x+1)=y:=by omega
  have ei1:(((5+x:Nat):Int)+1).toNat=5+x+1:=by omega
  unfold fGu
  rw[t4,t5,t4l,t5l]
  obtain⟨A4,hA4⟩: ∃A,(l.drop 5).take x=A:=⟨_,rfl⟩
  obtain⟨A5,hA5⟩: ∃A,(l.drop (5+x+1)).take y=A:=⟨_,rfl⟩
  rw[hA4]at t4l
  rw[hA5]at t5l
  rw[hA4,hA5]
  refine ySk (aB (ySq (aKy 13 19 [6,7,8,10,11,12,13,0,1,2,3,4,5,9,14,15,16,17,18,19,20,21,22,23] [6,7,8,10,11,12,13,14,15,16,17,18,19,0,1,2,3,4,5,9,20,21,22,23] (fun _=>1) [2,3] bZ (aH gFy aO) (by decide) rfl rfl rfl (by kernel_rfl) (fun K hK=>?_) (fun K hK=>?_))))
  ·simp(disch:=omega) only[go_sem,eJ,lY,eDt,List.getElem?_cons_zero,List.getElem?_cons_succ,↓reduceIte,U2,ei1,s4,s5,hA4,hA5,t4l,t5l,gBi]
   refine hK _ (aB ?_)
   refine aS rfl ?_
   simp(disch:=omega) only[fHo,bV,bK,bQ,go_sem,↓reduceIte,t4l,t5l]
  simp(disch:=omega) only[go_sem,eJ,lY,eDt,List.getElem?_cons_zero,List.getElem?_cons_succ,↓reduceIte,U2,ei1,s4,s5,hA4,hA5,t4l,t5l,gBi]
  refine hK _ (aB ?_)
  refine aS rfl ?_
  simp(disch:=omega) only[fHo,bV,bK,bQ,go_sem,↓reduceIte,t4l,t5l]
 cases hg
theorem ok28:bX Tryz.prog GLh 57 (.pure false eWv):=⟨⟨_,Tryz.func57,rfl,rfl⟩,gFr⟩
end Go.AX.D5
