/-
  Wire, part cP: a writer's records. Wire, part cQ: messages as values; bits; which messages may be written. Wire, part cR: a message written. Wire, part cS: a plain function on own objects: all of them are frozen behind it, but messages under way. Wire, part cT: a message's number; the first of each statement. Wire, part fA: in plain words: how far a name's reading went where it came to nothing; the document's reader. Wire, part fC: the document's numbers, off bytes and off its reader. Wire, part fD: a name taken off the document's reader, pointers and all. Wire, part fE: names, and messages that have no records, held against each other. Wire, part fF: in plain words: a message's flags, read as one number or as two bytes; a question off the document's reader. Wire, part fG: the document's reading of a message that has no records. Wire, part fH: the law WirePoints. Data, part R2: from calls over abstract values to the given rows. Data, part T2: the lift of a statement's call to its row. Wire, part sU: names as the arguments of a statement. Rows, part N2: slices of structs among a statement's arguments. Wire, part eA: functions that turn one own object in place, and hand out a row of their own. Wire, part eB: a slice cloned; data of the types 1 and 99 checked. Sort, part A: rows of numbers of sixteen bits, as the sort's plain text has them. Data, part A: what gives up reading. Data, part B: bytes taken off a reader. Data, part C: numbers, texts, all the rest, off a reader. Data, part D: a slice cloned. Data, part E: all the rest, texts, off a reader. Data, part F: a name read off bytes. Data, part G: a name's labels read. Data, part H: a name read, or what is wrong with it. Data, part I: a name read, its ends caught. Data, part J: name.Open, and a reader's name. Data, part K: a name taken off a reader. Data, part L: texts taken off a reader. Data, part M: the shape of data that is asked nothing more. Data, part N: what reads whole data, of the kinds that have no sort. Data, part O: whole data read, and what gives up caught. Data, part P: a SOA's data read. Data, part Q: Soa, Key, Target, Check. Data, part R: data checked. Data, part S: names' bytes and small letters. Data, part T: numbers put, bytes held against each other, places. Data, part U: a DNSKEY's bytes. Data, part yA: numbers put behind own bytes. Data, part yB: slices.Grow from nothing, slices.Concat. Data, part V: the canonical form of data. Data, part yC: a SOA's and a RRSIG's bytes. Data, part yD: a RRSIG's bytes.
-/
import Derived.Test.YtbhlbggocbhecaaGreatBC
import Derived.Test.YtbhlbggocbhecaaGreatRows
import Derived.ProofKit
import Derived.LaidMore
import Derived.OpenShut
import Derived.Stop.Joined
import Derived.WideKeyArgs
import Derived.SevenTiedAt
import Derived.Below
import Derived.ChangeSame
import Derived.WalkKit
import Derived.Tactics
import Derived.Tactics2
import Derived.Sort.AssemblyPlain
namespace Go.AX
open Go Go.Proofs
set_option maxRecDepth 8000
structure RC where
 nm:Nm
 ty:BitVec 16
 cl:BitVec 16
 ttl:W32
 d:List B8
def fMd:AV→Option (List B8)
 | .sl n xs=>aK (fHq xs) fun d=>aN (d.length=n) (some d)
 | .v (.slice none 0 0)=>some []
 |_=>none
theorem fMc {x:AV} {d:List B8} (h:fMd x=some d):x=.sl d.length (c8 d)∨(x=.v (.slice none 0 0)∧d=[]):=by
 unfold fMd at h
 split at h
 ·replace h:=aJ h;obtain⟨qs,hq,h⟩:=h
  replace h:=aP h;obtain⟨rfl,h⟩:=h
  obtain rfl:=J0 h
  have:=bW hq;subst this
  exact .inl rfl
 ·obtain rfl:=J0 h
  exact .inr ⟨rfl,rfl⟩
 cases h
def fLo (c:RC):List AV:=[.sl c.nm.length (cS c.nm),.w16 c.ty,.w16 c.cl,.w32 c.ttl,.sl c.d.length (c8 c.d)]
def fIq:List AV→Option RC
 |[x,.w16 t,.w16 c,.w32 l,y]=>aK (fJx x) fun ps=>aK (fMd y) fun d=>some ⟨ps,t,c,l,d⟩
 |_=>none
theorem fMp (c:RC):fIq (fLo c)=some c:=by
 obtain⟨nm,ty,cl,ttl,d⟩:=c
 simp only[fLo,fIq,fJx,fMd,aQr,iA,aX,aN,if_true]
theorem fLa {xs:List AV} {c:RC} (h:fIq xs=some c): ∃x y,xs=[x,.w16 c.ty,.w16 c.cl,.w32 c.ttl,y]∧fJx x=some c.nm∧fMd y=some c.d:=by
 unfold fIq at h
 split at h
 ·replace h:=aJ h;obtain⟨ps,hp,h⟩:=h
  replace h:=aJ h;obtain⟨d,hd,h⟩:=h
  obtain rfl:=J0 h
  exact⟨_,_,rfl,hp,hd⟩
 cases h
def wrS (c:RC) (b:List B8) (F:WF):List B8×WF:=
 ((wnS c.nm b F).1++beL (BitVec.setWidth 32 c.ty) 2 2++beL (BitVec.setWidth 32 c.cl) 2 2++beL c.ttl 4 4++beL (BitVec.ofInt 32 (c.d.length:Int)) 2 2++c.d,(wnS c.nm b F).2.1)
theorem fJk (n:Nm): ∀(b:List B8) (F:WF),(wnS n b F).1.length≤b.length+(eRs n).length+2:=by
 induction n with
 |nil=>intro b F;simp[wnS,fJr]
 |cons l r ih=>
  intro b F
  rw[wnS,eNx]
  split
  ·simp[cZ]
  refine Nat.le_trans (ih _ _) ?_
  simp only[List.length_append];omega
structure WS (hp:H) (n w q0 m:Nat) (g:H) (q:Nat) (b:List B8) (F:WF):Prop where
 h:W3 g w q m b F
 sub: ∀j o,j≠w→j≠q0→j≠m→j<n→hp j=some o→g j=some o
 hq:q=q0∨n≤q
 wl:w<n
 ml:m<n
theorem WS.num {hp g:H} {n w q0 m q q':Nat} {b b':List B8} {F:WF} (h:WS hp n w q0 m g q b F) (hq:n≤q'):WS hp n w q0 m (fHw w q' b' (.mp m) (del g q)) q' b' F:=by
 have:=h.wl;have:=h.ml
 refine⟨h.h.num (by omega) (by omega),fun j o j1 j2 j3 j4 hj=>?_,.inr hq,h.wl,h.ml⟩
 have:=h.hq
 rw[fHv j1 (by omega),eV,J3 (by omega)]
 exact h.sub j o j1 j2 j3 j4 hj
theorem WS.name {hp g:H} {n w q0 m q q':Nat} {b b':List B8} {F F':WF} (h:WS hp n w q0 m g q b F) (hq:n≤q'):WS hp n w q0 m (fIb w q' m b' F' (del g q)) q' b' F':=by
 have:=h.wl;have:=h.ml
 refine⟨fKy (by omega) h.h.n1 (by omega),fun j o j1 j2 j3 j4 hj=>?_,.inr hq,h.wl,h.ml⟩
 have:=h.hq
 rw[fKz j1 (by omega) j3,eV,J3 (by omega)]
 exact h.sub j o j1 j2 j3 j4 hj
theorem fHl {P:Program} {GL:Nat→Option (List AV)} {nt:Nat} {code:Code} {Q:Exit→S→Prop} {fr:List (Nat×AV)} {hp g:H} {n w q0 m q q' nx cx:Nat} {b b':List B8} {F:WF} (h:WS hp n w q0 m g q b F) (hq:n≤q')
  (h2: ∀g2 b2,b2=b'→WS hp n w q0 m g2 q' b2 F→Awp P GL nt code {fr:=fr,hp:=g2,nx:=nx,cx:=cx} Q):Awp P GL nt code {fr:=fr,hp:=fHw w q' b' (.mp m) (del g q),nx:=nx,cx:=cx} Q:=h2 _ _ rfl (h.num hq)
theorem fIe {P:Program} {GL:Nat→Option (List AV)} {nt:Nat} {code:Code} {Q:Exit→S→Prop} {fr:List (Nat×AV)} {hp g:H} {n w q0 m q q' nx cx:Nat} {b b':List B8} {F F':WF} (h:WS hp n w q0 m g q b F) (hq:n≤q')
  (h2: ∀g2 b2 F2,b2=b'→F2=F'→WS hp n w q0 m g2 q' b2 F2→Awp P GL nt code {fr:=fr,hp:=g2,nx:=nx,cx:=cx} Q):Awp P GL nt code {fr:=fr,hp:=fIb w q' m b' F' (del g q),nx:=nx,cx:=cx} Q:=h2 _ _ _ rfl rfl (h.name hq)
theorem fKe (nx n k:Nat):nx≤wnQ nx n k:=by unfold wnQ;split<;>omega
noncomputable def fJf:List AV→H→Nat→Option (AV×H×Nat)
 |[.op w 0,.agg xs],hp,nx=>aK (fJt hp w) fun t=>aK (fIq xs) fun c=>aN (c.nm.length≤255∧t.b.length+(eRs c.nm).length+c.d.length≤800000)
   (some (.tup [],fIb w (nx+2000*(c.nm.length+1)+2007) t.m (wrS c t.b t.F).1 (wrS c t.b t.F).2 (del hp t.q),nx+2000*(c.nm.length+3)))
 |_,_,_=>none
theorem fLj (w:Nat) (xs:List AV) (hp:H) (nx:Nat):fJf [.op w 0,.agg xs] hp nx=aK (fJt hp w) fun t=>aK (fIq xs) fun c=>aN (c.nm.length≤255∧t.b.length+(eRs c.nm).length+c.d.length≤800000)
   (some (.tup [],fIb w (nx+2000*(c.nm.length+1)+2007) t.m (wrS c t.b t.F).1 (wrS c t.b t.F).2 (del hp t.q),nx+2000*(c.nm.length+3))):=(rfl)
attribute [go_sem] fLj
set_option maxHeartbeats 4000000 in
theorem fMj:fHs Tryz.prog GLh 29 fJf:=by
 refine fVw Tryz.func29 (aT rfl) ?_
 intro args hp nx r hp' nx' hg
 unfold fJf at hg
 split at hg
 ·rename_i w xs
  replace hg:=aJ hg;obtain⟨⟨q,m,b,F⟩,hW0,hg⟩:=hg
  have hW:=fJs hW0
  replace hg:=aJ hg;obtain⟨c,hc,hg⟩:=hg
  obtain⟨x,y,rfl,hx,hy⟩:=fLa hc
  replace hg:=aP hg;obtain⟨⟨hn,hbig⟩,hg⟩:=hg
  simp only[Option.some.injEq,Prod.mk.injEq]at hg hW hbig;obtain⟨rfl,rfl,rfl⟩:=hg
  refine⟨J1 rfl,by omega,fun hnone=>?_⟩
  have hlt: ∀k o,hp k=some o→k<nx:=fun k o hk=>lI hnone hk
  have hwl:=hlt _ _ hW.h.hw
  have hql:=hlt _ _ hW.h.hq
  have hml:=hlt _ _ hW.hm
  obtain⟨n1,n2⟩:=And.intro hW.n1 hW.n2
  obtain⟨nm,ty,cl,ttl,d⟩:=c
  simp only at hn hbig
  have hwn:=fJk nm b F
  simp only at hx hy
  rcases fMc hy with rfl|⟨rfl,rfl⟩
  ·obtain⟨bx,hbx⟩: ∃o,AO.cells [x,AV.w16 ty,AV.w16 cl,AV.w32 ttl,AV.sl d.length (c8 d)] true=o:=⟨_,rfl⟩
   have h0:WS (upd hp nx bx) (nx+1) w q m (upd hp nx bx) q b F:=by
    refine⟨⟨⟨?_,?_,hW.h.ne⟩,?_,n1,n2⟩,fun j o _ _ _ _ hj=>hj,.inl rfl,by omega,by omega⟩
    ·rw[bJ,J3 (by omega)];exact hW.h.hw
    ·rw[bJ,J3 (by omega)];exact hW.h.hq
    rw[bJ,J3 (by omega)];exact hW.hm
   have hkeep: ∀ {g2 q2 b2 F2},WS (upd hp nx bx) (nx+1) w q m g2 q2 b2 F2→g2 nx=some (AO.cells [x,AV.w16 ty,AV.w16 cl,AV.w32 ttl,AV.sl d.length (c8 d)] true):=fun h=>
    h.sub nx _ (by omega) (by omega) (by omega) (by omega) (by rw[bJ,J4 rfl,hbx])
   refine ySq (yRn [0,3] fun K hK=>?_)
   simp(disch:=omega) only[go_sem]
   refine hK _ (aB ?_)
   rw[hbx]
   refine ySq (yRg [0,3] (aH fLu aO) fun K hK=>?_)
   simp(disch:=omega) only[go_sem,hkeep h0,fIa h0.h,hx]
   refine hK _ (aB ?_)
   have hQ:=fKe
   refine fIe h0 (Nat.le_trans (by omega) (hQ _ _ _)) fun g1 b1 F1 eb1 eF1 h1=>?_
   rw[←eb1]at hwn
   have hl1:b1.length≤800002+0:=by omega
   refine ySq (yRg [0,3] (aH fHt aO) fun K hK=>?_)
   simp(disch:=omega) only[go_sem,hkeep h1,yQ h1.h.h]
   refine hK _ (aB ?_)
   simp only[fHr,Nat.mul_one]
   refine fHl h1 (by omega) fun g2 b2 eb2 h2=>?_
   have hl2:b2.length≤800002+4:=by rw[eb2,List.length_append,cZ];omega
   refine ySq (yRg [0,3] (aH fHt aO) fun K hK=>?_)
   simp(disch:=omega) only[go_sem,hkeep h2,yQ h2.h.h]
   refine hK _ (aB ?_)
   simp only[fHr,Nat.mul_one]
   refine fHl h2 (by omega) fun g3 b3 eb3 h3=>?_
   have hl3:b3.length≤800002+8:=by rw[eb3,List.length_append,cZ];omega
   refine ySq (yRg [0,3] (aH fHt aO) fun K hK=>?_)
   simp(disch:=omega) only[go_sem,hkeep h3,yQ h3.h.h]
   refine hK _ (aB ?_)
   simp only[fHr]
   refine fHl h3 (by omega) fun g4 b4 eb4 h4=>?_
   have hl4:b4.length≤800002+12:=by rw[eb4,List.length_append,cZ];omega
   refine ySq (yRg [0,3] (aH fHt aO) fun K hK=>?_)
   simp(disch:=omega) only[go_sem,hkeep h4,yQ h4.h.h]
   refine hK _ (aB ?_)
   simp only[fHr,Nat.mul_one]
   refine fHl h4 (by omega) fun g5 b5 eb5 h5=>?_
   have hl5:b5.length≤800002+16:=by rw[eb5,List.length_append,cZ];omega
   refine kU (nx+2000*(nm.length+1)+2000) (by omega) ?_
   have ha:=h5.h.h.hw
   have hb:=h5.h.h.hq
   have hwq:=h5.h.h.ne
   refine bB (Γ:=aL) (fun _=>2) [] bZ (aD _ _) rfl rfl rfl (by kernel_rfl) (fun K hK=>?_)
   simp(disch:=omega) only[go_sem,hkeep h5,ha,hb]
   refine hK _ ?_
   obtain⟨q5,hq5⟩: ∃x,nx+1+4+2000*(nm.length+1)+5+400+5+400+4+400+6+17+21=x:=⟨_,rfl⟩
   simp only[hq5]at h5 hwq⊢
   have e1:(wrS ⟨nm,ty,cl,ttl,d⟩ b F)=(b5++d,F1):=by
    simp only[wrS,eb5,eb4,eb3,eb2,eb1,eF1]
   have e2:(b5++d).length=b5.length+d.length:=List.length_append
   rw[e1]
   obtain⟨g',hg'⟩: ∃y,upd (upd (del g5 q5) (nx+2000*(nm.length+1)+2000+7) (AO.cells (c8 (b5++d)) true)) w (AO.cells [AV.os (nx+2000*(nm.length+1)+2000+7) 0 (b5.length+d.length) 1 true,AV.mp m] true)=y:=⟨_,rfl⟩
   rw[hg']
   refine⟨rfl,?_,by simp only;omega⟩
   simp only
   refine fHx ⟨⟨?_,?_,by omega⟩,?_,n1,by omega⟩ fun j o j1 j2 j3 hj=>?_
   ·rw[←hg',bJ,J4 rfl,e2]
   ·rw[←hg',bJ,J3 (by omega),bJ,J4 rfl]
   ·rw[←hg',bJ,J3 n1,bJ,J3 (by omega),eV,J3 h5.h.n2];exact h5.h.hm
   have hd:=fId hj
   have:=hlt j o hd.2
   have h6:=h5.sub j o j1 hd.1 j3 (by omega) (by rw[bJ,J3 (by omega)];exact hd.2)
   rw[←hg',bJ,J3 j1,bJ,J3 j2,eV,J3 (by omega)];exact h6
  obtain⟨bx,hbx⟩: ∃o,AO.cells [x,AV.w16 ty,AV.w16 cl,AV.w32 ttl,AV.v (Value.slice none 0 0)] true=o:=⟨_,rfl⟩
  have h0:WS (upd hp nx bx) (nx+1) w q m (upd hp nx bx) q b F:=by
   refine⟨⟨⟨?_,?_,hW.h.ne⟩,?_,n1,n2⟩,fun j o _ _ _ _ hj=>hj,.inl rfl,by omega,by omega⟩
   ·rw[bJ,J3 (by omega)];exact hW.h.hw
   ·rw[bJ,J3 (by omega)];exact hW.h.hq
   rw[bJ,J3 (by omega)];exact hW.hm
  have hkeep: ∀ {g2 q2 b2 F2},WS (upd hp nx bx) (nx+1) w q m g2 q2 b2 F2→g2 nx=some (AO.cells [x,AV.w16 ty,AV.w16 cl,AV.w32 ttl,AV.v (Value.slice none 0 0)] true):=fun h=>
   h.sub nx _ (by omega) (by omega) (by omega) (by omega) (by rw[bJ,J4 rfl,hbx])
  refine ySq (yRn [0,3] fun K hK=>?_)
  simp(disch:=omega) only[go_sem]
  refine hK _ (aB ?_)
  rw[hbx]
  refine ySq (yRg [0,3] (aH fLu aO) fun K hK=>?_)
  simp(disch:=omega) only[go_sem,hkeep h0,fIa h0.h,hx]
  refine hK _ (aB ?_)
  have hQ:=fKe
  refine fIe h0 (Nat.le_trans (by omega) (hQ _ _ _)) fun g1 b1 F1 eb1 eF1 h1=>?_
  rw[←eb1]at hwn
  have hl1:b1.length≤800002+0:=by omega
  refine ySq (yRg [0,3] (aH fHt aO) fun K hK=>?_)
  simp(disch:=omega) only[go_sem,hkeep h1,yQ h1.h.h]
  refine hK _ (aB ?_)
  simp only[fHr,Nat.mul_one]
  refine fHl h1 (by omega) fun g2 b2 eb2 h2=>?_
  have hl2:b2.length≤800002+4:=by rw[eb2,List.length_append,cZ];omega
  refine ySq (yRg [0,3] (aH fHt aO) fun K hK=>?_)
  simp(disch:=omega) only[go_sem,hkeep h2,yQ h2.h.h]
  refine hK _ (aB ?_)
  simp only[fHr,Nat.mul_one]
  refine fHl h2 (by omega) fun g3 b3 eb3 h3=>?_
  have hl3:b3.length≤800002+8:=by rw[eb3,List.length_append,cZ];omega
  refine ySq (yRg [0,3] (aH fHt aO) fun K hK=>?_)
  simp(disch:=omega) only[go_sem,hkeep h3,yQ h3.h.h]
  refine hK _ (aB ?_)
  simp only[fHr]
  refine fHl h3 (by omega) fun g4 b4 eb4 h4=>?_
  have hl4:b4.length≤800002+12:=by rw[eb4,List.length_append,cZ];omega
  refine ySq (yRg [0,3] (aH fHt aO) fun K hK=>?_)
  simp(disch:=omega) only[go_sem,hkeep h4,yQ h4.h.h]
  refine hK _ (aB ?_)
  simp only[fHr,Nat.mul_one]
  refine fHl h4 (by omega) fun g5 b5 eb5 h5=>?_
  have hl5:b5.length≤800002+16:=by rw[eb5,List.length_append,cZ];omega
  refine kU (nx+2000*(nm.length+1)+2000) (by omega) ?_
  have ha:=h5.h.h.hw
  have hb:=h5.h.h.hq
  have hwq:=h5.h.h.ne
  refine bB (Γ:=aL) (fun _=>2) [] bZ (aD _ _) rfl rfl rfl (by kernel_rfl) (fun K hK=>?_)
  simp(disch:=omega) only[go_sem,hkeep h5,ha,hb]
  refine hK _ ?_
  obtain⟨q5,hq5⟩: ∃x,nx+1+4+2000*(nm.length+1)+5+400+5+400+4+400+6+17+21=x:=⟨_,rfl⟩
  simp only[hq5]at h5 hwq⊢
  have e1:(wrS ⟨nm,ty,cl,ttl,[]⟩ b F)=(b5,F1):=by
   simp only[wrS,eb5,eb4,eb3,eb2,eb1,eF1,List.append_nil,List.length_nil,Int.natCast_zero]
   rfl
  rw[e1]
  obtain⟨g',hg'⟩: ∃y,upd (upd (del g5 q5) (nx+2000*(nm.length+1)+2000+7) (AO.cells (c8 b5) true)) w (AO.cells [AV.os (nx+2000*(nm.length+1)+2000+7) 0 (b5.length) 1 true,AV.mp m] true)=y:=⟨_,rfl⟩
  rw[hg']
  refine⟨rfl,?_,by simp only;omega⟩
  simp only
  refine fHx ⟨⟨?_,?_,by omega⟩,?_,n1,by omega⟩ fun j o j1 j2 j3 hj=>?_
  ·rw[←hg',bJ,J4 rfl]
  ·rw[←hg',bJ,J3 (by omega),bJ,J4 rfl]
  ·rw[←hg',bJ,J3 n1,bJ,J3 (by omega),eV,J3 h5.h.n2];exact h5.h.hm
  have hd:=fId hj
  have:=hlt j o hd.2
  have h6:=h5.sub j o j1 hd.1 j3 (by omega) (by rw[bJ,J3 (by omega)];exact hd.2)
  rw[←hg',bJ,J3 j1,bJ,J3 j2,eV,J3 (by omega)];exact h6
 cases hg
theorem fNg:bX Tryz.prog GLh 29 (.heap fJf):=⟨⟨_,Tryz.func29,rfl,rfl⟩,fMj⟩
end Go.AX

namespace Go.AX
open Go Go.Proofs
set_option maxRecDepth 8000
section
variable {P : Program} {GL : Nat → Option (List AV)} {nt : Nat} {Q : Exit → S → Prop} {s t : S} {ι : Type} {st : ι → S} {inv : ι → Prop}
def dWp (st:ι→S) (inv:ι→Prop) (Q:Exit→S→Prop):Exit→S→Prop
 | .normal,t=> ∃i,inv i∧Sub (st i) t
 |e,t=>Q e t
theorem dWd (st:ι→S) (inv:ι→Prop) {x y:Code} (h:Awp P GL nt x s (dWp st inv Q)) (hb: ∀i,inv i→∀n,Awp P GL nt y {st i with nx:=n} Q):Awp P GL nt x s (oS P GL nt y Q):=
 dCq h fun e t hq=>by
  cases e with
  |normal=>
   obtain⟨i,hi,hs⟩:=hq
   exact tU (hb i hi t.nx) ⟨hs.fr,hs.hp,hs.cx⟩ rfl
  |_=>exact hq
theorem dWa (h: ∃i,inv i∧Sub (st i) t):dWp st inv Q .normal t:=h
theorem gAf (h:Q .ret t):dWp st inv Q .ret t:=h
end
def bCu:List AV→Option AV
 |[.b c,.w32 x]=>some (.w32 (if c=true then x else 0#32))
 |_=>none
theorem cCk (c:Bool) (x:W32):bCu [.b c,.w32 x]=some (.w32 (if c=true then x else 0#32)):=(rfl)
attribute [go_sem] cCk
theorem cRb:fHn Tryz.prog GLh 27 bCu:=by
 refine zK Tryz.func27 (aT rfl) ?_
 intro args r hg
 unfold bCu at hg
 split at hg
 ·rename_i c x
  obtain rfl:=J0 hg
  refine⟨J1 rfl,fun nx=>?_⟩
  refine ySq (yRn [0,1] fun K hK=>?_)
  simp(disch:=omega) only[go_sem]
  refine hK _ (aB ?_)
  refine ySq (ySq (yRn [5,1] fun K hK=>?_))
  simp(disch:=omega) only[go_sem]
  refine hK _ (aB ?_)
  refine gLc rfl (fun h=>?_) (fun h=>?_)
  ·refine yDr ?_
   subst h
   refine ySq (yRn [4] fun K hK=>?_)
   simp(disch:=omega) only[go_sem]
   refine hK _ (aB ?_)
   refine aS rfl (bI ?_)
   simp(disch:=omega) only[fHo,bV,bK,bQ,go_sem]
  refine yDr ?_
  subst h
  refine ySk (aB (ySq (yRn [4] fun K hK=>?_)))
  simp(disch:=omega) only[go_sem]
  refine hK _ (aB ?_)
  refine aS rfl ?_
  simp(disch:=omega) only[fHo,bV,bK,bQ,go_sem]
 cases hg
theorem fKn:bX Tryz.prog GLh 27 (.pure true bCu):=⟨⟨_,Tryz.func27,rfl,rfl⟩,cRb⟩
def rcC:List RC→List AV
 |[]=>[]
 |c::r=>fLo c++rcC r
theorem fIh: ∀l:List RC,(rcC l).length=5*l.length
 |[]=>rfl
 |c::r=>by simp only[rcC,fLo,List.length_append,List.length_cons,List.length_nil,fIh r];omega
theorem fKk: ∀l m:List RC,rcC (l++m)=rcC l++rcC m
 |[],_=>rfl
 |q::r,m=>by rw[List.cons_append,rcC,rcC,fKk r m,List.append_assoc]
theorem fLp: ∀l:List RC,dB (rcC l)=true
 |[]=>rfl
 |_::r=>fLp r
theorem fIr: ∀(l:List RC) (k:Nat),(rcC l).drop (5*k)=rcC (l.drop k)
 |l,0=>rfl
 |[],k+1=>by simp[rcC]
 |c::r,k+1=>by
  rw[rcC,Nat.mul_succ,Nat.add_comm,←List.drop_drop]
  show List.drop (5*k) (rcC r)=_
  rw[fIr r k];rfl
theorem fIs: ∀(l:List QN) (k:Nat),(qsC l).drop (3*k)=qsC (l.drop k)
 |l,0=>rfl
 |[],k+1=>by simp[qsC]
 |c::r,k+1=>by
  rw[qsC,Nat.mul_succ,Nat.add_comm,←List.drop_drop]
  show List.drop (3*k) (qsC r)=_
  rw[fIs r k];rfl
def unQ:List AV→Option (List QN)
 |[]=>some []
 | .sl n xs::.w16 t::.w16 c::r=>aK (unS xs) fun ps=>aN (ps.length=n) (aK (unQ r) fun l=>some (⟨ps,t,c⟩::l))
 |_=>none
theorem fNb: ∀l:List QN,unQ (qsC l)=some l
 |[]=>rfl
 |q::r=>by
  show aK (unS (cS q.n)) (fun ps=>aN (ps.length=q.n.length) (aK (unQ (qsC r)) fun l=>some (⟨ps,q.t,q.c⟩::l)))=_
  rw[aQr,aX,fNb r];simp[aN,aK]
theorem fMm: ∀ {xs:List AV} {l:List QN},unQ xs=some l→xs=qsC l:=by
 intro xs
 induction xs using unQ.induct with
 |case1=>intro l h;cases h;rfl
 |case2 n xs t c r ih=>
  intro l h
  rw[unQ]at h
  replace h:=aJ h;obtain⟨ps,hp,h⟩:=h
  replace h:=aP h;obtain⟨rfl,h⟩:=h
  replace h:=aJ h;obtain⟨l2,hl,h⟩:=h
  obtain rfl:=J0 h
  have:=gT hp;subst this
  rw[ih hl];rfl
 |case3 xs h1 h2=>intro l h;rw[unQ]at h;cases h;exact h1;exact h2
def unR:List AV→Option (List RC)
 |[]=>some []
 | .sl n xs::.w16 t::.w16 c::.w32 u::.sl m ys::r=>aK (unS xs) fun ps=>aK (fHq ys) fun d=>aN (ps.length=n∧d.length=m) (aK (unR r) fun l=>some (⟨ps,t,c,u,d⟩::l))
 |_=>none
theorem fNa: ∀l:List RC,unR (rcC l)=some l
 |[]=>rfl
 |q::r=>by
  show aK (unS (cS q.nm)) (fun ps=>aK (fHq (c8 q.d)) fun d=>aN (ps.length=q.nm.length∧d.length=q.d.length) (aK (unR (rcC r)) fun l=>some (⟨ps,q.ty,q.cl,q.ttl,d⟩::l)))=_
  rw[aQr,aX,iA,aX,fNa r];simp[aN,aK]
theorem fJl: ∀ {xs:List AV} {l:List RC},unR xs=some l→xs=rcC l:=by
 intro xs
 induction xs using unR.induct with
 |case1=>intro l h;cases h;rfl
 |case2 n xs t c u m ys r ih=>
  intro l h
  rw[unR]at h
  replace h:=aJ h;obtain⟨ps,hp,h⟩:=h
  replace h:=aJ h;obtain⟨d,hd,h⟩:=h
  replace h:=aP h;obtain⟨⟨rfl,rfl⟩,h⟩:=h
  replace h:=aJ h;obtain⟨l2,hl,h⟩:=h
  obtain rfl:=J0 h
  have:=gT hp;subst this
  have:=bW hd;subst this
  rw[ih hl];rfl
 |case3 xs h1 h2=>intro l h;rw[unR]at h;cases h;exact h1;exact h2
structure MD where
 id:BitVec 16
 rp:Bool
 op:Int
 aa:Bool
 tc:Bool
 rd:Bool
 ra:Bool
 rc:Int
 qs:List QN
 an:List RC
 au:List RC
 ad:List RC
 ed:Bool
 sz:BitVec 16
 dn:Bool
def mdA (M:MD):List AV:=[.w16 M.id,.b M.rp,.i M.op,.b M.aa,.b M.tc,.b M.rd,.b M.ra,.i M.rc,.sl M.qs.length (qsC M.qs),.sl M.an.length (rcC M.an),.sl M.au.length (rcC M.au),.sl M.ad.length (rcC M.ad),.b M.ed,.w16 M.sz,.b M.dn]
def fJd:List AV→Option MD
 |[.w16 id,.b rp,.i op,.b aa,.b tc,.b rd,.b ra,.i rc,.sl n1 x1,.sl n2 x2,.sl n3 x3,.sl n4 x4,.b ed,.w16 sz,.b dn]=>
  aK (unQ x1) fun qs=>aK (unR x2) fun an=>aK (unR x3) fun au=>aK (unR x4) fun ad=>aN (qs.length=n1∧an.length=n2∧au.length=n3∧ad.length=n4)
   (some ⟨id,rp,op,aa,tc,rd,ra,rc,qs,an,au,ad,ed,sz,dn⟩)
 |_=>none
theorem fLx (M:MD):fJd (mdA M)=some M:=by
 obtain⟨id,rp,op,aa,tc,rd,ra,rc,qs,an,au,ad,ed,sz,dn⟩:=M
 simp only[mdA,fJd,fNb,fNa,aX,aN,and_self,if_true]
theorem fJz {xs:List AV} {M:MD} (h:fJd xs=some M):xs=mdA M:=by
 unfold fJd at h
 split at h
 ·replace h:=aJ h;obtain⟨qs,hq,h⟩:=h
  replace h:=aJ h;obtain⟨an,ha,h⟩:=h
  replace h:=aJ h;obtain⟨au,hu,h⟩:=h
  replace h:=aJ h;obtain⟨ad,hd,h⟩:=h
  replace h:=aP h;obtain⟨⟨rfl,rfl,rfl,rfl⟩,h⟩:=h
  obtain rfl:=J0 h
  rw[fMm hq,fJl ha,fJl hu,fJl hd];rfl
 cases h
def fIw (M:MD):Int:=if M.ed=true then 4095 else 15
def scC (L:List (List RC)):List AV:=L.map fun l=> .sl l.length (rcC l)
theorem fIm (L:List (List RC)):(scC L).length=L.length:=List.length_map _
theorem fJu (L:List (List RC)) (k:Nat) (h:k<L.length):((scC L).drop k).head? =some (.sl L[k].length (rcC L[k])):=by
 rw[List.head?_drop];simp[scC,List.getElem?_map,List.getElem?_eq_getElem h]
structure LCI where
 k:Nat
 c:Nat
end Go.AX

namespace Go.AX
open Go Go.Proofs
set_option maxRecDepth 8000
def fJp:List QN→List B8→WF→List B8×WF
 |[],b,F=>(b,F)
 |q::r,b,F=>fJp r ((wnS q.n b F).1++beL (BitVec.setWidth 32 q.t) 2 2++beL (BitVec.setWidth 32 q.c) 2 2) (wnS q.n b F).2.1
def fJa:List RC→List B8→WF→List B8×WF
 |[],b,F=>(b,F)
 |c::r,b,F=>fJa r (wrS c b F).1 (wrS c b F).2
def fKd:List (List RC)→List B8→WF→List B8×WF
 |[],b,F=>(b,F)
 |l::r,b,F=>fKd r (fJa l b F).1 (fJa l b F).2
def szR (c:RC):Nat:=(eRs c.nm).length+12+c.d.length
def fl1 (M:MD):W32:=((((if M.rp=true then 128#32 else 0#32)|||BitVec.ofInt 32 M.op <<<3|||if M.aa=true then 4#32 else 0#32)|||if M.tc=true then 2#32 else 0#32)|||if M.rd=true then 1#32 else 0#32)
def fl2 (M:MD):W32:=(if M.ra=true then 128#32 else 0#32)|||BitVec.ofInt 32 (cYz M.rc 15)
def hdB (M:MD):List B8:=beL (BitVec.setWidth 32 M.id) 2 2++beL (fl1 M) 1 1++beL (fl2 M) 1 1++beL (BitVec.ofInt 32 (M.qs.length:Int)) 2 2++beL (BitVec.ofInt 32 (M.an.length:Int)) 2 2++beL (BitVec.ofInt 32 (M.au.length:Int)) 2 2++beL (BitVec.ofInt 32 (M.ad.length:Int)+(if M.ed=true then 1#32 else 0#32)) 2 2
def fLd (M:MD):RC:=⟨[],41#16,M.sz,BitVec.ofInt 32 (M.rc.fdiv (2^min 4 64)) <<<24|||(if M.dn=true then 32768#32 else 0#32),[]⟩
def mbF (M:MD):List B8×WF:=fKd [M.an,M.au,M.ad] (fJp M.qs (hdB M) []).1 (fJp M.qs (hdB M) []).2
def mbS (M:MD):List B8:=if M.ed=true then(wrS (fLd M) (mbF M).1 (mbF M).2).1 else(mbF M).1
theorem WS.upd {hp g:H} {n w q0 m q X:Nat} {o:AO} {b:List B8} {F:WF} (h:WS hp n w q0 m g q b F) (hX:n≤X) (hq:X≠q):WS hp n w q0 m (upd g X o) q b F:=by
 have:=h.wl;have:=h.ml
 refine⟨⟨⟨?_,?_,h.h.h.ne⟩,?_,h.h.n1,h.h.n2⟩,fun j o2 j1 j2 j3 j4 hj=>?_,h.hq,h.wl,h.ml⟩
 ·rw[bJ,J3 (by omega)];exact h.h.h.hw
 ·rw[bJ,J3 (by omega)];exact h.h.h.hq
 ·rw[bJ,J3 (by omega)];exact h.h.hm
 rw[bJ,J3 (by omega)];exact h.sub j o2 j1 j2 j3 j4 hj
theorem fKj (c:RC) (b:List B8) (F:WF):(wrS c b F).1.length≤b.length+szR c:=by
 have:=fJk c.nm b F
 simp only[wrS,List.length_append,cZ,szR];omega
structure YI where
 k:Nat
 g:H
 q:Nat
 b:List B8
 F:WF
 c:Nat
end Go.AX

namespace Go.AX
open Go Go.Proofs
set_option maxRecDepth 8000
def isM:Option AO→Bool
 |some (.cells (.w16 _::xs) true)=>decide (xs.length=14)
 |_=>false
theorem fMv {o:Option AO} (h:isM o=true): ∃xs,o=some (.cells xs true):=by
 unfold isM at h
 split at h
 ·exact⟨_,rfl⟩
 cases h
theorem fOt (x:List B8) (xs:List AV):isM (some (.cells (.s x::xs) true))=false:=(rfl)
theorem fNt (i a n e:Nat) (g:Bool) (xs:List AV):isM (some (.cells (.os i a n e g::xs) true))=false:=(rfl)
theorem gHw (x:BitVec 8) (xs:List AV):isM (some (.cells (.w8 x::xs) true))=false:=(rfl)
attribute [go_sem] fOt fNt gHw
def bUf (hp:H):H:=fun k=>if isM (hp k)=true then none else hp k
def fJn (hp:H):H:=fun k=>if isM (hp k)=true then hp k else(hp k).map eQs
theorem fHy (hp:H) (k:Nat):bUf hp k=if isM (hp k)=true then none else hp k:=rfl
theorem fKb (hp:H) (k:Nat):fJn hp k=if isM (hp k)=true then hp k else(hp k).map eQs:=rfl
theorem Inv.lendS {c:Ctx} {σ:Nat→Loc} {I:Nat→Prop} {w:World} {hp:H} {un:Nat→Prop} (h:Inv c σ I w hp un):
  ∃I1,Inv c σ I1 w (fJn hp) un∧(∀k,I k→I1 k)∧(∀id o blk base sz,bUf hp id=some o→σ id=.at_ blk base sz→I1 blk):=by
 have mY: ∀id o,bUf hp id=some o→hp id=some o∧isM (hp id)=false:=fun id o ho=>by
  rw[fHy]at ho
  split at ho
  ·cases ho
  rename_i e;exact⟨ho,by simpa using e⟩
 have hfrz: ∀id o,fJn hp id=some o→(hp id=some o∧isM (hp id)=true)∨(∃o',hp id=some o'∧o=eQs o'∧bUf hp id=some o'):=fun id o ho=>by
  rw[fKb]at ho
  split at ho
  ·rename_i e;exact .inl ⟨ho,e⟩
  rename_i e
  cases e2:hp id with
  |none=>rw[e2]at ho;cases ho
  |some o'=>
   rw[e2]at ho
   exact .inr ⟨o',rfl,(J0 ho).symm,by rw[fHy,J3 e,e2]⟩
 have hmt: ∀id o,hp id=some o→isM (hp id)=true→o.mt=true:=fun id o ho h15=>by
  obtain⟨xs,e⟩:=fMv h15
  rw[ho]at e;cases e;rfl
 refine⟨fun k=>I k∨∃id o base sz,bUf hp id=some o∧σ id=.at_ k base sz,?_,fun k hk=> .inl hk,fun id o blk base sz h1 h2=> .inr ⟨id,o,base,sz,h1,h2⟩⟩
 refine {h with imm:=fun k hk=> .inl (h.imm k hk),ilt:=fun k hk=>?_,own:=fun id o ho=>?_,inj:=fun id id' o o' blk base sz base' sz' ho hm ho' hne e1 e2=>?_,lim:=fun id o blk base sz ho hm e1=>?_,glob:=fun g xs hg=>(h.glob g xs hg).mono (fun _ _=>rfl) (fun k hk=> .inl hk) (fun _ _=>rfl),inew:=fun k hk=>?_}
 ·rcases hk with hk|⟨id,o,base,sz,h1,h2⟩
  ·exact h.ilt k hk
  exact(h.own id o (mY id o h1).1).lt h2
 ·rcases hfrz id o ho with⟨h1,h15⟩|⟨o',h1,rfl,h2⟩
  ·refine(h.own id o h1).mono (fun _ _=>rfl) (fun k hk=> .inl hk) (fun _ _=>rfl) fun blk base sz e1=>⟨rfl,fun hm hI=>?_⟩
   rintro(hk|⟨id2,o2,base2,sz2,g1,g2⟩)
   ·exact hI hk
   obtain⟨g3,g4⟩:=mY id2 o2 g1
   refine h.inj id id2 o o2 blk base sz base2 sz2 h1 hm g3 ?_ e1 g2
   intro e;subst e
   rw[h15]at g4;cases g4
  exact(h.own id o' h1).lend (fun k hk=> .inl hk) fun k base sz e=> .inr ⟨id,o',base,sz,h2,e⟩
 ·have key: ∀id o,fJn hp id=some o→∃o2,hp id=some o2:=fun id o ho=>by
   rcases hfrz id o ho with⟨h1,_⟩|⟨o',h1,_,_⟩
   ·exact⟨_,h1⟩
   exact⟨_,h1⟩
  rcases hfrz id o ho with⟨h1,h15⟩|⟨o2,h1,rfl,_⟩
  ·obtain⟨o2,h2⟩:=key id' o' ho'
   exact h.inj id id' o o2 blk base sz base' sz' h1 hm h2 hne e1 e2
  rw[eRv]at hm;cases hm
 ·rcases hfrz id o ho with⟨h1,h15⟩|⟨o2,h1,rfl,_⟩
  ·exact h.lim id o blk base sz h1 hm e1
  rw[eRv]at hm;cases hm
 rcases hk with hk|⟨id,o,base,sz,h1,h2⟩
 ·exact h.inew k hk
 obtain⟨h3,_⟩:=mY id o h1
 cases hm:o.mt with
 |true=>exact .inr (h.lim id o k base sz h3 hm h2)
 |false=>
  refine h.inew k ?_
  have:=h.own id o h3
  cases o with
  |cells xs mt=>
   simp only[eD,h2]at this
   exact this.2.2 hm
  |mapo es mt=>
   obtain⟨blk,a1,a2,a3,a4⟩:=this
   rw[h2]at a1;cases a1
   exact a4 hm
def fLr (g:List AV→Option AV):List AV→H→Nat→Option (AV×H×Nat):=fun args hp nx=>aK (gR (bUf hp) args) fun as_=>aK (g as_) fun r=>aN (r.ids=0) (some (r,fJn hp,nx))
theorem fKh {P:Program} {GL:Nat→Option (List AV)} {f:FuncId} {g:List AV→Option AV} (hok:fHn P GL f g):fHs P GL f (fLr g):=by
 intro c σ I w hp nx args vals r hp' nx' hGL hi hs hr hg
 unfold fLr at hg
 replace hg:=aJ hg;obtain⟨as_,has,hg⟩:=hg
 replace hg:=aJ hg;obtain⟨r',hr',hg⟩:=hg
 replace hg:=aP hg;obtain⟨hids,hg⟩:=hg
 simp only[Option.some.injEq,Prod.mk.injEq]at hg;obtain⟨rfl,rfl,rfl⟩:=hg
 refine⟨U3 _,?_⟩
 obtain⟨I1,b2,b1,b4⟩:=hi.lendS
 obtain⟨e1,e2⟩:=pR (Ib:=I1) (hi.sub (hp':=bUf hp) fun id o ho=>by
  rw[fHy]at ho
  split at ho
  ·cases ho
  exact ho) b1 b4 args (fun i=>vals.getD i undef) has hr
 subst hGL
 refine(hok σ I1 w nx as_ vals r' (fun id hid=>b2.un id hid) b2.ilt b2.glob (by rw[hs,e1]) e2 hr').mono ?_
 rintro e w' ⟨v,σ',I',rfl,a1,a2,a3,a4,a5,a6,a7,a8,a9⟩
 have hg1: ∀k,I1 k→(I1 k∨(w.heap.size≤k∧k<w'.heap.size)):=fun k hk=> .inl hk
 refine⟨v,σ,fun k=>I1 k∨(w.heap.size≤k∧k<w'.heap.size),rfl,b2.extend a1 a2 a3 a4 a5 _ hg1 (fun _ h=>h),?_,⟨fun _ _=>rfl,fun k hk=> .inl (b1 k hk),fun k hk=>a5 k (hi.ilt k hk)⟩,fun _ _ h=>h⟩
 have h9:Rel σ I' w' r' v:=a9.congr_ids fun id hid=>by omega
 exact h9.mono (fun _ _=>rfl) (fun k hk=>by
  rcases a7 k hk with h|h
  ·exact .inl h
  exact .inr ⟨h,a8 k hk⟩) (fun _ _=>rfl)
end Go.AX

namespace Go.AX
open Go Go.Proofs
set_option maxRecDepth 8000
def idV (b:List B8):AV:=if b.length<12 then .tup [.w16 0#16,.b false]else .tup [.w16 (((b.getD 0 0#8).setWidth 16 <<<8)|||(b.getD 1 0#8).setWidth 16),.b true]
def idG:List AV→Option AV
 |[.sl n xs]=>aK (fHq xs) fun b=>aN (b.length=n∧n≤1000000) (some (idV b))
 |_=>none
theorem fNx (n:Nat) (xs:List AV):idG [.sl n xs]=aK (fHq xs) fun b=>aN (b.length=n∧n≤1000000) (some (idV b)):=(rfl)
attribute [go_sem] fNx
set_option maxHeartbeats 1000000 in
theorem fOw:fHn Tryz.prog GLh 16 idG:=by
 refine zK Tryz.func16 (aT rfl) ?_
 intro args r hg
 unfold idG at hg
 split at hg
 ·rename_i n xs
  replace hg:=aJ hg;obtain⟨b,hl,hg⟩:=hg
  replace hg:=aP hg;obtain⟨⟨rfl,hn⟩,hg⟩:=hg
  obtain rfl:=J0 hg
  have:=bW hl;subst this
  refine⟨J1 rfl,fun nx=>?_⟩
  clear hg hl
  refine ySq (yRn [0] fun K hK=>?_)
  simp(disch:=omega) only[go_sem]
  refine hK _ (aB ?_)
  refine ySq (ySq (yRn [6,0] fun K hK=>?_))
  simp(disch:=omega) only[go_sem]
  refine hK _ (aB ?_)
  refine gLb rfl (fun h=>?_) (fun h=>?_)
  ·refine yDr ?_
   have e:idV b=.tup [.w16 0#16,.b false]:=J4 (by omega)
   rw[e]
   refine ySq (yRn [2,3] fun K hK=>?_)
   simp(disch:=omega) only[go_sem]
   refine hK _ (aB ?_)
   refine aS rfl (bI ?_)
   simp(disch:=omega) only[fHo,bV,bK,bQ,go_sem]
  refine yDr ?_
  have e:idV b=.tup [.w16 (((b.getD 0 0#8).setWidth 16 <<<8)|||(b.getD 1 0#8).setWidth 16),.b true]:=J3 (by omega)
  rw[e]
  have hb:12≤b.length:=by omega
  have h0:=oC b 0 (by omega)
  have h1:=oC b 1 (by omega)
  rw[J9]at h0
  clear h
  refine ySk (aB (ySq (bB (Γ:=aL) (fun _=>2) [2,3] bZ (aD _ _) rfl rfl rfl (by kernel_rfl) (fun K hK=>?_))))
  simp(disch:=omega) only[go_sem,h0]
  refine hK _ (aB ?_)
  refine aS rfl ?_
  simp(disch:=omega) only[fHo,bV,bK,bQ,go_sem]
 cases hg
theorem fOr:bX Tryz.prog GLh 16 (.pure true idG):=⟨⟨_,Tryz.func16,rfl,rfl⟩,fOw⟩
theorem fIx (hp:H) (k:Nat) (o:AO):fJn (upd hp k o)=upd (fJn hp) k (if isM (some o)=true then o else eQs o):=by
 funext j
 simp only[fKb,bJ]
 split
 ·split<;>rfl
 rfl
theorem fIy:fJn (fun _=>none)=fun _=>none:=rfl
def M0:MD:=⟨7#16,false,0,false,false,true,false,0,[⟨[[97#8]],1#16,1#16⟩],[],[],[],false,0#16,false⟩
def B0:List B8:=[0,7,1,0,0,1,0,0,0,0,0,0,1,97,0,0,1,0,1]
theorem M0_B:mbS M0=B0:=by decide
theorem fPa:mgR B0=some (msA B0 [⟨[[97#8]],1#16,1#16⟩],[.sl B0.length (c8 B0),.i 19]):=rfl
theorem B0_g:MGd B0:=.inr ⟨by decide,rfl,rfl,rfl⟩
theorem N0_g:MGd []:=.inl (by decide)
def eNl:List AV→Option AV
 |[]=>some (.b true)
 |_=>none
theorem eTd:eNl []=some (.b true):=(rfl)
attribute [go_sem] eTd
end Go.AX

namespace Go.AX
open Go Go.Proofs
set_option maxRecDepth 8000
def fPe (b:List B8) (s:NS) (a:Nat):Nat:=
 if b.length≤s.pl then s.en.getD a
 else if(b.getD s.pl 0#8).toNat=0 then s.en.getD a
 else if 192≤(b.getD s.pl 0#8).toNat then
  if b.length≤s.pl+1 then s.en.getD a else s.en.getD (s.pl+2)
 else s.en.getD a
def fPh (b:List B8) (a:Nat):Nat→NS→Nat
 |0,_=>a
 |f+1,s=>match fHj b s with
  | .no=>fPe b s a
  | .done _ e=>e
  | .go t=>fPh b a f t
theorem fPp {b:List B8} {a f:Nat} {s:NS} (h:fHj b s=.no):fPh b a (f+1) s=fPe b s a:=by rw[fPh,h]
theorem fPk {b:List B8} {a f:Nat} {s t:NS} (h:fHj b s=.go t):fPh b a (f+1) s=fPh b a f t:=by rw[fPh,h]
def nI (b:List B8) (a:Nat):Nat:=fPh b a (nMu b (ns0 a)+1) (ns0 a)
end Go.AX

namespace Go.AX
open Go Go.Proofs
set_option maxRecDepth 8000
def bBg:List AV→Option AV
 |[.sl n xs]=>aK (fHq xs) fun l=>aN (l.length=n∧n≤100000) (some (.w32 (fRs l)))
 |_=>none
theorem bZv (n:Nat) (xs:List AV):bBg [.sl n xs]=aK (fHq xs) fun l=>aN (l.length=n∧n≤100000) (some (.w32 (fRs l))):=(rfl)
attribute [go_sem] bZv
set_option maxHeartbeats 2000000 in
theorem cOi:fHn Tryz.prog GLh 40 bBg:=by
 refine zK Tryz.func40 (aT rfl) ?_
 intro args r hg
 unfold bBg at hg
 split at hg
 ·rename_i n xs
  replace hg:=aJ hg;obtain⟨l,hl,hg⟩:=hg
  replace hg:=aP hg;obtain⟨⟨rfl,hn⟩,hg⟩:=hg
  obtain rfl:=J0 hg
  have:=bW hl;subst this
  refine⟨J1 rfl,fun nx=>?_⟩
  clear hl hg
  refine ySq (yRn [0] fun K hK=>?_)
  simp(disch:=omega) only[go_sem]
  refine hK _ (aB ?_)
  refine ySq (yRn [0,3] fun K hK=>?_)
  simp(disch:=omega) only[go_sem]
  refine hK _ (aB ?_)
  refine ySq (ySq (yRn [0,3,4] fun K hK=>?_))
  simp(disch:=omega) only[go_sem]
  refine hK _ (aB ?_)
  refine yBl 0 (bR (fun p:KC5=> {fr:=[(0,.sl l.length (c8 l)),(3,.w32 (fRs (l.take p.k))),(4,.i (p.k:Int))],hp:=fun _=>none,nx:=0,cx:=p.c}) (fun p=>p.k≤l.length) (fun p=>l.length-p.k) rfl ⟨⟨0,_⟩,Nat.zero_le _,bD rfl rfl (U3 _)⟩ ?_)
  rintro⟨i,c⟩ hi n0
  simp only at hi⊢
  refine ySq (ySq (yRn [8,0,3,4] fun K hK=>?_))
  simp(disch:=omega) only[go_sem]
  refine hK _ (aB ?_)
  refine gLb rfl (fun h=>?_) (fun h=>?_)
  ·refine yDr ?_
   have hil:i<l.length:=by omega
   have hix:=fQy l i hil
   have hst:=eOi l i hil
   refine ySk (aB (ySq (yBl 1 (yRn [0,3,4] fun K hK=>?_))))
   simp(disch:=omega) only[go_sem]
   refine hK _ (bU (aB ?_))
   refine yRn [0,3,4] fun K hK=>?_
   simp(disch:=omega) only[go_sem]
   refine hK _ (bT ?_)
   refine⟨⟨i+1,_⟩,by simp only;omega,by simp only;omega,bD ?_ rfl (U3 _)⟩
   simp only[hst,Int.natCast_add,Int.natCast_one]
  refine yDr ?_
  obtain rfl:i=l.length:=by omega
  have e1:l.take l.length=l:=List.take_length
  refine yEx 0 (aY (aZ (bE (aB (ySq (yRn [2] fun K hK=>?_))))))
  simp(disch:=omega) only[go_sem,e1]
  refine hK _ (aB ?_)
  refine aS rfl ?_
  simp(disch:=omega) only[fHo,bV,bK,bQ,go_sem]
 cases hg
theorem fRg:bX Tryz.prog GLh 40 (.pure true bBg):=⟨⟨_,Tryz.func40,rfl,rfl⟩,cOi⟩
def rnR (b:List B8) (k a:Nat) (bad:Bool):AV×List AV:=
 if bad=true∨b.length-a<k then(.w32 0#32,[.sl b.length (c8 b),.i (a:Int),.b true])
 else(.w32 (fRs ((b.drop a).take k)),[.sl b.length (c8 b),.i ((a+k:Nat):Int),.b false])
theorem fQa (b:List B8) (k a:Nat):rnR b k a true=(.w32 0#32,[.sl b.length (c8 b),.i (a:Int),.b true]):=J4 (.inl rfl)
theorem fQg {b:List B8} {k a:Nat} (h:b.length-a<k):rnR b k a false=(.w32 0#32,[.sl b.length (c8 b),.i (a:Int),.b true]):=J4 (.inr h)
theorem fPn {b:List B8} {k a:Nat} (h: ¬b.length-a<k):rnR b k a false=(.w32 (fRs ((b.drop a).take k)),[.sl b.length (c8 b),.i ((a+k:Nat):Int),.b false]):=J3 (by simp[h])
def rnG:List AV→List AV→Option (Option (AV×List AV))
 |[.op _ 0,.i k],[.sl n xs,.i a,.b bad]=>aK (fHq xs) fun b=>aN (b.length=n∧0≤k∧k≤4∧0≤a∧a≤n∧n≤100000) (some (some (rnR b k.toNat a.toNat bad)))
 |_,_=>none
theorem fQv (id n:Nat) (k a:Int) (xs:List AV) (bad:Bool):rnG [.op id 0,.i k] [.sl n xs,.i a,.b bad]=aK (fHq xs) fun b=>aN (b.length=n∧0≤k∧k≤4∧0≤a∧a≤n∧n≤100000) (some (some (rnR b k.toNat a.toNat bad))):=(rfl)
attribute [go_sem] fQv
theorem fPi (n:Nat) (l:List B8) (a:Int) (bad:Bool):AV.ids.idsL [.sl n (c8 l),.i a,.b bad]=0:=by
 show max (AV.ids (.sl n (c8 l))) (max 0 (max 0 0))=0
 rw[eLf];rfl
set_option maxHeartbeats 4000000 in
theorem fQp:fHs Tryz.prog GLh 19 (rdH rnG)∧dE Tryz.prog GLh 19 chM (rdP rnG):=by
 refine dT Tryz.func19 (aT rfl) ?_
 intro id off rest nx xs o hg
 unfold rnG at hg
 split at hg
 ·rename_i id2 k0 n xs2 a0 bad heq
  simp only[List.cons.injEq,AV.op.injEq]at heq
  obtain⟨⟨rfl,rfl⟩,rfl⟩:=heq
  replace hg:=aJ hg;obtain⟨b,hl,hg⟩:=hg
  replace hg:=aP hg;obtain⟨⟨rfl,hk,hkb,ha,han,hnb⟩,hg⟩:=hg
  obtain rfl:=J0 hg
  have:=bW hl;subst this
  obtain⟨k,rfl⟩:=Int.eq_ofNat_of_zero_le hk
  obtain⟨a,rfl⟩:=Int.eq_ofNat_of_zero_le ha
  simp only[U2]at*
  refine⟨J1 rfl,fun hid=>?_⟩
  clear hl hg
  refine ySq (yRn [0,1] fun K hK=>?_)
  simp(disch:=omega) only[go_sem]
  refine hK _ (aB ?_)
  rcases bad with _|_
  ·by_cases hka:b.length-a<k
   ·rw[fQg hka]
    have hd:decide ((b.length:Int)-(a:Int)<(k:Int))=true:=J5 (by omega)
    refine ySq (ySq (bB (Γ:=aL) (fun k=>if k=3 then 0 else 2) [22,0,1] bZ (aD _ _) rfl rfl rfl (by kernel_rfl) (fun K hK=>?_)))
    simp(disch:=omega) only[go_sem,hd]
    refine hK _ (aB ?_)
    refine iTd (ySq (yRn [] fun K hK=>?_))
    simp(disch:=omega) only[go_sem]
    refine hK _ (aB ?_)
    refine ySq (yRn [4] fun K hK=>?_)
    simp(disch:=omega) only[go_sem]
    refine hK _ (aB ?_)
    refine aS rfl (bI (⟨by simp(disch:=omega) only[bV,bK,bQ,go_sem,eq_self],by simp(disch:=omega) only[aV,↓reduceIte,eq_self],?_,?_⟩))
    ·rfl
    exact fPi _ _ _ _
   rw[fPn hka]
   have hd:decide ((b.length:Int)-(a:Int)<(k:Int))=false:=J6 (by omega)
   refine ySq (ySq (bB (Γ:=aL) (fun k=>if k=3 then 0 else 2) [22,0,1] bZ (aD _ _) rfl rfl rfl (by kernel_rfl) (fun K hK=>?_)))
   simp(disch:=omega) only[go_sem,hd]
   refine hK _ (aB ?_)
   refine iFd (ySk (aB (ySq ?_)))
   have ea:(a:Int)+(k:Int)=((a+k:Nat):Int):=rfl
   refine yRn [0,1] fun K hK=>?_
   simp(disch:=omega) only[go_sem,ea]
   refine hK _ (aB ?_)
   have es:((a+k:Nat):Int)-(k:Int)=(a:Int):=by omega
   have e2:a+k-a=k:=by omega
   have e3:((b.drop a).take k).length=k:=by rw[List.length_take,List.length_drop];omega
   refine ySq (bB (fun k=>if k=15 then 0 else 2) [4] bZ (aH fRg aO) rfl rfl rfl (by kernel_rfl) (fun K hK=>?_))
   simp(disch:=omega) only[go_sem,es,e2,e3,U2]
   refine hK _ (aB ?_)
   refine aS rfl (⟨by simp(disch:=omega) only[bV,bK,bQ,go_sem,eq_self],by simp(disch:=omega) only[aV,↓reduceIte,eq_self],?_,?_⟩)
   ·rfl
   exact fPi _ _ _ _
  rw[fQa]
  refine ySq (ySq (bB (Γ:=aL) (fun k=>if k=3 then 0 else 2) [22,0,1] bZ (aD _ _) rfl rfl rfl (by kernel_rfl) (fun K hK=>?_)))
  simp(disch:=omega) only[go_sem]
  refine hK _ (aB ?_)
  refine iTd (ySq (yRn [] fun K hK=>?_))
  simp(disch:=omega) only[go_sem]
  refine hK _ (aB ?_)
  refine ySq (yRn [4] fun K hK=>?_)
  simp(disch:=omega) only[go_sem]
  refine hK _ (aB ?_)
  refine aS rfl (bI (⟨by simp(disch:=omega) only[bV,bK,bQ,go_sem,eq_self],by simp(disch:=omega) only[aV,↓reduceIte,eq_self],?_,?_⟩))
  ·rfl
  exact fPi _ _ _ _
 cases hg
theorem fPw:bX Tryz.prog GLh 19 (.heap (rdH rnG)):=⟨⟨_,Tryz.func19,rfl,rfl⟩,fQp.1⟩
end Go.AX

namespace Go.AX
open Go Go.Proofs
set_option maxRecDepth 8000
theorem fQq {k:Nat} (h1:192≤k) (h2:k<256):cYz (k:Int) 63=((k-192:Nat):Int):=by
 have h: ∀j:Fin 64,cYz ((192+j.val:Nat):Int) 63=(j.val:Int):=by decide
 have:=h ⟨k-192,by omega⟩
 simp only at this
 rw[show 192+(k-192)=k by omega]at this
 exact this
def fPv (b:List B8) (a:Nat) (bad:Bool):AV×List AV:=
 if bad=true then(.sl 0 [],[.sl b.length (c8 b),.i (a:Int),.b true])
 else match fJj b a with
  |none=>(.sl 0 [],[.sl b.length (c8 b),.i (nI b a:Int),.b true])
  |some (n,e)=>(.sl n.length (cS n),[.sl b.length (c8 b),.i (e:Int),.b false])
theorem fQf {b:List B8} {a:Nat} (h:fJj b a=none):fPv b a false=(.sl 0 [],[.sl b.length (c8 b),.i (nI b a:Int),.b true]):=by unfold fPv;rw[J3 (by simp),h]
theorem fPq {b:List B8} {a:Nat} {n:Nm} {e:Nat} (h:fJj b a=some (n,e)):fPv b a false=(.sl n.length (cS n),[.sl b.length (c8 b),.i (e:Int),.b false]):=by unfold fPv;rw[J3 (by simp),h]
def fQd:List AV→List AV→Option (Option (AV×List AV))
 |[.op _ 0],[.sl n xs,.i a,.b bad]=>aK (fHq xs) fun b=>aN (b.length=n∧0≤a∧a≤n∧n≤100000) (some (some (fPv b a.toNat bad)))
 |_,_=>none
theorem fQo (id n:Nat) (a:Int) (xs:List AV) (bad:Bool):fQd [.op id 0] [.sl n xs,.i a,.b bad]=aK (fHq xs) fun b=>aN (b.length=n∧0≤a∧a≤n∧n≤100000) (some (some (fPv b a.toNat bad))):=(rfl)
attribute [go_sem] fQo
theorem fPu {g:H} {a b:Nat} {x y:AO} (h1:g a=some x:=by simp(disch:=omega) only[aV,kE,bY,↓reduceIte,if_true,if_false]<;>rfl) (h2:g b=some y:=by simp(disch:=omega) only[aV,kE,bY,↓reduceIte,if_true,if_false]<;>rfl): ∀j o,upd (upd (fun _=>none) a x) b y j=some o→g j=some o:=by
 intro j o h
 simp only[bJ]at h
 split at h
 ·rename_i e;rw[e,h2];exact h
 split at h
 ·rename_i e;rw[e,h1];exact h
 cases h
structure NMJ where
 s:NS
 f:Nat
 q:Nat
 c:Nat
 bad:Bool
 ri:Nat
structure RJ (b:List B8) (a:Nat) (R:Option (Nm×Nat)) (ai:Nat) (s:NS) (f:Nat) (bad:Bool) (ri:Nat):Prop where
 go:bad=false→NI b s∧fIv b f s=R∧fPh b a f s=ai∧nMu b s<f∧ri=s.en.getD a
 no:bad=true→R=none∧ri=ai
theorem RJ.bad {b:List B8} {a:Nat} {R:Option (Nm×Nat)} {ai:Nat} {s s2:NS} {f ri:Nat} (h1:fIv b (f+1) s=R) (h2:fPh b a (f+1) s=ai) (hs:fHj b s=.no) (hr:ri=fPe b s a):RJ b a R ai s2 f true ri:=
 ⟨(fun h=>by cases h),fun _=>⟨by rw[←h1,fHz hs],by rw[←h2,fPp hs,hr]⟩⟩
theorem fQi {b:List B8} {s:NS} {a:Nat} (hI:NI b s) (ha:a≤b.length):fPe b s a≤b.length:=by
 have h1:s.en.getD a≤b.length:=by
  rcases h:s.en with _|e
  ·exact ha
  exact hI.en e h
 unfold fPe
 split
 ·exact h1
 split
 ·exact h1
 split
 ·split
  ·exact h1
  rcases h:s.en with _|e
  ·show s.pl+2≤b.length;omega
  exact hI.en e h
 exact h1
theorem fPx {b:List B8} {a:Nat} (ha:a≤b.length): ∀ {f:Nat} {s:NS},NI b s→fPh b a f s≤b.length
 |0,_,_=>ha
 |f+1,s,hI=>by
  rcases hs:fHj b s with _|⟨n2,e2⟩|t
  ·rw[fPp hs];exact fQi hI ha
  ·rw[fPh,hs];exact(hI.done hs).2.2
  rw[fPk hs];exact fPx ha (hI.step hs)
theorem fQj {b:List B8} {a:Nat} (ha:a≤b.length):nI b a≤b.length:=fPx ha (NI.start b a)
set_option maxHeartbeats 8000000 in
theorem fPy:fHs Tryz.prog GLh 20 (rdH fQd)∧dE Tryz.prog GLh 20 chM (rdP fQd):=by
 refine dT Tryz.func20 (aT rfl) ?_
 intro id off rest nx xs o hg
 unfold fQd at hg
 split at hg
 ·rename_i id2 n xs2 a0 bad heq
  simp only[List.cons.injEq,AV.op.injEq]at heq
  obtain⟨⟨rfl,rfl⟩,rfl⟩:=heq
  replace hg:=aJ hg;obtain⟨b,hl,hg⟩:=hg
  replace hg:=aP hg;obtain⟨⟨rfl,ha,han,hnb⟩,hg⟩:=hg
  obtain rfl:=J0 hg
  have:=bW hl;subst this
  obtain⟨a,rfl⟩:=Int.eq_ofNat_of_zero_le ha
  simp only[U2]at*
  refine⟨J1 rfl,fun hid=>?_⟩
  clear hl hg
  obtain⟨R,ai,ans,hst,hans⟩: ∃R ai ans,RJ b a R ai (ns0 a) (nMu b (ns0 a)+1) bad a∧(fPv b a bad=ans∧(R=none→ans=(.sl 0 [],[.sl b.length (c8 b),.i (ai:Int),.b true]))∧∀n e,R=some (n,e)→ans=(.sl n.length (cS n),[.sl b.length (c8 b),.i (e:Int),.b false])):=by
   rcases bad with _|_
   ·refine⟨fJj b a,nI b a,_,⟨fun _=>⟨NI.start b a,rfl,rfl,Nat.lt_succ_self _,rfl⟩,(fun h=>by cases h)⟩,rfl,fun h=>fQf h,fun n e h=>fPq h⟩
   exact⟨none,a,_,⟨(fun h=>by cases h),fun _=>⟨rfl,rfl⟩⟩,rfl,fun _=>rfl,fun n e h=>by cases h⟩
  obtain⟨ha1,ha2,ha3⟩:=hans
  rw[ha1]
  refine ySq (yRn [0] fun K hK=>?_)
  simp(disch:=omega) only[go_sem]
  refine hK _ (aB ?_)
  refine ySq (yRn [0,3] fun K hK=>?_)
  simp(disch:=omega) only[go_sem]
  refine hK _ (aB ?_)
  refine ySq (bB (Γ:=aL) (fun _=>2) [0,3,4,5,6] bZ (aD _ _) rfl rfl rfl (by kernel_rfl) (fun K hK=>?_))
  simp(disch:=omega) only[go_sem]
  refine hK _ (aB ?_)
  refine ySq (yRn [0,3,4,5,6,7] fun K hK=>?_)
  simp(disch:=omega) only[go_sem]
  refine hK _ (aB ?_)
  refine iE 3 1 rfl (fPg [0,3,4,5,6,7] ?_)
  simp only[iB,fU,eW,↓reduceIte,Nat.reduceEqDiff]
  refine ySq (yBl 0 ?_)
  refine bR (fun p:NMJ=> {fr:=[(0,.op id 0),(3,.os p.q 0 p.s.acc.length 1 true),(4,.i (p.s.pl:Int)),(5,.i (p.s.bg:Int)),(6,.i (p.s.tot:Int)),(7,.b p.s.en.isSome)],hp:=upd (upd (fun _=>none) id (.cells [.sl b.length (c8 b),.i (p.ri:Int),.b p.bad] true)) p.q (.cells (cS p.s.acc) true),nx:=0,cx:=p.c}) (fun p=>RJ b a R ai p.s p.f p.bad p.ri∧id<p.q∧p.q<p.c) (fun p=>if p.bad=true then 0 else nMu b p.s+1) rfl ⟨⟨ns0 a,nMu b (ns0 a)+1,_,_,bad,a⟩,⟨hst,by simp only;omega,by simp only;omega⟩,bD rfl rfl (U3 _)⟩ ?_
  rintro⟨⟨bg,pl,en,tot,acc⟩,f,q,c,bd,ri⟩ ⟨hJ,hq,hqc⟩ n0
  simp only at hJ hq hqc⊢
  rcases bd with _|_
  ·obtain⟨hI,hrun,hruni,hmu,hri⟩:=hJ.go rfl
   simp only at hri
   obtain⟨g,rfl⟩: ∃g,f=g+1:=⟨f-1,by omega⟩
   have hile:b.length≤100000:=hnb
   have htl:tot≤255:=hI.le
   have hcl:List.length acc≤255:=hI.cnt
   refine ySq (ySq (yRn [22,0,3,4,5,6,7] fun K hK=>?_))
   simp(disch:=omega) only[go_sem]
   refine hK _ (aB ?_)
   refine iTd ?_
   by_cases hil:pl<b.length
   ·have d0:decide ((b.length:Int)≤(pl:Int))=false:=J6 (by omega)
    obtain⟨k,hk⟩: ∃k,b.getD pl 0#8=k:=⟨_,rfl⟩
    have hkl:=k.isLt
    refine ySk (aB (yBl 1 (ySq (ySq (yRn [29,0,3,4,5,6,7] fun K hK=>?_)))))
    simp(disch:=omega) only[go_sem,d0]
    refine hK _ (aB ?_)
    refine iFd (ySk (aB (ySq (yRn [0,3,4,5,6,7,8] fun K hK=>?_))))
    simp(disch:=omega) only[go_sem,hk]
    refine hK _ (aB ?_)
    by_cases hk0:k.toNat=0
    ·have d1:decide ((k.toNat:Int)=0)=true:=J5 (by omega)
     have hs:fHj b ⟨bg,pl,en,tot,acc⟩=.done acc (en.getD (pl+1)):=by
      unfold fHj;simp only;rw[J3 (by omega),hk,J4 hk0]
     rw[fJi hs]at hrun
     have hz:=ha3 _ _ hrun.symm
     refine yBl 2 (ySq (yRn [69,0,3,4,5,6,7,8] fun K hK=>?_))
     simp(disch:=omega) only[go_sem,d1]
     refine hK _ (aB ?_)
     refine iTd ?_
     rcases en with _|e
     ·rw[show Option.isSome (none:Option Nat)=false from rfl]
      refine ySq (ySq (yRn [73,0,3,4] fun K hK=>?_))
      simp(disch:=omega) only[go_sem]
      refine hK _ (aB ?_)
      refine iTd ?_
      have ea:(pl:Int)+1=((pl+1:Nat):Int):=rfl
      refine yRn [3] fun K hK=>?_
      simp(disch:=omega) only[go_sem,ea]
      refine hK _ (aB ?_)
      refine ySq (yRn [2] fun K hK=>?_)
      simp(disch:=omega) only[go_sem]
      refine hK _ (aB ?_)
      rw[hz,Option.getD_none]
      refine aS rfl (bN (bN (dF (bN (bI (⟨by simp(disch:=omega) only[bV,bK,bQ,go_sem,aV,kE,bY,eq_self,bPf],by simp(disch:=omega) only[aV,↓reduceIte,eq_self],?_,?_⟩))))))
      ·exact eKy _ _
      exact fPi _ _ _ _
     rw[show Option.isSome (some e)=true from rfl]
     refine ySq (ySq (yRn [73,0,3,4] fun K hK=>?_))
     simp(disch:=omega) only[go_sem]
     refine hK _ (aB ?_)
     refine iFd (ySk (aB (ySq (yRn [2] fun K hK=>?_))))
     simp(disch:=omega) only[go_sem]
     refine hK _ (aB ?_)
     rw[hz,Option.getD_some]
     obtain rfl:ri=e:=hri
     refine aS rfl (bN (bN (dF (bN (bI (⟨by simp(disch:=omega) only[bV,bK,bQ,go_sem,aV,kE,bY,eq_self,bPf],by simp(disch:=omega) only[aV,bY,↓reduceIte,eq_self],?_,?_⟩))))))
     ·exact eKy _ _
     exact fPi _ _ _ _
    have d1:decide ((k.toNat:Int)=0)=false:=J6 (by omega)
    refine yBl 2 (ySq (yRn [69,0,3,4,5,6,7,8] fun K hK=>?_))
    simp(disch:=omega) only[go_sem,d1]
    refine hK _ (aB ?_)
    refine iFd ?_
    by_cases hk1:192≤k.toNat
    ·have d2:decide ((192:Int)≤(k.toNat:Int))=true:=J5 (by omega)
     refine ySq (yRn [80,0,3,4,5,6,7,8] fun K hK=>?_)
     simp(disch:=omega) only[go_sem,d2]
     refine hK _ (aB ?_)
     refine iTd ?_
     by_cases hp1:pl+1<b.length
     ·have d3:decide ((b.length:Int)<(pl:Int)+2)=false:=J6 (by omega)
      obtain⟨k2,hk2⟩: ∃k,b.getD (pl+1) 0#8=k:=⟨_,rfl⟩
      have hk2l:=k2.isLt
      obtain⟨to,hto⟩: ∃t,(k.toNat-192)*256+k2.toNat=t:=⟨_,rfl⟩
      have h63:=fQq hk1 hkl
      have hW:W (((k.toNat-192:Nat):Int)*2^min 8 64)=(((k.toNat-192)*256:Nat):Int):=by
       rw[show((2:Int)^min 8 64)=256 from rfl]
       exact(eKg (by omega) (by omega)).trans (by omega)
      have hio:ior (((k.toNat-192)*256:Nat):Int) (k2.toNat:Int)=(to:Int):=by rw[fOv (by omega) hk2l,hto]
      have e1:((pl:Int)+1).toNat=pl+1:=by omega
      refine ySq (ySq (yRn [90,0,3,4,5,6,7,8] fun K hK=>?_))
      simp(disch:=omega) only[go_sem,d3]
      refine hK _ (aB ?_)
      refine iFd (ySk (aB (ySq (yRn [0,3,4,5,6,7,9] fun K hK=>?_))))
      simp(disch:=omega) only[go_sem,e1,hk2,h63,hW,hio]
      refine hK _ (aB ?_)
      rcases en with _|e
      ·rw[show Option.isSome (none:Option Nat)=false from rfl]
       refine ySq (ySq (yRn [108,0,3,4,5,6,7,9] fun K hK=>?_))
       simp(disch:=omega) only[go_sem]
       refine hK _ (aB ?_)
       refine iTd ?_
       have ea:(pl:Int)+2=((pl+2:Nat):Int):=rfl
       refine yRn [0,3,4,5,6,7,9] fun K hK=>?_
       simp(disch:=omega) only[go_sem,ea]
       refine hK _ (aB ?_)
       by_cases hbg:to<bg
       ·have d5:decide ((bg:Int)≤(to:Int))=false:=J6 (by omega)
        have hs:fHj b ⟨bg,pl,none,tot,acc⟩=.go ⟨to,to,some (pl+2),tot,acc⟩:=by
         unfold fHj;simp only;rw[J3 (by omega),hk,J3 hk0,J4 hk1,J3 (by omega),hk2,hto,J3 (by omega)];rfl
        rw[fIo hs]at hrun
        rw[fPk hs]at hruni
        have hmu2:=fIu hs
        refine ySq (ySq (yRn [116,0,3,4,5,6,7,9] fun K hK=>?_))
        simp(disch:=omega) only[go_sem,d5]
        refine hK _ (aB ?_)
        refine iFd (ySk (aB (ySq (yRn [0,3,6,7,9] fun K hK=>?_))))
        simp(disch:=omega) only[go_sem]
        refine hK _ (aB ?_)
        refine yRn [0,3,4,5,6,7] fun K hK=>?_
        simp(disch:=omega) only[go_sem]
        refine hK _ (bU (bU (bT ?_)))
        refine⟨⟨⟨to,to,some (pl+2),tot,acc⟩,g,q,_,false,pl+2⟩,⟨⟨fun _=>⟨hI.step hs,hrun,hruni,by simp only;omega,rfl⟩,(fun h=>by cases h)⟩,hq,by simp only;omega⟩,by simp only[Bool.false_eq_true,if_false];omega,⟨fun _=> .inr ?_,fPu,U3 _⟩⟩
        simp only[Option.isSome_some]
       have d5:decide ((bg:Int)≤(to:Int))=true:=J5 (by omega)
       have hs:fHj b ⟨bg,pl,none,tot,acc⟩=.no:=by
        unfold fHj;simp only;rw[J3 (by omega),hk,J3 hk0,J4 hk1,J3 (by omega),hk2,hto,J4 (by omega)]
       have hsp:pl+2=fPe b ⟨bg,pl,none,tot,acc⟩ a:=by
        unfold fPe;simp only;rw[J3 (by omega),hk,J3 hk0,J4 hk1,J3 (by omega)];rfl
       have hB: ∀s2,RJ b a R ai s2 g true (pl+2):=fun s2=>RJ.bad hrun hruni hs hsp
       refine ySq (ySq (yRn [116,0,3,4,5,6,7,9] fun K hK=>?_))
       simp(disch:=omega) only[go_sem,d5]
       refine hK _ (aB ?_)
       refine iTd (ySq (yRn [0,3,4,5,6,7] fun K hK=>?_))
       simp(disch:=omega) only[go_sem]
       refine hK _ (aB ?_)
       refine yEx 2 (aY (bE (bU (bT ?_))))
       refine⟨⟨⟨bg,pl,none,tot,acc⟩,g,q,_,true,pl+2⟩,⟨hB _,hq,by simp only;omega⟩,by simp only[Bool.false_eq_true,if_false,if_true];omega,⟨fun _=> .inr ?_,fPu,U3 _⟩⟩
       simp only[Option.isSome_none]
      rw[show Option.isSome (some e)=true from rfl]
      obtain rfl:ri=e:=hri
      refine ySq (ySq (yRn [108,0,3,4,5,6,7,9] fun K hK=>?_))
      simp(disch:=omega) only[go_sem]
      refine hK _ (aB ?_)
      refine iFd (ySk (aB (ySq (ySq ?_))))
      by_cases hbg:to<bg
      ·have d5:decide ((bg:Int)≤(to:Int))=false:=J6 (by omega)
       have hs:fHj b ⟨bg,pl,some ri,tot,acc⟩=.go ⟨to,to,some ri,tot,acc⟩:=by
        unfold fHj;simp only;rw[J3 (by omega),hk,J3 hk0,J4 hk1,J3 (by omega),hk2,hto,J3 (by omega)];rfl
       rw[fIo hs]at hrun
       rw[fPk hs]at hruni
       have hmu2:=fIu hs
       refine yRn [116,0,3,4,5,6,7,9] fun K hK=>?_
       simp(disch:=omega) only[go_sem,d5]
       refine hK _ (aB ?_)
       refine iFd (ySk (aB (ySq (yRn [0,3,6,7,9] fun K hK=>?_))))
       simp(disch:=omega) only[go_sem]
       refine hK _ (aB ?_)
       refine yRn [0,3,4,5,6,7] fun K hK=>?_
       simp(disch:=omega) only[go_sem]
       refine hK _ (bU (bU (bT ?_)))
       refine⟨⟨⟨to,to,some ri,tot,acc⟩,g,q,_,false,ri⟩,⟨⟨fun _=>⟨hI.step hs,hrun,hruni,by simp only;omega,rfl⟩,(fun h=>by cases h)⟩,hq,by simp only;omega⟩,by simp only[Bool.false_eq_true,if_false];omega,bD ?_ rfl (U3 _)⟩
       simp only[Option.isSome_some]
      have d5:decide ((bg:Int)≤(to:Int))=true:=J5 (by omega)
      have hs:fHj b ⟨bg,pl,some ri,tot,acc⟩=.no:=by
       unfold fHj;simp only;rw[J3 (by omega),hk,J3 hk0,J4 hk1,J3 (by omega),hk2,hto,J4 (by omega)]
      have hsp:ri=fPe b ⟨bg,pl,some ri,tot,acc⟩ a:=by
       unfold fPe;simp only;rw[J3 (by omega),hk,J3 hk0,J4 hk1,J3 (by omega)];rfl
      have hB: ∀s2,RJ b a R ai s2 g true ri:=fun s2=>RJ.bad hrun hruni hs hsp
      refine yRn [116,0,3,4,5,6,7,9] fun K hK=>?_
      simp(disch:=omega) only[go_sem,d5]
      refine hK _ (aB ?_)
      refine iTd (ySq (yRn [0,3,4,5,6,7] fun K hK=>?_))
      simp(disch:=omega) only[go_sem]
      refine hK _ (aB ?_)
      refine yEx 2 (aY (bE (bU (bT ?_))))
      refine⟨⟨⟨bg,pl,some ri,tot,acc⟩,g,q,_,true,ri⟩,⟨hB _,hq,by simp only;omega⟩,by simp only[Bool.false_eq_true,if_false,if_true];omega,⟨fun _=> .inr ?_,fPu,U3 _⟩⟩
      simp only[Option.isSome_some]
     have d3:decide ((b.length:Int)<(pl:Int)+2)=true:=J5 (by omega)
     have hs:fHj b ⟨bg,pl,en,tot,acc⟩=.no:=by
      unfold fHj;simp only;rw[J3 (by omega),hk,J3 hk0,J4 hk1,J4 (by omega)]
     have hsp:ri=fPe b ⟨bg,pl,en,tot,acc⟩ a:=by
      unfold fPe;simp only;rw[J3 (by omega),hk,J3 hk0,J4 hk1,J4 (by omega)];exact hri
     have hB: ∀s2,RJ b a R ai s2 g true ri:=fun s2=>RJ.bad hrun hruni hs hsp
     refine ySq (ySq (yRn [90,0,3,4,5,6,7,8] fun K hK=>?_))
     simp(disch:=omega) only[go_sem,d3]
     refine hK _ (aB ?_)
     refine iTd (ySq (yRn [0,3,4,5,6,7] fun K hK=>?_))
     simp(disch:=omega) only[go_sem]
     refine hK _ (aB ?_)
     refine yEx 2 (aY (bE (bU (bT ?_))))
     refine⟨⟨⟨bg,pl,en,tot,acc⟩,g,q,_,true,ri⟩,⟨hB _,hq,by simp only;omega⟩,by simp only[Bool.false_eq_true,if_false,if_true];omega,⟨fun _=> .inr ?_,fPu,U3 _⟩⟩
     rfl
    have d2:decide ((192:Int)≤(k.toNat:Int))=false:=J6 (by omega)
    refine ySq (yRn [80,0,3,4,5,6,7,8] fun K hK=>?_)
    simp(disch:=omega) only[go_sem,d2]
    refine hK _ (aB ?_)
    refine iFd ?_
    by_cases hlab:k.toNat≤63∧k.toNat≤b.length-(pl+1)
    ·have d3:decide ((63:Int)<(k.toNat:Int))=false:=J6 (by omega)
     have d4:decide ((b.length:Int)-(pl:Int)-1<(k.toNat:Int))=false:=J6 (by omega)
     refine ySq (yRn [122,0,3,4,5,6,7,8] fun K hK=>?_)
     simp(disch:=omega) only[go_sem,d3,d4]
     refine hK _ (aB ?_)
     refine iFd ?_
     obtain⟨d,hd⟩: ∃d,(b.drop (pl+1)).take k.toNat=d:=⟨_,rfl⟩
     have hdl:d.length=k.toNat:=by rw[←hd,List.length_take,List.length_drop];omega
     have e1:((pl:Int)+1).toNat=pl+1:=by omega
     have e2:((pl:Int)+1+(k.toNat:Int)).toNat=pl+1+k.toNat:=by omega
     have e3:pl+1+k.toNat-(pl+1)=k.toNat:=by omega
     have hsn:cS acc++[AV.s d]=cS (acc++[d]):=cQq acc [d]
     have et:(tot:Int)+((k.toNat:Int)+1)=((tot+(1+k.toNat):Nat):Int):=by omega
     have ep:(pl:Int)+(1+(k.toNat:Int))=((pl+1+k.toNat:Nat):Int):=by omega
     refine ySq (yRn [0,3,4,5,6,7,8] fun K hK=>?_)
     simp(disch:=omega) only[go_sem,e1,e2,e3,hd,hdl]
     refine hK _ (aB ?_)
     refine ySq (yRn [0,3,4,5,6,7,8] fun K hK=>?_)
     simp(disch:=omega) only[go_sem,et]
     refine hK _ (aB ?_)
     by_cases ht:255<tot+(1+k.toNat)
     ·have d5:decide ((255:Int)<((tot+(1+k.toNat):Nat):Int))=true:=J5 (by omega)
      have hs:fHj b ⟨bg,pl,en,tot,acc⟩=.no:=by
       unfold fHj;simp only;rw[J3 (by omega),hk,J3 hk0,J3 hk1,J3 (by omega),J4 ht]
      have hsp:ri=fPe b ⟨bg,pl,en,tot,acc⟩ a:=by
       unfold fPe;simp only;rw[J3 (by omega),hk,J3 hk0,J3 hk1];exact hri
      have hB: ∀s2,RJ b a R ai s2 g true ri:=fun s2=>RJ.bad hrun hruni hs hsp
      refine ySq (ySq (yRn [61,0,3,4,5,6,7,8] fun K hK=>?_))
      simp(disch:=omega) only[go_sem,d5]
      refine hK _ (aB ?_)
      refine iTd (yRn [0,3,4,5,6,7,8] fun K hK=>?_)
      simp(disch:=omega) only[go_sem]
      refine hK _ (aB ?_)
      refine yRn [0,3,4,5,6,7] fun K hK=>?_
      simp(disch:=omega) only[go_sem,ep]
      refine hK _ (bU (bU (bT ?_)))
      refine⟨⟨⟨bg,pl+1+k.toNat,en,tot+(1+k.toNat),acc++[d]⟩,g,c+5+7+9+3+3+15+14,_,true,ri⟩,⟨hB _,by simp only;omega,by simp only;omega⟩,by simp only[Bool.false_eq_true,if_false,if_true];omega,⟨fun _=> .inr ?_,fun j o hj=>fPu (by simp(disch:=omega) only[aV,↓reduceIte,hsn]) (by simp(disch:=omega) only[aV,bY,↓reduceIte,hsn]) j o hj,U3 _⟩⟩
      simp only[List.length_append,List.length_singleton]
     have d5:decide ((255:Int)<((tot+(1+k.toNat):Nat):Int))=false:=J6 (by omega)
     have hs:fHj b ⟨bg,pl,en,tot,acc⟩=.go ⟨bg,pl+1+k.toNat,en,tot+(1+k.toNat),acc++[d]⟩:=by
      unfold fHj;simp only;rw[J3 (by omega),hk,J3 hk0,J3 hk1,J3 (by omega),J3 ht,hd]
     rw[fIo hs]at hrun
     rw[fPk hs]at hruni
     have hmu2:=fIu hs
     refine ySq (ySq (yRn [61,0,3,4,5,6,7,8] fun K hK=>?_))
     simp(disch:=omega) only[go_sem,d5]
     refine hK _ (aB ?_)
     refine iFd (ySk (aB (yRn [0,3,4,5,6,7] fun K hK=>?_)))
     simp(disch:=omega) only[go_sem,ep]
     refine hK _ (bU (bU (bT ?_)))
     refine⟨⟨⟨bg,pl+1+k.toNat,en,tot+(1+k.toNat),acc++[d]⟩,g,c+5+7+9+3+3+15+14,_,false,ri⟩,⟨⟨fun _=>⟨hI.step hs,hrun,hruni,by simp only;omega,hri⟩,(fun h=>by cases h)⟩,by simp only;omega,by simp only;omega⟩,by simp only[Bool.false_eq_true,if_false];omega,⟨fun _=> .inr ?_,fun j o hj=>fPu (by simp(disch:=omega) only[aV,kE,bY,↓reduceIte,hsn]) (by simp(disch:=omega) only[aV,↓reduceIte,hsn]) j o hj,U3 _⟩⟩
     simp only[List.length_append,List.length_singleton]
    have hs:fHj b ⟨bg,pl,en,tot,acc⟩=.no:=by
     unfold fHj;simp only;rw[J3 (by omega),hk,J3 hk0,J3 hk1,J4 (by omega)]
    have hsp:ri=fPe b ⟨bg,pl,en,tot,acc⟩ a:=by
     unfold fPe;simp only;rw[J3 (by omega),hk,J3 hk0,J3 hk1];exact hri
    have hB: ∀s2,RJ b a R ai s2 g true ri:=fun s2=>RJ.bad hrun hruni hs hsp
    by_cases h63:k.toNat≤63
    ·have d3:decide ((63:Int)<(k.toNat:Int))=false:=J6 (by omega)
     have d4:decide ((b.length:Int)-(pl:Int)-1<(k.toNat:Int))=true:=J5 (by omega)
     refine ySq (yRn [122,0,3,4,5,6,7,8] fun K hK=>?_)
     simp(disch:=omega) only[go_sem,d3,d4]
     refine hK _ (aB ?_)
     refine iTd (yRn [0,3,4,5,6,7] fun K hK=>?_)
     simp(disch:=omega) only[go_sem]
     refine hK _ (bU (bU (bT ?_)))
     refine⟨⟨⟨bg,pl,en,tot,acc⟩,g,q,_,true,ri⟩,⟨hB _,hq,by simp only;omega⟩,by simp only[Bool.false_eq_true,if_false,if_true];omega,⟨fun _=> .inr ?_,fPu,U3 _⟩⟩
     rfl
    have d3:decide ((63:Int)<(k.toNat:Int))=true:=J5 (by omega)
    refine ySq (yRn [122,0,3,4,5,6,7,8] fun K hK=>?_)
    simp(disch:=omega) only[go_sem,d3]
    refine hK _ (aB ?_)
    refine iTd (yRn [0,3,4,5,6,7] fun K hK=>?_)
    simp(disch:=omega) only[go_sem]
    refine hK _ (bU (bU (bT ?_)))
    refine⟨⟨⟨bg,pl,en,tot,acc⟩,g,q,_,true,ri⟩,⟨hB _,hq,by simp only;omega⟩,by simp only[Bool.false_eq_true,if_false,if_true];omega,⟨fun _=> .inr ?_,fPu,U3 _⟩⟩
    rfl
   have d0:decide ((b.length:Int)≤(pl:Int))=true:=J5 (by omega)
   have hs:fHj b ⟨bg,pl,en,tot,acc⟩=.no:=by
    unfold fHj;simp only;rw[J4 (by omega)]
   have hsp:ri=fPe b ⟨bg,pl,en,tot,acc⟩ a:=by
    unfold fPe;simp only;rw[J4 (by omega)];exact hri
   have hz:=ha2 (by rw[←hrun,fHz hs])
   rw[fPp hs,←hsp]at hruni
   refine ySk (aB (yBl 1 (ySq (ySq (yRn [29,0,3,4,5,6,7] fun K hK=>?_)))))
   simp(disch:=omega) only[go_sem,d0]
   refine hK _ (aB ?_)
   refine iTd (ySq (yRn [] fun K hK=>?_))
   simp(disch:=omega) only[go_sem]
   refine hK _ (aB ?_)
   refine yEx 0 (aY (mW (aZ (bE ?_)) rfl))
   refine aB (ySq (yRn [2] fun K hK=>?_))
   simp(disch:=omega) only[go_sem]
   refine hK _ (aB ?_)
   rw[hz,←hruni]
   refine aS rfl (⟨by simp(disch:=omega) only[bV,bK,bQ,go_sem,eq_self],by simp(disch:=omega) only[aV,↓reduceIte,eq_self],?_,?_⟩)
   ·rfl
   exact fPi _ _ _ _
  obtain⟨hR,rfl⟩:=hJ.no rfl
  have hz:=ha2 hR
  refine ySq (ySq (yRn [22,0,3,4,5,6,7] fun K hK=>?_))
  simp(disch:=omega) only[go_sem]
  refine hK _ (aB ?_)
  refine iFd (yEx 0 (aY (aZ (bE (aB (ySq (yRn [2] fun K hK=>?_)))))))
  simp(disch:=omega) only[go_sem]
  refine hK _ (aB ?_)
  rw[hz]
  refine aS rfl (⟨by simp(disch:=omega) only[bV,bK,bQ,go_sem,eq_self],by simp(disch:=omega) only[aV,bY,↓reduceIte,eq_self],?_,?_⟩)
  ·rfl
  exact fPi _ _ _ _
 cases hg
theorem fRi:bX Tryz.prog GLh 20 (.heap (rdH fQd)):=⟨⟨_,Tryz.func20,rfl,rfl⟩,fPy.1⟩
end Go.AX

namespace Go.AX
open Go Go.Proofs
set_option maxRecDepth 8000
instance:DecidableEq QN:=fun a b=>if h:a.n=b.n∧a.t=b.t∧a.c=b.c then .isTrue (by cases a;cases b;simp at h;obtain⟨rfl,rfl,rfl⟩:=h;rfl)else .isFalse (fun e=>h (by subst e;exact⟨rfl,rfl,rfl⟩))
end Go.AX

namespace Go.AX
open Go Go.Proofs
set_option maxRecDepth 8000
def two (x y:B8):W32:=((((0#32 <<<8)|||x.setWidth 32) <<<8)|||y.setWidth 32)
theorem fPf (x y:B8):(two x y).toNat=x.toNat*256+y.toNat:=by
 unfold two
 have h1:=x.isLt
 have h2:=y.isLt
 have e0:((0#32 <<<8)|||x.setWidth 32)=x.setWidth 32:=by rw[show(0#32 <<<8)=0#32 from rfl,BitVec.zero_or]
 rw[e0,BitVec.toNat_or]
 have e1:((x.setWidth 32:W32) <<<8).toNat=x.toNat <<<8:=by
  rw[BitVec.toNat_shiftLeft,BitVec.toNat_setWidth,Nat.shiftLeft_eq,Nat.shiftLeft_eq];omega
 have e2:(y.setWidth 32:W32).toNat=y.toNat:=by rw[BitVec.toNat_setWidth];omega
 rw[e1,e2,←Nat.shiftLeft_add_eq_or_of_lt h2,Nat.shiftLeft_eq]
def one (x:B8):W32:=(0#32 <<<8)|||x.setWidth 32
theorem fQn (f:W32) (k:Nat):(f>>>k&&&1#32).toNat=f.toNat/2^k%2:=by
 rw[BitVec.toNat_and,BitVec.toNat_ushiftRight,Nat.shiftRight_eq_div_pow]
 exact Nat.and_one_is_mod _
theorem fQr (f:W32) (k:Nat):decide (f>>>k&&&1#32=1#32)=decide (f.toNat/2^k%2=1):=by
 rw[←fQn]
 refine decide_eq_decide.2 ⟨fun h=>by rw[h];rfl,fun h=>BitVec.eq_of_toNat_eq h⟩
theorem o7: ∀x:B8,(!decide (one x&&&128#32=0#32))=decide (x.toNat/128%2=1):=by decide
theorem o2: ∀x:B8,(!decide (one x&&&4#32=0#32))=decide (x.toNat/4%2=1):=by decide
theorem o1: ∀x:B8,(!decide (one x&&&2#32=0#32))=decide (x.toNat/2%2=1):=by decide
theorem o0: ∀x:B8,(!decide (one x&&&1#32=0#32))=decide (x.toNat%2=1):=by decide
theorem o3: ∀x:B8,(one x>>>3&&&15#32).toNat=x.toNat/8%16:=by decide
theorem o15: ∀x:B8,(one x&&&15#32).toNat=x.toNat%16:=by decide
theorem fQs (f:W32):(f&&&15#32).toNat=f.toNat%16:=by
 rw[BitVec.toNat_and]
 exact Nat.and_two_pow_sub_one_eq_mod f.toNat 4
theorem fRn (x y:B8):(two x y>>>11&&&15#32).toNat=(one x>>>3&&&15#32).toNat:=by
 have:=y.isLt
 rw[fQs,o3,BitVec.toNat_ushiftRight,Nat.shiftRight_eq_div_pow,fPf]
 have e:(2:Nat)^11=2048:=rfl
 rw[e];omega
theorem fRm (x y:B8):(two x y&&&15#32).toNat=(one y&&&15#32).toNat:=by
 rw[fQs,o15,fPf];omega
theorem fRo (x y:B8):decide (two x y>>>15=1#32)= !decide (one x&&&128#32=0#32):=by
 have h1:=x.isLt
 have h2:=y.isLt
 rw[o7]
 refine decide_eq_decide.2 ⟨fun h=>?_,fun h=>BitVec.eq_of_toNat_eq ?_⟩
 ·have h:=congrArg BitVec.toNat h
  rw[BitVec.toNat_ushiftRight,Nat.shiftRight_eq_div_pow,fPf]at h
  have e:(2:Nat)^15=32768:=rfl
  have e1:(1#32:W32).toNat=1:=rfl
  rw[e,e1]at h;omega
 rw[BitVec.toNat_ushiftRight,Nat.shiftRight_eq_div_pow,fPf]
 have e:(2:Nat)^15=32768:=rfl
 have e1:(1#32:W32).toNat=1:=rfl
 rw[e,e1];omega
theorem fRp (x y:B8):decide (two x y>>>10&&&1#32=1#32)= !decide (one x&&&4#32=0#32):=by
 have h2:=y.isLt
 rw[o2,fQr,fPf]
 have e:(2:Nat)^10=1024:=rfl
 rw[e];exact decide_eq_decide.2 ⟨fun h=>by omega,fun h=>by omega⟩
theorem fl_9 (x y:B8):decide (two x y>>>9&&&1#32=1#32)= !decide (one x&&&2#32=0#32):=by
 have h2:=y.isLt
 rw[o1,fQr,fPf]
 have e:(2:Nat)^9=512:=rfl
 rw[e];exact decide_eq_decide.2 ⟨fun h=>by omega,fun h=>by omega⟩
theorem fl_8 (x y:B8):decide (two x y>>>8&&&1#32=1#32)= !decide (one x&&&1#32=0#32):=by
 have h2:=y.isLt
 rw[o0,fQr,fPf]
 have e:(2:Nat)^8=256:=rfl
 rw[e];exact decide_eq_decide.2 ⟨fun h=>by omega,fun h=>by omega⟩
theorem fl_7 (x y:B8):decide (two x y>>>7&&&1#32=1#32)= !decide (one y&&&128#32=0#32):=by
 have h2:=y.isLt
 rw[o7,fQr,fPf]
 have e:(2:Nat)^7=128:=rfl
 rw[e];exact decide_eq_decide.2 ⟨fun h=>by omega,fun h=>by omega⟩
theorem fQt {b:List B8} (h:4≤b.length): ∃x y,fRs ((b.drop 2).take 2)=two x y∧b1 b 2=one x∧b1 b 3=one y:=by
 match b,h with
 |_::_::x::y::r,_=>exact⟨x,y,rfl,rfl,rfl⟩
theorem fRd {b:List B8} {e:Nat} (he:e≤b.length): ∃(n1:Nm) (e1:Nat) (b1:Bool) (v2:W32) (e2:Nat) (b2:Bool) (v3:W32) (e3:Nat) (b3:Bool),
  fPv b e false=(.sl n1.length (cS n1),[.sl b.length (c8 b),.i (e1:Int),.b b1])∧rnR b 2 e1 b1=(.w32 v2,[.sl b.length (c8 b),.i (e2:Int),.b b2])∧rnR b 2 e2 b2=(.w32 v3,[.sl b.length (c8 b),.i (e3:Int),.b b3])∧
  e1≤b.length∧e2≤b.length∧e3≤b.length∧((b3=false∧qnR b e=some (⟨n1,v2.setWidth 16,v3.setWidth 16⟩,e3))∨(b3=true∧qnR b e=none)):=by
 rcases hn:fJj b e with _|⟨n,e1⟩
 ·have hq:qnR b e=none:=by unfold qnR;rw[hn]
  exact⟨[],nI b e,true,0,nI b e,true,0,nI b e,true,fQf hn,fQa _ _ _,fQa _ _ _,fQj he,fQj he,fQj he,.inr ⟨rfl,hq⟩⟩
 obtain⟨h1,_,_⟩:=fLw hn
 by_cases h2:b.length-e1<2
 ·have hq:qnR b e=none:=by unfold qnR;rw[hn];simp only;rw[J3 (by omega)]
  exact⟨n,e1,false,0,e1,true,0,e1,true,fPq hn,fQg h2,fQa _ _ _,h1,h1,h1,.inr ⟨rfl,hq⟩⟩
 by_cases h4:b.length-(e1+2)<2
 ·have hq:qnR b e=none:=by unfold qnR;rw[hn];simp only;rw[J3 (by omega)]
  exact⟨n,e1,false,_,e1+2,false,0,e1+2,true,fPq hn,fPn h2,fQg h4,h1,by omega,by omega,.inr ⟨rfl,hq⟩⟩
 have hq:qnR b e=some (⟨n,n16 b e1,n16 b (e1+2)⟩,e1+2+2):=by unfold qnR;rw[hn];simp only;rw[J4 (by omega)]
 exact⟨n,e1,false,_,e1+2,false,_,e1+2+2,false,fPq hn,fPn h2,fPn h4,h1,by omega,by omega,.inl ⟨rfl,hq⟩⟩
end Go.AX

namespace Go.AX
open Go Go.Proofs
set_option maxRecDepth 20000
def NoR (b:List B8):Prop:=12≤b.length∧c16 b 6=0∧c16 b 8=0∧c16 b 10=0
instance (b:List B8):Decidable (NoR b):=by unfold NoR;infer_instance
theorem NoR.md {b:List B8} (h:NoR b):MGd b:=.inr h
structure RRJ where
 k:Nat
 e:Nat
 bad:Bool
 l:List QN
 q:Nat
 c:Nat
structure RRK where
 e:Nat
 bad:Bool
 l:List QN
 q:Nat
 c:Nat
theorem fPl (r:List (Nat×AV)) (k:Nat): ∀l:List (Nat×AV),dG l k=.junk∨dG l k=dG (l++r) k
 |[]=> .inl rfl
 |(i,x)::l=>by
  rw[List.cons_append,eW,eW]
  split
  ·exact .inr rfl
  exact fPl r k l
end Go.AX

namespace Go.AX
open Go Go.Proofs
set_option maxRecDepth 20000
end Go.AX

namespace Go.AX
open Go Go.Proofs Go.RowKit Go.WideShapes Go.ChangeShapes
section
variable {H : Type} {enc : TypeId × Value → H} {P : Program}
theorem uC (hl:laidOutB P=true) {W W':World} {sp:Nat→Bool}: ∀ {ts:List TypeId} {vs:List Value} {ds:List (DataW H)} {ps:List MemPlace},(ts.all fun t=>P.readableRec t&&decide (t<P.types.size))=true→
  DataW.TrodAll enc P W 0 (fun _=>true) true ts vs ds ps→(∀p∈ps,W.sameAt W' p)→(∀p∈ps,sp p.block=true)→DataW.TrodAll enc P W' 0 sp true ts vs ds ps
 |[],[],[],_,_,h,_,_=>h
 |t::ts,v::vs,d::ds,ps,ha,h,hs,hp=>by
  obtain⟨p,q,h1,h2,e⟩:=h
  simp only[List.all_cons,Bool.and_eq_true,decide_eq_true_eq]at ha
  refine⟨p,q,WideElems.Trod_stays hl ha.1.1 ha.1.2 h1 (fun x hx=>hs x (by rw[e];exact List.mem_append_left _ hx)) (fun x hx=>hp x (by rw[e];exact List.mem_append_left _ hx)),?_,e⟩
  exact uC hl (by simpa using ha.2) h2 (fun x hx=>hs x (by rw[e];exact List.mem_append_right _ hx)) (fun x hx=>hp x (by rw[e];exact List.mem_append_right _ hx))
 |[],_::_,_,_,_,h,_,_=>h.elim
 |[],[],_::_,_,_,h,_,_=>h.elim
 |_::_,[],_,_,_,h,_,_=>h.elim
 |_::_,_::_,[],_,_,h,_,_=>h.elim
theorem aZq {f:Func} {s:ChangeSpec} {apart fresh handsOn again:Bool} {W W':World} {args:Array Value} {ds gs:List (DataW H)} {before:List MemPlace} {tb:TypeId}
  (hl:laidOutB P=true) (hro:(f.params.toList.all fun t=>P.readableRec t&&decide (t<P.types.size))=true) (hrt:f.resultTypes= #[tb]) (htb:P.underlying tb=some .bool) (hvs:s.vars=[])
  (hfn:s.fn H (ds++gs)= {results:=[.lit (.bool true)],args:=ds})
  (hW:DataW.Whole enc P f.params.toList s.vars apart W args.toList ds gs before) (hb:Below W.heap.size W W'):
  s.post enc P f apart fresh handsOn again W args (.bool true) W':=by
 have hlt: ∀p∈before,p.block<W.heap.size:=fun p hp=>hW.lt p hp
 have hW':=hW
 obtain⟨p,q,hA,hV,hpq,hz,hn⟩:=hW
 have hq:q=[]∧gs=[]:=by
  rw[hvs]at hV
  cases gs with
  |nil=>exact⟨hV,rfl⟩
  |cons g r=>exact hV.elim
 obtain⟨rfl,rfl⟩:=hq
 rw[List.append_nil]at hpq
 subst hpq
 have hargs: ∀sp:Nat→Bool,(∀p∈before,sp p.block=true)→DataW.TrodAll enc P W' 0 sp true f.params.toList args.toList (s.fn H (ds++[])).args before:=by
  intro sp hsp
  rw[hfn]
  exact uC hl hro hA (fun x hx=>hb.same (hlt x hx)) hsp
 have hres: ∀(b:Nat) (sp:Nat→Bool) (hd:Bool),DataW.TrodAll enc P W' b sp hd f.resultTypes.toList ((Value.bool true).resultList f.resultTypes.size) (s.fn H (ds++[])).results []:=by
  intro b sp hd
  rw[hfn,hrt]
  exact trodAll_mk1 (shut_bool htb true)
 have hvars: ∀sp:Nat→Bool,(∀p∈before,sp p.block=true)→DataW.TrodVars enc P W' sp s.vars (s.fn H (ds++[])).vars []:=by
  intro sp _
  rw[hfn,hvs];rfl
 have hold: ∀p∈before,(fun b=>decide (b<W.heap.size)) p.block=true:=fun p hp=>by simpa using hlt p hp
 refine⟨ds,[],before,[],before,[],hW',hres _ _ _,hargs _ hold,hvars _ hold,World.keptBut_mono (fun p hp=>⟨hp,?_⟩) (hb.frame (· ∈before)),fun _=>?_⟩
 ·exact Or.inr (by simpa using hp)
 refine⟨ok_one hrt rfl (okWide_bool_mk htb true),_,_,([]++before)++[],⟨[]++before,[],trodAll_append (hargs _ (fun _ _=>rfl)) (hres _ _ _),hvars _ (fun _ _=>rfl),rfl,?_,?_⟩,?_⟩
 ·intro b off hp
  have hin:MemPlace.cell b off∈before:=by simpa using hp
  rw[hb.frozen (hlt _ hin)]
  exact hz b off hin
 ·intro ha
  have:=hn ha
  simpa using this
 intro p hp _
 simpa using hp
end
section
variable {H : Type} {enc : TypeId × Value → H} {P : Program} {W : World} {σ : Nat → Loc}
def fZi (enc:TypeId×Value→H) (P:Program) (W:World) (σ:Nat→Loc) (t:TypeId) (Q:AV→Prop):Prop:=
 ∀(m:Nat) (cs:List Value) (x:DataW H×List MemPlace),DataW.trod enc P W 0 (fun _=>true) true m t cs=some x→∃v y,cs=[v]∧Q y∧y.isCell=true∧Rel σ (fun k=>k<W.heap.size) W y v
theorem uZ {k:IntKind} {n:Int} (h:(Lit.int k n).wf=true):k.min≤n∧n≤k.max:=by
 simpa [Lit.wf]using h
theorem vX {t:TypeId} (ht:P.underlying t=some (.int .u8)):fZi enc P W σ t (fun y=> ∃b:B8,y=.w8 b):=by
 intro m cs x h
 obtain⟨n,rfl,_,hw⟩:=DataW.trod_int ht h
 have hb:=uZ hw
 have e1:IntKind.min .u8=0:=by decide
 have e2:IntKind.max .u8=255:=by decide
 rw[e1,e2]at hb
 refine⟨_,.w8 (BitVec.ofInt 8 n),rfl,⟨_,rfl⟩,rfl,?_⟩
 have e:((BitVec.ofInt 8 n).toNat:Int)=n:=by simp[BitVec.toNat_ofInt];omega
 have:=Rel.w8 (σ:=σ) (I:=fun k=>k<W.heap.size) (w:=W) (BitVec.ofInt 8 n)
 rwa [e]at this
theorem aZu {t:TypeId} (ht:P.underlying t=some (.int .u16)):fZi enc P W σ t (fun y=> ∃b:BitVec 16,y=.w16 b):=by
 intro m cs x h
 obtain⟨n,rfl,_,hw⟩:=DataW.trod_int ht h
 have hb:=uZ hw
 have e1:IntKind.min .u16=0:=by decide
 have e2:IntKind.max .u16=65535:=by decide
 rw[e1,e2]at hb
 refine⟨_,.w16 (BitVec.ofInt 16 n),rfl,⟨_,rfl⟩,rfl,?_⟩
 have e:((BitVec.ofInt 16 n).toNat:Int)=n:=by simp[BitVec.toNat_ofInt];omega
 have:=Rel.w16 (σ:=σ) (I:=fun k=>k<W.heap.size) (w:=W) (BitVec.ofInt 16 n)
 rwa [e]at this
theorem gV {t:TypeId} (ht:P.underlying t=some (.int .u32)):fZi enc P W σ t (fun y=> ∃b:W32,y=.w32 b):=by
 intro m cs x h
 obtain⟨n,rfl,_,hw⟩:=DataW.trod_int ht h
 have hb:=uZ hw
 have e1:IntKind.min .u32=0:=by decide
 have e2:IntKind.max .u32=4294967295:=by decide
 rw[e1,e2]at hb
 refine⟨_,.w32 (BitVec.ofInt 32 n),rfl,⟨_,rfl⟩,rfl,?_⟩
 have e:((BitVec.ofInt 32 n).toNat:Int)=n:=by simp[BitVec.toNat_ofInt];omega
 have:=Rel.w32 (σ:=σ) (I:=fun k=>k<W.heap.size) (w:=W) (BitVec.ofInt 32 n)
 rwa [e]at this
theorem aGe {t:TypeId} (ht:P.underlying t=some (.int .i64)):fZi enc P W σ t (fun y=> ∃n:Int,y=.i n∧ -9223372036854775808≤n∧n≤9223372036854775807):=by
 intro m cs x h
 obtain⟨n,rfl,_,hw⟩:=DataW.trod_int ht h
 have hb:=uZ hw
 have e1:IntKind.min .i64= -9223372036854775808:=by decide
 have e2:IntKind.max .i64=9223372036854775807:=by decide
 rw[e1,e2]at hb
 exact⟨_,.i n,rfl,⟨_,rfl,hb⟩,rfl,.i _⟩
theorem cKd {t:TypeId} (ht:P.underlying t=some .bool):fZi enc P W σ t (fun y=> ∃b:Bool,y=.b b):=by
 intro m cs x h
 obtain⟨b,rfl,_⟩:=DataW.trod_bool ht h
 exact⟨_,.b b,rfl,⟨_,rfl⟩,rfl,.b _⟩
theorem bVs {t:TypeId} (ht:P.underlying t=some .string):fZi enc P W σ t (fun y=> ∃l:List B8,y=.s l∧l.length≤9223372036854775807):=by
 intro m cs x h
 obtain⟨s,rfl,_,hs⟩:=DataW.trod_string ht h
 refine⟨_,.s (s.data.toList.map UInt8.toBitVec),rfl,⟨_,rfl,?_⟩,rfl,?_⟩
 ·rw[List.length_map,Array.length_toList]
  unfold maxLen at hs
  have:s.data.size=s.size:=rfl
  omega
 have e:dA (s.data.toList.map UInt8.toBitVec)=s:=by simp[dA,List.map_map,Function.comp_def]
 have:=Rel.s (σ:=σ) (I:=fun k=>k<W.heap.size) (w:=W) (s.data.toList.map UInt8.toBitVec)
 rwa [e]at this
theorem bOq {base:Nat} {a:Addr} {l:List Value} (h:W.cells? base a 1=some l): ∃v,l=[v]∧W.cell? a=some v:=by
 unfold World.cells? at h
 split at h
 ·simp only[List.range_one,List.mapM_cons,List.mapM_nil,bind,Option.bind_eq_some_iff,pure,Option.some.injEq]at h
  obtain⟨v,hv,l',rfl,rfl⟩:=h
  exact⟨v,rfl,by simpa [Addr.add]using hv⟩
 cases h
theorem ePq {t e:TypeId} {Q:AV→Prop} (ht:P.underlying t=some (.slice e)) (hc:P.cellsOf e=1) (he:fZi enc P W σ e Q):
  fZi enc P W σ t (fun y=> ∃xs:List AV,y=.sl xs.length xs∧(∀z∈xs,Q z)∧xs.length≤9223372036854775807):=by
 intro m cs x h
 rcases DataW.trod_slice ht h with⟨rfl,_⟩|⟨a,len,cap,elems,rest,n,rfl,rfl,rfl,hb,hl,hm,hlen,hel,hsp,_⟩
 ·exact⟨_,.sl 0 [],rfl,⟨[],rfl,by simp,by simp⟩,rfl,.slnil⟩
 have hmax:len≤9223372036854775807:=by unfold maxLen at hm;omega
 have get: ∀i,i<len→∃v y,W.cell? (a.add i)=some v∧Q y∧y.isCell=true∧Rel σ (fun k=>k<W.heap.size) W y v:=by
  intro i hi
  have h1:=hel i hi
  rw[hc,Nat.mul_one]at h1
  rw[List.getElem?_eq_getElem (by omega:i<elems.length)]at h1
  obtain⟨l,hl1,hl2⟩:=Option.bind_eq_some_iff.1 h1
  obtain⟨v,rfl,hv⟩:=bOq hl1
  obtain⟨v',y,e1,hq,hcell,hr⟩:=he _ _ _ hl2
  obtain rfl:v=v':=by simpa using e1
  exact⟨v,y,hv,hq,hcell,hr⟩
 by_cases h0:len=0
 ·subst h0
  by_cases hcap:cap=0
  ·subst hcap
   exact⟨_,.sl 0 [],rfl,⟨[],rfl,by simp,by simp⟩,rfl,.slzero a⟩
  obtain⟨hr1,hr2⟩:=hsp rfl
  have h1:=hr2 0 (by omega)
  rw[hc,List.getElem?_eq_getElem (by omega:0<rest.length)]at h1
  obtain⟨l,hl1,_⟩:=Option.bind_eq_some_iff.1 h1
  obtain⟨v,rfl,hv⟩:=bOq hl1
  have hspot:a.spot=none:=by
   have:=World.cell?_spot hv
   simpa [Addr.add]using this
  have hblk:a.block<W.heap.size:=by
   simp only[World.cell?,Addr.add]at hv
   split at hv
   ·rename_i hh;exact(Array.getElem?_eq_some_iff.1 hh).1
   cases hv
  obtain⟨blk,off,spot⟩:=a
  subst hspot
  exact⟨_,.sl 0 [],rfl,⟨[],rfl,by simp,by simp⟩,rfl,.sl 0 [] blk off cap (fun _=>undef) hblk (by omega) (fun i hi=>by simp at hi) (fun i hi=>by simp at hi) (fun i hi=>by simp at hi)⟩
 have hex: ∀i:Fin len,∃p:Value×AV,W.cell? (a.add i.1)=some p.1∧Q p.2∧p.2.isCell=true∧Rel σ (fun k=>k<W.heap.size) W p.2 p.1:=by
  intro i
  obtain⟨v,y,h⟩:=get i.1 i.2
  exact⟨(v,y),h⟩
 obtain⟨F,hF⟩:=Classical.axiomOfChoice hex
 have hv0:=(hF ⟨0,by omega⟩).1
 simp only[Addr.add,if_true]at hv0
 have hspot:a.spot=none:=World.cell?_spot hv0
 have hblk:a.block<W.heap.size:=by
  simp only[World.cell?]at hv0
  split at hv0
  ·rename_i hh;exact(Array.getElem?_eq_some_iff.1 hh).1
  cases hv0
 obtain⟨blk,off,spot⟩:=a
 subst hspot
 have hlx:(List.ofFn fun i=>(F i).2).length=len:=List.length_ofFn
 refine⟨_,.sl len (List.ofFn fun i=>(F i).2),rfl,⟨_,by rw[hlx],?_,by rw[hlx];exact hmax⟩,rfl,?_⟩
 ·intro z hz
  rw[List.mem_ofFn]at hz
  obtain⟨i,rfl⟩:=hz
  exact(hF i).2.1
 refine .sl len _ blk off cap (fun i=>if h:i<len then(F ⟨i,h⟩).1 else undef) hblk hl (fun i hi=>?_) (fun i hi=>?_) (fun i hi=>?_)
 ·rw[hlx]at hi
  rw[dif_pos hi];have:=(hF ⟨i,hi⟩).1;rwa [fVr]at this
 ·rw[hlx]at hi
  rw[List.getElem_ofFn];exact(hF ⟨i,hi⟩).2.2.1
 rw[hlx]at hi
 rw[dif_pos hi,List.getElem_ofFn];exact(hF ⟨i,hi⟩).2.2.2
theorem bRz: ∀ {xs:List AV},(∀z∈xs,∃b:B8,z=.w8 b)→∃l:List B8,xs=c8 l
 |[],_=>⟨[],rfl⟩
 |x::r,h=>by
  obtain⟨b,rfl⟩:=h x (by simp)
  obtain⟨l,hl⟩:=bRz (xs:=r) (fun z hz=>h z (by simp[hz]))
  exact⟨b::l,by rw[hl];rfl⟩
theorem iC {t e:TypeId} (ht:P.underlying t=some (.slice e)) (hc:P.cellsOf e=1) (he:P.underlying e=some (.int .u8)):
  fZi enc P W σ t (fun y=> ∃l:List B8,y=.sl l.length (c8 l)∧l.length≤9223372036854775807):=by
 intro m cs x h
 obtain⟨v,y,e1,⟨xs,rfl,hq,hlen⟩,h2,h3⟩:=ePq ht hc (vX he) m cs x h
 obtain⟨l,rfl⟩:=bRz hq
 rw[iM]at hlen h3
 exact⟨v,_,e1,⟨l,rfl,hlen⟩,rfl,h3⟩
end
end Go.AX

namespace Go.AX
open Go Go.Proofs Go.RowKit Go.WideShapes Go.ChangeShapes Go.Proofs.YtbhlbggocbhecaaGreat
theorem bLx:laidOutB Tryz.prog=true:=by kernel_rfl
theorem ownT:ownKnob Tryz.prog.godebug=none:=by kernel_rfl
theorem bAx {f:Nat} {g:List AV→Option AV} (hf:fHn Tryz.prog GLh f g) {W:World} {args:List AV} {vals:Array Value} (hs:vals.size=args.length)
  (hr: ∀i (_h:i<args.length),Rel (fun _=> .unset) (fun k=>k<W.heap.size) W args[i] (vals.getD i undef)) (hg:g args=some (.b true)):
  Calls Tryz.prog f vals W fun e W'=>e=.returned (.bool true)∧Below W.heap.size W W':=by
 refine(hf (fun _=> .unset) (fun k=>k<W.heap.size) W 0 args vals _ (fun _ _=>rfl) (fun _ h=>h) (fun g xs h=>by cases h) hs hr hg).mono ?_
 rintro e w' ⟨v,σ',I',rfl,a1,a2,a3,a4,a5,_,_,_,a9⟩
 cases a9
 exact⟨rfl,a1,a2,a3,a4,a5⟩
theorem aTx {H:Type} {enc:TypeId×Value→H} {P:Program} {W:World} {σ:Nat→Loc} {t:TypeId} {Q:AV→Prop} {v:Value} {d:DataW H} {ps:List MemPlace} (ho:fZi enc P W σ t Q) (hv:v.cells.toList=[v]) (h:DataW.Trod enc P W 0 (fun _=>true) true t v d ps):
  ∃y,Q y∧Rel σ (fun k=>k<W.heap.size) W y v:=by
 obtain⟨m,h⟩:=h
 obtain⟨v',y,e,hq,_,hr⟩:=ho m _ _ h
 rw[hv]at e
 obtain rfl:v=v':=by simpa using e
 exact⟨y,hq,hr⟩
theorem cDy {H:Type} {enc:TypeId×Value→H} {P:Program} {W W2:World} {σ:Nat→Loc} {t:TypeId} {k:IntKind} {Q:AV→Prop} {v:Value} {d:DataW H} {ps:List MemPlace} {r:Reach} {b:Nat} (ht:P.underlying t=some (.int k)) (hval:Value.okWide P W2 r b t v) (ho:fZi enc P W σ t Q) (h:DataW.Trod enc P W 0 (fun _=>true) true t v d ps):
  ∃y,Q y∧Rel σ (fun k=>k<W.heap.size) W y v:=by
 obtain⟨n,rfl⟩:=okWide_int ht hval
 exact aTx ho rfl h
end Go.AX

namespace Go.AX
open Go Go.Proofs Go.RowKit Go.WideShapes Go.ChangeShapes
section
variable {H : Type} {enc : TypeId × Value → H} {P : Program} {W : World} {σ : Nat → Loc}
theorem fBi: ∀ {xs:List AV},(∀z∈xs,∃l:List B8,z=.s l∧l.length≤9223372036854775807)→∃ps:List (List B8),xs=cS ps∧∀l∈ps,l.length≤9223372036854775807
 |[],_=>⟨[],rfl,fun l h=>by cases h⟩
 |x::r,h=>by
  obtain⟨b,rfl,hb⟩:=h x (by simp)
  obtain⟨l,hl,hr⟩:=fBi (xs:=r) (fun z hz=>h z (by simp[hz]))
  refine⟨b::l,by rw[hl];rfl,fun y hy=>?_⟩
  rcases List.mem_cons.1 hy with rfl|hy
  ·exact hb
  exact hr y hy
theorem eMg {t e:TypeId} (ht:P.underlying t=some (.slice e)) (hc:P.cellsOf e=1) (he:P.underlying e=some .string):
  fZi enc P W σ t (fun y=> ∃ps:List (List B8),y=.sl ps.length (cS ps)∧ps.length≤9223372036854775807∧∀l∈ps,l.length≤9223372036854775807):=by
 intro m cs x h
 obtain⟨v,y,e1,⟨xs,rfl,hq,hlen⟩,h2,h3⟩:=ePq ht hc (bVs he) m cs x h
 obtain⟨ps,rfl,hb⟩:=fBi hq
 rw[cQo]at hlen h3
 exact⟨v,_,e1,⟨ps,rfl,hlen,hb⟩,rfl,h3⟩
end
end Go.AX

namespace Go.AX
open Go Go.Proofs Go.RowKit Go.WideShapes Go.ChangeShapes
section
variable {H : Type} {enc : TypeId × Value → H} {P : Program} {W : World} {σ : Nat → Loc}
theorem aNr {α:Type} {f:Nat→Option α}: ∀ {l:List Nat} {r:List α},l.mapM f=some r→r.length=l.length∧∀i (h:i<l.length) (h2:i<r.length),f l[i]=some r[i]
 |[],r,h=>by
  simp only[List.mapM_nil,pure,Option.some.injEq]at h
  subst h
  exact⟨rfl,fun i h=>by simp at h⟩
 |a::l,r,h=>by
  simp only[List.mapM_cons,bind,Option.bind_eq_some_iff,pure,Option.some.injEq]at h
  obtain⟨v,hv,l',hl',rfl⟩:=h
  obtain⟨h1,h2⟩:=aNr hl'
  refine⟨by simp[h1],fun i h h3=>?_⟩
  cases i with
  |zero=>exact hv
  |succ i=>simpa using h2 i (by simpa using h) (by simpa using h3)
theorem bOp {base:Nat} {a:Addr} {n:Nat} {l:List Value} (h:W.cells? base a n=some l):l.length=n∧∀i (h2:i<l.length),W.cell? (a.add i)=some l[i]:=by
 unfold World.cells? at h
 split at h
 ·obtain⟨h1,h2⟩:=aNr h
  rw[List.length_range]at h1
  refine⟨h1,fun i hi=>?_⟩
  have:=h2 i (by rw[List.length_range];omega) hi
  simpa using this
 cases h
def zO (G:Nat→AV) (n i:Nat):List AV:=(List.range n).map fun j=>G (i*n+j)
theorem bHp (G:Nat→AV) (n i:Nat):(zO G n i).length=n:=by simp[zO]
theorem aFv (G:Nat→AV) (n:Nat): ∀len,((List.range len).map (zO G n)).flatten=(List.range (len*n)).map G
 |0=>by simp
 |len+1=>by
  rw[List.range_succ,List.map_append,List.flatten_append,aFv G n len,show(len+1)*n=len*n+n by rw[Nat.add_mul,Nat.one_mul],List.range_add,List.map_append]
  simp[zO,List.map_map,Function.comp_def]
theorem aSw {n i j:Nat} (h:j<n):(i*n+j)/n=i∧(i*n+j)%n=j:=by
 have hn:0<n:=by omega
 constructor
 ·rw[Nat.mul_comm,Nat.mul_add_div hn,Nat.div_eq_of_lt h,Nat.add_zero]
 rw[Nat.mul_comm,Nat.mul_add_mod,Nat.mod_eq_of_lt h]
theorem aQi (a:Addr) (i j:Nat):(a.add i).add j=a.add (i+j):=by
 obtain⟨b,o,s⟩:=a
 cases s<;>simp only[Addr.add]<;>(try split)<;>(try split)<;>simp_all [Nat.add_assoc]
theorem aEe {t e:TypeId} {fs:Array Field} {n:Nat} {Qs:Nat→AV→Prop} (ht:P.underlying t=some (.slice e)) (he:P.underlying e=some (.struct fs)) (hfs:fs.size=n) (hc:P.cellsOf e=n) (hpos:0<n)
  (hf: ∀i f,fs[i]? =some f→f.offset=i∧P.cellsOf f.type=1∧fZi enc P W σ f.type (Qs i)):
  fZi enc P W σ t (fun y=> ∃rows:List (List AV),y=.sl rows.length rows.flatten∧(∀r∈rows,r.length=n∧∀i,i<n→Qs i (r.getD i .junk))∧rows.length≤9223372036854775807):=by
 intro m cs x h
 rcases DataW.trod_slice ht h with⟨rfl,_⟩|⟨a,len,cap,elems,rest,n',rfl,rfl,rfl,hb,hl,hm,hlen,hel,hsp,_⟩
 ·exact⟨_,.sl 0 [],rfl,⟨[],rfl,by simp,by simp⟩,rfl,.slnil⟩
 have hmax:len≤9223372036854775807:=by unfold maxLen at hm;omega
 have get: ∀i,i<len→∀j,j<n→∃v y,W.cell? (a.add (i*n+j))=some v∧Qs j y∧y.isCell=true∧Rel σ (fun k=>k<W.heap.size) W y v:=by
  intro i hi j hj
  have h1:=hel i hi
  rw[hc,List.getElem?_eq_getElem (by omega:i<elems.length)]at h1
  obtain⟨l,hl1,hl2⟩:=Option.bind_eq_some_iff.1 h1
  obtain⟨hll,hlv⟩:=bOp hl1
  obtain⟨xs,n2,_,_,_,hxl,hfl⟩:=DataW.trod_struct he hl2
  have hjf:j<fs.size:=by omega
  have hgf:fs[j]? =some fs[j]:=Array.getElem?_eq_getElem hjf
  obtain⟨ho,hc1,hop⟩:=hf j fs[j] hgf
  have h3:=hfl j fs[j] hgf
  rw[ho,hc1,List.getElem?_eq_getElem (by omega:j<xs.length)]at h3
  obtain⟨v',y,e1,hq,hcell,hr⟩:=hop _ _ _ h3
  have hv:l[j]'(by omega)=v':=by
   have:=congrArg (·[0]?) e1
   simpa [List.getElem?_take,List.getElem?_drop,List.getElem?_eq_getElem (by omega:j<l.length)]using this
  have h4:=hlv j (by omega)
  rw[aQi]at h4
  exact⟨v',y,by rw[h4,hv],hq,hcell,hr⟩
 by_cases h0:len=0
 ·subst h0
  by_cases hcap:cap=0
  ·subst hcap
   exact⟨_,.sl 0 [],rfl,⟨[],rfl,by simp,by simp⟩,rfl,.slzero a⟩
  obtain⟨hr1,hr2⟩:=hsp rfl
  have h1:=hr2 0 (by omega)
  rw[hc,List.getElem?_eq_getElem (by omega:0<rest.length)]at h1
  obtain⟨l,hl1,_⟩:=Option.bind_eq_some_iff.1 h1
  obtain⟨hll,hlv⟩:=bOp hl1
  have hv:=hlv 0 (by omega)
  have hspot:a.spot=none:=by
   have:=World.cell?_spot hv
   simpa [Addr.add]using this
  rw[aQi,Nat.zero_add,Nat.zero_mul]at hv
  have hblk:a.block<W.heap.size:=by
   simp only[World.cell?,Addr.add]at hv
   split at hv
   ·rename_i hh;exact(Array.getElem?_eq_some_iff.1 hh).1
   cases hv
  obtain⟨blk,off,spot⟩:=a
  subst hspot
  exact⟨_,.sl 0 [],rfl,⟨[],rfl,by simp,by simp⟩,rfl,.sl 0 [] blk off cap (fun _=>undef) hblk (by omega) (fun i hi=>by simp at hi) (fun i hi=>by simp at hi) (fun i hi=>by simp at hi)⟩
 have hex: ∀k:Nat,∃p:Value×AV,k<len*n→(W.cell? (a.add k)=some p.1∧Qs (k%n) p.2∧p.2.isCell=true∧Rel σ (fun k=>k<W.heap.size) W p.2 p.1):=by
  intro k
  by_cases hk:k<len*n
  ·obtain⟨v,y,h⟩:=get (k/n) (Nat.div_lt_of_lt_mul (by rw[Nat.mul_comm];exact hk)) (k%n) (Nat.mod_lt _ hpos)
   refine⟨(v,y),fun _=>?_⟩
   rw[Nat.mul_comm (k/n) n,Nat.div_add_mod]at h
   exact h
  exact⟨(undef,.junk),fun h=>absurd h hk⟩
 obtain⟨F,hF⟩:=Classical.axiomOfChoice hex
 have hln:0<len*n:=Nat.mul_pos (by omega) hpos
 have hv0:=(hF 0 hln).1
 have hspot:a.spot=none:=by
  have:=World.cell?_spot hv0
  simpa [Addr.add]using this
 have hblk:a.block<W.heap.size:=by
  simp only[World.cell?,Addr.add]at hv0
  split at hv0
  ·rename_i hh;exact(Array.getElem?_eq_some_iff.1 hh).1
  cases hv0
 obtain⟨blk,off,spot⟩:=a
 subst hspot
 have hrl:((List.range len).map (zO (fun k=>(F k).2) n)).length=len:=by simp
 have hfx:=aFv (fun k=>(F k).2) n len
 have hxl:(((List.range len).map (zO (fun k=>(F k).2) n)).flatten).length=len*n:=by rw[hfx];simp
 refine⟨_,.sl len (((List.range len).map (zO (fun k=>(F k).2) n)).flatten),rfl,⟨(List.range len).map (zO (fun k=>(F k).2) n),by rw[hrl],?_,by rw[hrl];exact hmax⟩,rfl,?_⟩
 ·intro r hr
  rw[List.mem_map]at hr
  obtain⟨i,hi,rfl⟩:=hr
  rw[List.mem_range]at hi
  refine⟨bHp _ _ _,fun j hj=>?_⟩
  have hk:i*n+j<len*n:=Nat.lt_of_lt_of_le (Nat.add_lt_add_left hj _) (by rw[←Nat.succ_mul];exact Nat.mul_le_mul_right _ hi)
  have h5:=(hF (i*n+j) hk).2.1
  rw[(aSw hj).2]at h5
  have e:(zO (fun k=>(F k).2) n i).getD j .junk=(F (i*n+j)).2:=by
   rw[List.getD_eq_getElem?_getD]
   simp[zO,hj]
  rw[e];exact h5
 refine .sl len _ blk off cap (fun i=>if i<len*n then(F i).1 else undef) hblk hl (fun i hi=>?_) (fun i hi=>?_) (fun i hi=>?_)
 ·rw[hxl]at hi
  rw[J4 hi];have:=(hF i hi).1;rwa [fVr]at this
 ·rw[hxl]at hi
  have e:(((List.range len).map (zO (fun k=>(F k).2) n)).flatten)[i]=(F i).2:=by
   rw[List.getElem_of_eq hfx];simp
  rw[e];exact(hF i hi).2.2.1
 rw[hxl]at hi
 have e:(((List.range len).map (zO (fun k=>(F k).2) n)).flatten)[i]=(F i).2:=by
  rw[List.getElem_of_eq hfx];simp
 rw[J4 hi,e];exact(hF i hi).2.2.2
theorem aVg {α:Type} {f:α→List AV}: ∀ {rows:List (List AV)},(∀r∈rows,∃a,r=f a)→∃l:List α,rows=l.map f
 |[],_=>⟨[],rfl⟩
 |r::rs,h=>by
  obtain⟨a,rfl⟩:=h r (by simp)
  obtain⟨l,rfl⟩:=aVg (rows:=rs) (fun q hq=>h q (by simp[hq]))
  exact⟨a::l,rfl⟩
end
end Go.AX

namespace Go.AX
open Go
def fTj (g:List AV→List AV→Option (Nat×Nat×List AV×List AV)) (args:List AV) (id:Nat) (hp:H) (nx:Nat):AO→Option (AV×H×Nat)
 | .cells xs mt=>aN (mt=true) (aK (g args xs) fun p=>some (.os nx 0 p.1 p.2.1 true,upd (upd hp id (.cells p.2.2.2 true)) nx (.cells p.2.2.1 true),nx+1))
 |_=>none
def rdF (g:List AV→List AV→Option (Nat×Nat×List AV×List AV)):List AV→H→Nat→Option (AV×H×Nat)
 | .op id off::rest,hp,nx=>aK (hp id) (fTj g (.op id off::rest) id hp nx)
 |_,_,_=>none
theorem fUd (g:List AV→List AV→Option (Nat×Nat×List AV×List AV)) (id off:Nat) (rest:List AV) (hp:H) (nx:Nat):rdF g (.op id off::rest) hp nx=aK (hp id) (fTj g (.op id off::rest) id hp nx):=(rfl)
theorem fSx (g:List AV→List AV→Option (Nat×Nat×List AV×List AV)) (args:List AV) (id:Nat) (hp:H) (nx:Nat) (xs:List AV) (mt:Bool):fTj g args id hp nx (.cells xs mt)=aN (mt=true) (aK (g args xs) fun p=>some (.os nx 0 p.1 p.2.1 true,upd (upd hp id (.cells p.2.2.2 true)) nx (.cells p.2.2.1 true),nx+1)):=(rfl)
attribute [go_sem] fUd fSx
def gJj (P:Program) (rs:List ResultVar) (id n e:Nat) (zs ys:List AV) (x:Exit) (t:S):Prop:=
 (x=.ret∨x=.normal)∧∃q,bV P rs t=some (.os q 0 n e true)∧t.hp q=some (.cells zs true)∧q≠id∧n*e=zs.length∧t.hp id=some (.cells ys true)∧AV.ids.idsL zs=0∧AV.ids.idsL ys=0
theorem fSc {P:Program} {GL:Nat→Option (List AV)} {f:FuncId} {fn:Func} {code:Code} {g:List AV→List AV→Option (Nat×Nat×List AV×List AV)} (hf:P.funcs[f]? =some fn) (hb:fn.body=some code)
  (h: ∀id off rest nx xs n e zs ys,g (.op id off::rest) xs=some (n,e,zs,ys)→rest.length+1≤fn.ntmps∧(id<nx→Awp P GL fn.ntmps code (sN (.op id off::rest) (upd (fun _=>none) id (.cells xs true)) nx) (gJj P fn.results.toList id n e zs ys))):fHs P GL f (rdF g):=by
 intro c σ I w hp nx args vals r hp' nx' hGL hi hs hr hg
 unfold rdF at hg
 split at hg
 case h_2=>cases hg
 rename_i id off rest
 replace hg:=aJ hg;obtain⟨o,ho,hg⟩:=hg
 obtain⟨xs,mt,rfl⟩: ∃a b,o=AO.cells a b:=by cases o<;>first|exact⟨_,_,rfl⟩|(simp[fTj]at hg)
 rw[fSx]at hg
 replace hg:=aP hg;obtain⟨rfl,hg⟩:=hg
 replace hg:=aJ hg;obtain⟨⟨n,e,zs,ys⟩,hp1,hg⟩:=hg
 simp only[Option.some.injEq,Prod.mk.injEq]at hg
 obtain⟨rfl,rfl,rfl⟩:=hg
 refine⟨Nat.le_succ nx,?_⟩
 obtain⟨hlen,haw⟩:=h id off rest nx xs n e zs ys hp1
 have hset:σ id≠.unset:=by
  intro hu
  have:=hi.own id _ ho
  simp[eD,hu]at this
 have hid:id<nx:=by
  apply Classical.byContradiction
  intro hc
  exact hset (hi.un id (by omega))
 have get1: ∀k o,upd (fun _=>none:H) id (.cells xs true) k=some o→k=id∧o=.cells xs true:=by
  intro k o hk
  rw[bJ]at hk
  split at hk
  ·rename_i e;exact⟨e,(J0 hk).symm⟩
  cases hk
 have hnI: ∀blk base sz,σ id=.at_ blk base sz→¬I blk:=by
  intro blk base sz e1
  have:=hi.own id _ ho
  simp only[eD,e1]at this
  exact this.2.1 trivial
 let c':Ctx:= {w0:=w,σ0:=σ,I0:=I,O:=fun k=> ∃base sz,σ id=.at_ k base sz,GL:=GL,nt:=fn.ntmps,u0:=fun k=>k<nx∧σ k=.unset}
 have hi':Inv c' σ I w (upd (fun _=>none) id (.cells xs true)) (fun k=>nx≤k∨(k<nx∧σ k=.unset)):=by
  refine⟨fun _ _=>rfl,fun _ h=>h,fun _ _=>rfl,rfl,rfl,rfl,U3 _,fun _ _ _=>rfl,hi.ilt,fun k o hk=>?_,fun k k' zs o' blk base sz base' sz' h1 hm h2 hne e1=>?_,fun k zs blk base sz h1 hm e1=>?_,fun k hk=>hk.elim (hi.un k) (fun h=>h.2),fun g xs hg=>hi.glob g xs (by rw[hGL];exact hg),fun _ h=> .inl h⟩
  ·obtain⟨rfl,rfl⟩:=get1 k o hk;exact hi.own _ _ ho
  ·obtain⟨rfl,_⟩:=get1 k _ h1
   obtain⟨rfl,_⟩:=get1 k' _ h2
   exact absurd rfl hne
  obtain⟨rfl,_⟩:=get1 k _ h1
  exact .inr ⟨base,sz,e1⟩
 refine calls_of_wp hf hb (wp_mono (haw hid c' rfl rfl σ I w {tmps:=vals++Array.replicate (fn.ntmps-vals.size) undef,defers:=[]} w ?_) ?_)
 ·refine⟨⟨σ,I,?_,Grow.refl _ _ _,fun t=>oG hs hr t⟩,rfl,(by show _=fn.ntmps;simp at hs⊢;omega),fun k hk=>hk.elim,fun id hid=>⟨hid.1,hid.1⟩⟩
  refine hi'.mono_un fun id hid=>?_
  rcases hid with hid|⟨k,hk,_⟩|hid
  ·exact .inl hid
  ·exact hk.elim
  exact .inr hid
 rintro x a w' ⟨t,hq,hR⟩
 have hd:a.defers=[]:=hR.defers
 obtain⟨⟨σ',I',a1,a2,a3⟩,_⟩:=hR
 obtain⟨hex,q,q1,q2,qne,qlen,q3,q4,q5⟩:=hq
 obtain⟨v,hv,hrel⟩:=eZ (P:=P) a1 a3 q1
 have hold: ∀k,k<w.heap.size→(∀base sz,σ id≠.at_ k base sz)→w'.heap[k]? =w.heap[k]?:=fun k hk hn=>a1.old k hk (fun⟨base,sz,e⟩=>hn base sz e)
 have hIs: ∀k,I k→w'.heap[k]? =w.heap[k]?:=fun k hk=>hold k (hi.ilt k hk) (fun base sz e=>hnI k base sz e hk)
 have hO: ∀k,k<c.w0.heap.size→¬c.O k→w'.heap[k]? =c.w0.heap[k]?:=fun k hk hO=>by
  rw[hold k (Nat.lt_of_lt_of_le hk hi.size) (fun base sz e=>?_)]
  ·exact hi.old k hk hO
  rcases hi.lim id _ k base sz ho rfl e with h5|h5
  ·omega
  exact hO h5
 have other: ∀(J:Nat→Prop),(∀k,I k→J k)→(∀k,J k→I k∨w.heap.size≤k)→∀k o,k≠id→hp k=some o→eD σ J w' k o:=by
  intro J hJ1 hJ2 k o hne h2
  have h3:=hi.own k o h2
  refine h3.mono (fun _ _=>rfl) hJ1 hIs fun blk base sz e1=>⟨hold blk (h3.lt e1) (fun base' sz' e2=>?_),fun _ hn hb=>?_⟩
  ·exact hi.inj id k _ o blk base' sz' base sz ho rfl h2 (fun e=>hne e.symm) e2 e1
  rcases hJ2 blk hb with h|h
  ·exact hn h
  have:=h3.lt e1;omega
 have h4:σ' id=σ id:=a2.loc id hset
 have hidI: ∀blk base sz,σ id=.at_ blk base sz→¬I' blk:=by
  intro blk base sz e1
  have:=a1.own id _ q3
  simp only[eD,h4,e1]at this
  exact this.2.1 trivial
 have hI'c: ∀k,I' k→(I k∨w.heap.size≤k)∧k<w'.heap.size∧∀base sz,σ id≠.at_ k base sz:=by
  intro k hk
  refine⟨?_,a1.ilt k hk,fun base sz e=>hidI k base sz e hk⟩
  rcases a1.inew k hk with h|h|⟨base,sz,h⟩
  ·exact .inl h
  ·exact .inr h
  exact absurd hk (hidI k base sz h)
 have hinv:Inv c σ I' w' (upd hp id (.cells ys true)) (fun id=>nx≤id):=by
  refine⟨hi.ext,fun k hk=>a2.imm k (hi.imm k hk),fun k hk=>by rw[hIs k (hi.imm k hk)];exact hi.iw k hk,by rw[a1.os];exact hi.os,by rw[a1.tape];exact hi.tape,by rw[a1.output];exact hi.output,Nat.le_trans hi.size a1.size,hO,fun k hk=>(hI'c k hk).2.1,fun k o hk=>?_,(hi.updIL ho (.cells ys true) fun _=>rfl).1,(hi.updIL ho (.cells ys true) fun _=>rfl).2,hi.un,fun g zs hg=>(hi.glob g zs hg).mono (fun _ _=>rfl) a2.imm hIs,fun k hk=>?_⟩
  ·rw[bJ]at hk
   split at hk
   ·rename_i e
    subst e
    obtain rfl:=J0 hk
    have h3:=a1.own k _ q3
    have h6:=hi.own k _ ho
    simp only[eD,h4]at h3 h6⊢
    cases e5:σ k with
    |unset=>exact absurd e5 hset
    |nil=>simp only[e5]at h3⊢;exact h3
    |at_ blk base sz=>
     simp only[e5]at h3 h6⊢
     obtain⟨⟨⟨cs,T,lo,hi2,b1,b2,b3,b4,b5⟩,b6⟩,b7⟩:=h3
     refine⟨⟨⟨cs,T,lo,hi2,b1,b2,b3,b4,fun i hi3=>?_⟩,b6⟩,fun _ hb=>(hI'c blk hb).2.2 base sz e5,fun hm=>by cases hm⟩
     exact(b5 i hi3).congr_ids (σ':=σ) fun k hk=>by have:=AV.ids_get ys i hi3;omega
   rename_i hne;exact other I' a2.imm (fun k hk=>(hI'c k hk).1) k o hne hk
  rcases(hI'c k hk).1 with h|h
  ·exact hi.inew k h
  exact .inr (.inl (Nat.le_trans hi.size h))
 have hgr: ∀l:Loc,Grow σ I w (cU σ nx l) I' w':=fun l=>⟨fun k hk=>dM (l:=l) (hi.un nx (U3 _)) k hk,a2.imm,hIs⟩
 have hun: ∀(l:Loc) k,k<nx→σ k=.unset→cU σ nx l k=.unset:=fun l k hk hu=>by
  unfold cU;rw[J3 (by omega)];exact hu
 have hmu: ∀k,nx+1≤k→nx≤k∧k≠nx:=fun k hk=>by omega
 have fin: ∃(v':Value) (σ2:Nat→Loc) (I2:Nat→Prop),v=v'∧Inv c σ2 I2 w' (upd (upd hp id (.cells ys true)) nx (.cells zs true)) (fun id=>nx+1≤id)∧Rel σ2 I2 w' (.os nx 0 n e true) v'∧Grow σ I w σ2 I2 w'∧(∀id,id<nx→σ id=.unset→σ2 id=.unset):=by
  have hown:=a1.own q _ q2
  cases hrel with
  |osnil _ _ _ g1=>
   obtain rfl:zs=[]:=bVq hown g1
   exact⟨_,cU σ nx .nil,I',rfl,(hinv.newNil (id:=nx) (U3 _)).mono_un hmu,.osnil _ _ _ (by simp[cU]),hgr _,hun _⟩
  |oszero _ _ _ _ ad g1=>
   obtain rfl:zs=[]:=List.eq_nil_of_length_eq_zero (by omega)
   exact⟨_,cU σ nx .nil,I',rfl,(hinv.newNil (id:=nx) (U3 _)).mono_un hmu,.oszero _ _ _ _ _ (by simp[cU]),hgr _,hun _⟩
  |os _ _ _ _ _ blk base sz cap g1 g2 g3=>
   have hrow:=fPc hown g1
   have hnq: ¬I' blk:=by
    simp only[eD,g1]at hown
    exact hown.2.1 trivial
   have hlim:w.heap.size≤blk:=by
    rcases a1.lim q _ blk base sz q2 rfl g1 with h|⟨base',sz',h⟩
    ·exact h
    exact absurd (h4.trans h) (a1.inj q id _ _ blk base sz base' sz' q2 rfl q3 qne g1)
   have hrow2:uM σ I' w' zs blk base sz:=by
    obtain⟨⟨cs,T,lo,hi2,b1,b2,b3,b4,b5⟩,b6⟩:=hrow
    exact⟨⟨cs,T,lo,hi2,b1,b2,b3,b4,fun i hi3=>(b5 i hi3).congr_ids (σ':=σ) fun k hk=>by have:=AV.ids_get zs i hi3;omega⟩,b6⟩
   refine⟨_,cU σ nx (.at_ blk base sz),I',rfl,(hinv.adopt (id:=nx) (U3 _) hrow2 hnq (Nat.le_trans hi.size hlim) fun k o blk' base' sz' h1 h2 h3=>?_).mono_un hmu,?_,hgr _,hun _⟩
   ·subst h3
    rw[bJ]at h1
    split at h1
    ·rename_i e0
     subst e0
     exact a1.inj q k _ _ blk' base sz base' sz' q2 rfl q3 qne g1 (h4.trans h2)
    have:=(hi.own k o h1).lt h2
    omega
   exact .os _ _ _ _ _ blk base sz cap (by simp[cU]) g2 g3
 obtain⟨v',σ2,I2,rfl,f1,f2,f3,f4⟩:=fin
 have fin2:a.defers=[]∧∃v,(results fn a.tmps).run P w'=.ok v w'∧∃v' σ' I',Ending.returned v=.returned v'∧Inv c σ' I' w' (upd (upd hp id (.cells ys true)) nx (.cells zs true)) (fun id=>nx+1≤id)∧Rel σ' I' w' (.os nx 0 n e true) v'∧Grow σ I w σ' I' w'∧(∀id,id<nx→σ id=.unset→σ' id=.unset):=
  ⟨hd,v,hv,v,σ2,I2,rfl,f1,f2,f3,f4⟩
 rcases hex with rfl|rfl
 ·exact fin2
 exact fin2
end Go.AX

namespace Go.AX
open Go Go.Proofs
theorem eSk {P:Program} {t e:TypeId} (hu:P.underlying t=some (.slice e)) (w:World):(binOp .eql t (.slice none 0 0) (.slice none 0 0)).run P w=.ok (.bool true) w:=by
 have k:(Op.equal t (.slice none 0 0) (.slice none 0 0)).run P w=.ok true w:=by
  show(Op.equalIn (9999+1) t _ _).run P w=_
  rw[Op.equalIn,Sem.run_bind,run_underlying hu];rfl
 simp only[binOp,Sem.run_bind,k,Result.andThen_ok,Sem.run_pure]
theorem eSl {P:Program} {t e:TypeId} (hu:P.underlying t=some (.slice e)) (a:Addr) (n cap:Nat) (w:World):(binOp .eql t (.slice (some a) n cap) (.slice none 0 0)).run P w=.ok (.bool false) w:=by
 have k:(Op.equal t (.slice (some a) n cap) (.slice none 0 0)).run P w=.ok false w:=by
  show(Op.equalIn (9999+1) t _ _).run P w=_
  rw[Op.equalIn,Sem.run_bind,run_underlying hu];rfl
 simp only[binOp,Sem.run_bind,k,Result.andThen_ok,Sem.run_pure]
set_option maxRecDepth 100000 in
theorem eTj (w:World):Calls Tryz.prog 67 #[.slice none 0 0] w fun e w'=>e=.returned (.slice none 0 0)∧w'=w:=by
 have hd: ∀w,(binOp .eql 22 (.slice none 0 0) (.slice none 0 0)).run Tryz.prog w=.ok (.bool true) w:=eSk Tryz.underlying22
 go_enter Tryz.func67,Tryz.ntmps67
 go_wp2
 exact⟨rfl,_,results_tmp rfl _ _ _,rfl,rfl⟩
set_option maxRecDepth 100000 in
theorem eQv (a:Addr) (cap:Nat) (w:World):Calls Tryz.prog 67 #[.slice (some a) 0 cap] w fun e w'=>(∃b,e=.returned (.slice (some b) 0 0))∧w'=w.alloc (.cells #[] 5):=by
 have hd: ∀w,(binOp .eql 22 (.slice (some a) 0 cap) (.slice none 0 0)).run Tryz.prog w=.ok (.bool false) w:=eSl Tryz.underlying22 a 0 cap
 go_enter Tryz.func67,Tryz.ntmps67
 go_wp2
 exact⟨rfl,_,results_tmp rfl _ _ _,⟨_,rfl⟩,rfl⟩
theorem gHj (a:AV):rep 0 [a]=[]:=(rfl)
attribute [go_sem] gHj
def dDv:List AV→Option (Nat×Nat×List AV)
 |[.sl n xs]=>aK (fHq xs) fun l=>aN (l.length=n∧n≤100000) (some (l.length,1,c8 l))
 |_=>none
theorem eTk (n:Nat) (xs:List AV):dDv [.sl n xs]=aK (fHq xs) fun l=>aN (l.length=n∧n≤100000) (some (l.length,1,c8 l)):=(rfl)
def ePb:List AV→Option (Nat×Nat×List AV)
 |[.sl n xs]=>aK (fHq xs) fun l=>aN (l.length=n∧n≤100000∧0<n) (some (l.length,1,c8 l))
 |_=>none
theorem isl22:oQ Tryz.prog 22=true:=by kernel_rfl
attribute [go_sem] eTk isl22
set_option maxHeartbeats 2000000 in
theorem eTl:dH Tryz.prog GLh 67 ePb:=by
 refine fJo Tryz.func67 (aT rfl) ?_
 intro args r hg
 unfold ePb at hg
 split at hg
 ·rename_i n xs
  replace hg:=aJ hg;obtain⟨l,hl,hg⟩:=hg
  replace hg:=aP hg;obtain⟨⟨hn,hnb,hpos⟩,hg⟩:=hg
  obtain rfl:=J0 hg
  have:=bW hl;subst this
  refine⟨J1 rfl,fun nx=>?_⟩
  clear hl hg
  subst hn
  refine ySq (yRn [0] fun K hK=>?_)
  simp(disch:=omega) only[go_sem]
  refine hK _ (aB ?_)
  refine ySq (ySq (yRn [4,0] fun K hK=>?_))
  simp(disch:=omega) only[go_sem]
  refine hK _ (aB ?_)
  refine iFd (ySk (aB (ySq (yRn [2] fun K hK=>?_))))
  simp(disch:=omega) only[go_sem,List.length_nil,List.nil_append]
  refine hK _ (aB ?_)
  refine aS rfl ?_
  simp(disch:=omega) only[fPz,fRw,bV,bK,bQ,go_sem]
 cases hg
theorem dLj:dH Tryz.prog GLh 67 dDv:=by
 intro σ I w nx args vals n e xs h1 h2 h3 hs hr hg
 have hg0:=hg
 unfold dDv at hg
 split at hg
 ·rename_i m ys
  replace hg:=aJ hg;obtain⟨l,hl,hg⟩:=hg
  replace hg:=aP hg;obtain⟨⟨hn,hnb⟩,hg⟩:=hg
  by_cases hm:0<m
  ·refine eTl σ I w nx _ vals n e xs h1 h2 h3 hs hr ?_
   unfold ePb
   simp only[hl,aX]
   rw[eE _ ⟨hn,hnb,hm⟩];exact hg
  obtain rfl:m=0:=by omega
  obtain rfl:l=[]:=List.eq_nil_of_length_eq_zero hn
  simp only[Option.some.injEq,Prod.mk.injEq]at hg;obtain⟨rfl,rfl,rfl⟩:=hg
  obtain⟨v,rfl,hv⟩:=dXv hs hr
  have key: ∀a cap,v=.slice (some a) 0 cap→Calls Tryz.prog 67 #[v] w fun e' w'=> ∃v σ' I',e'=.returned v∧w'.os=w.os∧w'.tape=w.tape∧w'.output=w.output∧w.heap.size≤w'.heap.size∧(∀k,k<w.heap.size→w'.heap[k]? =w.heap[k]?)∧
    (∀id,id<nx→σ' id=σ id)∧(∀k,I' k→I k∨w.heap.size≤k)∧(∀k,I' k→k<w'.heap.size)∧
    (((v=.slice none 0 0∨∃a,v=.slice (some a) 0 0)∧([]:List B8).length=0∧c8 []=[])∨∃blk base sz cap,v=.slice (some ⟨blk,base,none⟩) ([]:List B8).length cap∧([]:List B8).length≤cap∧base+cap*1≤sz∧w.heap.size≤blk∧¬I' blk∧uM σ' I' w' (c8 []) blk base sz):=by
   intro a cap e
   subst e
   refine(eQv a cap w).mono ?_
   rintro e' w' ⟨⟨b,rfl⟩,rfl⟩
   obtain⟨o,hw⟩: ∃o,(w.alloc (.cells #[] 5)).heap=w.heap.push o:=⟨_,rfl⟩
   have hsz:(w.alloc (.cells #[] 5)).heap.size=w.heap.size+1:=by rw[hw,Array.size_push]
   refine⟨_,σ,I,rfl,rfl,rfl,rfl,by omega,fun k hk=>?_,fun _ _=>rfl,fun _ h=> .inl h,fun k hk=>by have:=h2 k hk;omega,.inl ⟨.inr ⟨b,rfl⟩,rfl,rfl⟩⟩
   rw[hw,Array.getElem?_push]
   rw[J3 (by omega)]
  cases hv with
  |sl _ _ blk off cap f g1 g2 g3 g4 g5=>exact key _ _ rfl
  |slzero a=>exact key _ _ rfl
  |slnil=>
   refine(eTj w).mono ?_
   rintro e' w' ⟨rfl,rfl⟩
   exact⟨_,σ,I,rfl,rfl,rfl,rfl,U3 _,fun _ _=>rfl,fun _ _=>rfl,fun _ h=> .inl h,h2,.inl ⟨.inl rfl,rfl,rfl⟩⟩
 cases hg
theorem fTu:bX Tryz.prog GLh 67 (.fresh true dDv):=⟨⟨_,Tryz.func67,rfl,rfl⟩,dLj⟩
end Go.AX

namespace Go.AX.D5
open Go Go.Proofs
abbrev T16:=BitVec 16
def ltN (x y:T16):Bool:=decide (x.toNat<y.toNat)
def cA (d:Array T16):List AV:=d.toList.map .w16
theorem cQr (d:Array T16):(cA d).length=d.size:=by simp[cA]
theorem aXt (d:Array T16) (k:Nat) (h:k<d.size):((cA d).drop k).head? =some (.w16 d[k]!):=by
 rw[List.head?_drop,cA,List.getElem?_map,Array.getElem?_toList,Array.getElem?_eq_getElem h,getElem!_pos d k h];rfl
theorem aTi (d:Array T16) (k:Nat) (x:T16):(cA d).set k (.w16 x)=cA (d.setIfInBounds k x):=by
 simp[cA,List.map_set]
theorem dZ (d:Array T16):AV.noMem.noMemL (cA d)=true:=by
 unfold cA
 generalize d.toList=l
 induction l with
 |nil=>rfl
 |cons x l ih=>show(AV.noMem (.w16 x)&&AV.noMem.noMemL (l.map .w16))=true;rw[ih];rfl
theorem bPh (d:Array T16):dB (cA d)=true:=by
 simp only[dB,cA,List.all_eq_true,List.mem_map]
 rintro _ ⟨x,_,rfl⟩;rfl
def unA:List AV→Option (List T16)
 |[]=>some []
 | .w16 x::r=>aK (unA r) fun l=>some (x::l)
 |_=>none
theorem dO: ∀ {xs:List AV} {l:List T16},unA xs=some l→xs=cA l.toArray
 |[],l,h=>by obtain rfl:=J0 h;rfl
 |x::r,l,h=>by
  cases x<;>simp only[unA]at h<;>first|(cases h;done)|skip
  replace h:=aJ h;obtain⟨m,hm,h⟩:=h
  obtain rfl:=J0 h
  have:=dO hm
  rw[this];simp[cA]
theorem bFk (d:Array T16):unA (cA d)=some d.toList:=by
 unfold cA
 generalize d.toList=l
 induction l with
 |nil=>rfl
 |cons x l ih=>show aK (unA (l.map .w16)) (fun l=>some (x::l))=_;rw[ih,aX]
theorem cW (d:Array T16) (i j:Nat):(Sort.swp d i j).size=d.size:=by simp[Sort.swp]
attribute [go_sem] Array.size_setIfInBounds cW cQr aXt aTi dZ bPh bFk
end Go.AX.D5

namespace Go.AX.D5
open Go Go.Proofs
def GLh:Nat→Option (List AV):=fun _=>none
def chM:List PanicEntry:=[{v:=.iface 154 (.agg #[]),recovered:=false}]
def chF (k:Int):List PanicEntry:=[{v:=.iface 167 (.agg #[.int .i64 k]),recovered:=false}]
theorem dXo (P:Program) (t:TypeId) (v:Value) (w:World):(Instr.panic (.iface t v)).run P w=.halt (.panic (.iface t v)) w:=rfl
theorem fGm {σ:Nat→Loc} {I:Nat→Prop} {w:World} {n:Int} {v:Value} (h:Rel σ I w (.i n) v):v=.int .i64 n:=by cases h;rfl
theorem dXw (w:World):Calls Tryz.prog 86 #[.bool false] w fun e w'=>e=.panicked chM∧w'=w:=by
 go_enter Tryz.func86,Tryz.ntmps86
 go_wp2
 simp only[dXo]
 exact⟨rfl,rfl,rfl⟩
theorem eVt (w:World):Calls Tryz.prog 86 #[.bool true] w fun e w'=>e=.returned (.tuple #[])∧w'=w:=by
 go_enter Tryz.func86,Tryz.ntmps86
 go_wp2
 exact⟨rfl,_,results_none rfl _ _ _,rfl,rfl⟩
theorem eZf (k:Int) (w:World):Calls Tryz.prog 102 #[.int .i64 k] w fun e w'=>e=.panicked (chF k)∧w'=w:=by
 go_enter Tryz.func102,Tryz.ntmps102
 go_wp2
 simp only[dXo]
 exact⟨rfl,rfl,rfl⟩
section
variable {P : Program} {GL : Nat → Option (List AV)} {f : FuncId}
theorem dXi {ch:List PanicEntry} {g:List AV→H→Nat→Option (H×Nat)} (h: ∀args hp nx hp' nx',g args hp nx=some (hp',nx')→hp'=hp∧nx'=nx∧∀(σ:Nat→Loc) (I:Nat→Prop) (w:World) (vals:Array Value),vals.size=args.length→(∀i (_h:i<args.length),Rel σ I w args[i] (vals.getD i undef))→Calls P f vals w fun e w'=>e=.panicked ch∧w'=w):dE P GL f ch g:=by
 intro c σ I w hp nx args vals hp' nx' _ hi hs hr hg
 obtain⟨rfl,rfl,hc⟩:=h args hp nx hp' nx' hg
 refine⟨U3 _,(hc σ I w vals hs hr).mono ?_⟩
 rintro e w' ⟨rfl,rfl⟩
 exact⟨σ,I,rfl,hi,Grow.refl _ _ _,fun _ _ h=>h⟩
theorem eSu {g:List AV→Option AV} (h: ∀args r,g args=some r→∀(σ:Nat→Loc) (I:Nat→Prop) (w:World) (vals:Array Value),vals.size=args.length→(∀i (_h:i<args.length),Rel σ I w args[i] (vals.getD i undef))→∃v,Rel σ I w r v∧Calls P f vals w fun e w'=>e=.returned v∧w'=w):fHn P GL f g:=by
 intro σ I w nx args vals r h1 h2 h3 hs hr hg
 obtain⟨v,hv,hc⟩:=h args r hg σ I w vals hs hr
 refine hc.mono ?_
 rintro e w' ⟨rfl,rfl⟩
 exact⟨v,σ,I,rfl,rfl,rfl,rfl,U3 _,fun _ _=>rfl,fun _ _=>rfl,fun _ h=> .inl h,h2,hv⟩
end
theorem dXv {σ:Nat→Loc} {I:Nat→Prop} {w:World} {x:AV} {vals:Array Value} (hs:vals.size=[x].length) (hr: ∀i (_h:i<[x].length),Rel σ I w [x][i] (vals.getD i undef)): ∃v,vals= #[v]∧Rel σ I w x v:=by
 have h0:=hr 0 (by simp)
 obtain⟨l⟩:=vals
 simp only[List.size_toArray,List.length_cons,List.length_nil,Nat.zero_add]at hs
 match l,hs with
 |[v],_=>exact⟨v,rfl,h0⟩
def eO:List AV→Option AV
 |[.b true]=>some (.tup [])
 |_=>none
theorem dKp:eO [.b true]=some (.tup []):=(rfl)
def dXl:List AV→H→Nat→Option (H×Nat)
 |[.b false],hp,nx=>some (hp,nx)
 |_,_,_=>none
theorem dXk (hp:H) (nx:Nat):dXl [.b false] hp nx=some (hp,nx):=(rfl)
def eQa (k:Int):List AV→H→Nat→Option (H×Nat)
 |[.i n],hp,nx=>aN (n=k) (some (hp,nx))
 |_,_,_=>none
theorem eWl (k n:Int) (hp:H) (nx:Nat):eQa k [.i n] hp nx=aN (n=k) (some (hp,nx)):=(rfl)
attribute [go_sem] dKp dXk eWl cSi dXs
theorem dMa:fHn Tryz.prog GLh 86 eO:=by
 refine eSu fun args r hg σ I w vals hs hr=>?_
 unfold eO at hg
 split at hg
 ·obtain rfl:=J0 hg
  obtain⟨v,rfl,hv⟩:=dXv hs hr
  obtain rfl:=bQs hv
  exact⟨_,.tup _ _ rfl (fun i h=>by simp at h),eVt w⟩
 cases hg
theorem fPd:dE Tryz.prog GLh 86 chM dXl:=by
 refine dXi fun args hp nx hp' nx' hg=>?_
 unfold dXl at hg
 split at hg
 ·simp only[Option.some.injEq,Prod.mk.injEq]at hg;obtain⟨rfl,rfl⟩:=hg
  refine⟨rfl,rfl,fun σ I w vals hs hr=>?_⟩
  obtain⟨v,rfl,hv⟩:=dXv hs hr
  obtain rfl:=bQs hv
  exact dXw w
 cases hg
theorem ePz (k:Int):dE Tryz.prog GLh 102 (chF k) (eQa k):=by
 refine dXi fun args hp nx hp' nx' hg=>?_
 unfold eQa at hg
 split at hg
 ·replace hg:=aP hg;obtain⟨rfl,hg⟩:=hg
  simp only[Option.some.injEq,Prod.mk.injEq]at hg;obtain⟨rfl,rfl⟩:=hg
  refine⟨rfl,rfl,fun σ I w vals hs hr=>?_⟩
  obtain⟨v,rfl,hv⟩:=dXv hs hr
  obtain rfl:=fGm hv
  exact eZf _ w
 cases hg
theorem rD:fHm Tryz.prog 86:=⟨_,Tryz.func86,rfl,rfl⟩
theorem ePc:fHm Tryz.prog 102:=⟨_,Tryz.func102,rfl,rfl⟩
theorem rP:bX Tryz.prog GLh 86 (.pure true eO):=⟨rD,dMa⟩
end Go.AX.D5

namespace Go.AX.D5
open Go Go.Proofs
theorem bG (fr:List (Nat×AV)):gdS fr none=some true:=(rfl)
def eSc (l:List B8) (k a:Nat):Option (AV×List AV):=if k≤l.length-a then some (.sl k (c8 ((l.drop a).take k)),[.sl l.length (c8 l),.i ((a+k:Nat):Int)])else none
theorem eMu {l:List B8} {k a:Nat} (h:k≤l.length-a):eSc l k a=some (.sl k (c8 ((l.drop a).take k)),[.sl l.length (c8 l),.i ((a+k:Nat):Int)]):=J4 h
theorem eOp {l:List B8} {k a:Nat} (h: ¬k≤l.length-a):eSc l k a=none:=J3 h
def fJ:List AV→List AV→Option (Option (AV×List AV))
 |[.op _ 0,.i k],[.sl n xs,.i a]=>aK (fHq xs) fun l=>aN (l.length=n∧0≤k∧k≤100000∧0≤a∧a≤n∧n≤100000) (some (eSc l k.toNat a.toNat))
 |_,_=>none
theorem eUf (id n:Nat) (k a:Int) (xs:List AV):fJ [.op id 0,.i k] [.sl n xs,.i a]=aK (fHq xs) fun l=>aN (l.length=n∧0≤k∧k≤100000∧0≤a∧a≤n∧n≤100000) (some (eSc l k.toNat a.toNat)):=(rfl)
attribute [go_sem] eUf
theorem fCm (l:List B8):AV.ids.idsL (c8 l)=0:=by
 induction l with
 |nil=>rfl
 |cons x l ih=>show max (AV.ids (.w8 x)) (AV.ids.idsL (c8 l))=0;rw[ih];rfl
theorem eLf (n:Nat) (l:List B8):AV.ids (.sl n (c8 l))=0:=fCm l
theorem fVp (n:Nat) (l:List B8) (a:Int):AV.ids.idsL [.sl n (c8 l),.i a]=0:=by
 show max (AV.ids (.sl n (c8 l))) (max 0 0)=0
 rw[eLf];rfl
set_option maxHeartbeats 2000000 in
theorem eNz:fHs Tryz.prog GLh 91 (rdH fJ)∧dE Tryz.prog GLh 91 chM (rdP fJ):=by
 refine dT Tryz.func91 (aT rfl) ?_
 intro id off rest nx xs o hg
 unfold fJ at hg
 split at hg
 ·rename_i id2 k0 n xs2 a0 heq
  simp only[List.cons.injEq,AV.op.injEq]at heq
  obtain⟨⟨rfl,rfl⟩,rfl⟩:=heq
  replace hg:=aJ hg;obtain⟨l,hl,hg⟩:=hg
  replace hg:=aP hg;obtain⟨⟨rfl,hk,hkb,ha,han,hnb⟩,hg⟩:=hg
  obtain rfl:=J0 hg
  have:=bW hl;subst this
  obtain⟨k,rfl⟩:=Int.eq_ofNat_of_zero_le hk
  obtain⟨a,rfl⟩:=Int.eq_ofNat_of_zero_le ha
  simp only[U2]at*
  refine⟨J1 rfl,fun hid=>?_⟩
  clear hl hg
  refine ySq (yRn [0,1] fun K hK=>?_)
  simp(disch:=omega) only[go_sem]
  refine hK _ (aB ?_)
  by_cases hka:k≤l.length-a
  ·rw[eMu hka]
   have hd:decide ((k:Int)≤(l.length:Int)-(a:Int))=true:=J5 (by omega)
   refine ySq (bB (fun k=>if k=12 then 0 else 2) [0,1] bZ (aH rP aO) rfl rfl rfl (by kernel_rfl) (fun K hK=>?_))
   simp(disch:=omega) only[go_sem,hd]
   refine hK _ (aB ?_)
   have ea:(a:Int)+(k:Int)=((a+k:Nat):Int):=rfl
   refine ySq (yRn [0,1] fun K hK=>?_)
   simp(disch:=omega) only[go_sem,ea]
   refine hK _ (aB ?_)
   have es:((a+k:Nat):Int)-(k:Int)=(a:Int):=by omega
   have e2:a+k-a=k:=by omega
   refine ySq (bB (Γ:=aL) (fun _=>2) [4] bZ (aD _ _) rfl rfl rfl (by kernel_rfl) (fun K hK=>?_))
   simp(disch:=omega) only[go_sem,es,e2,U2]
   refine hK _ (aB ?_)
   exact aS rfl (⟨by simp only[bV,bK,bQ,Tryz.f91,go_sem],by simp only[aV,if_true],eLf _ _,fVp _ _ _⟩)
  rw[eOp hka]
  have hd:decide ((k:Int)≤(l.length:Int)-(a:Int))=false:=J6 (by omega)
  refine ySq (dCo 12 (fun _=>2) bZ (fPd) rD (aH rP aO) rfl rfl rfl (by kernel_rfl) rfl (by kernel_rfl) (fun Z hZ=>?_))
  simp(disch:=omega) only[go_sem,bG,eq_self,true_and,bP,List.map_cons,List.map_nil,List.append_nil,hd,U0,U1]
  refine hZ _ ?_;clear hZ Z
  exact rfl
 cases hg
theorem rH:dE Tryz.prog GLh 91 chM (rdP fJ):=eNz.2
theorem eLj:fHm Tryz.prog 91:=⟨_,Tryz.func91,rfl,rfl⟩
theorem eLb:bX Tryz.prog GLh 91 (.heap (rdH fJ)):=⟨⟨_,Tryz.func91,rfl,rfl⟩,eNz.1⟩
end Go.AX.D5

namespace Go.AX.D5
open Go Go.Proofs
theorem fQy (s:List B8) (k:Nat) (h:k<s.length):s[k]? =some (s.getD k 0#8):=by rw[List.getD_eq_getElem?_getD,List.getElem?_eq_getElem h];rfl
def fRs (l:List B8):BitVec 32:=l.foldl (fun n x=>(n <<<8)|||x.setWidth 32) 0#32
theorem eOi (l:List B8) (k:Nat) (h:k<l.length):fRs (l.take (k+1))=(fRs (l.take k) <<<8)|||(l.getD k 0#8).setWidth 32:=by
 unfold fRs
 rw[List.take_succ_eq_append_getElem h,List.foldl_append,List.getD_eq_getElem?_getD,List.getElem?_eq_getElem h];rfl
def rL (l:List B8) (k a:Nat):Option (AV×List AV):=if k≤l.length-a then some (.w32 (fRs ((l.drop a).take k)),[.sl l.length (c8 l),.i ((a+k:Nat):Int)])else none
theorem eKs {l:List B8} {k a:Nat} (h:k≤l.length-a):rL l k a=some (.w32 (fRs ((l.drop a).take k)),[.sl l.length (c8 l),.i ((a+k:Nat):Int)]):=J4 h
theorem fPs {l:List B8} {k a:Nat} (h: ¬k≤l.length-a):rL l k a=none:=J3 h
def eN:List AV→List AV→Option (Option (AV×List AV))
 |[.op _ 0,.i k],[.sl n xs,.i a]=>aK (fHq xs) fun l=>aN (l.length=n∧0≤k∧k≤4∧0≤a∧a≤n∧n≤100000) (some (rL l k.toNat a.toNat))
 |_,_=>none
theorem eYu (id n:Nat) (k a:Int) (xs:List AV):eN [.op id 0,.i k] [.sl n xs,.i a]=aK (fHq xs) fun l=>aN (l.length=n∧0≤k∧k≤4∧0≤a∧a≤n∧n≤100000) (some (rL l k.toNat a.toNat)):=(rfl)
attribute [go_sem] eYu
structure KC5 where
 k:Nat
 c:Nat
set_option maxHeartbeats 4000000 in
theorem ePt:fHs Tryz.prog GLh 79 (rdH eN)∧dE Tryz.prog GLh 79 chM (rdP eN):=by
 refine dT Tryz.func79 (aT rfl) ?_
 intro id off rest nx xs o hg
 unfold eN at hg
 split at hg
 ·rename_i id2 k0 n xs2 a0 heq
  simp only[List.cons.injEq,AV.op.injEq]at heq
  obtain⟨⟨rfl,rfl⟩,rfl⟩:=heq
  replace hg:=aJ hg;obtain⟨l,hl,hg⟩:=hg
  replace hg:=aP hg;obtain⟨⟨rfl,hk,hkb,ha,han,hnb⟩,hg⟩:=hg
  obtain rfl:=J0 hg
  have:=bW hl;subst this
  obtain⟨k,rfl⟩:=Int.eq_ofNat_of_zero_le hk
  obtain⟨a,rfl⟩:=Int.eq_ofNat_of_zero_le ha
  simp only[U2]at*
  refine⟨J1 rfl,fun hid=>?_⟩
  clear hl hg
  refine ySq (yRn [0,1] fun K hK=>?_)
  simp(disch:=omega) only[go_sem]
  refine hK _ (aB ?_)
  refine ySq (yRn [0,1,5] fun K hK=>?_)
  simp(disch:=omega) only[go_sem]
  refine hK _ (aB ?_)
  by_cases hka:k≤l.length-a
  ·rw[eKs hka]
   have ht:=eMu hka
   obtain⟨d,hd⟩: ∃d,(l.drop a).take k=d:=⟨_,rfl⟩
   rw[hd]at ht⊢
   have hdl:d.length=k:=by rw[←hd,List.length_take,List.length_drop];omega
   refine ySq (ySq (yRg [5,10,11,12] (aH eLb aO) fun K hK=>?_))
   simp(disch:=omega) only[go_sem,ht,U2]
   refine hK _ (aB ?_)
   refine yBl 0 (bR (fun p:KC5=> {fr:=[(5,.w32 (fRs (d.take p.k))),(10,.sl k (c8 d)),(11,.i (k:Int)),(12,.i (p.k:Int))],hp:=upd (fun _=>none) id (.cells [.sl l.length (c8 l),.i ((a+k:Nat):Int)] true),nx:=0,cx:=p.c}) (fun p=>p.k≤k) (fun p=>k-p.k) rfl ⟨⟨0,_⟩,Nat.zero_le _,bD rfl rfl (U3 _)⟩ ?_)
   rintro⟨i,c⟩ hi n0
   simp only at hi⊢
   refine ySq (yRn [13,5,10,11,12] fun K hK=>?_)
   simp(disch:=omega) only[go_sem]
   refine hK _ (aB ?_)
   refine ySq (gLb rfl (fun h=>?_) (fun h=>?_))
   ·refine yDr ?_
    have hil:i<d.length:=by omega
    have hix:=fQy d i hil
    have hst:=eOi d i hil
    refine ySk (aB (ySq (yBl 1 (ySq (yRn [5,7,10,11,12] fun K hK=>?_)))))
    simp(disch:=omega) only[go_sem]
    refine hK _ (aB ?_)
    refine yRn [5,10,11,12] fun K hK=>?_
    simp(disch:=omega) only[go_sem]
    refine hK _ (bU (aB ?_))
    refine yRn [5,10,11,12] fun K hK=>?_
    simp(disch:=omega) only[go_sem]
    refine hK _ (bT ?_)
    refine⟨⟨i+1,_⟩,by simp only;omega,by simp only;omega,bD ?_ rfl (U3 _)⟩
    simp only[hst,Int.natCast_add,Int.natCast_one]
   refine yDr ?_
   obtain rfl:i=k:=by omega
   have e1:d.take i=d:=List.take_of_length_le (by omega)
   refine yEx 0 (aY (aZ (bE (aB (ySq (yRn [4] fun K hK=>?_))))))
   simp(disch:=omega) only[go_sem,e1]
   refine hK _ (aB ?_)
   exact aS rfl (⟨by simp only[bV,bK,bQ,Tryz.f79,go_sem],by simp only[aV,if_true],rfl,fVp _ _ _⟩)
  rw[fPs hka]
  have ht:=eOp hka
  refine ySq (ySq (dCn 2 (rH) eLj (aH eLb aO) rfl rfl rfl (fun Z hZ=>?_)))
  simp(disch:=omega) only[go_sem,bG,eq_self,true_and,bP,List.map_cons,List.map_nil,List.append_nil,ht,U2,U0,U1]
  refine hZ _ ?_;clear hZ Z
  exact rfl
 cases hg
theorem dK:dE Tryz.prog GLh 79 chM (rdP eN):=ePt.2
theorem fSe:fHm Tryz.prog 79:=⟨_,Tryz.func79,rfl,rfl⟩
theorem fL:bX Tryz.prog GLh 79 (.heap (rdH eN)):=⟨⟨_,Tryz.func79,rfl,rfl⟩,ePt.1⟩
end Go.AX.D5

namespace Go.AX.D5
open Go Go.Proofs
theorem eSk {P:Program} {t e:TypeId} (hu:P.underlying t=some (.slice e)) (w:World):(binOp .eql t (.slice none 0 0) (.slice none 0 0)).run P w=.ok (.bool true) w:=by
 have k:(Op.equal t (.slice none 0 0) (.slice none 0 0)).run P w=.ok true w:=by
  show(Op.equalIn (9999+1) t _ _).run P w=_
  rw[Op.equalIn,Sem.run_bind,run_underlying hu];rfl
 simp only[binOp,Sem.run_bind,k,Result.andThen_ok,Sem.run_pure]
theorem eSl {P:Program} {t e:TypeId} (hu:P.underlying t=some (.slice e)) (a:Addr) (n cap:Nat) (w:World):(binOp .eql t (.slice (some a) n cap) (.slice none 0 0)).run P w=.ok (.bool false) w:=by
 have k:(Op.equal t (.slice (some a) n cap) (.slice none 0 0)).run P w=.ok false w:=by
  show(Op.equalIn (9999+1) t _ _).run P w=_
  rw[Op.equalIn,Sem.run_bind,run_underlying hu];rfl
 simp only[binOp,Sem.run_bind,k,Result.andThen_ok,Sem.run_pure]
set_option maxRecDepth 100000 in
theorem eTj (w:World):Calls Tryz.prog 67 #[.slice none 0 0] w fun e w'=>e=.returned (.slice none 0 0)∧w'=w:=by
 have hd: ∀w,(binOp .eql 22 (.slice none 0 0) (.slice none 0 0)).run Tryz.prog w=.ok (.bool true) w:=eSk Tryz.underlying22
 go_enter Tryz.func67,Tryz.ntmps67
 go_wp2
 exact⟨rfl,_,results_tmp rfl _ _ _,rfl,rfl⟩
set_option maxRecDepth 100000 in
theorem eQv (a:Addr) (cap:Nat) (w:World):Calls Tryz.prog 67 #[.slice (some a) 0 cap] w fun e w'=>(∃b,e=.returned (.slice (some b) 0 0))∧w'=w.alloc (.cells #[] 5):=by
 have hd: ∀w,(binOp .eql 22 (.slice (some a) 0 cap) (.slice none 0 0)).run Tryz.prog w=.ok (.bool false) w:=eSl Tryz.underlying22 a 0 cap
 go_enter Tryz.func67,Tryz.ntmps67
 go_wp2
 exact⟨rfl,_,results_tmp rfl _ _ _,⟨_,rfl⟩,rfl⟩
theorem gHj (a:AV):rep 0 [a]=[]:=(rfl)
attribute [go_sem] gHj
def dDv:List AV→Option (Nat×Nat×List AV)
 |[.sl n xs]=>aK (fHq xs) fun l=>aN (l.length=n∧n≤100000) (some (l.length,1,c8 l))
 |_=>none
theorem eTk (n:Nat) (xs:List AV):dDv [.sl n xs]=aK (fHq xs) fun l=>aN (l.length=n∧n≤100000) (some (l.length,1,c8 l)):=(rfl)
def ePb:List AV→Option (Nat×Nat×List AV)
 |[.sl n xs]=>aK (fHq xs) fun l=>aN (l.length=n∧n≤100000∧0<n) (some (l.length,1,c8 l))
 |_=>none
theorem isl22:oQ Tryz.prog 22=true:=by kernel_rfl
attribute [go_sem] eTk isl22
set_option maxHeartbeats 2000000 in
theorem eTl:dH Tryz.prog GLh 67 ePb:=by
 refine fJo Tryz.func67 (aT rfl) ?_
 intro args r hg
 unfold ePb at hg
 split at hg
 ·rename_i n xs
  replace hg:=aJ hg;obtain⟨l,hl,hg⟩:=hg
  replace hg:=aP hg;obtain⟨⟨hn,hnb,hpos⟩,hg⟩:=hg
  obtain rfl:=J0 hg
  have:=bW hl;subst this
  refine⟨J1 rfl,fun nx=>?_⟩
  clear hl hg
  subst hn
  refine ySq (yRn [0] fun K hK=>?_)
  simp(disch:=omega) only[go_sem]
  refine hK _ (aB ?_)
  refine ySq (ySq (yRn [4,0] fun K hK=>?_))
  simp(disch:=omega) only[go_sem]
  refine hK _ (aB ?_)
  refine iFd (ySk (aB (ySq (yRn [2] fun K hK=>?_))))
  simp(disch:=omega) only[go_sem,List.length_nil,List.nil_append]
  refine hK _ (aB ?_)
  refine aS rfl ?_
  simp(disch:=omega) only[fPz,fRw,bV,bK,bQ,go_sem]
 cases hg
theorem dLj:dH Tryz.prog GLh 67 dDv:=by
 intro σ I w nx args vals n e xs h1 h2 h3 hs hr hg
 have hg0:=hg
 unfold dDv at hg
 split at hg
 ·rename_i m ys
  replace hg:=aJ hg;obtain⟨l,hl,hg⟩:=hg
  replace hg:=aP hg;obtain⟨⟨hn,hnb⟩,hg⟩:=hg
  by_cases hm:0<m
  ·refine eTl σ I w nx _ vals n e xs h1 h2 h3 hs hr ?_
   unfold ePb
   simp only[hl,aX]
   rw[eE _ ⟨hn,hnb,hm⟩];exact hg
  obtain rfl:m=0:=by omega
  obtain rfl:l=[]:=List.eq_nil_of_length_eq_zero hn
  simp only[Option.some.injEq,Prod.mk.injEq]at hg;obtain⟨rfl,rfl,rfl⟩:=hg
  obtain⟨v,rfl,hv⟩:=dXv hs hr
  have key: ∀a cap,v=.slice (some a) 0 cap→Calls Tryz.prog 67 #[v] w fun e' w'=> ∃v σ' I',e'=.returned v∧w'.os=w.os∧w'.tape=w.tape∧w'.output=w.output∧w.heap.size≤w'.heap.size∧(∀k,k<w.heap.size→w'.heap[k]? =w.heap[k]?)∧
    (∀id,id<nx→σ' id=σ id)∧(∀k,I' k→I k∨w.heap.size≤k)∧(∀k,I' k→k<w'.heap.size)∧
    (((v=.slice none 0 0∨∃a,v=.slice (some a) 0 0)∧([]:List B8).length=0∧c8 []=[])∨∃blk base sz cap,v=.slice (some ⟨blk,base,none⟩) ([]:List B8).length cap∧([]:List B8).length≤cap∧base+cap*1≤sz∧w.heap.size≤blk∧¬I' blk∧uM σ' I' w' (c8 []) blk base sz):=by
   intro a cap e
   subst e
   refine(eQv a cap w).mono ?_
   rintro e' w' ⟨⟨b,rfl⟩,rfl⟩
   obtain⟨o,hw⟩: ∃o,(w.alloc (.cells #[] 5)).heap=w.heap.push o:=⟨_,rfl⟩
   have hsz:(w.alloc (.cells #[] 5)).heap.size=w.heap.size+1:=by rw[hw,Array.size_push]
   refine⟨_,σ,I,rfl,rfl,rfl,rfl,by omega,fun k hk=>?_,fun _ _=>rfl,fun _ h=> .inl h,fun k hk=>by have:=h2 k hk;omega,.inl ⟨.inr ⟨b,rfl⟩,rfl,rfl⟩⟩
   rw[hw,Array.getElem?_push]
   rw[J3 (by omega)]
  cases hv with
  |sl _ _ blk off cap f g1 g2 g3 g4 g5=>exact key _ _ rfl
  |slzero a=>exact key _ _ rfl
  |slnil=>
   refine(eTj w).mono ?_
   rintro e' w' ⟨rfl,rfl⟩
   exact⟨_,σ,I,rfl,rfl,rfl,rfl,U3 _,fun _ _=>rfl,fun _ _=>rfl,fun _ h=> .inl h,h2,.inl ⟨.inl rfl,rfl,rfl⟩⟩
 cases hg
theorem cWp:bX Tryz.prog GLh 67 (.fresh true dDv):=⟨⟨_,Tryz.func67,rfl,rfl⟩,dLj⟩
end Go.AX.D5

namespace Go.AX.D5
open Go Go.Proofs
def eUw (l:List B8) (a:Nat):Option (AV×List AV):=some (.sl (l.length-a) (c8 (l.drop a)),[.sl l.length (c8 l),.i (l.length:Int)])
def rB:List AV→List AV→Option (Option (AV×List AV))
 |[.op _ 0],[.sl n xs,.i a]=>aK (fHq xs) fun l=>aN (l.length=n∧0≤a∧a≤n∧n≤100000) (some (eUw l a.toNat))
 |_,_=>none
theorem eUx (id n:Nat) (a:Int) (xs:List AV):rB [.op id 0] [.sl n xs,.i a]=aK (fHq xs) fun l=>aN (l.length=n∧0≤a∧a≤n∧n≤100000) (some (eUw l a.toNat)):=(rfl)
theorem rA (l:List B8) (a:Nat):eUw l a=some (.sl (l.length-a) (c8 (l.drop a)),[.sl l.length (c8 l),.i (l.length:Int)]):=(rfl)
attribute [go_sem] eUx
set_option maxHeartbeats 4000000 in
theorem eSm:fHs Tryz.prog GLh 82 (rdH rB)∧dE Tryz.prog GLh 82 chM (rdP rB):=by
 refine dT Tryz.func82 (aT rfl) ?_
 intro id off rest nx xs o hg
 unfold rB at hg
 split at hg
 ·rename_i id2 n xs2 a0 heq
  simp only[List.cons.injEq,AV.op.injEq]at heq
  obtain⟨⟨rfl,rfl⟩,rfl⟩:=heq
  replace hg:=aJ hg;obtain⟨l,hl,hg⟩:=hg
  replace hg:=aP hg;obtain⟨⟨rfl,ha,han,hnb⟩,hg⟩:=hg
  obtain rfl:=J0 hg
  have:=bW hl;subst this
  obtain⟨a,rfl⟩:=Int.eq_ofNat_of_zero_le ha
  simp only[U2]at*
  refine⟨J1 rfl,fun hid=>?_⟩
  clear hl hg
  have ht:=eMu (l:=l) (k:=l.length-a) (a:=a) (U3 _)
  have ed:(l.drop a).take (l.length-a)=l.drop a:=List.take_of_length_le (by rw[List.length_drop];omega)
  have ea:a+(l.length-a)=l.length:=by omega
  rw[ed,ea]at ht
  have es:(l.length:Int)-(a:Int)=((l.length-a:Nat):Int):=by omega
  have hdl:(l.drop a).length=l.length-a:=List.length_drop ..
  obtain⟨d,hd⟩: ∃d,l.drop a=d:=⟨_,rfl⟩
  rw[hd]at ht hdl
  rw[rA,hd]
  refine ySq (yRn [0] fun K hK=>?_)
  simp(disch:=omega) only[go_sem]
  refine hK _ (aB ?_)
  refine ySq (bB (Γ:=bC [(91,.heap (rdH fJ)),(67,.fresh true dDv)]) (fun k=>if k=11 then 0 else if k=12 then 0 else 2) [2] bZ (aH eLb (aH cWp aO)) rfl rfl rfl (by kernel_rfl) (fun K hK=>?_))
  simp(disch:=omega) only[go_sem,es,U2,ht,hdl]
  refine hK _ (aB ?_)
  refine aS rfl (⟨by simp(disch:=omega) only[bV,bK,bQ,go_sem,aV,kE,bY,eq_self,hdl],by simp(disch:=omega) only[aV,bY,↓reduceIte,eq_self],?_,?_⟩)
  ·exact eLf _ _
  exact fVp _ _ _
 cases hg
theorem eMl:bX Tryz.prog GLh 82 (.heap (rdH rB)):=⟨⟨_,Tryz.func82,rfl,rfl⟩,eSm.1⟩
def rS (l:List B8) (a:Nat):Option (AV×List AV):=if a<l.length∧(l.getD a 0#8).toNat≤l.length-(a+1)then some (.sl (l.getD a 0#8).toNat (c8 ((l.drop (a+1)).take (l.getD a 0#8).toNat)),[.sl l.length (c8 l),.i ((a+1+(l.getD a 0#8).toNat:Nat):Int)])else none
def fZg:List AV→List AV→Option (Option (AV×List AV))
 |[.op _ 0],[.sl n xs,.i a]=>aK (fHq xs) fun l=>aN (l.length=n∧0≤a∧a≤n∧n≤100000) (some (rS l a.toNat))
 |_,_=>none
theorem eUb (id n:Nat) (a:Int) (xs:List AV):fZg [.op id 0] [.sl n xs,.i a]=aK (fHq xs) fun l=>aN (l.length=n∧0≤a∧a≤n∧n≤100000) (some (rS l a.toNat)):=(rfl)
attribute [go_sem] eUb
theorem get1 (l:List B8) (a:Nat) (h:a<l.length):fRs ((l.drop a).take 1)=(l.getD a 0#8).setWidth 32:=by
 have h2:0<(l.drop a).length:=by rw[List.length_drop];omega
 rw[eOi _ 0 h2,U1]
 have:(l.drop a).getD 0 0#8=l.getD a 0#8:=by rw[List.getD_eq_getElem?_getD,List.getElem?_drop,←List.getD_eq_getElem?_getD];rfl
 rw[this]
 show 0#32 <<<8|||_=_
 simp
theorem fBe (x:B8):(x.setWidth 32).toNat=x.toNat:=by rw[BitVec.toNat_setWidth];exact Nat.mod_eq_of_lt (by have:=x.isLt;omega)
set_option maxHeartbeats 4000000 in
theorem eNy:fHs Tryz.prog GLh 85 (rdH fZg)∧dE Tryz.prog GLh 85 chM (rdP fZg):=by
 refine dT Tryz.func85 (aT rfl) ?_
 intro id off rest nx xs o hg
 unfold fZg at hg
 split at hg
 ·rename_i id2 n xs2 a0 heq
  simp only[List.cons.injEq,AV.op.injEq]at heq
  obtain⟨⟨rfl,rfl⟩,rfl⟩:=heq
  replace hg:=aJ hg;obtain⟨l,hl,hg⟩:=hg
  replace hg:=aP hg;obtain⟨⟨rfl,ha,han,hnb⟩,hg⟩:=hg
  obtain rfl:=J0 hg
  have:=bW hl;subst this
  obtain⟨a,rfl⟩:=Int.eq_ofNat_of_zero_le ha
  simp only[U2]at*
  refine⟨J1 rfl,fun hid=>?_⟩
  clear hl hg
  refine ySq (yRn [0] fun K hK=>?_)
  simp(disch:=omega) only[go_sem]
  refine hK _ (aB ?_)
  by_cases h1:a<l.length
  ·have hn1:=eKs (l:=l) (k:=1) (a:=a) (by omega)
   rw[get1 l a h1]at hn1
   have hx:=(l.getD a 0#8).isLt
   have hx32:=fBe (l.getD a 0#8)
   obtain⟨x,hxx⟩: ∃x,l.getD a 0#8=x:=⟨_,rfl⟩
   rw[hxx]at hn1 hx hx32
   by_cases h2:x.toNat≤l.length-(a+1)
   ·have ht:=eMu h2
    have hans:rS l a=some (.sl x.toNat (c8 ((l.drop (a+1)).take x.toNat)),[.sl l.length (c8 l),.i ((a+1+x.toNat:Nat):Int)]):=by unfold rS;rw[hxx];exact J4 ⟨h1,h2⟩
    obtain⟨d,hd⟩: ∃d,(l.drop (a+1)).take x.toNat=d:=⟨_,rfl⟩
    have hdl:d.length=x.toNat:=by rw[←hd,List.length_take,List.length_drop];omega
    rw[hd]at ht hans
    rw[hans]
    refine ySq (yRg [2] (aH fL (aH eLb (aH cWp aO))) fun K hK=>?_)
    simp(disch:=omega) only[go_sem,hn1,hx32,U2,ht,hdl]
    refine hK _ (aB ?_)
    refine aS rfl (⟨by simp(disch:=omega) only[bV,bK,bQ,go_sem,aV,kE,bY,eq_self,hdl],by simp(disch:=omega) only[aV,bY,↓reduceIte,eq_self],?_,?_⟩)
    ·exact eLf _ _
    exact fVp _ _ _
   have ht:=eOp h2
   have hans:rS l a=none:=by unfold rS;rw[hxx];exact J3 fun h=>h2 h.2
   rw[hans]
   refine ySq (dCn (Γ:=bC [(79,.heap (rdH eN)),(91,.heap (rdH fJ)),(67,.fresh true dDv)]) 4 (rH) eLj (aH fL (aH eLb (aH cWp aO))) rfl rfl rfl (fun Z hZ=>?_))
   simp(disch:=omega) only[go_sem,bG,eq_self,true_and,bP,List.map_cons,List.map_nil,List.append_nil,hn1,hx32,U2,ht,U0,U1]
   refine hZ _ ?_;clear hZ Z
   exact rfl
  have hn1:=fPs (l:=l) (k:=1) (a:=a) (by omega)
  have hans:rS l a=none:=by unfold rS;exact J3 fun h=>h1 h.1
  rw[hans]
  refine ySq (dCn (Γ:=bC [(79,.heap (rdH eN)),(91,.heap (rdH fJ)),(67,.fresh true dDv)]) 2 (dK) fSe (aH fL (aH eLb (aH cWp aO))) rfl rfl rfl (fun Z hZ=>?_))
  simp(disch:=omega) only[go_sem,bG,eq_self,true_and,bP,List.map_cons,List.map_nil,List.append_nil,hn1,U2,U0,U1]
  refine hZ _ ?_;clear hZ Z
  exact rfl
 cases hg
theorem eKq:dE Tryz.prog GLh 85 chM (rdP fZg):=eNy.2
theorem eNr:fHm Tryz.prog 85:=⟨_,Tryz.func85,rfl,rfl⟩
theorem eMk:bX Tryz.prog GLh 85 (.heap (rdH fZg)):=⟨⟨_,Tryz.func85,rfl,rfl⟩,eNy.1⟩
end Go.AX.D5

namespace Go.AX.D5
open Go Go.Proofs
abbrev Nm:=List (List B8)
def wl (ls:Nm):Nat:=1+(ls.map fun l=>l.length+1).sum
theorem fBj:wl []=1:=rfl
theorem eKu (l:List B8) (r:Nm):wl (l::r)=wl r+(l.length+1):=by unfold wl;simp only[List.map_cons,List.sum_cons];omega
theorem fBk (p q:Nm):wl (p++q)+1=wl p+wl q:=by unfold wl;simp only[List.map_append,List.sum_append];omega
theorem eXm (p:Nm) (l:List B8):wl (p++[l])=wl p+(l.length+1):=by have:=fBk p [l];rw[eKu,fBj]at this;omega
theorem eRc (ls:Nm) (k:Nat) (h:k<ls.length):wl (ls.take (k+1))=wl (ls.take k)+((ls.getD k []).length+1):=by
 rw[List.take_succ_eq_append_getElem h,eXm,List.getD_eq_getElem?_getD,List.getElem?_eq_getElem h];rfl
def gZ (l:List B8):Prop:=1≤l.length∧l.length≤63
instance (l:List B8):Decidable (gZ l):=by unfold gZ;infer_instance
theorem eKw:ofV (Value.string {data:= #[]})=.s []:=(rfl)
def eTn:List AV→Option AV
 |[.sl n xs]=>aK (unS xs) fun ls=>aN (ls.length=n∧n≤1000000∧∀l∈ls,gZ l) (some (.i (if 255<wl ls then 31 else 0)))
 |_=>none
theorem eZq (n:Nat) (xs:List AV):eTn [.sl n xs]=aK (unS xs) fun ls=>aN (ls.length=n∧n≤1000000∧∀l∈ls,gZ l) (some (.i (if 255<wl ls then 31 else 0))):=(rfl)
attribute [go_sem] eZq
theorem eWb {ls:Nm} (h: ∀l∈ls,gZ l) {k:Nat} (hk:k<ls.length):gZ (ls.getD k []):=by
 rw[List.getD_eq_getElem?_getD,List.getElem?_eq_getElem hk];exact h _ (List.getElem_mem hk)
set_option maxHeartbeats 2000000 in
theorem fDk:fHn Tryz.prog GLh 45 eTn:=by
 refine zK Tryz.func45 (aT rfl) ?_
 intro args r hg
 unfold eTn at hg
 split at hg
 ·rename_i n xs
  replace hg:=aJ hg;obtain⟨ls,hl,hg⟩:=hg
  replace hg:=aP hg;obtain⟨⟨rfl,hn,hall⟩,hg⟩:=hg
  obtain rfl:=J0 hg
  have:=gT hl;subst this
  refine⟨J1 rfl,fun nx=>?_⟩
  clear hl hg
  refine ySq (yRn [0] fun K hK=>?_)
  simp(disch:=omega) only[go_sem]
  refine hK _ (aB ?_)
  refine ySq (yRn [0,3,4] fun K hK=>?_)
  simp(disch:=omega) only[go_sem]
  refine hK _ (aB ?_)
  refine ySq (ySq (yRn [3,4,7,8,9] fun K hK=>?_))
  simp(disch:=omega) only[go_sem]
  refine hK _ (aB ?_)
  refine yBl 0 (bR (fun p:KC5=> {fr:=[(3,.i ((min (wl (ls.take p.k)) 510:Nat):Int)),(4,.b false),(7,.sl ls.length (cS ls)),(8,.i (ls.length:Int)),(9,.i (p.k:Int))],hp:=fun _=>none,nx:=0,cx:=p.c}) (fun p=>p.k≤ls.length) (fun p=>ls.length-p.k) rfl ⟨⟨0,_⟩,Nat.zero_le _,bD rfl rfl (U3 _)⟩ ?_)
  rintro⟨k,c⟩ hk n0
  simp only at hk⊢
  refine ySq (yRn [10,3,4,7,8,9] fun K hK=>?_)
  simp(disch:=omega) only[go_sem]
  refine hK _ (aB ?_)
  refine ySq (gLb rfl (fun h=>?_) (fun h=>?_))
  ·refine yDr ?_
   have hkl:k<ls.length:=by omega
   have hlk:=eWb hall hkl
   have hst:=eRc ls k hkl
   obtain⟨l,hl⟩: ∃l,ls.getD k []=l:=⟨_,rfl⟩
   rw[hl]at hlk hst
   unfold gZ at hlk
   have hne:decide (l=[])=false:=J6 fun e=>by rw[e]at hlk;simp at hlk
   refine ySk (aB (ySq (yBl 1 (ySq (yRn [3,4,6,7,8,9] fun K hK=>?_)))))
   simp(disch:=omega) only[go_sem,hl]
   refine hK _ (aB ?_)
   refine ySq (ySq (yRn [14,3,4,6,7,8,9] fun K hK=>?_))
   simp(disch:=omega) only[go_sem,hne,eKw]
   refine hK _ (aB ?_)
   refine iFd (ySk (aB (ySq ?_)))
   have h63:decide (63<(l.length:Int))=false:=J6 (by omega)
   refine yRn [3,4,6,7,8,9] fun K hK=>?_
   simp(disch:=omega) only[go_sem,h63]
   refine hK _ (aB ?_)
   have e1:(if(255:Int)<(l.length:Int)then(255:Int)else(l.length:Int))=(l.length:Int):=J3 (by omega)
   have e2:(if(510:Int)<((min (wl (ls.take k)) 510:Nat):Int)+1+(l.length:Int)then(510:Int)else((min (wl (ls.take k)) 510:Nat):Int)+1+(l.length:Int))=((min (wl (ls.take (k+1))) 510:Nat):Int):=by rw[hst];split<;>omega
   refine yRn [3,4,7,8,9] fun K hK=>?_
   simp(disch:=omega) only[go_sem,e1,e2]
   refine hK _ (bU (aB ?_))
   refine yRn [3,4,7,8,9] fun K hK=>?_
   simp(disch:=omega) only[go_sem]
   refine hK _ (bT ?_)
   refine⟨⟨k+1,_⟩,by simp only;omega,by simp only;omega,bD ?_ rfl (U3 _)⟩
   simp only[Int.natCast_add,Int.natCast_one]
  refine yDr ?_
  obtain rfl:k=ls.length:=by omega
  have et:ls.take ls.length=ls:=List.take_length
  refine yEx 0 (aY (aZ (bE (aB (ySq (ySq ?_))))))
  by_cases hw:255<wl ls
  ·have hd:decide (255<((min (wl ls) 510:Nat):Int))=true:=J5 (by omega)
   refine yRn [33] fun K hK=>?_
   simp(disch:=omega) only[go_sem,et,hd]
   refine hK _ (aB ?_)
   refine iTd (ySq (yRn [2] fun K hK=>?_))
   simp(disch:=omega) only[go_sem]
   refine hK _ (aB ?_)
   refine aS rfl (bI ?_)
   simp(disch:=omega) only[fHo,bV,bK,bQ,go_sem,hw]
  have hd:decide (255<((min (wl ls) 510:Nat):Int))=false:=J6 (by omega)
  refine yRn [33] fun K hK=>?_
  simp(disch:=omega) only[go_sem,et,hd]
  refine hK _ (aB ?_)
  refine iFd (ySk (aB (ySq (yRn [2] fun K hK=>?_))))
  simp(disch:=omega) only[go_sem]
  refine hK _ (aB ?_)
  refine aS rfl ?_
  simp(disch:=omega) only[fHo,bV,bK,bQ,go_sem,hw]
 cases hg
theorem fFg:bX Tryz.prog GLh 45 (.pure true eTn):=⟨⟨_,Tryz.func45,rfl,rfl⟩,fDk⟩
end Go.AX.D5

namespace Go.AX.D5
open Go Go.Proofs
theorem gHy (hp hp2:H) (cx id:Nat) (x:AV) (sd:Bool):cvF hp hp2 cx id x Tryz.prog.underlying sd (some (.slice 5)) (some .string)=aK (sR hp2 1 x) fun nl=>aK (fHq nl.2) fun l=>some (.s l,hp,cx):=aXn _ _ _ _ _ _ _ _ Tryz.underlying5
attribute [go_sem] gHy
def opN:Nat→List B8→Option (Nm×Nat)
 |0,_=>none
 |_+1,[]=>none
 |f+1,k::r=>if k.toNat=0 then some ([],1)else if 63<k.toNat∨r.length<k.toNat then none else match opN f (r.drop k.toNat)with
  |some (n,s)=>some (r.take k.toNat::n,s+1+k.toNat)
  |none=>none
def eRb (ns:Nm) (i:Nat):Option (Nm×Nat)→Option (Nm×Nat)
 |some (n,s)=>some (ns++n,i+s)
 |none=>none
theorem eYo (f:Nat):opN (f+1) []=none:=rfl
theorem eYp {f:Nat} {b:List B8} {i:Nat} (h:i<b.length) (hk:(b.getD i 0#8).toNat=0):opN (f+1) (b.drop i)=some ([],1):=by
 rw[List.drop_eq_getElem_cons h,opN]
 rw[List.getD_eq_getElem?_getD,List.getElem?_eq_getElem h]at hk
 exact J4 hk
theorem eYq {f:Nat} {b:List B8} {i:Nat} (h:i<b.length) (hk: ¬(b.getD i 0#8).toNat=0) (h2:63<(b.getD i 0#8).toNat∨b.length-(i+1)<(b.getD i 0#8).toNat):opN (f+1) (b.drop i)=none:=by
 rw[List.drop_eq_getElem_cons h,opN]
 rw[List.getD_eq_getElem?_getD,List.getElem?_eq_getElem h]at hk h2
 simp only[Option.getD_some]at hk h2
 rw[J3 hk,J4 (by rw[List.length_drop];exact h2)]
theorem eVh {f:Nat} {b:List B8} {i:Nat} (ns:Nm) (h:i<b.length) (hk: ¬(b.getD i 0#8).toNat=0) (h2: ¬63<(b.getD i 0#8).toNat) (h3: ¬b.length-(i+1)<(b.getD i 0#8).toNat):
  eRb ns i (opN (f+1) (b.drop i))=eRb (ns++[(b.drop (i+1)).take (b.getD i 0#8).toNat]) (i+1+(b.getD i 0#8).toNat) (opN f (b.drop (i+1+(b.getD i 0#8).toNat))):=by
 rw[List.drop_eq_getElem_cons h,opN]
 rw[List.getD_eq_getElem?_getD,List.getElem?_eq_getElem h]at hk h2 h3⊢
 simp only[Option.getD_some]at hk h2 h3⊢
 rw[J3 hk,J3 (by rw[List.length_drop];omega),List.drop_drop]
 cases opN f (b.drop (i+1+b[i].toNat))with
 |none=>rfl
 |some p=>obtain⟨n,s⟩:=p;simp only[eRb,List.append_assoc,List.singleton_append];congr 2;omega
theorem eOv: ∀(f:Nat) (b:List B8) (n:Nm) (s:Nat),opN f b=some (n,s)→(∀l∈n,gZ l)∧wl n=s∧s≤b.length
 |0,_,_,_,h=>by cases h
 |_+1,[],_,_,h=>by cases h
 |f+1,k::r,n,s,h=>by
  rw[opN]at h
  split at h
  ·simp only[Option.some.injEq,Prod.mk.injEq]at h;obtain⟨rfl,rfl⟩:=h
   exact⟨fun l hl=>(by cases hl),rfl,by simp⟩
  rename_i h1
  split at h
  ·cases h
  rename_i h2
  split at h
  ·rename_i n2 s2 e
   simp only[Option.some.injEq,Prod.mk.injEq]at h;obtain⟨rfl,rfl⟩:=h
   obtain⟨a1,a2,a3⟩:=eOv f _ _ _ e
   rw[List.length_drop]at a3
   have hl:(r.take k.toNat).length=k.toNat:=by rw[List.length_take];omega
   refine⟨fun l hl2=>?_,?_,by rw[List.length_cons];omega⟩
   ·rcases List.mem_cons.1 hl2 with rfl|hl2
    ·unfold gZ;omega
    exact a1 l hl2
   rw[eKu,hl,a2];omega
  cases h
def o1T:Option (Nm×Nat)→Option AV
 |some (n,s)=>some (.tup [.sl n.length (cS n),.i (s:Int)])
 |none=>none
theorem fFz (n:Nm) (s:Nat):o1T (some (n,s))=some (.tup [.sl n.length (cS n),.i (s:Int)]):=(rfl)
attribute [go_sem] fFz
def o1G:List AV→Option (Option AV)
 |[.rp [.sl n xs]]=>aK (fHq xs) fun b=>aN (b.length=n∧n≤100000) (some (o1T (opN (b.length+1) b)))
 |_=>none
theorem fCg (n:Nat) (xs:List AV):o1G [.rp [.sl n xs]]=aK (fHq xs) fun b=>aN (b.length=n∧n≤100000) (some (o1T (opN (b.length+1) b))):=(rfl)
attribute [go_sem] fCg
theorem eQt:dE Tryz.prog GLh 102 (chF 30) (eQa 30):=ePz 30
structure SON where
 i:Nat
 f:Nat
 id:Nat
 ns:Nm
 c:Nat
set_option maxHeartbeats 4000000 in
theorem eRq:fHn Tryz.prog GLh 101 (ppG o1G)∧dE Tryz.prog GLh 101 (chF 30) (ppP o1G):=by
 refine cSh Tryz.func101 (aT rfl) ?_
 intro args o hg
 unfold o1G at hg
 split at hg
 ·rename_i n xs
  replace hg:=aJ hg;obtain⟨b,hl,hg⟩:=hg
  replace hg:=aP hg;obtain⟨⟨rfl,hn⟩,hg⟩:=hg
  obtain rfl:=J0 hg
  have:=bW hl;subst this
  refine⟨J1 rfl,fun nx=>?_⟩
  clear hl hg
  obtain⟨ans,hans⟩: ∃a,opN (b.length+1) b=a:=⟨_,rfl⟩
  rw[hans]
  have hadd:eRb [] 0 (opN (b.length+1) (b.drop 0))=ans:=by
   rw[J9,hans]
   cases ans with
   |none=>rfl
   |some p=>obtain⟨n,s⟩:=p;simp[eRb]
  refine ySq (yRn [0] fun K hK=>?_)
  simp(disch:=omega) only[go_sem]
  refine hK _ (aB ?_)
  refine ySq (yRn [0,3] fun K hK=>?_)
  simp(disch:=omega) only[go_sem]
  refine hK _ (aB ?_)
  refine ySq (yRn [0,3,4] fun K hK=>?_)
  simp(disch:=omega) only[go_sem]
  refine hK _ (aB ?_)
  refine iE 3 1 rfl (fPg [0,3,4] ?_)
  simp only[iB,fU,eW,↓reduceIte,Nat.reduceEqDiff]
  refine yBl 0 ?_
  refine bR (fun p:SON=> {fr:=[(0,.rp [.sl b.length (c8 b)]),(3,.os p.id 0 p.ns.length 1 true),(4,.i (p.i:Int))],hp:=upd (fun _=>none) p.id (.cells (cS p.ns) true),nx:=0,cx:=p.c}) (fun p=>p.i≤b.length∧p.ns.length≤p.i∧b.length<p.i+p.f∧eRb p.ns p.i (opN p.f (b.drop p.i))=ans∧p.id<p.c) (fun p=>b.length-p.i) rfl ⟨⟨0,b.length+1,_,[],_⟩,⟨Nat.zero_le _,Nat.zero_le _,by simp only;omega,hadd,by simp only;omega⟩,bD rfl rfl (U3 _)⟩ ?_
  rintro⟨i,f,id,ns,cx⟩ ⟨hi,hnl,hf,hop,hid⟩ n0
  simp only at hi hnl hf hop hid⊢
  refine yBl 1 (ySq (ySq (yRn [9,0,3,4] fun K hK=>?_)))
  simp(disch:=omega) only[go_sem]
  refine hK _ (aB ?_)
  refine gLb rfl (fun h=>?_) (fun h=>?_)
  ·refine yDr ?_
   obtain⟨g,rfl⟩: ∃g,f=g+1:=⟨f-1,by omega⟩
   have hno:ans=none:=by
    rw[←hop,List.drop_of_length_le (by omega),eYo];rfl
   refine dCn (Γ:=aL) 0 (eQt) ePc (aD _ _) rfl rfl rfl (fun Z hZ=>?_)
   simp(disch:=omega) only[go_sem,bG,eq_self,true_and,bP,List.map_cons,List.map_nil,List.append_nil,U1]
   refine hZ _ ?_;clear hZ Z
   rw[hno]
   exact rfl
  refine yDr ?_
  have hil:i<b.length:=by omega
  obtain⟨g,rfl⟩: ∃g,f=g+1:=⟨f-1,by omega⟩
  have hend:=eYp (f:=g) hil
  have hbad:=eYq (f:=g) hil
  have hstep:=eVh (f:=g) ns hil
  obtain⟨k,hk⟩: ∃k,b.getD i 0#8=k:=⟨_,rfl⟩
  rw[hk]at hend hbad hstep
  have hkl:=k.isLt
  refine ySk (aB (ySq (yRn [0,3,4,5] fun K hK=>?_)))
  simp(disch:=omega) only[go_sem,hk]
  refine hK _ (aB ?_)
  refine ySq (ySq (yRn [17,0,3,4,5] fun K hK=>?_))
  simp(disch:=omega) only[go_sem]
  refine hK _ (aB ?_)
  refine gLb rfl (fun h=>?_) (fun h=>?_)
  ·refine yDr ?_
   have hno:ans=none:=by rw[←hop,hbad (by omega) (.inl (by omega))];rfl
   refine dCn (Γ:=aL) 0 (eQt) ePc (aD _ _) rfl rfl rfl (fun Z hZ=>?_)
   simp(disch:=omega) only[go_sem,bG,eq_self,true_and,bP,List.map_cons,List.map_nil,List.append_nil,U1]
   refine hZ _ ?_;clear hZ Z
   rw[hno]
   exact rfl
  refine yDr (ySk (aB (ySq (yRn [0,3,4,5] fun K hK=>?_))))
  simp(disch:=omega) only[go_sem]
  refine hK _ (aB ?_)
  refine ySq (ySq (yRn [22,0,3,4,5] fun K hK=>?_))
  simp(disch:=omega) only[go_sem]
  refine hK _ (aB ?_)
  refine gLb rfl (fun h=>?_) (fun h=>?_)
  ·refine yDr ?_
   have hyes:ans=some (ns,i+1):=by rw[←hop,hend (by omega)];simp[eRb]
   refine ySq (yRn [1,2] fun K hK=>?_)
   simp(disch:=omega) only[go_sem]
   refine hK _ (aB ?_)
   rw[hyes]
   have ei:(i:Int)+1=((i+1:Nat):Int):=rfl
   refine aS rfl (bI (bN (dF (bN ?_))))
   simp(disch:=omega) only[fHo,bV,bK,bQ,go_sem,ei]
  refine yDr (ySk (aB (ySq (ySq (yRn [30,0,3,4,5] fun K hK=>?_)))))
  simp(disch:=omega) only[go_sem]
  refine hK _ (aB ?_)
  refine gLb rfl (fun h=>?_) (fun h=>?_)
  ·refine yDr ?_
   have hno:ans=none:=by rw[←hop,hbad (by omega) (.inr (by omega))];rfl
   refine dCn (Γ:=aL) 0 (eQt) ePc (aD _ _) rfl rfl rfl (fun Z hZ=>?_)
   simp(disch:=omega) only[go_sem,bG,eq_self,true_and,bP,List.map_cons,List.map_nil,List.append_nil,U1]
   refine hZ _ ?_;clear hZ Z
   rw[hno]
   exact rfl
  refine yDr ?_
  have hst:=hstep (by omega) (by omega) (by omega)
  rw[hop]at hst
  have e1:((i:Int)+1).toNat=i+1:=by omega
  have e2:((i:Int)+1+(k.toNat:Int)).toNat=i+1+k.toNat:=by omega
  have e3:i+1+k.toNat-(i+1)=k.toNat:=by omega
  obtain⟨d,hd⟩: ∃d,(b.drop (i+1)).take k.toNat=d:=⟨_,rfl⟩
  have hdl:d.length=k.toNat:=by rw[←hd,List.length_take,List.length_drop];omega
  rw[hd]at hst
  refine ySk (aB (yRn [0,3,4] fun K hK=>?_))
  simp(disch:=omega) only[go_sem,e1,e2,e3,hd,hdl]
  refine hK _ (bU (bT ?_))
  have hsn:cS ns++[AV.s d]=cS (ns++[d]):=cQq ns [d]
  refine⟨⟨i+1+k.toNat,g,cx+4+6+2+3+2+6+9,ns++[d],_⟩,⟨by simp only;omega,by simp only[List.length_append,List.length_singleton];omega,by simp only;omega,hst.symm,by simp only;omega⟩,by simp only;omega,⟨fun _=> .inr ?_,fun j o h=>?_,U3 _⟩⟩
  ·simp only[List.length_append,List.length_singleton,Int.natCast_add,Int.natCast_one]
  simp only at h
  exact bS (by simp(disch:=omega) only[aV,↓reduceIte,eq_self,hsn]) (fKa) j o h
 cases hg
theorem dYp:dE Tryz.prog GLh 101 (chF 30) (ppP o1G):=eRq.2
theorem fDn:fHm Tryz.prog 101:=⟨_,Tryz.func101,rfl,rfl⟩
theorem cKo:bX Tryz.prog GLh 101 (.pure false (ppG o1G)):=⟨⟨_,Tryz.func101,rfl,rfl⟩,eRq.1⟩
end Go.AX.D5

namespace Go.AX.D5
open Go Go.Proofs
set_option maxRecDepth 20000
theorem dPj {f:FuncId} {n:Nat} (h: ∀(vals:Array Value) (w:World),vals.size=n→CallsD Tryz.prog f vals .returning w fun e u1 w'=>e=.returned (.tuple #[])∧u1=.returning∧w'=w):bSj Tryz.prog GLh f .returning .returning (fun args hp nx=>aN (args.length=n) (some (hp,nx))):=by
 intro c σ I w hp nx args vals hp' nx' _ hi hs hr hg
 replace hg:=aP hg;obtain⟨hn,hg⟩:=hg
 simp only[Option.some.injEq,Prod.mk.injEq]at hg;obtain⟨rfl,rfl⟩:=hg
 refine⟨U3 _,fun c₀ cs hm=>?_⟩
 obtain⟨e,u1,w',fr,⟨rfl,rfl,rfl⟩,hst⟩:=h vals w (by rw[hs,hn]) c₀ cs hm
 exact⟨_,_,_,fr,⟨_,σ,I,rfl,rfl,hi,Grow.refl _ _ _,fun _ _ h=>h⟩,hst⟩
set_option maxRecDepth 100000 in
theorem eXg (vals:Array Value) (w:World) (hs:vals.size=3):CallsD Tryz.prog 104 vals .returning w fun e u1 w'=>e=.returned (.tuple #[])∧u1=.returning∧w'=w:=by
 obtain⟨l⟩:=vals
 match l,hs with
 |[a,b,c],_=>
  refine callsD_of_wpS Tryz.func104 rfl fun c₀ cs hu=>?_
  apply wpS_seq
  apply wpS_region
  simp[wpOpsS,go_sem,recoverD,hu,Tryz.ntmps104,Exit.thenS]
  apply wpS_seq
  apply wpS_region
  simp[wpOpsS,go_sem,Exit.thenS]
  refine wpS_cond (t:=false) (by simp[Act.eval,Array.replicate]) ?_
  simp only[Bool.false_eq_true,if_false]
  refine wpS_of_wp (wp_skip ?_)
  cases c₀
  simp_all [bodyPostS,results,Tryz.results104]
theorem eQy:dC (.v (.slice none 0 0))=some [.v (.slice none 0 0)]:=(rfl)
attribute [go_sem] eQy
def fWn:Option AO→Bool
 |some (.cells [_] true)=>true
 |_=>false
theorem fSn {o:Option AO} (h:fWn o=true): ∃x,o=some (.cells [x] true):=by
 unfold fWn at h
 split at h
 ·exact⟨_,rfl⟩
 cases h
theorem dXx (x:AV):fWn (some (.cells [x] true))=true:=(rfl)
attribute [go_sem] dXx
theorem eTx {hp:H} {nx m i1 i2 i3:Nat} {a c1 c2 c3:AO} (hno: ∀id,nx≤id→hp id=none) (hm:nx≤m) (id:Nat) (o:AO) (h:upd (upd (upd hp i1 c1) i2 c2) i3 c3 id=some o):upd (upd (upd (upd hp m a) i1 c1) i2 c2) i3 c3 id=some o:=by
 simp only[bJ]at h⊢
 split
 ·rename_i e;rw[J4 e]at h;exact h
 rename_i e;rw[J3 e]at h
 split
 ·rename_i e;rw[J4 e]at h;exact h
 rename_i e;rw[J3 e]at h
 split
 ·rename_i e;rw[J4 e]at h;exact h
 rename_i e;rw[J3 e]at h
 split
 ·rename_i e;rw[e,hno m hm]at h;cases h
 exact h
def fAd (k:Int):List AV→H→Nat→Option (H×Nat)
 |[.op i1 0,.op i2 0,.op i3 0],hp,nx=>aN ((fWn (hp i1)=true∧fWn (hp i2)=true∧fWn (hp i3)=true)∧i1≠i2∧i1≠i3∧i2≠i3∧i1<nx∧i2<nx∧i3<nx)
   (some (upd (upd (upd hp i1 (.cells [.v (.slice none 0 0)] true)) i2 (.cells [.i 0] true)) i3 (.cells [.i k] true),nx+17))
 |_,_,_=>none
theorem dYl (t:TypeId) (v:Value):ofV (.iface t v)=.v (.iface t v):=(rfl)
theorem eYt (k:Int):ofV (.agg #[.int .i64 k])=.agg [.i k]:=(rfl)
theorem isi167:uG Tryz.prog 167=false:=by kernel_rfl
attribute [go_sem] dYl eYt isi167
set_option maxHeartbeats 4000000 in
theorem fAb (k:Int):bSj Tryz.prog GLh 104 (.panicking (chF k)) (.panicking [{v:=.iface 167 (.agg #[.int .i64 k]),recovered:=true}]) (fAd k):=by
 refine fZ (rest:=(cr (aE Tryz.f104))) (rv:=.iface 167 (.agg #[.int .i64 k])) (a:=6) (b:=3) Tryz.func104 rfl (.inl rfl) ⟨J1 rfl,J1 rfl⟩ ?_
 intro args hp nx hp' nx' hg
 unfold fAd at hg
 split at hg
 ·rename_i i1 i2 i3
  replace hg:=aP hg;obtain⟨⟨⟨o1,o2,o3⟩,n12,n13,n23,l1,l2,l3⟩,hg⟩:=hg
  simp only[Option.some.injEq,Prod.mk.injEq]at hg;obtain⟨rfl,rfl⟩:=hg
  obtain⟨x,h1⟩:=fSn o1
  obtain⟨y,h2⟩:=fSn o2
  obtain⟨z,h3⟩:=fSn o3
  refine⟨J1 rfl,Nat.le_add_right _ _,fun hno=>?_⟩
  simp only[aOo]
  refine ySq (yRn [8,0,1,2,3] fun K hK=>?_)
  simp(disch:=omega) only[go_sem]
  refine hK _ (aB ?_)
  refine gLc rfl (fun h=>?_) (fun h=>?_)
  ·refine yDr (ySq (yRn [0,1,2,3,4,5] fun K hK=>?_))
   simp(disch:=omega) only[go_sem]
   refine hK _ (aB ?_)
   refine ySq (ySq (yRn [15,0,1,2,3,4] fun K hK=>?_))
   simp(disch:=omega) only[go_sem]
   refine hK _ (aB ?_)
   refine iFd (ySk (aB (dCp (Γ:=aL) [[0,1,2,3,4],[0,2,1,3,4],[0,2,3,1,4],[2,0,1,3,4],[2,0,3,1,4],[2,3,0,1,4]] [] bZ (aD _ _) rfl rfl rfl (by kernel_rfl) (fun K hK=>?_))))
   simp(disch:=omega) only[go_sem,cUg,cSg,eDt,List.getElem?_cons_zero,List.getElem?_cons_succ,and_self,and_true,h1,h2,h3,List.getElem?_toArray,aHu,aQh]
   refine hK _ ?_
   exact⟨rfl,eTx hno (by omega),by simp only;omega⟩
  refine yDr ?_
  cases h
 cases hg
end Go.AX.D5

namespace Go.AX.D5
open Go Go.Proofs
set_option maxRecDepth 20000
theorem fMe {P:Program} {rs:List ResultVar} {ch:List PanicEntry} {gI gP:List AV→H→Nat→Option (H×Nat)} {capsA:List AV} {r:AV} {t:S} {p:H×Nat} (h1:gP capsA t.hp t.cx=some p) (h2:aK (bV P rs {t with hp:=p.1}) (zB 4 p.1)=some r):fDc P rs ch gI gP capsA r (.panic ch) t:=⟨rfl,p,h1,h2⟩
theorem rO {P:Program} {rs:List ResultVar} {ch:List PanicEntry} {gI gP:List AV→H→Nat→Option (H×Nat)} {capsA:List AV} {r:AV} {t:S} {p:H×Nat} (h1:gI capsA t.hp t.cx=some p) (h2:aK (bV P rs {t with hp:=p.1}) (zB 4 p.1)=some r):fDc P rs ch gI gP capsA r .ret t:=⟨p,h1,h2⟩
theorem fAc (k:Int) (i1 i2 i3 nx:Nat) (hp:H):fAd k [.op i1 0,.op i2 0,.op i3 0] hp nx=aN ((fWn (hp i1)=true∧fWn (hp i2)=true∧fWn (hp i3)=true)∧i1≠i2∧i1≠i3∧i2≠i3∧i1<nx∧i2<nx∧i3<nx)
   (some (upd (upd (upd hp i1 (.cells [.v (.slice none 0 0)] true)) i2 (.cells [.i 0] true)) i3 (.cells [.i k] true),nx+17)):=(rfl)
def fQc (n:Nat) (args:List AV) (hp:H) (nx:Nat):Option (H×Nat):=aN (args.length=n) (some (hp,nx))
theorem eRt (a b c:AV) (hp:H) (nx:Nat):fQc 3 [a,b,c] hp nx=some (hp,nx):=eE _ rfl
theorem fGa:o1T none=none:=(rfl)
attribute [go_sem] fAc eRt fGa
theorem eVx (n:Nm):n.length≤wl n:=by
 induction n with
 |nil=>exact Nat.zero_le _
 |cons l r ih=>rw[eKu,List.length_cons];omega
theorem fGf (P:Program) (t:TypeId) (ys:List AV):ldV P t ys=ldF P t ys (fHi P t):=by simp only[ldV,ldF];cases fHi P t with|none=>rfl|some b=>cases b<;>rfl
attribute [go_sem] fGf
def eLs:Option (Nm×Nat)→AV
 |none=> .tup [.sl 0 [],.i 0,.i 30]
 |some (n,s)=>if 255<wl n then .tup [.sl 0 [],.i 0,.i 31]else .tup [.sl n.length (cS n),.i (s:Int),.i 0]
def eZt:Option (Nm×Nat)→Int
 |none=>30
 |some _=>31
def eXd (k:Int):List AV→Option AV
 |[.fn 101 [.rp [.sl n xs]]]=>aK (fHq xs) fun b=>aN ((b.length=n∧n≤100000)∧eZt (opN (b.length+1) b)=k) (some (eLs (opN (b.length+1) b)))
 |_=>none
def dIe:List AV→Option AV
 |[.fn 101 [.rp [.sl n xs]]]=>aK (fHq xs) fun b=>aN (b.length=n∧n≤100000) (some (eLs (opN (b.length+1) b)))
 |_=>none
theorem fDm:fHm Tryz.prog 104:=⟨_,Tryz.func104,rfl,rfl⟩
theorem fGy:bSj Tryz.prog GLh 104 .returning .returning (fQc 3):=dPj eXg
theorem fDa:dE Tryz.prog GLh 102 (chF 31) (eQa 31):=ePz 31
set_option maxHeartbeats 2000000 in
theorem eXb (k:Int):fHn Tryz.prog GLh 100 (eXd k):=by
 refine cUy (r0:=(cl (aE Tryz.f100))) (C:=(cr (cr (aE Tryz.f100)))) (k:=6) (d:=104) (caps:= #[.tmp 2,.tmp 3,.tmp 4]) Tryz.func100 rfl (J1 rfl) fDm fGy (fAb k) rfl ?_
 intro args r hg
 unfold eXd at hg
 split at hg
 ·rename_i n xs
  replace hg:=aJ hg;obtain⟨b,hb,hg⟩:=hg
  replace hg:=aP hg;obtain⟨⟨⟨rfl,hn⟩,hk⟩,hg⟩:=hg
  obtain rfl:=J0 hg
  have:=bW hb;subst this
  refine⟨J1 rfl,fun nx=>⟨[.op nx 0,.op (nx+1) 0,.op (nx+2) 0],?_⟩⟩
  refine yRn [0,2,3,4] fun K hK=>?_
  simp(disch:=omega) only[go_sem]
  refine hK _ ?_
  refine⟨rfl,?_⟩
  simp only[dBa]
  rcases hop:opN (b.length+1) b with _|⟨n,s⟩
  ·rw[hop]at hk
   subst hk
   refine ySq (dCn (Γ:=aL) 1 (dYp) fDn (aD _ _) rfl rfl rfl (fun Z hZ=>?_))
   simp(disch:=omega) only[go_sem,bG,eq_self,true_and,bP,List.map_nil,hop,U0,U1]
   refine hZ _ ?_;clear hZ Z
   refine fMe (gI:=fQc 3) (p:=_) (by simp(disch:=omega) only[go_sem,aV,bY];rfl) ?_
   simp(disch:=omega) only[bV,bK,bQ,go_sem,eLs,eZt]
  rw[hop]at hk
  subst hk
  obtain⟨hlab,hwl,hsb⟩:=eOv _ _ _ _ hop
  have hlen:=eVx n
  refine ySq (yRg [2,3,4] (aH cKo aO) fun K hK=>?_)
  simp(disch:=omega) only[go_sem,hop]
  refine hK _ (aB ?_)
  have hgd: ∀x:Option AV,aN (List.length n≤1000000∧∀l∈n,gZ l) x=x:=fun x=>eE x ⟨by omega,hlab⟩
  by_cases hw:255<wl n
  ·refine ySq (ySq (yRg [2,3,4,5] (aH fFg aO) fun K hK=>?_))
   simp(disch:=omega) only[go_sem,aQr,hgd,J4 hw]
   refine hK _ (aB ?_)
   refine ySq (yRn [15,2,3,4,5] fun K hK=>?_)
   simp(disch:=omega) only[go_sem]
   refine hK _ (aB ?_)
   refine gLc rfl (fun h=>?_) (fun h=>?_)
   ·refine yDr (dCn (Γ:=aL) 1 (fDa) ePc (aD _ _) rfl rfl rfl (fun Z hZ=>?_))
    simp(disch:=omega) only[go_sem,bG,eq_self,true_and,bP,List.map_cons,List.map_nil,List.append_nil,U0,U1]
    refine hZ _ ?_;clear hZ Z
    refine fMe (gI:=fQc 3) (p:=_) (by simp(disch:=omega) only[go_sem,aV,bY];rfl) ?_
    simp(disch:=omega) only[bV,bK,bQ,go_sem,eLs,eZt,J4 hw]
   exact yDr (absurd h (by decide))
  refine ySq (ySq (yRg [2,3,4,5] (aH fFg aO) fun K hK=>?_))
  simp(disch:=omega) only[go_sem,aQr,hgd,J3 hw]
  refine hK _ (aB ?_)
  refine ySq (yRn [15,2,3,4,5] fun K hK=>?_)
  simp(disch:=omega) only[go_sem]
  refine hK _ (aB ?_)
  refine gLc rfl (fun h=>?_) (fun h=>?_)
  ·exact yDr (absurd h (by decide))
  refine yDr (ySk (aB (ySq (dCp (Γ:=aL) [[0,1,2,3,4],[0,2,1,3,4],[1,0,2,3,4]] [2,3,4] bZ (aD _ _) rfl rfl rfl (by kernel_rfl) (fun K hK=>?_)))))
  simp(disch:=omega) only[go_sem,cUg,cSg,eDt,List.getElem?_cons_zero,List.getElem?_cons_succ,and_self,and_true,aHu,aQh]
  refine hK _ (aB ?_)
  refine aS rfl (rO (gP:=fAd 0) (ch:=chF 0) (p:=_) (eRt _ _ _ _ _) ?_)
  simp(disch:=omega) only[bV,bK,bQ,go_sem,eLs,J3 hw]
 cases hg
end Go.AX.D5

namespace Go.AX.D5
open Go Go.Proofs
theorem eTo:fHn Tryz.prog GLh 100 dIe:=by
 intro σ I w nx args vals r h1 h2 h3 hs hr hg
 have: ∃k,eXd k args=some r:=by
  unfold dIe at hg
  split at hg
  ·replace hg:=aJ hg;obtain⟨b,hb,hg⟩:=hg
   replace hg:=aP hg;obtain⟨h1,hg⟩:=hg
   exact⟨eZt (opN (b.length+1) b),by show aK (fHq _) _=_;rw[hb,aX,eE _ ⟨h1,rfl⟩];exact hg⟩
  cases hg
 obtain⟨k,hk⟩:=this
 exact eXb k σ I w nx args vals r h1 h2 h3 hs hr hk
theorem fCl (ps:List (List B8)):AV.ids.idsL (cS ps)=0:=by
 induction ps with
 |nil=>rfl
 |cons x l ih=>show max (AV.ids (.s x)) (AV.ids.idsL (cS l))=0;rw[ih];rfl
theorem eKy (n:Nat) (ps:List (List B8)):AV.ids (.sl n (cS ps))=0:=fCl ps
theorem fCj (a b c:AV):AV.ids (.tup [a,b,c])=max a.ids (max b.ids (max c.ids 0)):=(rfl)
theorem eWg (o:Option (Nm×Nat)):AV.ids (eLs o)=0:=by
 unfold eLs
 split
 ·rfl
 split
 ·rfl
 rw[fCj,eKy];rfl
theorem eZu (n:Nat) (xs:List AV):dIe [.fn 101 [.rp [.sl n xs]]]=aK (fHq xs) fun b=>aN (b.length=n∧n≤100000) (some (eLs (opN (b.length+1) b))):=(rfl)
attribute [go_sem] eZu
theorem cKp:bX Tryz.prog GLh 100 (.heap (cQl 101 dIe)):=⟨⟨_,Tryz.func100,rfl,rfl⟩,cZb eTo⟩
def iH:List AV→Option AV
 |[.sl n xs]=>aK (fHq xs) fun b=>aN (b.length=n∧n≤100000) (some (eLs (opN (b.length+1) b)))
 |_=>none
theorem bIx (n:Nat) (xs:List AV):iH [.sl n xs]=aK (fHq xs) fun b=>aN (b.length=n∧n≤100000) (some (eLs (opN (b.length+1) b))):=(rfl)
attribute [go_sem] bIx
def eZx:Option (Nm×Nat)→AV
 |none=> .sl 0 []
 |some (n,_)=>if 255<wl n then .sl 0 []else .sl n.length (cS n)
def eZw:Option (Nm×Nat)→AV
 |none=> .i 0
 |some (n,s)=>if 255<wl n then .i 0 else .i (s:Int)
def eZv:Option (Nm×Nat)→AV
 |none=> .i 30
 |some (n,_)=>if 255<wl n then .i 31 else .i 0
theorem eXc (o:Option (Nm×Nat)):eLs o=.tup [eZx o,eZw o,eZv o]:=by
 rcases o with _|⟨n,s⟩
 ·rfl
 simp only[eLs,eZx,eZw,eZv];split<;>rfl
theorem eSy (o:Option (Nm×Nat)):dB [eZx o,eZw o,eZv o]=true:=by
 rcases o with _|⟨n,s⟩
 ·rfl
 simp only[eZx,eZw,eZv];split<;>rfl
theorem fDb {P:Program} {Γ:Env} {ρ:Operand→AV} {m nx n id cx:Nat} {hp:H} {f:FuncId} {caps:Array Operand}:eff P Γ (.makeFunc (.func f) #[] caps) ρ m nx n hp id cx=some (.fn f (caps.toList.map ρ),hp,cx):=(rfl)
attribute [go_sem] fDb
set_option maxHeartbeats 2000000 in
theorem bVt:fHn Tryz.prog GLh 94 iH:=by
 refine zK Tryz.func94 (aT rfl) ?_
 intro args r hg
 unfold iH at hg
 split at hg
 ·rename_i n xs
  replace hg:=aJ hg;obtain⟨b,hb,hg⟩:=hg
  replace hg:=aP hg;obtain⟨⟨rfl,hn⟩,hg⟩:=hg
  obtain rfl:=J0 hg
  have:=bW hb;subst this
  refine⟨J1 rfl,fun nx=>?_⟩
  clear hb hg
  obtain⟨o,ho⟩: ∃o,opN (b.length+1) b=o:=⟨_,rfl⟩
  have hi:=eWg o
  rw[ho]
  rw[eXc]at hi⊢
  refine ySq (yRn [1] fun K hK=>?_)
  simp(disch:=omega) only[go_sem]
  refine hK _ (aB ?_)
  refine ySq (yRg [2,3,4] (aH cKo (aH cKp aO)) fun K hK=>?_)
  simp(disch:=omega) only[go_sem,ho,eXc,hi,List.map_cons,List.map_nil]
  refine hK _ (aB ?_)
  refine aS rfl ?_
  simp(disch:=omega) only[fHo,bV,bK,bQ,go_sem,eSy]
 cases hg
theorem fFi:bX Tryz.prog GLh 94 (.pure false iH):=⟨⟨_,Tryz.func94,rfl,rfl⟩,bVt⟩
end Go.AX.D5

namespace Go.AX.D5
open Go Go.Proofs
def nmO (b:List B8):Option (Nm×Nat):=match opN (b.length+1) b with
 |none=>none
 |some (n,s)=>if 255<wl n then none else some (n,s)
def eKh (l:List B8) (a:Nat):Option (AV×List AV):=match nmO (l.drop a)with
 |none=>none
 |some (n,s)=>some (.sl n.length (cS n),[.sl l.length (c8 l),.i ((a+s:Nat):Int)])
def gD:List AV→List AV→Option (Option (AV×List AV))
 |[.op _ 0],[.sl n xs,.i a]=>aK (fHq xs) fun l=>aN (l.length=n∧0≤a∧a≤n∧n≤100000) (some (eKh l a.toNat))
 |_,_=>none
theorem eVr (id n:Nat) (a:Int) (xs:List AV):gD [.op id 0] [.sl n xs,.i a]=aK (fHq xs) fun l=>aN (l.length=n∧0≤a∧a≤n∧n≤100000) (some (eKh l a.toNat)):=(rfl)
attribute [go_sem] eVr
theorem iI (b:List B8):(nmO b=none∧∃k:Int,k≠0∧eLs (opN (b.length+1) b)=.tup [.sl 0 [],.i 0,.i k])∨∃n s,nmO b=some (n,s)∧s≤b.length∧eLs (opN (b.length+1) b)=.tup [.sl n.length (cS n),.i (s:Int),.i 0]:=by
 unfold nmO
 rcases h:opN (b.length+1) b with _|⟨n,s⟩
 ·exact .inl ⟨rfl,30,by decide,rfl⟩
 by_cases hw:255<wl n
 ·exact .inl ⟨J4 hw,31,by decide,J4 hw⟩
 exact .inr ⟨n,s,J3 hw,(eOv _ _ _ _ h).2.2,J3 hw⟩
set_option maxHeartbeats 4000000 in
theorem eOe:fHs Tryz.prog GLh 78 (rdH gD)∧dE Tryz.prog GLh 78 chM (rdP gD):=by
 refine dT Tryz.func78 (aT rfl) ?_
 intro id off rest nx xs o hg
 unfold gD at hg
 split at hg
 ·rename_i id2 n xs2 a0 heq
  simp only[List.cons.injEq,AV.op.injEq]at heq
  obtain⟨⟨rfl,rfl⟩,rfl⟩:=heq
  replace hg:=aJ hg;obtain⟨l,hl,hg⟩:=hg
  replace hg:=aP hg;obtain⟨⟨rfl,ha,han,hnb⟩,hg⟩:=hg
  obtain rfl:=J0 hg
  have:=bW hl;subst this
  obtain⟨a,rfl⟩:=Int.eq_ofNat_of_zero_le ha
  simp only[U2]at*
  refine⟨J1 rfl,fun hid=>?_⟩
  clear hl hg
  have hdl:(l.drop a).length=l.length-a:=List.length_drop ..
  unfold eKh
  obtain⟨d,hd⟩: ∃d,l.drop a=d:=⟨_,rfl⟩
  rw[hd]at hdl
  rw[hd]
  have et:d.take (l.length-a)=d:=List.take_of_length_le (by omega)
  have hc:=iI d
  refine ySq (yRn [0] fun K hK=>?_)
  simp(disch:=omega) only[go_sem]
  refine hK _ (aB ?_)
  rcases hc with⟨hn,k,hk,hc⟩|⟨n,s,hn,hsb,hc⟩
  ·rw[hdl]at hc
   refine ySq (bB (fun k=>if k=9 then 0 else 2) [0,3,4,5] bZ (aH fFi aO) rfl rfl rfl (by kernel_rfl) (fun K hK=>?_))
   simp(disch:=omega) only[go_sem,U2,hd,et,hc,hdl]
   refine hK _ (aB ?_)
   rw[hn]
   have hd0:decide (k=0)=false:=J6 hk
   refine ySq (dCn 2 (fPd) rD (aH rP aO) rfl rfl rfl (fun Z hZ=>?_))
   simp(disch:=omega) only[go_sem,bG,eq_self,true_and,bP,List.map_cons,List.map_nil,List.append_nil,hd0,U0,U1]
   refine hZ _ ?_;clear hZ Z
   exact rfl
  rw[hdl]at hc
  refine ySq (bB (fun k=>if k=9 then 0 else 2) [0,3,4,5] bZ (aH fFi aO) rfl rfl rfl (by kernel_rfl) (fun K hK=>?_))
  simp(disch:=omega) only[go_sem,U2,hd,et,hc,hdl]
  refine hK _ (aB ?_)
  rw[hn]
  refine ySq (yRg [0,3,4] (aH rP aO) fun K hK=>?_)
  simp(disch:=omega) only[go_sem]
  refine hK _ (aB ?_)
  have ea:(a:Int)+(s:Int)=((a+s:Nat):Int):=rfl
  refine ySq (yRn [3] fun K hK=>?_)
  simp(disch:=omega) only[go_sem,ea]
  refine hK _ (aB ?_)
  refine ySq (yRn [2] fun K hK=>?_)
  simp(disch:=omega) only[go_sem]
  refine hK _ (aB ?_)
  refine aS rfl (⟨by simp(disch:=omega) only[bV,bK,bQ,go_sem,eq_self],by simp(disch:=omega) only[aV,↓reduceIte,eq_self],?_,?_⟩)
  ·exact eKy _ _
  exact fVp _ _ _
 cases hg
theorem rM:dE Tryz.prog GLh 78 chM (rdP gD):=eOe.2
theorem eLi:fHm Tryz.prog 78:=⟨_,Tryz.func78,rfl,rfl⟩
theorem eLo:bX Tryz.prog GLh 78 (.heap (rdH gD)):=⟨⟨_,Tryz.func78,rfl,rfl⟩,eOe.1⟩
end Go.AX.D5

namespace Go.AX.D5
open Go Go.Proofs
def txE (l:List B8) (a:Nat):Option Nat:=if a<l.length∧(l.getD a 0#8).toNat≤l.length-(a+1)then some (a+1+(l.getD a 0#8).toNat)else none
def txF:Nat→List B8→Nat→Bool
 |0,_,_=>false
 |f+1,l,a=>if a<l.length then match txE l a with
  |none=>false
  |some p=>txF f l p
 else true
theorem eMm (l:List B8) (a:Nat):(txE l a=none∧rS l a=none)∨∃p d,txE l a=some p∧a<p∧p≤l.length∧rS l a=some (.sl d.length (c8 d),[.sl l.length (c8 l),.i (p:Int)]):=by
 unfold txE rS
 by_cases h:a<l.length∧(l.getD a 0#8).toNat≤l.length-(a+1)
 ·refine .inr ⟨a+1+(l.getD a 0#8).toNat,(l.drop (a+1)).take (l.getD a 0#8).toNat,J4 h,by omega,by omega,?_⟩
  rw[J4 h]
  have:((l.drop (a+1)).take (l.getD a 0#8).toNat).length=(l.getD a 0#8).toNat:=by rw[List.length_take,List.length_drop];omega
  rw[this]
 exact .inl ⟨J3 h,J3 h⟩
def eTy (l:List B8) (a:Nat):Bool:=match txE l a with
 |none=>false
 |some p=>txF (l.length+1) l p
def ePg (l:List B8) (a:Nat):Option (AV×List AV):=if eTy l a=true then some (.tup [],[.sl l.length (c8 l),.i (l.length:Int)])else none
def ePh:List AV→List AV→Option (Option (AV×List AV))
 |[.op _ 0],[.sl n xs,.i a]=>aK (fHq xs) fun l=>aN (l.length=n∧0≤a∧a≤n∧n≤100000) (some (ePg l a.toNat))
 |_,_=>none
theorem eXv (id n:Nat) (a:Int) (xs:List AV):ePh [.op id 0] [.sl n xs,.i a]=aK (fHq xs) fun l=>aN (l.length=n∧0≤a∧a≤n∧n≤100000) (some (ePg l a.toNat)):=(rfl)
attribute [go_sem] eXv
theorem fBm {f a:Nat} {l:List B8} (h: ¬a<l.length):txF (f+1) l a=true:=J3 h
theorem fEg {f a:Nat} {l:List B8} (h:a<l.length) (h2:txE l a=none):txF (f+1) l a=false:=by rw[txF,J4 h,h2]
theorem fEh {f a p:Nat} {l:List B8} (h:a<l.length) (h2:txE l a=some p):txF (f+1) l a=txF f l p:=by rw[txF,J4 h,h2]
structure KFC where
 k:Nat
 f:Nat
 c:Nat
set_option maxHeartbeats 4000000 in
theorem ePf:fHs Tryz.prog GLh 92 (rdH ePh)∧dE Tryz.prog GLh 92 chM (rdP ePh):=by
 refine dT Tryz.func92 (aT rfl) ?_
 intro id off rest nx xs o hg
 unfold ePh at hg
 split at hg
 ·rename_i id2 n xs2 a0 heq
  simp only[List.cons.injEq,AV.op.injEq]at heq
  obtain⟨⟨rfl,rfl⟩,rfl⟩:=heq
  replace hg:=aJ hg;obtain⟨l,hl,hg⟩:=hg
  replace hg:=aP hg;obtain⟨⟨rfl,ha,han,hnb⟩,hg⟩:=hg
  obtain rfl:=J0 hg
  have:=bW hl;subst this
  obtain⟨a,rfl⟩:=Int.eq_ofNat_of_zero_le ha
  simp only[U2]at*
  refine⟨J1 rfl,fun hid=>?_⟩
  clear hl hg
  rcases eMm l a with⟨h1,h2⟩|⟨p0,d,h1,h0,h3,h2⟩
  ·have hans:ePg l a=none:=by unfold ePg eTy;rw[h1];exact J3 (by simp)
   rw[hans]
   refine ySq (dCn 1 (eKq) eNr (aH eMk aO) rfl rfl rfl (fun Z hZ=>?_))
   simp(disch:=omega) only[go_sem,bG,eq_self,true_and,bP,List.map_cons,List.map_nil,List.append_nil,U2,h2,U0,U1]
   refine hZ _ ?_;clear hZ Z
   exact rfl
  obtain⟨ans,hans⟩: ∃b,txF (l.length+1) l p0=b:=⟨_,rfl⟩
  have hans2:ePg l a=if ans=true then some (.tup [],[.sl l.length (c8 l),.i (l.length:Int)])else none:=by unfold ePg eTy;rw[h1];simp only[hans]
  rw[hans2]
  refine ySq (yRg [0] (aH eMk aO) fun K hK=>?_)
  simp(disch:=omega) only[go_sem,U2,h2]
  refine hK _ (aB ?_)
  refine yBl 0 ?_
  refine bR (fun p:KFC=> {fr:=[(0,.op id 0)],hp:=upd (fun _=>none) id (.cells [.sl l.length (c8 l),.i (p.k:Int)] true),nx:=0,cx:=p.c}) (fun p=>p.k≤l.length∧l.length<p.k+p.f∧txF p.f l p.k=ans∧id<p.c) (fun p=>l.length-p.k) rfl ⟨⟨p0,l.length+1,_⟩,⟨h3,by simp only;omega,hans,by simp only;omega⟩,bD rfl rfl (U3 _)⟩ ?_
  rintro⟨k,f,c⟩ ⟨hk,hf,ht,hc⟩ n0
  simp only at hk hf ht hc⊢
  obtain⟨g,rfl⟩: ∃g,f=g+1:=⟨f-1,by omega⟩
  refine ySq (ySq (bB (Γ:=aL) (fun _=>2) [13,0] bZ (aD _ _) rfl rfl rfl (by kernel_rfl) (fun K hK=>?_)))
  simp(disch:=omega) only[go_sem]
  refine hK _ (aB ?_)
  refine gLb rfl (fun h=>?_) (fun h=>?_)
  ·refine yDr ?_
   have hkl:k<l.length:=by omega
   rcases eMm l k with⟨q1,q2⟩|⟨p,e,q1,q0,q3,q2⟩
   ·rw[fEg hkl q1]at ht
    subst ht
    refine ySk (aB (yBl 1 (dCn 1 (eKq) eNr (aH eMk aO) rfl rfl rfl (fun Z hZ=>?_))))
    simp(disch:=omega) only[go_sem,bG,eq_self,true_and,bP,List.map_cons,List.map_nil,List.append_nil,U2,q2,U0,U1]
    refine hZ _ ?_;clear hZ Z
    exact rfl
   rw[fEh hkl q1]at ht
   refine ySk (aB (yBl 1 (yRg [0] (aH eMk aO) fun K hK=>?_)))
   simp(disch:=omega) only[go_sem,U2,q2]
   refine hK _ (bU (bT ?_))
   refine⟨⟨p,g,_⟩,⟨q3,by simp only;omega,ht,by simp only;omega⟩,by simp only;omega,bD rfl rfl (U3 _)⟩
  refine yDr ?_
  rw[fBm (by omega)]at ht
  subst ht
  have ek:k=l.length:=by omega
  subst ek
  refine yEx 0 (aY (aZ (bE ?_)))
  rw[J4 rfl]
  refine⟨by simp(disch:=omega) only[bV,bK,go_sem,eq_self],by simp(disch:=omega) only[aV,↓reduceIte,eq_self],?_,?_⟩
  ·rfl
  exact fVp _ _ _
 cases hg
theorem eXu:dE Tryz.prog GLh 92 chM (rdP ePh):=ePf.2
theorem fDt:fHm Tryz.prog 92:=⟨_,Tryz.func92,rfl,rfl⟩
theorem cKq:bX Tryz.prog GLh 92 (.heap (rdH ePh)):=⟨⟨_,Tryz.func92,rfl,rfl⟩,ePf.1⟩
end Go.AX.D5

namespace Go.AX.D5
open Go Go.Proofs
def nmE (l:List B8) (a:Nat):Option Nat:=(nmO (l.drop a)).map fun p=>a+p.2
def shp (t:BitVec 16) (l:List B8):Option Nat:=
 if t=1#16 then(if 4≤l.length then some 4 else none)
 else if t=28#16 then(if 16≤l.length then some 16 else none)
 else if t=2#16∨t=5#16 then nmE l 0
 else if t=15#16 then(if 2≤l.length then nmE l 2 else none)
 else if t=16#16 then(if eTy l 0=true then some l.length else none)
 else if t=43#16 then(if 5≤l.length then some l.length else none)
 else if t=51#16 then(if 4≤l.length then txE l 4 else none)
 else some l.length
def eUu (l:List B8):Option Nat→Option (AV×List AV)
 |none=>none
 |some p=>some (.tup [],[.sl l.length (c8 l),.i (p:Int)])
theorem fBw (l:List B8):eUu l none=none:=rfl
theorem fBv (l:List B8) (p:Nat):eUu l (some p)=some (.tup [],[.sl l.length (c8 l),.i (p:Int)]):=rfl
def eKr:List AV→List AV→Option (Option (AV×List AV))
 |[.op _ 0,.w16 t],[.sl n xs,.i 0]=>aK (fHq xs) fun l=>aN (l.length=n∧n≤100000) (some (eUu l (shp t l)))
 |_,_=>none
theorem eSi (id n:Nat) (t:BitVec 16) (xs:List AV):eKr [.op id 0,.w16 t] [.sl n xs,.i 0]=aK (fHq xs) fun l=>aN (l.length=n∧n≤100000) (some (eUu l (shp t l))):=(rfl)
attribute [go_sem] eSi
theorem eUg {l:List B8} {k:Nat} (h:k≤l.length):eSc l k 0=some (.sl k (c8 (l.take k)),[.sl l.length (c8 l),.i (k:Int)]):=by rw[eMu (by omega),J9,Nat.zero_add]
theorem ePk {l:List B8} {k:Nat} (h: ¬k≤l.length):eSc l k 0=none:=eOp (by omega)
theorem eKj (l:List B8) (a:Nat):(nmE l a=none∧eKh l a=none)∨∃n s,nmE l a=some (a+s)∧eKh l a=some (.sl n.length (cS n),[.sl l.length (c8 l),.i ((a+s:Nat):Int)]):=by
 unfold nmE eKh
 rcases nmO (l.drop a)with _|⟨n,s⟩
 ·exact .inl ⟨rfl,rfl⟩
 exact .inr ⟨n,s,rfl,rfl⟩
set_option maxHeartbeats 4000000 in
theorem eMx:fHs Tryz.prog GLh 75 (rdH eKr)∧dE Tryz.prog GLh 75 chM (rdP eKr):=by
 refine dT Tryz.func75 (aT rfl) ?_
 intro id off rest nx xs o hg
 unfold eKr at hg
 split at hg
 ·rename_i id2 t n xs2 heq
  simp only[List.cons.injEq,AV.op.injEq]at heq
  obtain⟨⟨rfl,rfl⟩,rfl⟩:=heq
  replace hg:=aJ hg;obtain⟨l,hl,hg⟩:=hg
  replace hg:=aP hg;obtain⟨⟨rfl,hnb⟩,hg⟩:=hg
  obtain rfl:=J0 hg
  have:=bW hl;subst this
  refine⟨J1 rfl,fun hid=>?_⟩
  clear hl hg
  obtain⟨ans,hans⟩: ∃a,eUu l (shp t l)=a:=⟨_,rfl⟩
  rw[hans]
  unfold shp at hans
  refine ySq (yRn [0,4] fun K hK=>?_)
  simp(disch:=omega) only[go_sem]
  refine hK _ (aB ?_)
  refine yBl 0 (ySq (yRn [7,0,4] fun K hK=>?_))
  simp(disch:=omega) only[go_sem]
  refine hK _ (aB ?_)
  refine gLb rfl (fun h=>?_) (fun h=>?_)
  ·refine yDr ?_
   rw[J4 h]at hans
   by_cases hk:4≤l.length
   ·rw[J4 hk]at hans;subst hans
    refine yRg [] (aH eLb aO) fun K hK=>?_
    simp(disch:=omega) only[go_sem,eUg hk]
    refine hK _ (bU ?_)
    refine⟨by simp(disch:=omega) only[bV,bK,go_sem,eq_self],by simp(disch:=omega) only[aV,↓reduceIte,eq_self],?_,?_⟩
    ·rfl
    exact fVp _ _ _
   rw[J3 hk]at hans;subst hans
   refine dCn 1 (rH) eLj (aH eLb aO) rfl rfl rfl (fun Z hZ=>?_)
   simp(disch:=omega) only[go_sem,bG,eq_self,true_and,bP,List.map_cons,List.map_nil,List.append_nil,ePk hk,U0,U1]
   refine hZ _ ?_;clear hZ Z
   exact rfl
  refine yDr ?_
  rw[J3 h]at hans
  refine ySq (yRn [11,0,4] fun K hK=>?_)
  simp(disch:=omega) only[go_sem]
  refine hK _ (aB ?_)
  refine gLb rfl (fun h=>?_) (fun h=>?_)
  ·refine yDr ?_
   rw[J4 h]at hans
   by_cases hk:16≤l.length
   ·rw[J4 hk]at hans;subst hans
    refine yRg [] (aH eLb aO) fun K hK=>?_
    simp(disch:=omega) only[go_sem,eUg hk]
    refine hK _ (bU ?_)
    refine⟨by simp(disch:=omega) only[bV,bK,go_sem,eq_self],by simp(disch:=omega) only[aV,↓reduceIte,eq_self],?_,?_⟩
    ·rfl
    exact fVp _ _ _
   rw[J3 hk]at hans;subst hans
   refine dCn 1 (rH) eLj (aH eLb aO) rfl rfl rfl (fun Z hZ=>?_)
   simp(disch:=omega) only[go_sem,bG,eq_self,true_and,bP,List.map_cons,List.map_nil,List.append_nil,ePk hk,U0,U1]
   refine hZ _ ?_;clear hZ Z
   exact rfl
  refine yDr ?_
  rw[J3 h]at hans
  refine ySq (ySq (yRn [0,4,15] fun K hK=>?_))
  simp(disch:=omega) only[go_sem]
  refine hK _ (aB ?_)
  refine gLb rfl (fun h=>?_) (fun h=>?_)
  ·have h2:=h
   refine ySk (aB (gLb rfl (fun h=>?_) (fun h=>?_)))
   ·rw[J4 (.inl h2)]at hans
    rcases eKj l 0 with⟨e1,e2⟩|⟨n,s,e1,e2⟩
    ·rw[e1]at hans;subst hans
     refine dCn 1 (rM) eLi (aH eLo aO) rfl rfl rfl (fun Z hZ=>?_)
     simp(disch:=omega) only[go_sem,bG,eq_self,true_and,bP,List.map_cons,List.map_nil,List.append_nil,e2,U0,U1]
     refine hZ _ ?_;clear hZ Z
     exact rfl
    rw[Nat.zero_add]at e1 e2
    rw[e1]at hans;subst hans
    refine yRg [] (aH eLo aO) fun K hK=>?_
    simp(disch:=omega) only[go_sem,e2]
    refine hK _ (bU ?_)
    refine⟨by simp(disch:=omega) only[bV,bK,go_sem,eq_self],by simp(disch:=omega) only[aV,↓reduceIte,eq_self],?_,?_⟩
    ·rfl
    exact fVp _ _ _
   exact absurd h2 h
  have h2:=h
  refine yRn [15,0,4] fun K hK=>?_
  simp(disch:=omega) only[go_sem]
  refine hK _ (aB ?_)
  refine gLb rfl (fun h=>?_) (fun h=>?_)
  ·refine yDr ?_
   rw[J4 (.inr h)]at hans
   rcases eKj l 0 with⟨e1,e2⟩|⟨n,s,e1,e2⟩
   ·rw[e1]at hans;subst hans
    refine dCn 1 (rM) eLi (aH eLo aO) rfl rfl rfl (fun Z hZ=>?_)
    simp(disch:=omega) only[go_sem,bG,eq_self,true_and,bP,List.map_cons,List.map_nil,List.append_nil,e2,U0,U1]
    refine hZ _ ?_;clear hZ Z
    exact rfl
   rw[Nat.zero_add]at e1 e2
   rw[e1]at hans;subst hans
   refine yRg [] (aH eLo aO) fun K hK=>?_
   simp(disch:=omega) only[go_sem,e2]
   refine hK _ (bU ?_)
   refine⟨by simp(disch:=omega) only[bV,bK,go_sem,eq_self],by simp(disch:=omega) only[aV,↓reduceIte,eq_self],?_,?_⟩
   ·rfl
   exact fVp _ _ _
  refine yDr ?_
  rw[J3 (fun q=>q.elim h2 h)]at hans
  refine ySq (yRn [20,0,4] fun K hK=>?_)
  simp(disch:=omega) only[go_sem]
  refine hK _ (aB ?_)
  refine gLb rfl (fun h=>?_) (fun h=>?_)
  ·refine yDr ?_
   rw[J4 h]at hans
   by_cases hk:2≤l.length
   ·rw[J4 hk]at hans
    obtain⟨x,hx⟩: ∃x,rL l 2 0=some (.w32 x,[.sl l.length (c8 l),.i 2]):=⟨_,eKs (by omega)⟩
    refine ySq (yRg [0] (aH fL aO) fun K hK=>?_)
    simp(disch:=omega) only[go_sem,hx]
    refine hK _ (aB ?_)
    rcases eKj l 2 with⟨e1,e2⟩|⟨n,s,e1,e2⟩
    ·rw[e1]at hans;subst hans
     refine dCn 1 (rM) eLi (aH eLo aO) rfl rfl rfl (fun Z hZ=>?_)
     simp(disch:=omega) only[go_sem,bG,eq_self,true_and,bP,List.map_cons,List.map_nil,List.append_nil,e2,U0,U1]
     refine hZ _ ?_;clear hZ Z
     exact rfl
    rw[e1]at hans;subst hans
    refine yRg [] (aH eLo aO) fun K hK=>?_
    simp(disch:=omega) only[go_sem,e2]
    refine hK _ (bU ?_)
    refine⟨by simp(disch:=omega) only[bV,bK,go_sem,eq_self],by simp(disch:=omega) only[aV,↓reduceIte,eq_self],?_,?_⟩
    ·rfl
    exact fVp _ _ _
   rw[J3 hk]at hans;subst hans
   refine ySq (dCn 1 (dK) fSe (aH fL aO) rfl rfl rfl (fun Z hZ=>?_))
   simp(disch:=omega) only[go_sem,bG,eq_self,true_and,bP,List.map_cons,List.map_nil,List.append_nil,fPs (l:=l) (k:=2) (a:=0) (by omega),U0,U1]
   refine hZ _ ?_;clear hZ Z
   exact rfl
  refine yDr ?_
  rw[J3 h]at hans
  refine ySq (yRn [26,0,4] fun K hK=>?_)
  simp(disch:=omega) only[go_sem]
  refine hK _ (aB ?_)
  refine gLb rfl (fun h=>?_) (fun h=>?_)
  ·refine yDr ?_
   rw[J4 h]at hans
   by_cases hb:eTy l 0=true
   ·have e2:ePg l 0=some (.tup [],[.sl l.length (c8 l),.i (l.length:Int)]):=J4 hb
    rw[J4 hb]at hans;subst hans
    refine yRg [] (aH cKq aO) fun K hK=>?_
    simp(disch:=omega) only[go_sem,e2]
    refine hK _ (bU ?_)
    refine⟨by simp(disch:=omega) only[bV,bK,go_sem,eq_self],by simp(disch:=omega) only[aV,↓reduceIte,eq_self],?_,?_⟩
    ·rfl
    exact fVp _ _ _
   have e2:ePg l 0=none:=J3 hb
   rw[J3 hb]at hans;subst hans
   refine dCn 1 (eXu) fDt (aH cKq aO) rfl rfl rfl (fun Z hZ=>?_)
   simp(disch:=omega) only[go_sem,bG,eq_self,true_and,bP,List.map_cons,List.map_nil,List.append_nil,e2,U0,U1]
   refine hZ _ ?_;clear hZ Z
   exact rfl
  refine yDr ?_
  rw[J3 h]at hans
  refine ySq (yRn [30,0,4] fun K hK=>?_)
  simp(disch:=omega) only[go_sem]
  refine hK _ (aB ?_)
  refine gLb rfl (fun h=>?_) (fun h=>?_)
  ·refine yDr ?_
   rw[J4 h]at hans
   by_cases hk:4≤l.length
   ·refine ySq (yRg [0] (aH eLb aO) fun K hK=>?_)
    simp(disch:=omega) only[go_sem,eUg hk]
    refine hK _ (aB ?_)
    have hdl:(l.drop 4).length=l.length-4:=List.length_drop ..
    by_cases hk5:5≤l.length
    ·rw[J4 hk5]at hans;subst hans
     have hd:decide ((0:Int)<((l.length-4:Nat):Int))=true:=J5 (by omega)
     refine yRg [] (aH eMl (aH rP aO)) fun K hK=>?_
     simp(disch:=omega) only[go_sem,rA,hd]
     refine hK _ (bU ?_)
     refine⟨by simp(disch:=omega) only[bV,bK,go_sem,eq_self],by simp(disch:=omega) only[aV,↓reduceIte,eq_self],?_,?_⟩
     ·rfl
     exact fVp _ _ _
    rw[J3 hk5]at hans;subst hans
    have hd:decide ((0:Int)<((l.length-4:Nat):Int))=false:=J6 (by omega)
    refine dCn 4 (fPd) rD (aH eMl (aH rP aO)) rfl rfl rfl (fun Z hZ=>?_)
    simp(disch:=omega) only[go_sem,bG,eq_self,true_and,bP,List.map_cons,List.map_nil,List.append_nil,rA,hd,U0,U1]
    refine hZ _ ?_;clear hZ Z
    exact rfl
   rw[J3 (by omega)]at hans;subst hans
   refine ySq (dCn 1 (rH) eLj (aH eLb aO) rfl rfl rfl (fun Z hZ=>?_))
   simp(disch:=omega) only[go_sem,bG,eq_self,true_and,bP,List.map_cons,List.map_nil,List.append_nil,ePk hk,U0,U1]
   refine hZ _ ?_;clear hZ Z
   exact rfl
  refine yDr ?_
  rw[J3 h]at hans
  refine ySq (yRn [39,0] fun K hK=>?_)
  simp(disch:=omega) only[go_sem]
  refine hK _ (aB ?_)
  refine gLb rfl (fun h=>?_) (fun h=>?_)
  ·refine yDr ?_
   rw[J4 h]at hans
   by_cases hk:4≤l.length
   ·rw[J4 hk]at hans
    refine ySq (yRg [0] (aH eLb aO) fun K hK=>?_)
    simp(disch:=omega) only[go_sem,eUg hk]
    refine hK _ (aB ?_)
    rcases eMm l 4 with⟨q1,q2⟩|⟨p,e,q1,q0,q3,q2⟩
    ·rw[q1]at hans;subst hans
     refine dCn 1 (eKq) eNr (aH eMk aO) rfl rfl rfl (fun Z hZ=>?_)
     simp(disch:=omega) only[go_sem,bG,eq_self,true_and,bP,List.map_cons,List.map_nil,List.append_nil,q2,U0,U1]
     refine hZ _ ?_;clear hZ Z
     exact rfl
    rw[q1]at hans;subst hans
    refine yRg [] (aH eMk aO) fun K hK=>?_
    simp(disch:=omega) only[go_sem,q2]
    refine hK _ (bU ?_)
    refine⟨by simp(disch:=omega) only[bV,bK,go_sem,eq_self],by simp(disch:=omega) only[aV,↓reduceIte,eq_self],?_,?_⟩
    ·rfl
    exact fVp _ _ _
   rw[J3 (by omega)]at hans;subst hans
   refine ySq (dCn 1 (rH) eLj (aH eLb aO) rfl rfl rfl (fun Z hZ=>?_))
   simp(disch:=omega) only[go_sem,bG,eq_self,true_and,bP,List.map_cons,List.map_nil,List.append_nil,ePk hk,U0,U1]
   refine hZ _ ?_;clear hZ Z
   exact rfl
  refine yDr ?_
  rw[J3 h]at hans;subst hans
  refine yRg [] (aH eMl aO) fun K hK=>?_
  simp(disch:=omega) only[go_sem,rA]
  refine hK _ (bU ?_)
  refine⟨by simp(disch:=omega) only[bV,bK,go_sem,eq_self],by simp(disch:=omega) only[aV,↓reduceIte,eq_self],?_,?_⟩
  ·rfl
  exact fVp _ _ _
 cases hg
theorem eSh:dE Tryz.prog GLh 75 chM (rdP eKr):=eMx.2
theorem fDz:fHm Tryz.prog 75:=⟨_,Tryz.func75,rfl,rfl⟩
theorem fFn:bX Tryz.prog GLh 75 (.heap (rdH eKr)):=⟨⟨_,Tryz.func75,rfl,rfl⟩,eMx.1⟩
end Go.AX.D5

namespace Go.AX.D5
open Go Go.Proofs
def ahd (t:BitVec 16):Nat:=if t=15#16 then 2 else 0
def eKn:List AV→Option AV
 |[.w16 t]=>some (.i (ahd t:Int))
 |_=>none
def eKo (l:List B8):Option Nat→Option (AV×List AV)
 |none=>none
 |some p=>some (.i 0,[.sl l.length (c8 l),.i (p:Int)])
def eMj:List AV→List AV→Option (Option (AV×List AV))
 |[.op _ 0,.rp [.w16 t]],[.sl n xs,.i 0]=>aK (fHq xs) fun l=>aN (l.length=n∧n≤100000) (some (eKo l (shp t l)))
 |_,_=>none
theorem eXa (id n:Nat) (t:BitVec 16) (xs:List AV):eMj [.op id 0,.rp [.w16 t]] [.sl n xs,.i 0]=aK (fHq xs) fun l=>aN (l.length=n∧n≤100000) (some (eKo l (shp t l))):=(rfl)
attribute [go_sem] eXa
set_option maxHeartbeats 4000000 in
theorem eOn:fHs Tryz.prog GLh 74 (rdH eMj)∧dE Tryz.prog GLh 74 chM (rdP eMj):=by
 refine dT Tryz.func74 (aT rfl) ?_
 intro id off rest nx xs o hg
 unfold eMj at hg
 split at hg
 ·rename_i id2 t n xs2 heq
  simp only[List.cons.injEq,AV.op.injEq]at heq
  obtain⟨⟨rfl,rfl⟩,rfl⟩:=heq
  replace hg:=aJ hg;obtain⟨l,hl,hg⟩:=hg
  replace hg:=aP hg;obtain⟨⟨rfl,hnb⟩,hg⟩:=hg
  obtain rfl:=J0 hg
  have:=bW hl;subst this
  refine⟨J1 rfl,fun hid=>?_⟩
  clear hl hg
  refine ySq (yRn [0,1] fun K hK=>?_)
  simp(disch:=omega) only[go_sem]
  refine hK _ (aB ?_)
  rcases hs:shp t l with _|p
  ·refine ySq (dCn 2 (eSh) fDz (aH fFn aO) rfl rfl rfl (fun Z hZ=>?_))
   simp(disch:=omega) only[go_sem,bG,eq_self,true_and,bP,List.map_cons,List.map_nil,List.append_nil,hs,fBw,U0,U1]
   refine hZ _ ?_;clear hZ Z
   exact rfl
  refine ySq (yRg [] (aH fFn aO) fun K hK=>?_)
  simp(disch:=omega) only[go_sem,hs,fBv]
  refine hK _ (aB ?_)
  refine ySq (yRn [3] fun K hK=>?_)
  simp(disch:=omega) only[go_sem]
  refine hK _ (aB ?_)
  refine aS rfl (⟨by simp(disch:=omega) only[bV,bK,bQ,go_sem,eq_self],by simp(disch:=omega) only[aV,↓reduceIte,eq_self],?_,?_⟩)
  ·rfl
  exact fVp _ _ _
 cases hg
theorem eWz:dE Tryz.prog GLh 74 chM (rdP eMj):=eOn.2
theorem fEa:fHm Tryz.prog 74:=⟨_,Tryz.func74,rfl,rfl⟩
theorem fFo:bX Tryz.prog GLh 74 (.heap (rdH eMj)):=⟨⟨_,Tryz.func74,rfl,rfl⟩,eOn.1⟩
theorem st4 (a b c d x y z u:AV):dV [a,b,c,d] 0 [x,y,z,u]=[x,y,z,u]:=(rfl)
theorem fCq (a b c d:AV):AV.ids (.agg [a,b,c,d])=max a.ids (max b.ids (max c.ids (max d.ids 0))):=(rfl)
attribute [go_sem] st4
def fGg (l:List B8):AV:=.agg [.w16 ((fRs (l.take 2)).setWidth 16),.w8 (l.getD 2 0#8),.w8 (l.getD 3 0#8),.sl (l.length-4) (c8 (l.drop 4))]
def gE (l:List B8):Option (AV×List AV):=if 4≤l.length then some (fGg l,[.sl l.length (c8 l),.i (l.length:Int)])else none
def eMh:List AV→List AV→Option (Option (AV×List AV))
 |[.op _ 0],[.sl n xs,.i 0]=>aK (fHq xs) fun l=>aN (l.length=n∧n≤100000) (some (gE l))
 |_,_=>none
theorem eWe (id n:Nat) (xs:List AV):eMh [.op id 0] [.sl n xs,.i 0]=aK (fHq xs) fun l=>aN (l.length=n∧n≤100000) (some (gE l)):=(rfl)
attribute [go_sem] eWe
theorem fGd {l:List B8} {k:Nat} (h:k≤l.length):rL l k 0=some (.w32 (fRs (l.take k)),[.sl l.length (c8 l),.i (k:Int)]):=by rw[eKs (by omega),J9,Nat.zero_add]
theorem fGc {l:List B8} {k:Nat} (h: ¬k≤l.length):rL l k 0=none:=fPs (by omega)
theorem eSx {l:List B8} {a:Nat} (h:a<l.length):rL l 1 a=some (.w32 ((l.getD a 0#8).setWidth 32),[.sl l.length (c8 l),.i ((a+1:Nat):Int)]):=by rw[eKs (by omega),get1 l a h]
theorem sw8 (x:B8):(x.setWidth 32).setWidth 8=x:=by simp
set_option maxHeartbeats 4000000 in
theorem eOh:fHs Tryz.prog GLh 89 (rdH eMh)∧dE Tryz.prog GLh 89 chM (rdP eMh):=by
 refine dT Tryz.func89 (aT rfl) ?_
 intro id off rest nx xs o hg
 unfold eMh at hg
 split at hg
 ·rename_i id2 n xs2 heq
  simp only[List.cons.injEq,AV.op.injEq]at heq
  obtain⟨⟨rfl,rfl⟩,rfl⟩:=heq
  replace hg:=aJ hg;obtain⟨l,hl,hg⟩:=hg
  replace hg:=aP hg;obtain⟨⟨rfl,hnb⟩,hg⟩:=hg
  obtain rfl:=J0 hg
  have:=bW hl;subst this
  refine⟨J1 rfl,fun hid=>?_⟩
  clear hl hg
  have hdl:(l.drop 4).length=l.length-4:=List.length_drop ..
  unfold gE
  refine ySq (yRn [0,2] fun K hK=>?_)
  simp(disch:=omega) only[go_sem]
  refine hK _ (aB ?_)
  by_cases h2:2≤l.length
  ·have n2:rL l 2 0=some (.w32 (fRs (l.take 2)),[.sl l.length (c8 l),.i 2]):=fGd h2
   by_cases h3:3≤l.length
   ·have n3:rL l 1 2=some (.w32 ((l.getD 2 0#8).setWidth 32),[.sl l.length (c8 l),.i 3]):=eSx (by omega)
    by_cases h4:4≤l.length
    ·have n4:rL l 1 3=some (.w32 ((l.getD 3 0#8).setWidth 32),[.sl l.length (c8 l),.i 4]):=eSx (by omega)
     rw[J4 h4]
     refine ySq (yRg [2] (aH fL (aH eMl aO)) fun K hK=>?_)
     simp(disch:=omega) only[go_sem,n2,n3,n4,rA,sw8]
     refine hK _ (aB ?_)
     unfold fGg
     refine aS rfl (⟨by simp(disch:=omega) only[bV,bK,bQ,go_sem,aV,eq_self],by simp(disch:=omega) only[aV,bY,↓reduceIte,eq_self],?_,?_⟩)
     ·rw[fCq,eLf];rfl
     exact fVp _ _ _
    rw[J3 h4]
    refine ySq (dCn 7 (dK) fSe (aH fL (aH eMl aO)) rfl rfl rfl (fun Z hZ=>?_))
    simp(disch:=omega) only[go_sem,bG,eq_self,true_and,bP,List.map_cons,List.map_nil,List.append_nil,n2,n3,fPs (l:=l) (k:=1) (a:=3) (by omega),U0,U1]
    refine hZ _ ?_;clear hZ Z
    exact rfl
   rw[J3 (by omega)]
   refine ySq (dCn 4 (dK) fSe (aH fL (aH eMl aO)) rfl rfl rfl (fun Z hZ=>?_))
   simp(disch:=omega) only[go_sem,bG,eq_self,true_and,bP,List.map_cons,List.map_nil,List.append_nil,n2,fPs (l:=l) (k:=1) (a:=2) (by omega),U0,U1]
   refine hZ _ ?_;clear hZ Z
   exact rfl
  rw[J3 (by omega)]
  refine ySq (dCn 1 (dK) fSe (aH fL (aH eMl aO)) rfl rfl rfl (fun Z hZ=>?_))
  simp(disch:=omega) only[go_sem,bG,eq_self,true_and,bP,List.map_cons,List.map_nil,List.append_nil,fGc h2,U0,U1]
  refine hZ _ ?_;clear hZ Z
  exact rfl
 cases hg
theorem eWd:dE Tryz.prog GLh 89 chM (rdP eMh):=eOh.2
theorem fDv:fHm Tryz.prog 89:=⟨_,Tryz.func89,rfl,rfl⟩
theorem bVz:bX Tryz.prog GLh 89 (.heap (rdH eMh)):=⟨⟨_,Tryz.func89,rfl,rfl⟩,eOh.1⟩
end Go.AX.D5

namespace Go.AX.D5
open Go Go.Proofs
set_option maxRecDepth 20000
def rdT (z:AV) (len:Nat):Option (AV×List AV)→AV
 |some (v,[_,.i p])=>if p=(len:Int)then .tup [v,.i 0]else .tup [z,.i 50]
 |_=> .tup [z,.i 50]
theorem eOd (z:AV) (len:Nat):rdT z len none=.tup [z,.i 50]:=rfl
theorem fO {p:Int} {len:Nat} (z v s:AV) (h:p=(len:Int)):rdT z len (some (v,[s,.i p]))=.tup [v,.i 0]:=J4 h
theorem iD {p:Int} {len:Nat} (z v s:AV) (h: ¬p=(len:Int)):rdT z len (some (v,[s,.i p]))=.tup [z,.i 50]:=J3 h
theorem eKm (a b:AV) (hp:H) (nx:Nat):fQc 2 [a,b] hp nx=some (hp,nx):=eE _ rfl
attribute [go_sem] eKm
theorem ePe {hp:H} {nx m i1 i2:Nat} {a c1 c2:AO} (hno: ∀id,nx≤id→hp id=none) (hm:nx≤m) (id:Nat) (o:AO) (h:upd (upd hp i1 c1) i2 c2 id=some o):upd (upd (upd hp m a) i1 c1) i2 c2 id=some o:=by
 simp only[bJ]at h⊢
 split
 ·rename_i e;rw[J4 e]at h;exact h
 rename_i e;rw[J3 e]at h
 split
 ·rename_i e;rw[J4 e]at h;exact h
 rename_i e;rw[J3 e]at h
 split
 ·rename_i e;rw[e,hno m hm]at h;cases h
 exact h
theorem eKv {hp:H} {nx m q i1 i2:Nat} {a b c1 c2:AO} (hno: ∀id,nx≤id→hp id=none) (hm:nx≤m) (hq:nx≤q) (id:Nat) (o:AO) (h:upd (upd hp i1 c1) i2 c2 id=some o):upd (upd (upd (upd hp m a) q b) i1 c1) i2 c2 id=some o:=by
 simp only[bJ]at h⊢
 split
 ·rename_i e;rw[J4 e]at h;exact h
 rename_i e;rw[J3 e]at h
 split
 ·rename_i e;rw[J4 e]at h;exact h
 rename_i e;rw[J3 e]at h
 split
 ·rename_i e;rw[e,hno q hq]at h;cases h
 split
 ·rename_i e;rw[e,hno m hm]at h;cases h
 exact h
def is4:Option AO→Bool
 |some (.cells [_,_,_,_] true)=>true
 |_=>false
theorem eYz {o:Option AO} (h:is4 o=true): ∃x0 x1 x2 x3,o=some (.cells [x0,x1,x2,x3] true):=by
 unfold is4 at h
 split at h
 ·exact⟨_,_,_,_,rfl⟩
 cases h
theorem fGl (x0 x1 x2 x3:AV):is4 (some (.cells [x0,x1,x2,x3] true))=true:=(rfl)
attribute [go_sem] fGl
theorem dYm:ofV (.agg #[])=.agg []:=(rfl)
theorem isi154:uG Tryz.prog 154=false:=by kernel_rfl
theorem zc154:lA Tryz.prog 154=some []:=by kernel_rfl
attribute [go_sem] dYm isi154 zc154
theorem eMe (t:BitVec 16) (l:List B8):eKo l (shp t l)=none∨∃p:Nat,eKo l (shp t l)=some (.i 0,[.sl l.length (c8 l),.i (p:Int)]):=by
 rcases shp t l with _|p
 ·exact .inl rfl
 exact .inr ⟨p,rfl⟩
theorem eMd (l:List B8):gE l=none∨∃(v1:BitVec 16) (v2 v3:B8) (v4:List B8) (p:Nat),gE l=some (.agg [.w16 v1,.w8 v2,.w8 v3,.sl v4.length (c8 v4)],[.sl l.length (c8 l),.i (p:Int)]):=by
 unfold gE
 split
 ·exact .inr ⟨_,_,_,l.drop 4,l.length,by rw[List.length_drop];rfl⟩
 exact .inl rfl
theorem fCw (vals:Array Value) (w:World) (hs:vals.size=2):CallsD Tryz.prog 90 vals .returning w fun e u1 w'=>e=.returned (.tuple #[])∧u1=.returning∧w'=w:=by
 obtain⟨l⟩:=vals
 match l,hs with
 |[a,b],_=>
  refine callsD_of_wpS Tryz.func90 rfl fun c₀ cs hu=>?_
  apply wpS_seq
  apply wpS_region
  simp[wpOpsS,go_sem,recoverD,hu,Tryz.ntmps90,Exit.thenS]
  apply wpS_seq
  apply wpS_region
  simp[wpOpsS,go_sem,Exit.thenS]
  refine wpS_cond (t:=false) (by simp[Act.eval,Array.replicate]) ?_
  simp only[Bool.false_eq_true,if_false]
  refine wpS_of_wp (wp_skip ?_)
  cases c₀
  simp_all [bodyPostS,results,Tryz.results90]
theorem fHe:bSj Tryz.prog GLh 90 .returning .returning (fQc 2):=dPj fCw
theorem fDu:fHm Tryz.prog 90:=⟨_,Tryz.func90,rfl,rfl⟩
def fAv:List AV→H→Nat→Option (H×Nat)
 |[.op i1 0,.op i2 0],hp,nx=>aN ((fWn (hp i1)=true∧fWn (hp i2)=true)∧i1≠i2∧i1<nx∧i2<nx) (some (upd (upd hp i1 (.cells [.i 0] true)) i2 (.cells [.i 50] true),nx+30))
 |_,_,_=>none
theorem fAu (i1 i2 nx:Nat) (hp:H):fAv [.op i1 0,.op i2 0] hp nx=aN ((fWn (hp i1)=true∧fWn (hp i2)=true)∧i1≠i2∧i1<nx∧i2<nx) (some (upd (upd hp i1 (.cells [.i 0] true)) i2 (.cells [.i 50] true),nx+30)):=(rfl)
attribute [go_sem] fAu
set_option maxHeartbeats 4000000 in
theorem fAt:bSj Tryz.prog GLh 90 (.panicking chM) (.panicking [{v:=.iface 154 (.agg #[]),recovered:=true}]) fAv:=by
 refine fZ (rest:=(cr (aE Tryz.f90))) (rv:=.iface 154 (.agg #[])) (a:=6) (b:=2) Tryz.func90 rfl (.inl rfl) ⟨J1 rfl,J1 rfl⟩ ?_
 intro args hp nx hp' nx' hg
 unfold fAv at hg
 split at hg
 ·rename_i i1 i2
  replace hg:=aP hg;obtain⟨⟨⟨o1,o2⟩,n12,l1,l2⟩,hg⟩:=hg
  simp only[Option.some.injEq,Prod.mk.injEq]at hg;obtain⟨rfl,rfl⟩:=hg
  obtain⟨x0,h1⟩:=fSn o1
  obtain⟨y,h2⟩:=fSn o2
  refine⟨J1 rfl,Nat.le_add_right _ _,fun hno=>?_⟩
  simp only[aOo]
  refine ySq (yRn [8,0,1,2] fun K hK=>?_)
  simp(disch:=omega) only[go_sem]
  refine hK _ (aB ?_)
  refine gLc rfl (fun h=>?_) (fun h=>?_)
  ·refine yDr (ySq (ySq (yRn [0,1,2,4] fun K hK=>?_)))
   simp(disch:=omega) only[go_sem]
   refine hK _ (aB ?_)
   refine ySq (yRn [15,0,1,2] fun K hK=>?_)
   simp(disch:=omega) only[go_sem]
   refine hK _ (aB ?_)
   refine iFd (ySk (aB (ySq (yRn [0,1,5] fun K hK=>?_))))
   simp(disch:=omega) only[go_sem]
   refine hK _ (aB ?_)
   refine yRn [] fun K hK=>?_
   simp(disch:=omega) only[go_sem,h1,h2]
   refine hK _ ?_
   exact⟨rfl,ePe hno (by omega),by simp only;omega⟩
  refine yDr ?_
  cases h
 cases hg
def eNb:List AV→Option AV
 |[.sl n xs,.fn 74 [.rp [.w16 t]]]=>aK (fHq xs) fun l=>aN (l.length=n∧n≤100000) (some (rdT (.i 0) l.length (eKo l (shp t l))))
 |_=>none
theorem eSr (t:BitVec 16) (n:Nat) (xs:List AV):eNb [.sl n xs,.fn 74 [.rp [.w16 t]]]=aK (fHq xs) fun l=>aN (l.length=n∧n≤100000) (some (rdT (.i 0) l.length (eKo l (shp t l)))):=(rfl)
attribute [go_sem] eSr
set_option maxHeartbeats 4000000 in
theorem eVd:fHn Tryz.prog GLh 73 eNb:=by
 refine cUy (r0:=(cl (aE Tryz.f73))) (C:=(cr (cr (aE Tryz.f73)))) (k:=7) (d:=90) (caps:= #[.tmp 4,.tmp 5]) Tryz.func73 rfl (J1 rfl) fDu fHe fAt rfl ?_
 intro args r hg
 unfold eNb at hg
 split at hg
 ·rename_i n xs t
  replace hg:=aJ hg;obtain⟨l,hl,hg⟩:=hg
  replace hg:=aP hg;obtain⟨⟨rfl,hnb⟩,hg⟩:=hg
  obtain rfl:=J0 hg
  have:=bW hl;subst this
  refine⟨J1 rfl,fun nx=>⟨[.op nx 0,.op (nx+1) 0],?_⟩⟩
  clear hl hg
  have hcs:=eMe t l
  refine yRn [0,1,4,5] fun K hK=>?_
  simp(disch:=omega) only[go_sem]
  refine hK _ ?_
  refine⟨rfl,?_⟩
  simp only[dBa]
  refine ySq (yRn [0,1,4,5,6] fun K hK=>?_)
  simp(disch:=omega) only[go_sem]
  refine hK _ (aB ?_)
  rcases hcs with e2|⟨p,e2⟩
  ·refine ySq (dCn (Γ:=aL) 2 (eWz) fEa (aD _ _) rfl rfl rfl (fun Z hZ=>?_))
   simp(disch:=omega) only[go_sem,bG,eq_self,true_and,bP,List.map_cons,List.map_nil,e2,U0,U1]
   refine hZ _ ?_;clear hZ Z
   refine fMe (gI:=fQc 2) (p:=_) (by simp(disch:=omega) only[go_sem,aV,kE,bY];rfl) ?_
   rw[e2,eOd]
   simp(disch:=omega) only[bV,bK,bQ,go_sem,aV,bY]
  refine ySq (yRg [0,4,5,6] (aH fFo aO) fun K hK=>?_)
  simp(disch:=omega) only[go_sem,e2]
  refine hK _ (aB ?_)
  by_cases hp:(p:Int)=(l.length:Int)
  ·have hd:decide ((p:Int)=(l.length:Int))=true:=J5 hp
   refine ySq (yRg [4,5] (aH rP aO) fun K hK=>?_)
   simp(disch:=omega) only[go_sem,hd]
   refine hK _ (aB ?_)
   refine ySq (yRn [4,5] fun K hK=>?_)
   simp(disch:=omega) only[go_sem]
   refine hK _ (aB ?_)
   refine aS rfl (rO (gP:=fAv) (ch:=chM) (p:=_) (eKm _ _ _ _) ?_)
   rw[e2,fO _ _ _ hp]
   simp(disch:=omega) only[bV,bK,bQ,go_sem,aV,bY]
  have hd:decide ((p:Int)=(l.length:Int))=false:=J6 hp
  refine ySq (dCn 7 (fPd) rD (aH rP aO) rfl rfl rfl (fun Z hZ=>?_))
  simp(disch:=omega) only[go_sem,bG,eq_self,true_and,bP,List.map_cons,List.map_nil,List.append_nil,hd,U0,U1]
  refine hZ _ ?_;clear hZ Z
  refine fMe (gI:=fQc 2) (p:=_) (by simp(disch:=omega) only[go_sem,aV,bY];rfl) ?_
  rw[e2,iD _ _ _ hp]
  simp(disch:=omega) only[bV,bK,bQ,go_sem,aV,bY]
 cases hg
theorem ok40:bX Tryz.prog GLh 73 (.heap (bOt 74 eNb)):=⟨⟨_,Tryz.func73,rfl,rfl⟩,cSn eVd⟩
theorem fCr (vals:Array Value) (w:World) (hs:vals.size=2):CallsD Tryz.prog 99 vals .returning w fun e u1 w'=>e=.returned (.tuple #[])∧u1=.returning∧w'=w:=by
 obtain⟨l⟩:=vals
 match l,hs with
 |[a,b],_=>
  refine callsD_of_wpS Tryz.func99 rfl fun c₀ cs hu=>?_
  apply wpS_seq
  apply wpS_region
  simp[wpOpsS,go_sem,recoverD,hu,Tryz.ntmps99,Exit.thenS]
  apply wpS_seq
  apply wpS_region
  simp[wpOpsS,go_sem,Exit.thenS]
  refine wpS_cond (t:=false) (by simp[Act.eval,Array.replicate]) ?_
  simp only[Bool.false_eq_true,if_false]
  refine wpS_of_wp (wp_skip ?_)
  cases c₀
  simp_all [bodyPostS,results,Tryz.results99]
theorem fGz:bSj Tryz.prog GLh 99 .returning .returning (fQc 2):=dPj fCr
theorem fDo:fHm Tryz.prog 99:=⟨_,Tryz.func99,rfl,rfl⟩
def fAg:List AV→H→Nat→Option (H×Nat)
 |[.op i1 0,.op i2 0],hp,nx=>aN ((is4 (hp i1)=true∧fWn (hp i2)=true)∧i1≠i2∧i1<nx∧i2<nx) (some (upd (upd hp i1 (.cells [.w16 0#16,.w8 0#8,.w8 0#8,.v (.slice none 0 0)] true)) i2 (.cells [.i 50] true),nx+30))
 |_,_,_=>none
theorem fAf (i1 i2 nx:Nat) (hp:H):fAg [.op i1 0,.op i2 0] hp nx=aN ((is4 (hp i1)=true∧fWn (hp i2)=true)∧i1≠i2∧i1<nx∧i2<nx) (some (upd (upd hp i1 (.cells [.w16 0#16,.w8 0#8,.w8 0#8,.v (.slice none 0 0)] true)) i2 (.cells [.i 50] true),nx+30)):=(rfl)
attribute [go_sem] fAf
set_option maxHeartbeats 4000000 in
theorem fAe:bSj Tryz.prog GLh 99 (.panicking chM) (.panicking [{v:=.iface 154 (.agg #[]),recovered:=true}]) fAg:=by
 refine fZ (rest:=(cr (aE Tryz.f99))) (rv:=.iface 154 (.agg #[])) (a:=6) (b:=2) Tryz.func99 rfl (.inl rfl) ⟨J1 rfl,J1 rfl⟩ ?_
 intro args hp nx hp' nx' hg
 unfold fAg at hg
 split at hg
 ·rename_i i1 i2
  replace hg:=aP hg;obtain⟨⟨⟨o1,o2⟩,n12,l1,l2⟩,hg⟩:=hg
  simp only[Option.some.injEq,Prod.mk.injEq]at hg;obtain⟨rfl,rfl⟩:=hg
  obtain⟨x0,x1,x2,x3,h1⟩:=eYz o1
  obtain⟨y,h2⟩:=fSn o2
  refine⟨J1 rfl,Nat.le_add_right _ _,fun hno=>?_⟩
  simp only[aOo]
  refine ySq (yRn [8,0,1,2] fun K hK=>?_)
  simp(disch:=omega) only[go_sem]
  refine hK _ (aB ?_)
  refine gLc rfl (fun h=>?_) (fun h=>?_)
  ·refine yDr (ySq (ySq (yRn [0,1,2,4] fun K hK=>?_)))
   simp(disch:=omega) only[go_sem]
   refine hK _ (aB ?_)
   refine ySq (yRn [15,0,1,2] fun K hK=>?_)
   simp(disch:=omega) only[go_sem]
   refine hK _ (aB ?_)
   refine iFd (ySk (aB (ySq (yRn [0,1,5] fun K hK=>?_))))
   simp(disch:=omega) only[go_sem]
   refine hK _ (aB ?_)
   refine yRn [] fun K hK=>?_
   simp(disch:=omega) only[go_sem,h1,h2]
   refine hK _ ?_
   exact⟨rfl,eKv hno (by omega) (by omega),by simp only;omega⟩
  refine yDr ?_
  cases h
 cases hg
def eNa:List AV→Option AV
 |[.sl n xs,.fn 89 []]=>aK (fHq xs) fun l=>aN (l.length=n∧n≤100000) (some (rdT (.agg [.w16 0#16,.w8 0#8,.w8 0#8,.sl 0 []]) l.length (gE l)))
 |_=>none
theorem eSq (n:Nat) (xs:List AV):eNa [.sl n xs,.fn 89 []]=aK (fHq xs) fun l=>aN (l.length=n∧n≤100000) (some (rdT (.agg [.w16 0#16,.w8 0#8,.w8 0#8,.sl 0 []]) l.length (gE l))):=(rfl)
attribute [go_sem] eSq
set_option maxHeartbeats 4000000 in
theorem eVc:fHn Tryz.prog GLh 88 eNa:=by
 refine cUy (r0:=(cl (aE Tryz.f88))) (C:=(cr (cr (aE Tryz.f88)))) (k:=7) (d:=99) (caps:= #[.tmp 4,.tmp 5]) Tryz.func88 rfl (J1 rfl) fDo fGz fAe rfl ?_
 intro args r hg
 unfold eNa at hg
 split at hg
 ·rename_i n xs
  replace hg:=aJ hg;obtain⟨l,hl,hg⟩:=hg
  replace hg:=aP hg;obtain⟨⟨rfl,hnb⟩,hg⟩:=hg
  obtain rfl:=J0 hg
  have:=bW hl;subst this
  refine⟨J1 rfl,fun nx=>⟨[.op nx 0,.op (nx+1) 0],?_⟩⟩
  clear hl hg
  have hcs:=eMd l
  refine yRn [0,1,4,5] fun K hK=>?_
  simp(disch:=omega) only[go_sem]
  refine hK _ ?_
  refine⟨rfl,?_⟩
  simp only[dBa]
  refine ySq (yRn [0,1,4,5,6] fun K hK=>?_)
  simp(disch:=omega) only[go_sem]
  refine hK _ (aB ?_)
  rcases hcs with e2|⟨v1,v2,v3,v4,p,e2⟩
  ·refine ySq (dCn (Γ:=aL) 2 (eWd) fDv (aD _ _) rfl rfl rfl (fun Z hZ=>?_))
   simp(disch:=omega) only[go_sem,bG,eq_self,true_and,bP,List.map_cons,List.map_nil,List.append_nil,e2,U0,U1]
   refine hZ _ ?_;clear hZ Z
   refine fMe (gI:=fQc 2) (p:=_) (by simp(disch:=omega) only[go_sem,aV,kE,bY];rfl) ?_
   rw[e2,eOd]
   simp(disch:=omega) only[bV,bK,bQ,go_sem,aV,bY]
  refine ySq (yRg [0,4,5,6] (aH bVz aO) fun K hK=>?_)
  simp(disch:=omega) only[go_sem,e2]
  refine hK _ (aB ?_)
  by_cases hp:(p:Int)=(l.length:Int)
  ·have hd:decide ((p:Int)=(l.length:Int))=true:=J5 hp
   refine ySq (yRg [4,5] (aH rP aO) fun K hK=>?_)
   simp(disch:=omega) only[go_sem,hd]
   refine hK _ (aB ?_)
   refine ySq (yRn [4,5] fun K hK=>?_)
   simp(disch:=omega) only[go_sem]
   refine hK _ (aB ?_)
   refine aS rfl (rO (gP:=fAg) (ch:=chM) (p:=_) (eKm _ _ _ _) ?_)
   rw[e2,fO _ _ _ hp]
   simp(disch:=omega) only[bV,bK,bQ,go_sem,aV,bY]
  have hd:decide ((p:Int)=(l.length:Int))=false:=J6 hp
  refine ySq (dCn 7 (fPd) rD (aH rP aO) rfl rfl rfl (fun Z hZ=>?_))
  simp(disch:=omega) only[go_sem,bG,eq_self,true_and,bP,List.map_cons,List.map_nil,List.append_nil,hd,U0,U1]
  refine hZ _ ?_;clear hZ Z
  refine fMe (gI:=fQc 2) (p:=_) (by simp(disch:=omega) only[go_sem,aV,bY];rfl) ?_
  rw[e2,iD _ _ _ hp]
  simp(disch:=omega) only[bV,bK,bQ,go_sem,aV,bY]
 cases hg
theorem cWl:bX Tryz.prog GLh 88 (.pure false eNa):=⟨⟨_,Tryz.func88,rfl,rfl⟩,eVc⟩
end Go.AX.D5

namespace Go.AX.D5
open Go Go.Proofs
set_option maxRecDepth 20000
def dX (l:List B8) (p:Nat):BitVec 32:=fRs ((l.drop p).take 4)
theorem eKt {l:List B8} {p:Nat} (h:p+4≤l.length):rL l 4 p=some (.w32 (dX l p),[.sl l.length (c8 l),.i ((p+4:Nat):Int)]):=eKs (by omega)
theorem eNh {l:List B8} {p:Nat} (h: ¬p+4≤l.length) (hp:p≤l.length):rL l 4 p=none:=fPs (by omega)
theorem eMp {l:List B8} {a s:Nat} {n:Nm} (h:nmO (l.drop a)=some (n,s)):eKh l a=some (.sl n.length (cS n),[.sl l.length (c8 l),.i ((a+s:Nat):Int)]):=by unfold eKh;rw[h]
theorem eOx {l:List B8} {a:Nat} (h:nmO (l.drop a)=none):eKh l a=none:=by unfold eKh;rw[h]
theorem eOw {b:List B8} {n:Nm} {s:Nat} (h:nmO b=some (n,s)):s≤b.length:=by
 rcases iI b with⟨h2,_⟩|⟨n2,s2,h2,h3,_⟩
 ·rw[h2]at h;cases h
 rw[h2]at h;simp only[Option.some.injEq,Prod.mk.injEq]at h;omega
def eUm (l:List B8) (n m:Nm) (p:Nat):AV:=.agg [.sl n.length (cS n),.sl m.length (cS m),.w32 (dX l p),.w32 (dX l (p+4)),.w32 (dX l (p+4+4)),.w32 (dX l (p+4+4+4)),.w32 (dX l (p+4+4+4+4))]
def eOb (l:List B8) (n m:Nm) (p:Nat):Option (AV×List AV):=if p+4+4+4+4+4≤l.length then some (eUm l n m p,[.sl l.length (c8 l),.i ((p+4+4+4+4+4:Nat):Int)])else none
def nm2 (l:List B8):Option (Nm×Nm×Nat):=match nmO l with
 |none=>none
 |some (n,s)=>match nmO (l.drop s)with
  |none=>none
  |some (m,s2)=>some (n,m,s+s2)
def eX (l:List B8):Option (AV×List AV):=match nm2 l with
 |none=>none
 |some (n,m,p)=>eOb l n m p
def eLy:List AV→List AV→Option (Option (AV×List AV))
 |[.op _ 0],[.sl n xs,.i 0]=>aK (fHq xs) fun l=>aN (l.length=n∧n≤100000) (some (eX l))
 |_,_=>none
theorem eUo (id n:Nat) (xs:List AV):eLy [.op id 0] [.sl n xs,.i 0]=aK (fHq xs) fun l=>aN (l.length=n∧n≤100000) (some (eX l)):=(rfl)
attribute [go_sem] eUo
theorem st7 (a b c d e f g x y z u v w r:AV):dV [a,b,c,d,e,f,g] 0 [x,y,z,u,v,w,r]=[x,y,z,u,v,w,r]:=(rfl)
theorem fCo (a b c d e f g:AV):AV.ids (.agg [a,b,c,d,e,f,g])=max a.ids (max b.ids (max c.ids (max d.ids (max e.ids (max f.ids (max g.ids 0)))))):=(rfl)
attribute [go_sem] st7
def is7:Option AO→Bool
 |some (.cells [_,_,_,_,_,_,_] true)=>true
 |_=>false
theorem eYx {o:Option AO} (h:is7 o=true): ∃x0 x1 x2 x3 x4 x5 x6,o=some (.cells [x0,x1,x2,x3,x4,x5,x6] true):=by
 unfold is7 at h
 split at h
 ·exact⟨_,_,_,_,_,_,_,rfl⟩
 cases h
theorem fGj (x0 x1 x2 x3 x4 x5 x6:AV):is7 (some (.cells [x0,x1,x2,x3,x4,x5,x6] true))=true:=(rfl)
attribute [go_sem] fGj
theorem eMa (l:List B8):eX l=none∨∃(v1 v2:Nm) (v3 v4 v5 v6 v7:BitVec 32) (p:Nat),eX l=some (.agg [.sl v1.length (cS v1),.sl v2.length (cS v2),.w32 v3,.w32 v4,.w32 v5,.w32 v6,.w32 v7],[.sl l.length (c8 l),.i (p:Int)]):=by
 unfold eX
 rcases nm2 l with _|⟨n,m,p⟩
 ·exact .inl rfl
 simp only[eOb]
 split
 ·exact .inr ⟨_,_,_,_,_,_,_,_,rfl⟩
 exact .inl rfl
set_option maxHeartbeats 8000000 in
theorem eOa:fHs Tryz.prog GLh 77 (rdH eLy)∧dE Tryz.prog GLh 77 chM (rdP eLy):=by
 refine dT Tryz.func77 (aT rfl) ?_
 intro id off rest nx xs o hg
 unfold eLy at hg
 split at hg
 ·rename_i id2 n xs2 heq
  simp only[List.cons.injEq,AV.op.injEq]at heq
  obtain⟨⟨rfl,rfl⟩,rfl⟩:=heq
  replace hg:=aJ hg;obtain⟨l,hl,hg⟩:=hg
  replace hg:=aP hg;obtain⟨⟨rfl,hnb⟩,hg⟩:=hg
  obtain rfl:=J0 hg
  have:=bW hl;subst this
  refine⟨J1 rfl,fun hid=>?_⟩
  clear hl hg
  obtain⟨ans,hans⟩: ∃a,eX l=a:=⟨_,rfl⟩
  rw[hans]
  unfold eX nm2 at hans
  refine ySq (yRn [0,2] fun K hK=>?_)
  simp(disch:=omega) only[go_sem]
  refine hK _ (aB ?_)
  rcases h1:nmO l with _|⟨n,s⟩
  ·rw[h1]at hans;subst hans
   refine ySq (dCn 1 (rM) eLi (aH eLo aO) rfl rfl rfl (fun Z hZ=>?_))
   simp(disch:=omega) only[go_sem,bG,eq_self,true_and,bP,List.map_cons,List.map_nil,List.append_nil,eOx (l:=l) (a:=0) h1,U0,U1]
   refine hZ _ ?_;clear hZ Z
   exact rfl
  have e1:eKh l 0=some (.sl n.length (cS n),[.sl l.length (c8 l),.i (s:Int)]):=by have:=eMp (l:=l) (a:=0) h1;rw[Nat.zero_add]at this;exact this
  have hs:=eOw h1
  rw[h1]at hans
  simp only at hans
  rcases h2:nmO (l.drop s)with _|⟨m,s2⟩
  ·rw[h2]at hans;subst hans
   refine ySq (dCn 3 (rM) eLi (aH eLo aO) rfl rfl rfl (fun Z hZ=>?_))
   simp(disch:=omega) only[go_sem,bG,eq_self,true_and,bP,List.map_cons,List.map_nil,List.append_nil,e1,U2,eOx h2,U0,U1]
   refine hZ _ ?_;clear hZ Z
   exact rfl
  have e2:=eMp h2
  have hs2:=eOw h2
  rw[List.length_drop]at hs2
  rw[h2]at hans
  simp only at hans
  refine ySq (yRg [0,2,3] (aH eLo aO) fun K hK=>?_)
  simp(disch:=omega) only[go_sem,e1,U2,e2]
  refine hK _ (aB ?_)
  obtain⟨p,hp⟩: ∃p,s+s2=p:=⟨_,rfl⟩
  have hpl:p≤l.length:=by omega
  rw[hp]at hans⊢
  unfold eOb at hans
  by_cases q1:p+4≤l.length
  ·have n1:=eKt q1
   by_cases q2:p+4+4≤l.length
   ·have n2:=eKt q2
    by_cases q3:p+4+4+4≤l.length
    ·have n3:=eKt q3
     refine ySq (yRg [0,2,3] (aH fL aO) fun K hK=>?_)
     simp(disch:=omega) only[go_sem,U2,n1,n2,n3]
     refine hK _ (aB ?_)
     by_cases q4:p+4+4+4+4≤l.length
     ·have n4:=eKt q4
      by_cases q5:p+4+4+4+4+4≤l.length
      ·have n5:=eKt q5
       rw[J4 q5]at hans;subst hans
       refine ySq (yRg [2,3] (aH fL aO) fun K hK=>?_)
       simp(disch:=omega) only[go_sem,U2,n4,n5]
       refine hK _ (aB ?_)
       unfold eUm
       refine ySq (yRn [2] fun K hK=>?_)
       simp(disch:=omega) only[go_sem]
       refine hK _ (aB ?_)
       refine aS rfl (⟨by simp(disch:=omega) only[bV,bK,bQ,go_sem,aV,eq_self],by simp(disch:=omega) only[aV,bY,↓reduceIte,eq_self],?_,?_⟩)
       ·simp only[fCo,eKy];rfl
       exact fVp _ _ _
      rw[J3 (by omega)]at hans;subst hans
      refine ySq (dCn 3 (dK) fSe (aH fL aO) rfl rfl rfl (fun Z hZ=>?_))
      simp(disch:=omega) only[go_sem,bG,eq_self,true_and,bP,List.map_cons,List.map_nil,List.append_nil,U2,n4,eNh q5 (by omega),U0,U1]
      refine hZ _ ?_;clear hZ Z
      exact rfl
     rw[J3 (by omega)]at hans;subst hans
     refine ySq (dCn 1 (dK) fSe (aH fL aO) rfl rfl rfl (fun Z hZ=>?_))
     simp(disch:=omega) only[go_sem,bG,eq_self,true_and,bP,List.map_cons,List.map_nil,List.append_nil,U2,eNh q4 (by omega),U0,U1]
     refine hZ _ ?_;clear hZ Z
     exact rfl
    rw[J3 (by omega)]at hans;subst hans
    refine ySq (dCn 5 (dK) fSe (aH fL aO) rfl rfl rfl (fun Z hZ=>?_))
    simp(disch:=omega) only[go_sem,bG,eq_self,true_and,bP,List.map_cons,List.map_nil,List.append_nil,U2,n1,n2,eNh q3 (by omega),U0,U1]
    refine hZ _ ?_;clear hZ Z
    exact rfl
   rw[J3 (by omega)]at hans;subst hans
   refine ySq (dCn 3 (dK) fSe (aH fL aO) rfl rfl rfl (fun Z hZ=>?_))
   simp(disch:=omega) only[go_sem,bG,eq_self,true_and,bP,List.map_cons,List.map_nil,List.append_nil,U2,n1,eNh q2 (by omega),U0,U1]
   refine hZ _ ?_;clear hZ Z
   exact rfl
  rw[J3 (by omega)]at hans;subst hans
  refine ySq (dCn 1 (dK) fSe (aH fL aO) rfl rfl rfl (fun Z hZ=>?_))
  simp(disch:=omega) only[go_sem,bG,eq_self,true_and,bP,List.map_cons,List.map_nil,List.append_nil,U2,eNh q1 (by omega),U0,U1]
  refine hZ _ ?_;clear hZ Z
  exact rfl
 cases hg
theorem eUn:dE Tryz.prog GLh 77 chM (rdP eLy):=eOa.2
theorem fDx:fHm Tryz.prog 77:=⟨_,Tryz.func77,rfl,rfl⟩
theorem fFm:bX Tryz.prog GLh 77 (.heap (rdH eLy)):=⟨⟨_,Tryz.func77,rfl,rfl⟩,eOa.1⟩
theorem fCu (vals:Array Value) (w:World) (hs:vals.size=2):CallsD Tryz.prog 93 vals .returning w fun e u1 w'=>e=.returned (.tuple #[])∧u1=.returning∧w'=w:=by
 obtain⟨l⟩:=vals
 match l,hs with
 |[a,b],_=>
  refine callsD_of_wpS Tryz.func93 rfl fun c₀ cs hu=>?_
  apply wpS_seq
  apply wpS_region
  simp[wpOpsS,go_sem,recoverD,hu,Tryz.ntmps93,Exit.thenS]
  apply wpS_seq
  apply wpS_region
  simp[wpOpsS,go_sem,Exit.thenS]
  refine wpS_cond (t:=false) (by simp[Act.eval,Array.replicate]) ?_
  simp only[Bool.false_eq_true,if_false]
  refine wpS_of_wp (wp_skip ?_)
  cases c₀
  simp_all [bodyPostS,results,Tryz.results93]
theorem fHc:bSj Tryz.prog GLh 93 .returning .returning (fQc 2):=dPj fCu
theorem fDr:fHm Tryz.prog 93:=⟨_,Tryz.func93,rfl,rfl⟩
def fAp:List AV→H→Nat→Option (H×Nat)
 |[.op i1 0,.op i2 0],hp,nx=>aN ((is7 (hp i1)=true∧fWn (hp i2)=true)∧i1≠i2∧i1<nx∧i2<nx) (some (upd (upd hp i1 (.cells [.v (.slice none 0 0),.v (.slice none 0 0),.w32 0#32,.w32 0#32,.w32 0#32,.w32 0#32,.w32 0#32] true)) i2 (.cells [.i 50] true),nx+30))
 |_,_,_=>none
theorem fAo (i1 i2 nx:Nat) (hp:H):fAp [.op i1 0,.op i2 0] hp nx=aN ((is7 (hp i1)=true∧fWn (hp i2)=true)∧i1≠i2∧i1<nx∧i2<nx) (some (upd (upd hp i1 (.cells [.v (.slice none 0 0),.v (.slice none 0 0),.w32 0#32,.w32 0#32,.w32 0#32,.w32 0#32,.w32 0#32] true)) i2 (.cells [.i 50] true),nx+30)):=(rfl)
attribute [go_sem] fAo
set_option maxHeartbeats 4000000 in
theorem fAn:bSj Tryz.prog GLh 93 (.panicking chM) (.panicking [{v:=.iface 154 (.agg #[]),recovered:=true}]) fAp:=by
 refine fZ (rest:=(cr (aE Tryz.f93))) (rv:=.iface 154 (.agg #[])) (a:=6) (b:=2) Tryz.func93 rfl (.inl rfl) ⟨J1 rfl,J1 rfl⟩ ?_
 intro args hp nx hp' nx' hg
 unfold fAp at hg
 split at hg
 ·rename_i i1 i2
  replace hg:=aP hg;obtain⟨⟨⟨o1,o2⟩,n12,l1,l2⟩,hg⟩:=hg
  simp only[Option.some.injEq,Prod.mk.injEq]at hg;obtain⟨rfl,rfl⟩:=hg
  obtain⟨x0,x1,x2,x3,x4,x5,x6,h1⟩:=eYx o1
  obtain⟨y,h2⟩:=fSn o2
  refine⟨J1 rfl,Nat.le_add_right _ _,fun hno=>?_⟩
  simp only[aOo]
  refine ySq (yRn [8,0,1,2] fun K hK=>?_)
  simp(disch:=omega) only[go_sem]
  refine hK _ (aB ?_)
  refine gLc rfl (fun h=>?_) (fun h=>?_)
  ·refine yDr (ySq (ySq (yRn [0,1,2,4] fun K hK=>?_)))
   simp(disch:=omega) only[go_sem]
   refine hK _ (aB ?_)
   refine ySq (yRn [15,0,1,2] fun K hK=>?_)
   simp(disch:=omega) only[go_sem]
   refine hK _ (aB ?_)
   refine iFd (ySk (aB (ySq (yRn [0,1,5] fun K hK=>?_))))
   simp(disch:=omega) only[go_sem]
   refine hK _ (aB ?_)
   refine yRn [] fun K hK=>?_
   simp(disch:=omega) only[go_sem,h1,h2]
   refine hK _ ?_
   exact⟨rfl,eKv hno (by omega) (by omega),by simp only;omega⟩
  refine yDr ?_
  cases h
 cases hg
def eMy:List AV→Option AV
 |[.sl n xs,.fn 77 []]=>aK (fHq xs) fun l=>aN (l.length=n∧n≤100000) (some (rdT (.agg [.sl 0 [],.sl 0 [],.w32 0#32,.w32 0#32,.w32 0#32,.w32 0#32,.w32 0#32]) l.length (eX l)))
 |_=>none
theorem eSn (n:Nat) (xs:List AV):eMy [.sl n xs,.fn 77 []]=aK (fHq xs) fun l=>aN (l.length=n∧n≤100000) (some (rdT (.agg [.sl 0 [],.sl 0 [],.w32 0#32,.w32 0#32,.w32 0#32,.w32 0#32,.w32 0#32]) l.length (eX l))):=(rfl)
attribute [go_sem] eSn
set_option maxHeartbeats 4000000 in
theorem eUz:fHn Tryz.prog GLh 76 eMy:=by
 refine cUy (r0:=(cl (aE Tryz.f76))) (C:=(cr (cr (aE Tryz.f76)))) (k:=7) (d:=93) (caps:= #[.tmp 4,.tmp 5]) Tryz.func76 rfl (J1 rfl) fDr fHc fAn rfl ?_
 intro args r hg
 unfold eMy at hg
 split at hg
 ·rename_i n xs
  replace hg:=aJ hg;obtain⟨l,hl,hg⟩:=hg
  replace hg:=aP hg;obtain⟨⟨rfl,hnb⟩,hg⟩:=hg
  obtain rfl:=J0 hg
  have:=bW hl;subst this
  refine⟨J1 rfl,fun nx=>⟨[.op nx 0,.op (nx+1) 0],?_⟩⟩
  clear hl hg
  have hcs:=eMa l
  refine yRn [0,1,4,5] fun K hK=>?_
  simp(disch:=omega) only[go_sem]
  refine hK _ ?_
  refine⟨rfl,?_⟩
  simp only[dBa]
  refine ySq (yRn [0,1,4,5,6] fun K hK=>?_)
  simp(disch:=omega) only[go_sem]
  refine hK _ (aB ?_)
  rcases hcs with e2|⟨v1,v2,v3,v4,v5,v6,v7,p,e2⟩
  ·refine ySq (dCn (Γ:=aL) 2 (eUn) fDx (aD _ _) rfl rfl rfl (fun Z hZ=>?_))
   simp(disch:=omega) only[go_sem,bG,eq_self,true_and,bP,List.map_cons,List.map_nil,List.append_nil,e2,U0,U1]
   refine hZ _ ?_;clear hZ Z
   refine fMe (gI:=fQc 2) (p:=_) (by simp(disch:=omega) only[go_sem,aV,kE,bY];rfl) ?_
   rw[e2,eOd]
   simp(disch:=omega) only[bV,bK,bQ,go_sem,aV,bY]
  refine ySq (yRg [0,4,5,6] (aH fFm aO) fun K hK=>?_)
  simp(disch:=omega) only[go_sem,e2]
  refine hK _ (aB ?_)
  by_cases hp:(p:Int)=(l.length:Int)
  ·have hd:decide ((p:Int)=(l.length:Int))=true:=J5 hp
   refine ySq (yRg [4,5] (aH rP aO) fun K hK=>?_)
   simp(disch:=omega) only[go_sem,hd]
   refine hK _ (aB ?_)
   refine ySq (yRn [4,5] fun K hK=>?_)
   simp(disch:=omega) only[go_sem]
   refine hK _ (aB ?_)
   refine aS rfl (rO (gP:=fAp) (ch:=chM) (p:=_) (eKm _ _ _ _) ?_)
   rw[e2,fO _ _ _ hp]
   simp(disch:=omega) only[bV,bK,bQ,go_sem,aV,bY]
  have hd:decide ((p:Int)=(l.length:Int))=false:=J6 hp
  refine ySq (dCn 7 (fPd) rD (aH rP aO) rfl rfl rfl (fun Z hZ=>?_))
  simp(disch:=omega) only[go_sem,bG,eq_self,true_and,bP,List.map_cons,List.map_nil,List.append_nil,hd,U0,U1]
  refine hZ _ ?_;clear hZ Z
  refine fMe (gI:=fQc 2) (p:=_) (by simp(disch:=omega) only[go_sem,aV,bY];rfl) ?_
  rw[e2,iD _ _ _ hp]
  simp(disch:=omega) only[bV,bK,bQ,go_sem,aV,bY]
 cases hg
theorem ok47:bX Tryz.prog GLh 76 (.pure false eMy):=⟨⟨_,Tryz.func76,rfl,rfl⟩,eUz⟩
end Go.AX.D5

namespace Go.AX.D5
open Go Go.Proofs
set_option maxRecDepth 20000
theorem fGn (hp:H) (f:FuncId) (l:List AV):dW hp (.fn f l)=some (.fn f l,hp):=(rfl)
attribute [go_sem] fGn
def rdE (len:Nat):Option (AV×List AV)→Int
 |some (_,[_,.i p])=>if p=(len:Int)then 0 else 50
 |_=>50
theorem eNd {p:Int} {len:Nat} (v s:AV) (h:p=(len:Int)):rdE len (some (v,[s,.i p]))=0:=J4 h
theorem eLn {p:Int} {len:Nat} (v s:AV) (h: ¬p=(len:Int)):rdE len (some (v,[s,.i p]))=50:=J3 h
theorem eYh (t:BitVec 16) (l:List B8):rdT (.i 0) l.length (eKo l (shp t l))=.tup [.i 0,.i (rdE l.length (eKo l (shp t l)))]:=by
 rcases eMe t l with e|⟨p,e⟩
 ·rw[e];rfl
 rw[e]
 by_cases hp:(p:Int)=(l.length:Int)
 ·rw[fO _ _ _ hp,eNd _ _ hp]
 rw[iD _ _ _ hp,eLn _ _ hp]
theorem eRk (l:List B8): ∃(v1:BitVec 16) (v2 v3:B8) (v4:List B8),rdT (.agg [.w16 0#16,.w8 0#8,.w8 0#8,.sl 0 []]) l.length (gE l)=.tup [.agg [.w16 v1,.w8 v2,.w8 v3,.sl v4.length (c8 v4)],.i (rdE l.length (gE l))]:=by
 rcases eMd l with e|⟨v1,v2,v3,v4,p,e⟩
 ·exact⟨0,0,0,[],by rw[e];rfl⟩
 rw[e]
 by_cases hp:(p:Int)=(l.length:Int)
 ·exact⟨v1,v2,v3,v4,by rw[fO _ _ _ hp,eNd _ _ hp]⟩
 exact⟨0,0,0,[],by rw[iD _ _ _ hp,eLn _ _ hp];rfl⟩
theorem eRi (l:List B8): ∃(v1 v2:Nm) (v3 v4 v5 v6 v7:BitVec 32),rdT (.agg [.sl 0 [],.sl 0 [],.w32 0#32,.w32 0#32,.w32 0#32,.w32 0#32,.w32 0#32]) l.length (eX l)=.tup [.agg [.sl v1.length (cS v1),.sl v2.length (cS v2),.w32 v3,.w32 v4,.w32 v5,.w32 v6,.w32 v7],.i (rdE l.length (eX l))]:=by
 rcases eMa l with e|⟨v1,v2,v3,v4,v5,v6,v7,p,e⟩
 ·exact⟨[],[],0,0,0,0,0,by rw[e];rfl⟩
 rw[e]
 by_cases hp:(p:Int)=(l.length:Int)
 ·exact⟨v1,v2,v3,v4,v5,v6,v7,by rw[fO _ _ _ hp,eNd _ _ hp]⟩
 exact⟨[],[],0,0,0,0,0,by rw[iD _ _ _ hp,eLn _ _ hp];rfl⟩
def eWc (l:List B8):AV:=rdT (.agg [.w16 0#16,.w8 0#8,.w8 0#8,.sl 0 []]) l.length (gE l)
def ePm (l:List B8):AV:=rdT (.agg [.sl 0 [],.sl 0 [],.w32 0#32,.w32 0#32,.w32 0#32,.w32 0#32,.w32 0#32]) l.length (eX l)
def dJl:List AV→Option AV
 |[.sl n xs]=>aK (fHq xs) fun l=>aN (l.length=n∧n≤100000) (some (eWc l))
 |_=>none
theorem dMd (n:Nat) (xs:List AV):dJl [.sl n xs]=aK (fHq xs) fun l=>aN (l.length=n∧n≤100000) (some (eWc l)):=(rfl)
def eQo:List AV→Option AV
 |[.sl n xs]=>aK (fHq xs) fun l=>aN (l.length=n∧n≤100000) (some (ePm l))
 |_=>none
theorem eYa (n:Nat) (xs:List AV):eQo [.sl n xs]=aK (fHq xs) fun l=>aN (l.length=n∧n≤100000) (some (ePm l)):=(rfl)
attribute [go_sem] dMd eYa
set_option maxHeartbeats 4000000 in
theorem dOn:fHn Tryz.prog GLh 72 dJl:=by
 refine zK Tryz.func72 (aT rfl) ?_
 intro args r hg
 unfold dJl at hg
 split at hg
 ·rename_i n xs
  replace hg:=aJ hg;obtain⟨l,hl,hg⟩:=hg
  replace hg:=aP hg;obtain⟨⟨rfl,hn⟩,hg⟩:=hg
  obtain rfl:=J0 hg
  have:=bW hl;subst this
  refine⟨J1 rfl,fun nx=>?_⟩
  clear hl hg
  obtain⟨v1,v2,v3,v4,hv⟩:=eRk l
  unfold eWc
  obtain⟨e,he⟩: ∃e,rdE l.length (gE l)=e:=⟨_,rfl⟩
  rw[he]at hv
  rw[hv]
  refine ySq (yRn [0,2] fun K hK=>?_)
  simp(disch:=omega) only[go_sem]
  refine hK _ (aB ?_)
  refine ySq (yRg [2,3] (aH cWl (aH bVz aO)) fun K hK=>?_)
  simp(disch:=omega) only[go_sem,hv]
  refine hK _ (aB ?_)
  refine aS rfl ?_
  simp(disch:=omega) only[fHo,bV,bK,bQ,go_sem]
 cases hg
theorem fFp:bX Tryz.prog GLh 72 (.pure false dJl):=⟨⟨_,Tryz.func72,rfl,rfl⟩,dOn⟩
set_option maxHeartbeats 4000000 in
theorem fBq:fHn Tryz.prog GLh 69 eQo:=by
 refine zK Tryz.func69 (aT rfl) ?_
 intro args r hg
 unfold eQo at hg
 split at hg
 ·rename_i n xs
  replace hg:=aJ hg;obtain⟨l,hl,hg⟩:=hg
  replace hg:=aP hg;obtain⟨⟨rfl,hn⟩,hg⟩:=hg
  obtain rfl:=J0 hg
  have:=bW hl;subst this
  refine⟨J1 rfl,fun nx=>?_⟩
  clear hl hg
  obtain⟨v1,v2,v3,v4,v5,v6,v7,hv⟩:=eRi l
  unfold ePm
  obtain⟨e,he⟩: ∃e,rdE l.length (eX l)=e:=⟨_,rfl⟩
  rw[he]at hv
  rw[hv]
  refine ySq (yRn [0,2] fun K hK=>?_)
  simp(disch:=omega) only[go_sem]
  refine hK _ (aB ?_)
  refine ySq (yRg [2,3] (aH ok47 (aH fFm aO)) fun K hK=>?_)
  simp(disch:=omega) only[go_sem,hv]
  refine hK _ (aB ?_)
  refine aS rfl ?_
  simp(disch:=omega) only[fHo,bV,bK,bQ,go_sem]
 cases hg
theorem eBs:bX Tryz.prog GLh 69 (.pure false eQo):=⟨⟨_,Tryz.func69,rfl,rfl⟩,fBq⟩
theorem eZc (a e:Int):AV.ids (.tup [.i a,.i e])=0:=(rfl)
attribute [go_sem] eZc
def tgT (t:BitVec 16):Prop:=t=2#16∨t=5#16∨t=15#16
instance (t:BitVec 16):Decidable (tgT t):=by unfold tgT;infer_instance
end Go.AX.D5

namespace Go.AX.D5
open Go Go.Proofs
end Go.AX.D5

namespace Go.AX.D5
open Go Go.Proofs
def ePy (l:List B8):List B8:=BitVec.ofInt 8 (l.length:Int)::l
def eRs (ps:List (List B8)):List B8:=ps.flatMap ePy
def fHk (ps:List (List B8)):List B8:=eRs ps++[0#8]
theorem eNx (p:List B8) (ps:List (List B8)):eRs (p::ps)=ePy p++eRs ps:=by simp[eRs]
theorem gX (p:List B8) (ps:List (List B8)):(eRs (p::ps)).length=p.length+1+(eRs ps).length:=by rw[eNx];simp[ePy];omega
theorem eNw (ps:List (List B8)) (k:Nat) (h:k<ps.length):eRs (ps.take (k+1))=eRs (ps.take k)++ePy (ps.getD k []):=by
 have e:ps.take (k+1)=ps.take k++[ps.getD k []]:=by rw[List.take_succ_eq_append_getElem h];simp[List.getD,List.getElem?_eq_getElem h,-List.take_append_getElem]
 rw[e];unfold eRs;rw[List.flatMap_append];simp only[List.flatMap_cons,List.flatMap_nil,List.append_nil]
theorem eOo (ps:List (List B8)):ps.length≤(eRs ps).length:=by
 induction ps with
 |nil=>simp
 |cons p ps ih=>rw[gX,List.length_cons];omega
theorem eMr (ps:List (List B8)) (k:Nat):(ps.getD k []).length≤(eRs ps).length:=by
 induction ps generalizing k with
 |nil=>simp
 |cons p ps ih=>
  rw[gX]
  cases k with
  |zero=>simp;omega
  |succ k=>have:=ih k;simp at this⊢;omega
theorem eRd (ps:List (List B8)) (k:Nat):(eRs (ps.take k)).length≤(eRs ps).length:=by
 induction ps generalizing k with
 |nil=>simp
 |cons p ps ih=>
  cases k with
  |zero=>simp[eRs]
  |succ k=>rw[U0,gX,gX];have:=ih k;omega
def wireG:List AV→Option (Nat×Nat×List AV)
 |[.sl n xs]=>aK (unS xs) fun ps=>aN (ps.length=n∧(eRs ps).length≤1000000) (some ((fHk ps).length,1,c8 (fHk ps)))
 |_=>none
set_option maxHeartbeats 1000000 in
theorem eUv:dH Tryz.prog GLh 43 wireG:=by
 refine fJo Tryz.func43 (aT rfl) ?_
 intro args r hg
 unfold wireG at hg
 split at hg
 ·rename_i n xs
  replace hg:=aJ hg;obtain⟨ps,hb,hg⟩:=hg
  replace hg:=aP hg;obtain⟨⟨hn,hbig⟩,hg⟩:=hg
  obtain rfl:=J0 hg
  have:=gT hb;subst this
  subst hn
  clear hg hb
  refine⟨J1 rfl,fun nx=>?_⟩
  have hpn:=eOo ps
  refine ySq (yRn [0] fun K hK=>?_)
  simp(disch:=omega) only[go_sem]
  refine hK _ (aB ?_)
  refine ySq (yRn [0,3] fun K hK=>?_)
  simp(disch:=omega) only[go_sem]
  refine hK _ (aB ?_)
  refine ySq (ySq (yRn [0,3,4] fun K hK=>?_))
  simp(disch:=omega) only[go_sem]
  refine hK _ (aB ?_)
  refine iE 3 1 rfl (fPg [0,3,4] ?_)
  simp only[iB,fU,eW,↓reduceIte,Nat.reduceEqDiff]
  refine yBl 0 ?_
  refine bR (fun p:KIC=> {fr:=[(0,.sl ps.length (cS ps)),(3,.os p.id 0 (eRs (ps.take p.k)).length 1 true),(4,.i p.k)],hp:=upd (fun _=>none) p.id (.cells (c8 (eRs (ps.take p.k))) true),nx:=0,cx:=p.c}) (fun p=>p.k≤ps.length∧p.id<p.c) (fun p=>ps.length-p.k) rfl ⟨⟨0,_,_⟩,⟨Nat.zero_le _,by simp only;omega⟩,bD rfl rfl (U3 _)⟩ ?_
  rintro⟨k,id,c⟩ ⟨hk,hid⟩ n0
  simp only at hk hid⊢
  refine ySq (ySq (yRn [8,0,3,4] fun K hK=>?_))
  simp(disch:=omega) only[go_sem]
  refine hK _ (aB ?_)
  refine gLb rfl (fun h=>?_) (fun h=>?_)
  ·refine yDr ?_
   have hkl:k<ps.length:=by omega
   have ht:=eRd ps k
   have hm:=eMr ps k
   obtain⟨l,hl⟩: ∃l,ps.getD k []=l:=⟨_,rfl⟩
   rw[hl]at hm
   have e6:eRs (ps.take (k+1))=eRs (ps.take k)++[BitVec.ofInt 8 (l.length:Int)]++l:=by rw[eNw ps k hkl,hl];simp[ePy]
   have e7:(eRs (ps.take (k+1))).length=(eRs (ps.take k)).length+1+l.length:=by rw[e6];simp;omega
   refine ySk (aB (ySq (yBl 1 (bB (Γ:=aL) (fun k=>if k=4 then 1 else if k=12 then 1 else if k=6 then 1 else 0) [0,3,4] bZ (aD _ _) rfl rfl rfl (by kernel_rfl) (fun K hK=>?_)))))
   simp(disch:=omega) only[go_sem,hl]
   refine hK _ (bU (aB ?_))
   refine yRn [0,3,4] fun K hK=>?_
   simp(disch:=omega) only[go_sem]
   refine hK _ (bT ?_)
   refine⟨⟨k+1,c+4+13,_⟩,⟨by simp only;omega,by simp only;omega⟩,by simp only;omega,⟨fun _=> .inr ?_,fun j o h=>?_,U3 _⟩⟩
   ·simp only[e7,Int.natCast_add,Int.natCast_one]
   simp only at h
   exact bS (by simp(disch:=omega) only[aV,↓reduceIte,eq_self,e6]) (fKa) j o h
  refine yDr (yEx 0 (aY (aZ (bE (aB (ySq ?_))))))
  obtain rfl:k=ps.length:=by omega
  have e8:ps.take ps.length=ps:=List.take_length
  have e9:(fHk ps).length=(eRs ps).length+1:=by simp[fHk]
  have ew:eRs ps++[0#8]=fHk ps:=rfl
  refine yRn [2] fun K hK=>?_
  simp(disch:=omega) only[go_sem,e8,ew]
  refine hK _ (aB ?_)
  refine aS rfl ?_
  simp(disch:=omega) only[fPz,fRw,bV,bK,bQ,go_sem,fQ,e9]
 cases hg
theorem ok15:bX Tryz.prog GLh 43 (.fresh true wireG):=⟨⟨_,Tryz.func43,rfl,rfl⟩,eUv⟩
end Go.AX.D5

namespace Go.AX.D5
open Go Go.Proofs
def aIu:List AV→Option (Nat×Nat×List AV)
 |[.v (.slice none 0 0),.w32 n,.i k]=>aN (0≤k∧k≤8) (some (k.toNat,1,c8 (beL n k.toNat k.toNat)))
 |_=>none
theorem bVb (n:W32) (k:Int):aIu [.v (.slice none 0 0),.w32 n,.i k]=aN (0≤k∧k≤8) (some (k.toNat,1,c8 (beL n k.toNat k.toNat))):=(rfl)
attribute [go_sem] bVb
set_option maxHeartbeats 4000000 in
theorem bHn:dH Tryz.prog GLh 42 aIu:=by
 refine fJo Tryz.func42 (aT rfl) ?_
 intro args r hg
 unfold aIu at hg
 split at hg
 ·rename_i n k0
  replace hg:=aP hg;obtain⟨⟨hk1,hk8⟩,hg⟩:=hg
  obtain rfl:=J0 hg
  obtain⟨k,rfl⟩:=Int.eq_ofNat_of_zero_le (show 0≤k0 by omega)
  simp only[U2]at*
  clear hg
  refine⟨J1 rfl,fun nx=>?_⟩
  refine ySq (yRn [0,1,2] fun K hK=>?_)
  simp(disch:=omega) only[go_sem]
  refine hK _ (aB ?_)
  refine ySq (ySq (yRn [0,1,7] fun K hK=>?_))
  simp(disch:=omega) only[go_sem]
  refine hK _ (aB ?_)
  refine iE 0 1 rfl (fPg [0,1,7] ?_)
  simp only[iB,fU,eW,↓reduceIte,Nat.reduceEqDiff]
  refine yBl 0 ?_
  refine bR (fun p:KIC=> {fr:=[(0,.os p.id 0 p.k 1 true),(1,.w32 n),(7,.i ((k:Int)-1-(p.k:Int)))],hp:=upd (fun _=>none) p.id (.cells (c8 (beL n k p.k)) true),nx:=0,cx:=p.c}) (fun p=>p.k≤k∧p.id<p.c) (fun p=>k-p.k) rfl ⟨⟨0,_,_⟩,⟨Nat.zero_le _,by simp only;omega⟩,bD (by simp only[Int.natCast_zero,Int.sub_zero]) rfl (U3 _)⟩ ?_
  rintro⟨j,id,c⟩ ⟨hj,hid⟩ n0
  simp only at hj hid⊢
  refine ySq (ySq (yRn [11,0,1,7] fun K hK=>?_))
  simp(disch:=omega) only[go_sem]
  refine hK _ (aB ?_)
  refine gLb rfl (fun h=>?_) (fun h=>?_)
  ·refine yDr ?_
   have e1:(8*((k:Int)-1-(j:Int))).toNat=8*(k-1-j):=by omega
   have hl:=cZ n k j
   refine ySk (aB (ySq (yBl 1 (yRn [0,1,7] fun K hK=>?_))))
   simp(disch:=omega) only[go_sem,e1,hl]
   refine hK _ (bU (aB ?_))
   refine yRn [0,1,7] fun K hK=>?_
   simp(disch:=omega) only[go_sem]
   refine hK _ (bT ?_)
   have e2:(k:Int)-1-((j:Int)+1)=(k:Int)-1-(j:Int)-1:=by omega
   have e4:beL n k (j+1)=beL n k j++[(n>>>(8*(k-1-j))).setWidth 8]:=rfl
   refine⟨⟨j+1,c+2+7,_⟩,⟨by simp only;omega,by simp only;omega⟩,by simp only;omega,⟨fun _=> .inr ?_,fun j o h=>?_,U3 _⟩⟩
   ·simp only[Int.natCast_add,Int.natCast_one,e2]
   simp only at h
   exact bS (by simp(disch:=omega) only[aV,↓reduceIte,eq_self,e4]) (fKa) j o h
  refine yDr (yEx 0 (aY (aZ (bE (aB (ySq ?_))))))
  obtain rfl:j=k:=by omega
  have hl:=cZ n j j
  refine yRn [6] fun K hK=>?_
  simp(disch:=omega) only[go_sem]
  refine hK _ (aB ?_)
  refine aS rfl ?_
  simp(disch:=omega) only[fPz,fRw,bV,bK,bQ,go_sem,fQ,hl]
 cases hg
theorem ok16:bX Tryz.prog GLh 42 (.fresh false aIu):=⟨⟨_,Tryz.func42,rfl,rfl⟩,bHn⟩
def eNv:List AV→Option AV
 |[.sl n xs,.sl m ys]=>aK (fHq xs) fun a=>aK (fHq ys) fun b=>aN (a.length=n∧b.length=m) (some (.b (decide (a=b))))
 |_=>none
theorem fAy (n m:Nat) (xs ys:List AV):eNv [.sl n xs,.sl m ys]=aK (fHq xs) fun a=>aK (fHq ys) fun b=>aN (a.length=n∧b.length=m) (some (.b (decide (a=b)))):=(rfl)
attribute [go_sem] fAy
end Go.AX.D5

namespace Go.AX.D5
open Go Go.Proofs
theorem bOx (f:FuncId) (args:List AV) (nx n:Nat) (hp:H) (id cx:Nat) (g:List AV→Option (Nat×Nat×List AV)):uI f args 2 nx n hp id cx (some (.fresh false g))=aK (fW (fun _=>none) args) fun as_=>aK (g as_) fun r=>some (.os id 0 r.1 r.2.1 true,upd hp id (.cells r.2.2 true),cx):=(rfl)
attribute [go_sem] bOx
end Go.AX.D5

namespace Go.AX.D5
open Go Go.Proofs
theorem sub_put {hp:H} {id0 i b n nx:Nat} {a1 c1 c2:AO} (hno: ∀id,nx≤id→hp id=none) (hi:i=id0∨nx≤i) (hb:nx≤b): ∀j o,upd (del hp id0) n c2 j=some o→upd (del (upd (upd (del hp id0) i a1) b c1) i) n c2 j=some o:=by
 intro j o h
 simp only[bJ,eV]at h⊢
 split
 ·rename_i e;rw[J4 e]at h;exact h
 rename_i e;rw[J3 e]at h
 split at h
 ·cases h
 rename_i e2
 split
 ·rename_i e3
  rcases hi with hi|hi
  ·exact absurd (e3.trans hi) e2
  rw[hno j (by omega)]at h;cases h
 split
 ·rename_i e4;rw[hno j (by omega)]at h;cases h
 exact h
theorem sub_put0 {hp:H} {id0:Nat} {c:AO} (ho:hp id0=some c): ∀j o,upd (del hp id0) id0 c j=some o→hp j=some o:=by
 intro j o h
 simp only[bJ,eV]at h
 split at h
 ·rename_i e;rw[e,ho];exact h
 first|exact h|(rename_i e;rw[J3 e]at h;exact h)
def eLu (id0 nx:Nat):Nat→Nat
 |0=>id0
 |j+1=>nx+4+15*j+10
theorem eOt (id0 nx j:Nat):eLu id0 nx (j+1)=nx+4+15*j+10:=rfl
end Go.AX.D5

namespace Go.AX.D5
open Go Go.Proofs
end Go.AX.D5

namespace Go.AX.D5
open Go Go.Proofs
theorem eLv {b:List B8} {n:Nm} {s:Nat} (h:nmO b=some (n,s)):wl n=s∧wl n≤255∧(∀l∈n,gZ l):=by
 unfold nmO at h
 rcases ho:opN (b.length+1) b with _|⟨m,q⟩
 ·rw[ho]at h;cases h
 rw[ho]at h
 simp only at h
 split at h
 ·cases h
 simp only[Option.some.injEq,Prod.mk.injEq]at h
 obtain⟨rfl,rfl⟩:=h
 obtain⟨a1,a2,_⟩:=eOv _ _ _ _ ho
 exact⟨a2,by omega,a1⟩
end Go.AX.D5

namespace Go.AX.D5
open Go Go.Proofs
attribute [go_sem] eOt
end Go.AX.D5

namespace Go.AX.D5
open Go Go.Proofs
def b2 (t:BitVec 16):List B8:=[(t>>>8).setWidth 8,t.setWidth 8]
end Go.AX.D5
