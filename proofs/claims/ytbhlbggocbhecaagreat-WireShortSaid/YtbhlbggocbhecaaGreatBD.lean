/-
  Wire, part cN: a writer in memory; numbers written. Wire, part cO: a writer's names: what was written is written as a pointer. Wire, part cP: a writer's records. Wire, part cQ: messages as values; bits; which messages may be written. Wire, part cR: a message written. Wire, part cS: a plain function on own objects: all of them are frozen behind it, but messages under way. Wire, part cT: a message's number; the first of each statement. Wire, part fA: in plain words: how far a name's reading went where it came to nothing; the document's reader. Wire, part fC: the document's numbers, off bytes and off its reader. Wire, part fD: a name taken off the document's reader, pointers and all. Wire, part fE: names, and messages that have no records, held against each other. Wire, part fF: in plain words: a message's flags, read as one number or as two bytes; a question off the document's reader. Wire, part fG: the document's reading of a message that has no records. Wire, part fH: the law WirePoints. Data, part R2: from calls over abstract values to the given rows. Data, part T2: the lift of a statement's call to its row. Wire, part eA: functions that turn one own object in place, and hand out a row of their own. Wire, part eB: a slice cloned; data of the types 1 and 99 checked. Wire, part eC: data checked (types 1 and 99); a record's data; a record taken off a reader. Wire, part eD: a record's data; a record taken off a reader, of types whose data hold no names. Wire, part eE: a record taken off a reader, of types whose data hold no names. Wire, part eF: records taken off a reader, as a row of their own. Wire, part eG: slices.Delete of the last record. Wire, part eH: where the OPT record stands. Wire, part eI: a message with records, taken off a reader. Wire, part eJ: Read, of a message with records. Wire, part gA: strings and names held against each other, by their order. Wire, part gB: names of one small label held against each other; records without their last set. Wire, part gC: records without their last set.
-/
import Derived.Test.YtbhlbggocbhecaaGreatBC
import Derived.Test.YtbhlbggocbhecaaGreatRows
import Derived.ProofKit
import Derived.LaidMore
import Derived.OpenShut
import Derived.Stop.Joined
import Derived.WideKeyArgs
import Derived.SevenTiedAt
import Derived.Below
import Derived.ChangeSame
import Derived.WalkKit
import Derived.Tactics
import Derived.Tactics2
import Derived.Shelf.RegionOpenPlain
import Derived.Deep.LoopGhost
import Derived.Deep.RegionLaw
import Derived.Lib.Walk
import Derived.Sort.WalkB12
import Derived.Lib.SliceRun
import Derived.Lib.SlicesDelete
import Derived.Lib.Strings
import Derived.Lib.Slices
import Derived.Lib.Bytealg
namespace Go.AX
open Go Go.Proofs
set_option maxRecDepth 8000
theorem aTj {a b:List B8} (h:c8 a=c8 b):a=b:=by
 have:=congrArg fHq h
 rw[iA,iA]at this
 exact J0 this
theorem lI {hp:H} {nx d:Nat} {o:AO} (hn: ∀id,nx≤id→hp id=none) (h:hp d=some o):d<nx:=by
 rcases Nat.lt_or_ge d nx with e|e
 ·exact e
 rw[hn d e]at h;cases h
structure fIz (hp:H) (w q:Nat) (b:List B8) (m:AV):Prop where
 hw:hp w=some (.cells [.os q 0 b.length 1 true,m] true)
 hq:hp q=some (.cells (c8 b) true)
 ne:w≠q
def fHw (w q:Nat) (b:List B8) (m:AV) (hp:H):H:=upd (upd hp q (.cells (c8 b) true)) w (.cells [.os q 0 b.length 1 true,m] true)
structure WT where
 q:Nat
 b:List B8
 m:AV
theorem fIz.uniq {hp:H} {w q q':Nat} {b b':List B8} {m m':AV} (h:fIz hp w q b m) (h':fIz hp w q' b' m'):q=q'∧b=b'∧m=m':=by
 have e:=(AO.cells.inj (J0 (h.hw.symm.trans h'.hw))).1
 simp only[List.cons.injEq,AV.os.injEq,and_true,true_and]at e
 obtain⟨⟨rfl,_⟩,rfl⟩:=e
 exact⟨rfl,aTj (AO.cells.inj (J0 (h.hq.symm.trans h'.hq))).1,rfl⟩
open Classical in
noncomputable def fKr (hp:H) (w:Nat):Option WT:=if h: ∃t:WT,fIz hp w t.q t.b t.m then some (Classical.choose h)else none
theorem yQ {hp:H} {w q:Nat} {b:List B8} {m:AV} (h:fIz hp w q b m):fKr hp w=some ⟨q,b,m⟩:=by
 have hx: ∃t:WT,fIz hp w t.q t.b t.m:=⟨⟨q,b,m⟩,h⟩
 unfold fKr
 rw[dif_pos hx]
 have h2:=Classical.choose_spec hx
 obtain⟨e1,e2,e3⟩:=h2.uniq h
 congr 1
 generalize Classical.choose hx=t at e1 e2 e3
 cases t;simp only at e1 e2 e3;rw[e1,e2,e3]
theorem fLk {hp:H} {w:Nat} {t:WT} (h:fKr hp w=some t):fIz hp w t.q t.b t.m:=by
 unfold fKr at h
 split at h
 ·rename_i hx
  obtain rfl:=J0 h
  exact Classical.choose_spec hx
 cases h
theorem fJh {hp:H} {w q:Nat} {b:List B8} {m:AV} (h:w≠q):fIz (fHw w q b m hp) w q b m:=
 ⟨by simp[fHw,bJ],by simp[fHw,bJ,Ne.symm h],h⟩
theorem fHv {hp:H} {w q:Nat} {b:List B8} {m:AV} {k:Nat} (h1:k≠w) (h2:k≠q):fHw w q b m hp k=hp k:=by simp[fHw,bJ,h1,h2]
theorem fJg {hp g:H} {w q:Nat} {b:List B8} {m:AV} (h:fIz g w q b m) (hs: ∀j o,j≠w→j≠q→hp j=some o→g j=some o): ∀j o,fHw w q b m hp j=some o→g j=some o:=by
 intro j o hj
 simp only[fHw,bJ]at hj
 split at hj
 ·rename_i e;rw[e,h.hw];exact hj
 split at hj
 ·rename_i e;rw[e,h.hq];exact hj
 exact hs j o (by assumption) (by assumption) hj
def nqI (q nx:Nat):Nat→Nat
 |0=>q
 |j+1=>nx+17+21*j
theorem fHr (q nx j:Nat):nqI q nx (j+1)=nx+17+21*j:=rfl
noncomputable def fHp:List AV→H→Nat→Option (AV×H×Nat)
 |[.op w 0,.w32 x,.i k],hp,nx=>aK (fKr hp w) fun t=>aN (0≤k∧k≤8∧t.b.length≤1000000)
   (some (.tup [],fHw w (nqI t.q nx k.toNat) (t.b++beL x k.toNat k.toNat) t.m (del hp t.q),nx+400))
 |_,_,_=>none
theorem fLl (w:Nat) (x:W32) (k:Int) (hp:H) (nx:Nat):fHp [.op w 0,.w32 x,.i k] hp nx=aK (fKr hp w) fun t=>aN (0≤k∧k≤8∧t.b.length≤1000000)
   (some (.tup [],fHw w (nqI t.q nx k.toNat) (t.b++beL x k.toNat k.toNat) t.m (del hp t.q),nx+400)):=(rfl)
attribute [go_sem] fLl
structure WNI where
 j:Nat
 g:H
 c:Nat
set_option maxHeartbeats 4000000 in
theorem fMk:fHs Tryz.prog GLh 26 fHp:=by
 refine fVw Tryz.func26 (aT rfl) ?_
 intro args hp nx r hp' nx' hg
 unfold fHp at hg
 split at hg
 ·rename_i w x k0
  replace hg:=aJ hg;obtain⟨⟨q,b,m⟩,hW0,hg⟩:=hg
  have hW:=fLk hW0
  replace hg:=aP hg;obtain⟨⟨hk1,hk8,hb⟩,hg⟩:=hg
  simp only[Option.some.injEq,Prod.mk.injEq]at hg hW hb;obtain⟨rfl,rfl,rfl⟩:=hg
  obtain⟨k,rfl⟩:=Int.eq_ofNat_of_zero_le hk1
  simp only[U2]at*
  refine⟨J1 rfl,by omega,fun hnone=>?_⟩
  have hlt: ∀k o,hp k=some o→k<nx:=fun k o hk=>lI hnone hk
  have hwl:=hlt _ _ hW.hw
  have hql:=hlt _ _ hW.hq
  have hne:=hW.ne
  refine aA rfl (aW [0,1,6] rfl rfl rfl fun K hK=>?_)
  simp(disch:=omega) only[Tryz.f26,go_sem,↓reduceIte]
  refine hK _ ?_
  refine aB (aR 0 rfl rfl ?_)
  refine bR (fun p:WNI=> {fr:=[(0,.op w 0),(1,.w32 x),(6,.i ((k:Int)-1-(p.j:Int)))],hp:=p.g,nx:=0,cx:=p.c}) (fun p=>p.j≤k∧p.c=nx+3+21*p.j∧fIz p.g w (nqI q nx p.j) (b++beL x k p.j) m∧(∀j o,j≠w→j≠q→hp j=some o→p.g j=some o)) (fun p=>k-p.j) rfl ⟨⟨0,hp,_⟩,⟨Nat.zero_le _,rfl,by simp only[beL,List.append_nil];exact hW,fun j o _ _ h=>h⟩,bD (by simp only[Int.natCast_zero,Int.sub_zero]) rfl (U3 _)⟩ ?_
  rintro⟨j,g,c⟩ ⟨hj,hc,hWj,hsub⟩ n0
  simp only at hj hc hWj hsub⊢
  refine aA rfl (aA rfl (aW [10,0,1,6] rfl rfl rfl fun K hK=>?_))
  simp(disch:=omega) only[Tryz.f26,go_sem,↓reduceIte]
  refine hK _ ?_
  refine aB (bA (.tmp 10) rfl rfl rfl (fun h=>?_) (fun h=>?_))
  ·refine aI rfl ?_
   have hjk:j<k:=by omega
   have es:(BitVec.ofInt 64 (8*((k:Int)-1-(j:Int)))).toNat=8*(k-1-j):=by rw[BitVec.toNat_ofInt];omega
   have h1:=hWj.hw
   have h2:=hWj.hq
   have h3:=hWj.ne
   have hbl:(b++beL x k j).length=b.length+j:=by rw[List.length_append,cZ]
   have hnext:b++beL x k j++[(x>>>(8*(k-1-j))).setWidth 8]=b++beL x k (j+1):=by rw[beL,List.append_assoc]
   have hqq:nqI q nx j=q∨nx≤nqI q nx j:=by
    cases j with
    |zero=>exact .inl rfl
    |succ j=>right;rw[fHr];omega
   have hqc:nqI q nx j<c:=by
    cases j with
    |zero=>show q<c;omega
    |succ j=>rw[fHr];omega
   clear h
   refine aQ rfl (aB (aA rfl (aR 1 rfl rfl (aW [0,1,6] rfl rfl rfl fun K hK=>?_))))
   simp(disch:=omega) only[Tryz.f26,go_sem,↓reduceIte,h1,h2,hbl,es,hnext,J8,List.set_cons_zero,U0,U1,J9]
   refine hK _ ?_
   refine bU (aB (aW [0,1,6] rfl rfl rfl fun K hK=>?_))
   simp(disch:=omega) only[Tryz.f26,go_sem,↓reduceIte]
   refine hK _ ?_
   refine bT ?_
   have e17:nqI q nx (j+1)=c+2+12:=by rw[fHr];omega
   have hbl2:(b++beL x k (j+1)).length=b.length+j+1:=by rw[List.length_append,cZ];omega
   have e2:(k:Int)-1-((j:Int)+1)=(k:Int)-1-(j:Int)-1:=by omega
   obtain⟨g',hg'⟩: ∃y,upd (upd (del (upd g (c+2+11) (.cells [.w8 ((x>>>(8*(k-1-j))).setWidth 8)] true)) (nqI q nx j)) (c+2+12) (.cells (c8 (b++beL x k (j+1))) true)) w (.cells [.os (c+2+12) 0 (b.length+j+1) 1 true,m] true)=y:=⟨_,rfl⟩
   rw[hg']
   refine⟨⟨j+1,g',_⟩,⟨by simp only;omega,by simp only;omega,?_,fun i o i1 i2 hi=>?_⟩,by simp only;omega,bD ?_ rfl (U3 _)⟩
   ·simp only
    rw[e17]
    exact⟨by rw[←hg',bJ,J4 rfl,hbl2],by rw[←hg',bJ,J3 (by omega),bJ,J4 rfl],by omega⟩
   ·have:=hlt i o hi
    show g' i=some o
    rw[←hg',bJ,J3 i1,bJ,J3 (by omega),eV,J3 (by omega),bJ,J3 (by omega)]
    exact hsub i o i1 i2 hi
   simp only[Int.natCast_add,Int.natCast_one,e2]
  refine aI rfl ?_
  obtain rfl:j=k:=by omega
  refine bF 0 rfl rfl (aY (aZ (bE ?_)))
  refine⟨rfl,fJg hWj (fun i o i1 i2 hi=>?_),by simp only;omega⟩
  rw[eV]at hi
  split at hi
  ·cases hi
  rename_i i3;exact hsub i o i1 i3 hi
 cases hg
theorem fHt:bX Tryz.prog GLh 26 (.heap fHp):=⟨⟨_,Tryz.func26,rfl,rfl⟩,fMk⟩
end Go.AX

namespace Go.AX
open Go Go.Proofs
set_option maxRecDepth 8000
abbrev WF:=List (List B8×Nat)
def fJe (F:WF):List (AV×AV):=F.map fun p=>(.s p.1,.i p.2)
theorem fKc (k:List B8) (F:WF):aNp (.s k) (fJe F)=some ((iK k F).map fun n=> .i n):=aNo .s fNh (fun n:Nat=> .i n) k F
theorem fMa (k:List B8) (n:Nat) (F:WF):aEh (.s k) (.i n) (fJe F)=some (fJe (kT k n F)):=aNm .s fNh (fun n:Nat=> .i n) k n F
theorem fMb {F G:WF} (h:fJe F=fJe G):F=G:=by
 unfold fJe at h
 exact(List.map_inj_right (fun a b e=>by
  have e1:=(Prod.mk.injEq ..▸e:_∧_)
  obtain⟨e1,e2⟩:=e1
  cases a;cases b
  simp only[AV.s.injEq]at e1
  simp only[AV.i.injEq,Int.ofNat_inj]at e2
  rw[e1,e2])).1 h
structure W3 (hp:H) (w q m:Nat) (b:List B8) (F:WF):Prop where
 h:fIz hp w q b (.mp m)
 hm:hp m=some (.mapo (fJe F) true)
 n1:m≠w
 n2:m≠q
def fIb (w q m:Nat) (b:List B8) (F:WF) (hp:H):H:=fHw w q b (.mp m) (upd hp m (.mapo (fJe F) true))
structure W3T where
 q:Nat
 m:Nat
 b:List B8
 F:WF
theorem W3.uniq {hp:H} {w q q' m m':Nat} {b b':List B8} {F F':WF} (h:W3 hp w q m b F) (h':W3 hp w q' m' b' F'):q=q'∧m=m'∧b=b'∧F=F':=by
 obtain⟨rfl,rfl,e⟩:=h.h.uniq h'.h
 obtain rfl:=AV.mp.inj e
 exact⟨rfl,rfl,rfl,fMb (AO.mapo.inj (J0 (h.hm.symm.trans h'.hm))).1⟩
open Classical in
noncomputable def fJt (hp:H) (w:Nat):Option W3T:=if h: ∃t:W3T,W3 hp w t.q t.m t.b t.F then some (Classical.choose h)else none
theorem fIa {hp:H} {w q m:Nat} {b:List B8} {F:WF} (h:W3 hp w q m b F):fJt hp w=some ⟨q,m,b,F⟩:=by
 have hx: ∃t:W3T,W3 hp w t.q t.m t.b t.F:=⟨⟨q,m,b,F⟩,h⟩
 unfold fJt
 rw[dif_pos hx]
 have h2:=Classical.choose_spec hx
 obtain⟨e1,e2,e3,e4⟩:=h2.uniq h
 congr 1
 generalize Classical.choose hx=t at e1 e2 e3 e4
 cases t;simp only at e1 e2 e3 e4;rw[e1,e2,e3,e4]
theorem fJs {hp:H} {w:Nat} {t:W3T} (h:fJt hp w=some t):W3 hp w t.q t.m t.b t.F:=by
 unfold fJt at h
 split at h
 ·rename_i hx
  obtain rfl:=J0 h
  exact Classical.choose_spec hx
 cases h
theorem fKy {hp:H} {w q m:Nat} {b:List B8} {F:WF} (h:w≠q) (h1:m≠w) (h2:m≠q):W3 (fIb w q m b F hp) w q m b F:=
 ⟨fJh h,by unfold fIb;rw[fHv h1 h2,bJ,J4 rfl],h1,h2⟩
theorem fKz {hp:H} {w q m:Nat} {b:List B8} {F:WF} {k:Nat} (h1:k≠w) (h2:k≠q) (h3:k≠m):fIb w q m b F hp k=hp k:=by
 unfold fIb;rw[fHv h1 h2,bJ,J3 h3]
theorem fHx {hp g:H} {w q m:Nat} {b:List B8} {F:WF} (h:W3 g w q m b F) (hs: ∀j o,j≠w→j≠q→j≠m→hp j=some o→g j=some o): ∀j o,fIb w q m b F hp j=some o→g j=some o:=
 fJg h.h fun j o h1 h2 hj=>by
  rw[bJ]at hj
  split at hj
  ·rename_i e;rw[e,h.hm];exact hj
  exact hs j o h1 h2 (by assumption) hj
theorem W3.num {hp:H} {w q m q':Nat} {b b':List B8} {F:WF} (h:W3 hp w q m b F) (hw:w≠q') (hm:m≠q'):W3 (fHw w q' b' (.mp m) (del hp q)) w q' m b' F:=
 ⟨fJh hw,by rw[fHv h.n1 hm,eV,J3 h.n2];exact h.hm,h.n1,hm⟩
def wnS:Nm→List B8→WF→List B8×WF×Nat
 |[],b,F=>(b++[0#8],F,0)
 |l::r,b,F=>match iK (fHk (l::r)) F with
  |some a=>(b++beL (49152#32|||BitVec.ofInt 32 (a:Int)) 2 2,F,r.length+1)
  |none=>wnS r (b++ePy l) (if b.length<16384 then kT (fHk (l::r)) b.length F else F)
def wnQ (nx n k:Nat):Nat:=if k=0 then nx+2000*n+1006 else nx+2000*(n-k)+1043
def fJx:AV→Option Nm
 | .sl n xs=>aK (unS xs) fun ps=>aN (ps.length=n) (some ps)
 | .v (.slice none 0 0)=>some []
 |_=>none
theorem fMt (n:Nat) (xs:List AV):fJx (.sl n xs)=aK (unS xs) fun ps=>aN (ps.length=n) (some ps):=(rfl)
theorem fLv {x:AV} {ps:Nm} (h:fJx x=some ps):x=.sl ps.length (cS ps)∨(x=.v (.slice none 0 0)∧ps=[]):=by
 unfold fJx at h
 split at h
 ·replace h:=aJ h;obtain⟨qs,hq,h⟩:=h
  replace h:=aP h;obtain⟨rfl,h⟩:=h
  obtain rfl:=J0 h
  have:=gT hq;subst this
  exact .inl rfl
 ·obtain rfl:=J0 h
  exact .inr ⟨rfl,rfl⟩
 cases h
noncomputable def fIf:List AV→H→Nat→Option (AV×H×Nat)
 |[.op w 0,x],hp,nx=>aK (fJt hp w) fun t=>aK (fJx x) fun ps=>aN (ps.length≤255∧t.b.length+(eRs ps).length≤900000)
   (some (.tup [],fIb w (wnQ nx ps.length (wnS ps t.b t.F).2.2) t.m (wnS ps t.b t.F).1 (wnS ps t.b t.F).2.1 (del hp t.q),nx+2000*(ps.length+1)))
 |_,_,_=>none
theorem fKs (w:Nat) (x:AV) (hp:H) (nx:Nat):fIf [.op w 0,x] hp nx=aK (fJt hp w) fun t=>aK (fJx x) fun ps=>aN (ps.length≤255∧t.b.length+(eRs ps).length≤900000)
   (some (.tup [],fIb w (wnQ nx ps.length (wnS ps t.b t.F).2.2) t.m (wnS ps t.b t.F).1 (wnS ps t.b t.F).2.1 (del hp t.q),nx+2000*(ps.length+1))):=(rfl)
attribute [go_sem] fMt
attribute [go_sem] fKs
theorem fKu (ps:List (List B8)) (k:Nat) (h:k<ps.length):eRs (ps.drop k)=ePy (ps.getD k [])++eRs (ps.drop (k+1)):=by
 rw[List.drop_eq_getElem_cons h,eNx];simp[List.getD,List.getElem?_eq_getElem h]
theorem eTh (ps:Nm) (k:Nat) (h:k<ps.length):ps.drop k=ps.getD k []::ps.drop (k+1):=by
 rw[List.drop_eq_getElem_cons h];simp[List.getD,List.getElem?_eq_getElem h]
theorem kU {P:Program} {GL:Nat→Option (List AV)} {nt:Nat} {code:Code} {Q:Exit→S→Prop} {fr:List (Nat×AV)} {hp:H} {nx cx:Nat} (cx':Nat) (hc:cx≤cx')
  (h:Awp P GL nt code {fr:=fr,hp:=hp,nx:=nx,cx:=cx'} Q):Awp P GL nt code {fr:=fr,hp:=hp,nx:=nx,cx:=cx} Q:=tU h ⟨fun _=> .inr rfl,fun _ _ h=>h,hc⟩ rfl
theorem fId {hp:H} {q j:Nat} {o:AO} (h:del hp q j=some o):j≠q∧hp j=some o:=by
 rw[eV]at h
 split at h
 ·cases h
 exact⟨by assumption,h⟩
theorem W3.upM {hp:H} {w q m:Nat} {b:List B8} {F G:WF} (h:W3 hp w q m b F):W3 (upd hp m (.mapo (fJe G) true)) w q m b G:=
 ⟨⟨by rw[bJ,J3 (Ne.symm h.n1)];exact h.h.hw,by rw[bJ,J3 (Ne.symm h.n2)];exact h.h.hq,h.h.ne⟩,by rw[bJ,J4 rfl],h.n1,h.n2⟩
theorem fJq {l:List B8} {r:Nm} {b:List B8} {F:WF} {a:Nat} (h:iK (fHk (l::r)) F=some a):wnS (l::r) b F=(b++beL (49152#32|||BitVec.ofInt 32 (a:Int)) 2 2,F,r.length+1):=by
 rw[wnS,h]
theorem fIg {l:List B8} {r:Nm} {b:List B8} {F:WF} (h:iK (fHk (l::r)) F=none):wnS (l::r) b F=wnS r (b++ePy l) (if b.length<16384 then kT (fHk (l::r)) b.length F else F):=by
 rw[wnS,h]
structure WMI where
 k:Nat
 g:H
 q:Nat
 b:List B8
 F:WF
set_option maxHeartbeats 4000000 in
theorem fLm:fHs Tryz.prog GLh 28 fIf:=by
 refine fVw Tryz.func28 (aT rfl) ?_
 intro args hp nx r hp' nx' hg
 unfold fIf at hg
 split at hg
 ·rename_i w x
  replace hg:=aJ hg;obtain⟨⟨q,m,b,F⟩,hW0,hg⟩:=hg
  have hW:=fJs hW0
  replace hg:=aJ hg;obtain⟨ps,hl,hg⟩:=hg
  replace hg:=aP hg;obtain⟨⟨hn,hbig⟩,hg⟩:=hg
  simp only[Option.some.injEq,Prod.mk.injEq]at hg hW hbig;obtain⟨rfl,rfl,rfl⟩:=hg
  refine⟨J1 rfl,by omega,fun hnone=>?_⟩
  have hlt: ∀k o,hp k=some o→k<nx:=fun k o hk=>lI hnone hk
  have hwl:=hlt _ _ hW.h.hw
  have hql:=hlt _ _ hW.h.hq
  have hml:=hlt _ _ hW.hm
  obtain⟨n1,n2⟩:=And.intro hW.n1 hW.n2
  rcases fLv hl with rfl|⟨rfl,rfl⟩
  ·refine aA rfl (aA rfl (aW [0,1,9,10] rfl rfl rfl fun K hK=>?_))
   simp(disch:=omega) only[Tryz.f28,go_sem,↓reduceIte]
   refine hK _ ?_
   refine aB (aR 0 rfl rfl ?_)
   refine bR (fun p:WMI=> {fr:=[(0,.op w 0),(1,.sl ps.length (cS ps)),(9,.i ps.length),(10,.i p.k)],hp:=p.g,nx:=0,cx:=nx+100+2000*p.k}) (fun p=>p.k≤ps.length∧wnS (ps.drop p.k) p.b p.F=wnS ps b F∧W3 p.g w p.q m p.b p.F∧(∀j o,j≠w→j≠q→j≠m→hp j=some o→p.g j=some o)∧(p.q=q∨nx≤p.q)∧p.q<nx+100+2000*p.k∧p.b.length+(eRs (ps.drop p.k)).length=b.length+(eRs ps).length) (fun p=>ps.length-p.k) rfl ⟨⟨0,hp,q,b,F⟩,⟨Nat.zero_le _,rfl,hW,fun j o _ _ _ h=>h,.inl rfl,by simp only;omega,rfl⟩,bD rfl rfl (by simp only;omega)⟩ ?_
   rintro⟨k,g,q1,b1,F1⟩ ⟨hk,hS,hW1,hsub,hq1,hqc,hlen⟩ n0
   simp only at hk hS hW1 hsub hq1 hqc hlen⊢
   refine aA rfl (aW [11,0,1,9,10] rfl rfl rfl fun K hK=>?_)
   simp(disch:=omega) only[Tryz.f28,go_sem,↓reduceIte]
   refine hK _ ?_
   refine aB (aA rfl (bA (.tmp 11) rfl rfl rfl (fun h=>?_) (fun h=>?_)))
   ·refine aI rfl ?_
    have hkl:k<ps.length:=by omega
    have hwd:=fKu ps k hkl
    have hpd:=eTh ps k hkl
    have hdl:(ps.drop k).length=ps.length-k:=List.length_drop
    have hwb:(eRs (ps.drop k)).length≤900000:=by omega
    have hX: ∀X o,nx+100+2000*k<X→W3 (upd g X o) w q1 m b1 F1∧∀j o',j≠w→j≠q→j≠m→hp j=some o'→upd g X o j=some o':=by
     intro X o hXk
     refine⟨⟨⟨?_,?_,hW1.h.ne⟩,?_,hW1.n1,hW1.n2⟩,fun j o' j1 j2 j3 hj=>?_⟩
     ·rw[bJ,J3 (by omega)];exact hW1.h.hw
     ·rw[bJ,J3 (by omega)];exact hW1.h.hq
     ·rw[bJ,J3 (by omega)];exact hW1.hm
     have:=hlt j o' hj
     rw[bJ,J3 (by omega)];exact hsub j o' j1 j2 j3 hj
    clear h
    refine aQ rfl (aB (aA rfl (aR 1 rfl rfl (aA rfl (aW [0,1,4,9,10] rfl rfl rfl fun K hK=>?_)))))
    simp(disch:=omega) only[Tryz.f28,go_sem,↓reduceIte]
    refine hK _ ?_
    refine aB (aA rfl (aC (Γ:=bC [(46,.fresh true rG)]) [0,1,4,5,9,10] (aH eVk aO) rfl rfl rfl (fun K hK=>?_)))
    simp(disch:=omega) only[Tryz.f28,go_sem,↓reduceIte,hdl]
    refine hK _ ?_
    refine aB ?_
    obtain⟨hW2,hsub2⟩:=hX (nx+100+2000*k+1+2+3) (AO.cells (c8 (fHk (ps.drop k))) true) (by omega)
    obtain⟨g2,hg2⟩: ∃y,upd g (nx+100+2000*k+1+2+3) (AO.cells (c8 (fHk (ps.drop k))) true)=y:=⟨_,rfl⟩
    rw[hg2]at hW2 hsub2⊢
    clear hX hg2 hW1 hsub
    have h1:=hW2.h.hw
    have h2:=hW2.h.hq
    have h3:=hW2.hm
    have h4:=hW2.h.ne
    rcases hgk:iK (fHk (ps.drop k)) F1 with _|a
    ·refine aA rfl (aA rfl (aW [0,1,4,5,6,7,9,10] rfl rfl rfl fun K hK=>?_))
     simp(disch:=omega) only[Tryz.f28,go_sem,↓reduceIte,h1,h3,fKc,hgk,Option.map_none]
     refine hK _ ?_
     refine aB (aA rfl (aW [27,0,1,4,5,6,9,10] rfl rfl rfl fun K hK=>?_))
     simp(disch:=omega) only[Tryz.f28,go_sem,↓reduceIte]
     refine hK _ ?_
     refine aB (cV (.tmp 27) rfl rfl rfl (fun h=>?_) (fun h=>?_))
     ·refine aI rfl ?_
      cases h
     refine aI rfl ?_
     clear h
     refine aQ rfl (aB (aA rfl (aA rfl (aW [38,0,1,4,5,9,10] rfl rfl rfl fun K hK=>?_))))
     simp(disch:=omega) only[Tryz.f28,go_sem,↓reduceIte,h1]
     refine hK _ ?_
     refine aB (bA (.tmp 38) rfl rfl rfl (fun h=>?_) (fun h=>?_))
     ·refine aI rfl ?_
      have hb14:b1.length<16384:=by omega
      clear h
      refine bB (Γ:=aL) (fun _=>2) [0,1,4,9,10] bZ (aD _ _) rfl rfl rfl (by kernel_rfl) (fun K hK=>?_)
      simp(disch:=omega) only[Tryz.f28,go_sem,↓reduceIte,h1,h3,fMa]
      refine hK _ ?_
      refine aB ?_
      obtain⟨F2,g3,hS3,hW3,hsub3,hg3⟩: ∃F2 g3,wnS (ps.drop (k+1)) (b1++ePy (ps.getD k [])) F2=wnS ps b F∧W3 g3 w q1 m b1 F2∧(∀j o',j≠w→j≠q→j≠m→hp j=some o'→g3 j=some o')∧upd g2 m (AO.mapo (fJe (kT (fHk (List.drop k ps)) b1.length F1)) true)=g3:=
       ⟨kT (fHk (List.drop k ps)) b1.length F1,_,by rw[←hS,hpd,fIg (hpd▸hgk),J4 hb14,←hpd],hW2.upM,fun j o' j1 j2 j3 hj=>by rw[bJ,J3 j3];exact hsub2 j o' j1 j2 j3 hj,rfl⟩
      first|rw[hg3]|(obtain rfl:=hg3)
      clear hS hW2 hsub2 h1 h2 h3 hg3
      have h1:=hW3.h.hw
      have h2:=hW3.h.hq
      have hlab:b1.length+1+(ps.getD k []).length≤900000:=by
       have:=congrArg List.length hwd
       simp only[List.length_append,ePy,List.length_cons]at this
       omega
      refine kU (nx+2000*k+200) (by omega) ?_
      have e6:b1++[BitVec.ofInt 8 ((ps.getD k []).length:Int)]++ps.getD k []=b1++ePy (ps.getD k []):=by simp[ePy]
      have hbl3:(b1++ePy (ps.getD k [])).length=b1.length+1+(ps.getD k []).length:=by simp only[List.length_append,ePy,List.length_cons];omega
      have hlen3:(b1++ePy (ps.getD k [])).length+(eRs (ps.drop (k+1))).length=b.length+(eRs ps).length:=by
       rw[←hlen,hwd,List.length_append,List.length_append,Nat.add_assoc]
      refine aYa (Γ:=aL) (fun k=>if k=4 then true else if k=8 then true else if k=11 then true else if k=12 then true else if k=16 then true else false) [(4,8),(4,11),(4,16),(8,16),(11,16),(12,16)] (fun _=>2) [0,1,9,10] bZ (aD _ _) rfl rfl rfl (by kernel_rfl) (fun K hK=>?_)
      simp(maxSteps:=400000) (disch:=omega) only[Tryz.f28,go_sem,and_self,and_true,true_and,ne_eq,not_false_eq_true,↓reduceIte,h1,h2,e6]
      refine hK _ ?_
      refine bU (aB (aW [0,1,9,10] rfl rfl rfl fun K hK=>?_))
      simp(disch:=omega) only[Tryz.f28,go_sem,↓reduceIte]
      refine hK _ ?_
      refine bT ?_
      obtain⟨g',hg'⟩: ∃y,upd (upd (del (upd (del (upd g3 (nx+2000*k+200+11) (AO.cells [AV.w8 (BitVec.ofInt 8 ((ps.getD k []).length:Int))] true)) q1) (nx+2000*k+200+12) (AO.cells (c8 (b1++[BitVec.ofInt 8 ((ps.getD k []).length:Int)])) true)) (nx+2000*k+200+12)) (nx+2000*k+200+17) (AO.cells (c8 (b1++ePy (ps.getD k []))) true)) w (AO.cells [AV.os (nx+2000*k+200+17) 0 (b1.length+1+(ps.getD k []).length) 1 true,AV.mp m] true)=y:=⟨_,rfl⟩
      rw[hg']
      refine⟨⟨k+1,g',nx+2000*k+200+17,b1++ePy (ps.getD k []),F2⟩,⟨by simp only;omega,hS3,⟨⟨?_,?_,?_⟩,?_,hW3.n1,?_⟩,fun j o j1 j2 j3 hj=>?_,.inr (by simp only;omega),by simp only;omega,hlen3⟩,by simp only;omega,bD ?_ rfl (by simp only;omega)⟩
      ·simp only;rw[←hg',bJ,J4 rfl,hbl3]
      ·simp only;rw[←hg',bJ,J3 (by omega),bJ,J4 rfl]
      ·simp only;omega
      ·simp only;rw[←hg',bJ,J3 (by omega),bJ,J3 (by omega),eV,J3 (by omega),bJ,J3 (by omega),eV,J3 hW3.n2,bJ,J3 (by omega)];exact hW3.hm
      ·simp only;omega
      ·have:=hlt j o hj
       simp only;rw[←hg',bJ,J3 j1,bJ,J3 (by omega),eV,J3 (by omega),bJ,J3 (by omega),eV,J3 (by omega),bJ,J3 (by omega)];exact hsub3 j o j1 j2 j3 hj
      simp only[Int.natCast_add,Int.natCast_one]
     refine aI rfl ?_
     have hb14: ¬b1.length<16384:=by omega
     clear h
     refine aQ rfl (aB ?_)
     obtain⟨F2,g3,hS3,hW3,hsub3,hg3⟩: ∃F2 g3,wnS (ps.drop (k+1)) (b1++ePy (ps.getD k [])) F2=wnS ps b F∧W3 g3 w q1 m b1 F2∧(∀j o',j≠w→j≠q→j≠m→hp j=some o'→g3 j=some o')∧g2=g3:=
      ⟨F1,_,by rw[←hS,hpd,fIg (hpd▸hgk),J3 hb14],hW2,hsub2,rfl⟩
     first|rw[hg3]|(obtain rfl:=hg3)
     clear hS hW2 hsub2 h1 h2 h3 hg3
     have h1:=hW3.h.hw
     have h2:=hW3.h.hq
     have hlab:b1.length+1+(ps.getD k []).length≤900000:=by
      have:=congrArg List.length hwd
      simp only[List.length_append,ePy,List.length_cons]at this
      omega
     refine kU (nx+2000*k+200) (by omega) ?_
     have e6:b1++[BitVec.ofInt 8 ((ps.getD k []).length:Int)]++ps.getD k []=b1++ePy (ps.getD k []):=by simp[ePy]
     have hbl3:(b1++ePy (ps.getD k [])).length=b1.length+1+(ps.getD k []).length:=by simp only[List.length_append,ePy,List.length_cons];omega
     have hlen3:(b1++ePy (ps.getD k [])).length+(eRs (ps.drop (k+1))).length=b.length+(eRs ps).length:=by
      rw[←hlen,hwd,List.length_append,List.length_append,Nat.add_assoc]
     refine aYa (Γ:=aL) (fun k=>if k=4 then true else if k=8 then true else if k=11 then true else if k=12 then true else if k=16 then true else false) [(4,8),(4,11),(4,16),(8,16),(11,16),(12,16)] (fun _=>2) [0,1,9,10] bZ (aD _ _) rfl rfl rfl (by kernel_rfl) (fun K hK=>?_)
     simp(maxSteps:=400000) (disch:=omega) only[Tryz.f28,go_sem,and_self,and_true,true_and,ne_eq,not_false_eq_true,↓reduceIte,h1,h2,e6]
     refine hK _ ?_
     refine bU (aB (aW [0,1,9,10] rfl rfl rfl fun K hK=>?_))
     simp(disch:=omega) only[Tryz.f28,go_sem,↓reduceIte]
     refine hK _ ?_
     refine bT ?_
     obtain⟨g',hg'⟩: ∃y,upd (upd (del (upd (del (upd g3 (nx+2000*k+200+11) (AO.cells [AV.w8 (BitVec.ofInt 8 ((ps.getD k []).length:Int))] true)) q1) (nx+2000*k+200+12) (AO.cells (c8 (b1++[BitVec.ofInt 8 ((ps.getD k []).length:Int)])) true)) (nx+2000*k+200+12)) (nx+2000*k+200+17) (AO.cells (c8 (b1++ePy (ps.getD k []))) true)) w (AO.cells [AV.os (nx+2000*k+200+17) 0 (b1.length+1+(ps.getD k []).length) 1 true,AV.mp m] true)=y:=⟨_,rfl⟩
     rw[hg']
     refine⟨⟨k+1,g',nx+2000*k+200+17,b1++ePy (ps.getD k []),F2⟩,⟨by simp only;omega,hS3,⟨⟨?_,?_,?_⟩,?_,hW3.n1,?_⟩,fun j o j1 j2 j3 hj=>?_,.inr (by simp only;omega),by simp only;omega,hlen3⟩,by simp only;omega,bD ?_ rfl (by simp only;omega)⟩
     ·simp only;rw[←hg',bJ,J4 rfl,hbl3]
     ·simp only;rw[←hg',bJ,J3 (by omega),bJ,J4 rfl]
     ·simp only;omega
     ·simp only;rw[←hg',bJ,J3 (by omega),bJ,J3 (by omega),eV,J3 (by omega),bJ,J3 (by omega),eV,J3 hW3.n2,bJ,J3 (by omega)];exact hW3.hm
     ·simp only;omega
     ·have:=hlt j o hj
      simp only;rw[←hg',bJ,J3 j1,bJ,J3 (by omega),eV,J3 (by omega),bJ,J3 (by omega),eV,J3 (by omega),bJ,J3 (by omega)];exact hsub3 j o j1 j2 j3 hj
     simp only[Int.natCast_add,Int.natCast_one]
    refine aA rfl (aA rfl (aW [0,1,4,5,6,7,9,10] rfl rfl rfl fun K hK=>?_))
    simp(disch:=omega) only[Tryz.f28,go_sem,↓reduceIte,h1,h3,fKc,hgk,Option.map_none,Option.map_some]
    refine hK _ ?_
    refine aB (aA rfl (aW [27,0,1,4,5,6,9,10] rfl rfl rfl fun K hK=>?_))
    simp(disch:=omega) only[Tryz.f28,go_sem,↓reduceIte]
    refine hK _ ?_
    refine aB (cV (.tmp 27) rfl rfl rfl (fun h=>?_) (fun h=>?_))
    ·refine aI rfl ?_
     clear h
     refine kU (nx+2000*k+1000) (by omega) (aA rfl (aC (Γ:=bC [(26,.heap fHp)]) [] (aH fHt aO) rfl rfl rfl (fun K hK=>?_)))
     simp(disch:=omega) only[Tryz.f28,go_sem,↓reduceIte,yQ hW2.h]
     refine hK _ ?_
     refine aB (aS rfl (bI (bN (bI (dF (bN (bI ?_)))))))
     have hS2:wnS ps b F=(b1++beL (49152#32|||BitVec.ofInt 32 (a:Int)) 2 2,F1,(ps.drop (k+1)).length+1):=by rw[←hS,hpd,fJq (hpd▸hgk)]
     rw[hS2]
     have e:wnQ nx ps.length ((ps.drop (k+1)).length+1)=nx+2000*k+1000+5+17+21:=by
      rw[wnQ,J3 (by omega),List.length_drop];omega
     refine⟨rfl,?_,by simp only;omega⟩
     simp only[e,fHr,Nat.mul_one]
     refine fHx (hW2.num (by omega) (by omega)) fun j o j1 j2 j3 hj=>?_
     have hd:=fId hj
     have:=hlt j o hd.2
     rw[fHv j1 j2,eV,J3 (by omega)]
     exact hsub2 j o j1 hd.1 j3 hd.2
    refine aI rfl ?_
    cases h
   refine aI rfl ?_
   obtain rfl:k=ps.length:=by omega
   clear h
   refine bF 0 rfl rfl (aY (aZ (bE (aB ?_))))
   have h1:=hW1.h.hw
   have h2:=hW1.h.hq
   have h4:=hW1.h.ne
   have hb9:b1.length≤900000:=by omega
   refine kU (nx+2000*ps.length+1000) (by omega) (aW [] rfl rfl rfl fun K hK=>?_)
   simp(disch:=omega) only[Tryz.f28,go_sem,↓reduceIte,h1,h2]
   refine hK _ ?_
   have hS2:wnS ps b F=(b1++[0#8],F1,0):=by rw[←hS,List.drop_length];rfl
   have hbl:(b1++[0#8]).length=b1.length+1:=by simp
   rw[hS2]
   obtain⟨g',hg'⟩: ∃y,upd (upd (del (upd g (nx+2000*ps.length+1000+5) (AO.cells [AV.w8 0#8] true)) q1) (nx+2000*ps.length+1000+6) (AO.cells (c8 (b1++[0#8])) true)) w (AO.cells [AV.os (nx+2000*ps.length+1000+6) 0 (b1.length+1) 1 true,AV.mp m] true)=y:=⟨_,rfl⟩
   rw[hg']
   refine⟨rfl,?_,by simp only;omega⟩
   simp only[wnQ,if_true]
   refine fHx ⟨⟨?_,?_,by omega⟩,?_,n1,by omega⟩ fun j o j1 j2 j3 hj=>?_
   ·rw[←hg',bJ,J4 rfl,hbl]
   ·rw[←hg',bJ,J3 (by omega),bJ,J4 rfl]
   ·rw[←hg',bJ,J3 n1,bJ,J3 (by omega),eV,J3 hW1.n2,bJ,J3 (by omega)];exact hW1.hm
   have hd:=fId hj
   have:=hlt j o hd.2
   rw[←hg',bJ,J3 j1,bJ,J3 j2,eV,J3 (by omega),bJ,J3 (by omega)];exact hsub j o j1 hd.1 j3 hd.2
  refine aA rfl (aA rfl (aW [0,1,9,10] rfl rfl rfl fun K hK=>?_))
  simp(disch:=omega) only[Tryz.f28,go_sem,↓reduceIte]
  refine hK _ ?_
  refine aB (aR 0 rfl rfl (bR (fun k:Nat=> {fr:=[(0,.op w 0),(1,.v (.slice none 0 0)),(9,.i 0),(10,.i 0)],hp:=hp,nx:=0,cx:=nx+100}) (fun k=>k=0) (fun k=>k) rfl ⟨0,rfl,bD rfl rfl (by simp only;omega)⟩ ?_))
  rintro k hk0 n0
  simp only at hk0⊢
  refine aA rfl (aW [11,0,1,9,10] rfl rfl rfl fun K hK=>?_)
  simp(disch:=omega) only[Tryz.f28,go_sem,↓reduceIte]
  refine hK _ ?_
  refine aB (aA rfl (cV (.tmp 11) rfl rfl rfl (fun h=>?_) (fun h=>?_)))
  ·refine aI rfl ?_
   cases h
  refine aI rfl ?_
  clear h
  refine bF 0 rfl rfl (aY (aZ (bE (aB ?_))))
  obtain⟨q1,b1,F1,g,hW1,hS,hq1⟩: ∃q1 b1 F1 g,W3 g w q1 m b1 F1∧g=hp∧q1=q∧b1=b∧F1=F:=⟨q,b,F,hp,hW,rfl,rfl,rfl,rfl⟩
  subst hS
  obtain⟨rfl,rfl,rfl⟩:=hq1
  have hsub: ∀j o,j≠w→j≠q1→j≠m→g j=some o→g j=some o:=fun j o _ _ _ h=>h
  have h1:=hW1.h.hw
  have h2:=hW1.h.hq
  have h4:=hW1.h.ne
  have hb9:b1.length≤900000:=by omega
  refine kU (nx+1000) (by omega) (aW [] rfl rfl rfl fun K hK=>?_)
  simp(disch:=omega) only[Tryz.f28,go_sem,↓reduceIte,h1,h2]
  refine hK _ ?_
  have hS2:wnS [] b1 F1=(b1++[0#8],F1,0):=rfl
  have hbl:(b1++[0#8]).length=b1.length+1:=by simp
  rw[hS2]
  obtain⟨g',hg'⟩: ∃y,upd (upd (del (upd g (nx+1000+5) (AO.cells [AV.w8 0#8] true)) q1) (nx+1000+6) (AO.cells (c8 (b1++[0#8])) true)) w (AO.cells [AV.os (nx+1000+6) 0 (b1.length+1) 1 true,AV.mp m] true)=y:=⟨_,rfl⟩
  rw[hg']
  refine⟨rfl,?_,by simp only;omega⟩
  simp only[wnQ,if_true,List.length_nil,Nat.mul_zero,Nat.add_zero]
  refine fHx ⟨⟨?_,?_,by omega⟩,?_,n1,by omega⟩ fun j o j1 j2 j3 hj=>?_
  ·rw[←hg',bJ,J4 rfl,hbl]
  ·rw[←hg',bJ,J3 (by omega),bJ,J4 rfl]
  ·rw[←hg',bJ,J3 n1,bJ,J3 (by omega),eV,J3 hW1.n2,bJ,J3 (by omega)];exact hW1.hm
  have hd:=fId hj
  have:=hlt j o hd.2
  rw[←hg',bJ,J3 j1,bJ,J3 j2,eV,J3 (by omega),bJ,J3 (by omega)];exact hsub j o j1 hd.1 j3 hd.2
 cases hg
theorem fLu:bX Tryz.prog GLh 28 (.heap fIf):=⟨⟨_,Tryz.func28,rfl,rfl⟩,fLm⟩
end Go.AX

namespace Go.AX
open Go Go.Proofs
set_option maxRecDepth 8000
structure RC where
 nm:Nm
 ty:BitVec 16
 cl:BitVec 16
 ttl:W32
 d:List B8
def fMd:AV→Option (List B8)
 | .sl n xs=>aK (fHq xs) fun d=>aN (d.length=n) (some d)
 | .v (.slice none 0 0)=>some []
 |_=>none
theorem fMc {x:AV} {d:List B8} (h:fMd x=some d):x=.sl d.length (c8 d)∨(x=.v (.slice none 0 0)∧d=[]):=by
 unfold fMd at h
 split at h
 ·replace h:=aJ h;obtain⟨qs,hq,h⟩:=h
  replace h:=aP h;obtain⟨rfl,h⟩:=h
  obtain rfl:=J0 h
  have:=bW hq;subst this
  exact .inl rfl
 ·obtain rfl:=J0 h
  exact .inr ⟨rfl,rfl⟩
 cases h
def fLo (c:RC):List AV:=[.sl c.nm.length (cS c.nm),.w16 c.ty,.w16 c.cl,.w32 c.ttl,.sl c.d.length (c8 c.d)]
def fIq:List AV→Option RC
 |[x,.w16 t,.w16 c,.w32 l,y]=>aK (fJx x) fun ps=>aK (fMd y) fun d=>some ⟨ps,t,c,l,d⟩
 |_=>none
theorem fMp (c:RC):fIq (fLo c)=some c:=by
 obtain⟨nm,ty,cl,ttl,d⟩:=c
 simp only[fLo,fIq,fJx,fMd,aQr,iA,aX,aN,if_true]
theorem fLa {xs:List AV} {c:RC} (h:fIq xs=some c): ∃x y,xs=[x,.w16 c.ty,.w16 c.cl,.w32 c.ttl,y]∧fJx x=some c.nm∧fMd y=some c.d:=by
 unfold fIq at h
 split at h
 ·replace h:=aJ h;obtain⟨ps,hp,h⟩:=h
  replace h:=aJ h;obtain⟨d,hd,h⟩:=h
  obtain rfl:=J0 h
  exact⟨_,_,rfl,hp,hd⟩
 cases h
def wrS (c:RC) (b:List B8) (F:WF):List B8×WF:=
 ((wnS c.nm b F).1++beL (BitVec.setWidth 32 c.ty) 2 2++beL (BitVec.setWidth 32 c.cl) 2 2++beL c.ttl 4 4++beL (BitVec.ofInt 32 (c.d.length:Int)) 2 2++c.d,(wnS c.nm b F).2.1)
theorem fJk (n:Nm): ∀(b:List B8) (F:WF),(wnS n b F).1.length≤b.length+(eRs n).length+2:=by
 induction n with
 |nil=>intro b F;simp[wnS,fJr]
 |cons l r ih=>
  intro b F
  rw[wnS,eNx]
  split
  ·simp[cZ]
  refine Nat.le_trans (ih _ _) ?_
  simp only[List.length_append];omega
structure WS (hp:H) (n w q0 m:Nat) (g:H) (q:Nat) (b:List B8) (F:WF):Prop where
 h:W3 g w q m b F
 sub: ∀j o,j≠w→j≠q0→j≠m→j<n→hp j=some o→g j=some o
 hq:q=q0∨n≤q
 wl:w<n
 ml:m<n
theorem WS.num {hp g:H} {n w q0 m q q':Nat} {b b':List B8} {F:WF} (h:WS hp n w q0 m g q b F) (hq:n≤q'):WS hp n w q0 m (fHw w q' b' (.mp m) (del g q)) q' b' F:=by
 have:=h.wl;have:=h.ml
 refine⟨h.h.num (by omega) (by omega),fun j o j1 j2 j3 j4 hj=>?_,.inr hq,h.wl,h.ml⟩
 have:=h.hq
 rw[fHv j1 (by omega),eV,J3 (by omega)]
 exact h.sub j o j1 j2 j3 j4 hj
theorem WS.name {hp g:H} {n w q0 m q q':Nat} {b b':List B8} {F F':WF} (h:WS hp n w q0 m g q b F) (hq:n≤q'):WS hp n w q0 m (fIb w q' m b' F' (del g q)) q' b' F':=by
 have:=h.wl;have:=h.ml
 refine⟨fKy (by omega) h.h.n1 (by omega),fun j o j1 j2 j3 j4 hj=>?_,.inr hq,h.wl,h.ml⟩
 have:=h.hq
 rw[fKz j1 (by omega) j3,eV,J3 (by omega)]
 exact h.sub j o j1 j2 j3 j4 hj
theorem fHl {P:Program} {GL:Nat→Option (List AV)} {nt:Nat} {code:Code} {Q:Exit→S→Prop} {fr:List (Nat×AV)} {hp g:H} {n w q0 m q q' nx cx:Nat} {b b':List B8} {F:WF} (h:WS hp n w q0 m g q b F) (hq:n≤q')
  (h2: ∀g2 b2,b2=b'→WS hp n w q0 m g2 q' b2 F→Awp P GL nt code {fr:=fr,hp:=g2,nx:=nx,cx:=cx} Q):Awp P GL nt code {fr:=fr,hp:=fHw w q' b' (.mp m) (del g q),nx:=nx,cx:=cx} Q:=h2 _ _ rfl (h.num hq)
theorem fIe {P:Program} {GL:Nat→Option (List AV)} {nt:Nat} {code:Code} {Q:Exit→S→Prop} {fr:List (Nat×AV)} {hp g:H} {n w q0 m q q' nx cx:Nat} {b b':List B8} {F F':WF} (h:WS hp n w q0 m g q b F) (hq:n≤q')
  (h2: ∀g2 b2 F2,b2=b'→F2=F'→WS hp n w q0 m g2 q' b2 F2→Awp P GL nt code {fr:=fr,hp:=g2,nx:=nx,cx:=cx} Q):Awp P GL nt code {fr:=fr,hp:=fIb w q' m b' F' (del g q),nx:=nx,cx:=cx} Q:=h2 _ _ _ rfl rfl (h.name hq)
theorem fKe (nx n k:Nat):nx≤wnQ nx n k:=by unfold wnQ;split<;>omega
noncomputable def fJf:List AV→H→Nat→Option (AV×H×Nat)
 |[.op w 0,.agg xs],hp,nx=>aK (fJt hp w) fun t=>aK (fIq xs) fun c=>aN (c.nm.length≤255∧t.b.length+(eRs c.nm).length+c.d.length≤800000)
   (some (.tup [],fIb w (nx+2000*(c.nm.length+1)+2007) t.m (wrS c t.b t.F).1 (wrS c t.b t.F).2 (del hp t.q),nx+2000*(c.nm.length+3)))
 |_,_,_=>none
theorem fLj (w:Nat) (xs:List AV) (hp:H) (nx:Nat):fJf [.op w 0,.agg xs] hp nx=aK (fJt hp w) fun t=>aK (fIq xs) fun c=>aN (c.nm.length≤255∧t.b.length+(eRs c.nm).length+c.d.length≤800000)
   (some (.tup [],fIb w (nx+2000*(c.nm.length+1)+2007) t.m (wrS c t.b t.F).1 (wrS c t.b t.F).2 (del hp t.q),nx+2000*(c.nm.length+3))):=(rfl)
attribute [go_sem] fLj
set_option maxHeartbeats 4000000 in
theorem fMj:fHs Tryz.prog GLh 29 fJf:=by
 refine fVw Tryz.func29 (aT rfl) ?_
 intro args hp nx r hp' nx' hg
 unfold fJf at hg
 split at hg
 ·rename_i w xs
  replace hg:=aJ hg;obtain⟨⟨q,m,b,F⟩,hW0,hg⟩:=hg
  have hW:=fJs hW0
  replace hg:=aJ hg;obtain⟨c,hc,hg⟩:=hg
  obtain⟨x,y,rfl,hx,hy⟩:=fLa hc
  replace hg:=aP hg;obtain⟨⟨hn,hbig⟩,hg⟩:=hg
  simp only[Option.some.injEq,Prod.mk.injEq]at hg hW hbig;obtain⟨rfl,rfl,rfl⟩:=hg
  refine⟨J1 rfl,by omega,fun hnone=>?_⟩
  have hlt: ∀k o,hp k=some o→k<nx:=fun k o hk=>lI hnone hk
  have hwl:=hlt _ _ hW.h.hw
  have hql:=hlt _ _ hW.h.hq
  have hml:=hlt _ _ hW.hm
  obtain⟨n1,n2⟩:=And.intro hW.n1 hW.n2
  obtain⟨nm,ty,cl,ttl,d⟩:=c
  simp only at hn hbig
  have hwn:=fJk nm b F
  simp only at hx hy
  rcases fMc hy with rfl|⟨rfl,rfl⟩
  ·obtain⟨bx,hbx⟩: ∃o,AO.cells [x,AV.w16 ty,AV.w16 cl,AV.w32 ttl,AV.sl d.length (c8 d)] true=o:=⟨_,rfl⟩
   have h0:WS (upd hp nx bx) (nx+1) w q m (upd hp nx bx) q b F:=by
    refine⟨⟨⟨?_,?_,hW.h.ne⟩,?_,n1,n2⟩,fun j o _ _ _ _ hj=>hj,.inl rfl,by omega,by omega⟩
    ·rw[bJ,J3 (by omega)];exact hW.h.hw
    ·rw[bJ,J3 (by omega)];exact hW.h.hq
    rw[bJ,J3 (by omega)];exact hW.hm
   have hkeep: ∀ {g2 q2 b2 F2},WS (upd hp nx bx) (nx+1) w q m g2 q2 b2 F2→g2 nx=some (AO.cells [x,AV.w16 ty,AV.w16 cl,AV.w32 ttl,AV.sl d.length (c8 d)] true):=fun h=>
    h.sub nx _ (by omega) (by omega) (by omega) (by omega) (by rw[bJ,J4 rfl,hbx])
   refine aA rfl (aW [0,3] rfl rfl rfl fun K hK=>?_)
   simp(disch:=omega) only[Tryz.f29,go_sem,↓reduceIte]
   refine hK _ ?_
   refine aB ?_
   rw[hbx]
   refine aA rfl (aC (Γ:=bC [(28,.heap fIf)]) [0,3] (aH fLu aO) rfl rfl rfl (fun K hK=>?_))
   simp(disch:=omega) only[Tryz.f29,go_sem,↓reduceIte,hkeep h0,fIa h0.h,hx]
   refine hK _ ?_
   refine aB ?_
   have hQ:=fKe
   refine fIe h0 (Nat.le_trans (by omega) (hQ _ _ _)) fun g1 b1 F1 eb1 eF1 h1=>?_
   rw[←eb1]at hwn
   have hl1:b1.length≤800002+0:=by omega
   refine aA rfl (aC (Γ:=bC [(26,.heap fHp)]) [0,3] (aH fHt aO) rfl rfl rfl (fun K hK=>?_))
   simp(disch:=omega) only[Tryz.f29,go_sem,↓reduceIte,hkeep h1,yQ h1.h.h]
   refine hK _ ?_
   refine aB ?_
   simp only[fHr,Nat.mul_one]
   refine fHl h1 (by omega) fun g2 b2 eb2 h2=>?_
   have hl2:b2.length≤800002+4:=by rw[eb2,List.length_append,cZ];omega
   refine aA rfl (aC (Γ:=bC [(26,.heap fHp)]) [0,3] (aH fHt aO) rfl rfl rfl (fun K hK=>?_))
   simp(disch:=omega) only[Tryz.f29,go_sem,↓reduceIte,hkeep h2,yQ h2.h.h]
   refine hK _ ?_
   refine aB ?_
   simp only[fHr,Nat.mul_one]
   refine fHl h2 (by omega) fun g3 b3 eb3 h3=>?_
   have hl3:b3.length≤800002+8:=by rw[eb3,List.length_append,cZ];omega
   refine aA rfl (aC (Γ:=bC [(26,.heap fHp)]) [0,3] (aH fHt aO) rfl rfl rfl (fun K hK=>?_))
   simp(disch:=omega) only[Tryz.f29,go_sem,↓reduceIte,hkeep h3,yQ h3.h.h]
   refine hK _ ?_
   refine aB ?_
   simp only[fHr]
   refine fHl h3 (by omega) fun g4 b4 eb4 h4=>?_
   have hl4:b4.length≤800002+12:=by rw[eb4,List.length_append,cZ];omega
   refine aA rfl (aC (Γ:=bC [(26,.heap fHp)]) [0,3] (aH fHt aO) rfl rfl rfl (fun K hK=>?_))
   simp(disch:=omega) only[Tryz.f29,go_sem,↓reduceIte,hkeep h4,yQ h4.h.h]
   refine hK _ ?_
   refine aB ?_
   simp only[fHr,Nat.mul_one]
   refine fHl h4 (by omega) fun g5 b5 eb5 h5=>?_
   have hl5:b5.length≤800002+16:=by rw[eb5,List.length_append,cZ];omega
   refine kU (nx+2000*(nm.length+1)+2000) (by omega) ?_
   have ha:=h5.h.h.hw
   have hb:=h5.h.h.hq
   have hwq:=h5.h.h.ne
   refine aYa (Γ:=aL) (fun k=>if k=4 then true else if k=6 then true else false) [(4,6)] (fun _=>2) [] bZ (aD _ _) rfl rfl rfl (by kernel_rfl) (fun K hK=>?_)
   simp(maxSteps:=400000) (disch:=omega) only[Tryz.f29,go_sem,and_self,and_true,true_and,↓reduceIte,hkeep h5,ha,hb]
   refine hK _ ?_
   obtain⟨q5,hq5⟩: ∃x,nx+1+4+2000*(nm.length+1)+5+400+5+400+4+400+6+17+21=x:=⟨_,rfl⟩
   simp only[hq5]at h5 hwq⊢
   have e1:(wrS ⟨nm,ty,cl,ttl,d⟩ b F)=(b5++d,F1):=by
    simp only[wrS,eb5,eb4,eb3,eb2,eb1,eF1]
   have e2:(b5++d).length=b5.length+d.length:=List.length_append
   rw[e1]
   obtain⟨g',hg'⟩: ∃y,upd (upd (del g5 q5) (nx+2000*(nm.length+1)+2000+7) (AO.cells (c8 (b5++d)) true)) w (AO.cells [AV.os (nx+2000*(nm.length+1)+2000+7) 0 (b5.length+d.length) 1 true,AV.mp m] true)=y:=⟨_,rfl⟩
   rw[hg']
   refine⟨rfl,?_,by simp only;omega⟩
   simp only
   refine fHx ⟨⟨?_,?_,by omega⟩,?_,n1,by omega⟩ fun j o j1 j2 j3 hj=>?_
   ·rw[←hg',bJ,J4 rfl,e2]
   ·rw[←hg',bJ,J3 (by omega),bJ,J4 rfl]
   ·rw[←hg',bJ,J3 n1,bJ,J3 (by omega),eV,J3 h5.h.n2];exact h5.h.hm
   have hd:=fId hj
   have:=hlt j o hd.2
   have h6:=h5.sub j o j1 hd.1 j3 (by omega) (by rw[bJ,J3 (by omega)];exact hd.2)
   rw[←hg',bJ,J3 j1,bJ,J3 j2,eV,J3 (by omega)];exact h6
  obtain⟨bx,hbx⟩: ∃o,AO.cells [x,AV.w16 ty,AV.w16 cl,AV.w32 ttl,AV.v (Value.slice none 0 0)] true=o:=⟨_,rfl⟩
  have h0:WS (upd hp nx bx) (nx+1) w q m (upd hp nx bx) q b F:=by
   refine⟨⟨⟨?_,?_,hW.h.ne⟩,?_,n1,n2⟩,fun j o _ _ _ _ hj=>hj,.inl rfl,by omega,by omega⟩
   ·rw[bJ,J3 (by omega)];exact hW.h.hw
   ·rw[bJ,J3 (by omega)];exact hW.h.hq
   rw[bJ,J3 (by omega)];exact hW.hm
  have hkeep: ∀ {g2 q2 b2 F2},WS (upd hp nx bx) (nx+1) w q m g2 q2 b2 F2→g2 nx=some (AO.cells [x,AV.w16 ty,AV.w16 cl,AV.w32 ttl,AV.v (Value.slice none 0 0)] true):=fun h=>
   h.sub nx _ (by omega) (by omega) (by omega) (by omega) (by rw[bJ,J4 rfl,hbx])
  refine aA rfl (aW [0,3] rfl rfl rfl fun K hK=>?_)
  simp(disch:=omega) only[Tryz.f29,go_sem,↓reduceIte]
  refine hK _ ?_
  refine aB ?_
  rw[hbx]
  refine aA rfl (aC (Γ:=bC [(28,.heap fIf)]) [0,3] (aH fLu aO) rfl rfl rfl (fun K hK=>?_))
  simp(disch:=omega) only[Tryz.f29,go_sem,↓reduceIte,hkeep h0,fIa h0.h,hx]
  refine hK _ ?_
  refine aB ?_
  have hQ:=fKe
  refine fIe h0 (Nat.le_trans (by omega) (hQ _ _ _)) fun g1 b1 F1 eb1 eF1 h1=>?_
  rw[←eb1]at hwn
  have hl1:b1.length≤800002+0:=by omega
  refine aA rfl (aC (Γ:=bC [(26,.heap fHp)]) [0,3] (aH fHt aO) rfl rfl rfl (fun K hK=>?_))
  simp(disch:=omega) only[Tryz.f29,go_sem,↓reduceIte,hkeep h1,yQ h1.h.h]
  refine hK _ ?_
  refine aB ?_
  simp only[fHr,Nat.mul_one]
  refine fHl h1 (by omega) fun g2 b2 eb2 h2=>?_
  have hl2:b2.length≤800002+4:=by rw[eb2,List.length_append,cZ];omega
  refine aA rfl (aC (Γ:=bC [(26,.heap fHp)]) [0,3] (aH fHt aO) rfl rfl rfl (fun K hK=>?_))
  simp(disch:=omega) only[Tryz.f29,go_sem,↓reduceIte,hkeep h2,yQ h2.h.h]
  refine hK _ ?_
  refine aB ?_
  simp only[fHr,Nat.mul_one]
  refine fHl h2 (by omega) fun g3 b3 eb3 h3=>?_
  have hl3:b3.length≤800002+8:=by rw[eb3,List.length_append,cZ];omega
  refine aA rfl (aC (Γ:=bC [(26,.heap fHp)]) [0,3] (aH fHt aO) rfl rfl rfl (fun K hK=>?_))
  simp(disch:=omega) only[Tryz.f29,go_sem,↓reduceIte,hkeep h3,yQ h3.h.h]
  refine hK _ ?_
  refine aB ?_
  simp only[fHr]
  refine fHl h3 (by omega) fun g4 b4 eb4 h4=>?_
  have hl4:b4.length≤800002+12:=by rw[eb4,List.length_append,cZ];omega
  refine aA rfl (aC (Γ:=bC [(26,.heap fHp)]) [0,3] (aH fHt aO) rfl rfl rfl (fun K hK=>?_))
  simp(disch:=omega) only[Tryz.f29,go_sem,↓reduceIte,hkeep h4,yQ h4.h.h]
  refine hK _ ?_
  refine aB ?_
  simp only[fHr,Nat.mul_one]
  refine fHl h4 (by omega) fun g5 b5 eb5 h5=>?_
  have hl5:b5.length≤800002+16:=by rw[eb5,List.length_append,cZ];omega
  refine kU (nx+2000*(nm.length+1)+2000) (by omega) ?_
  have ha:=h5.h.h.hw
  have hb:=h5.h.h.hq
  have hwq:=h5.h.h.ne
  refine aYa (Γ:=aL) (fun k=>if k=4 then true else if k=6 then true else false) [(4,6)] (fun _=>2) [] bZ (aD _ _) rfl rfl rfl (by kernel_rfl) (fun K hK=>?_)
  simp(maxSteps:=400000) (disch:=omega) only[Tryz.f29,go_sem,and_self,and_true,true_and,↓reduceIte,hkeep h5,ha,hb]
  refine hK _ ?_
  obtain⟨q5,hq5⟩: ∃x,nx+1+4+2000*(nm.length+1)+5+400+5+400+4+400+6+17+21=x:=⟨_,rfl⟩
  simp only[hq5]at h5 hwq⊢
  have e1:(wrS ⟨nm,ty,cl,ttl,[]⟩ b F)=(b5,F1):=by
   simp only[wrS,eb5,eb4,eb3,eb2,eb1,eF1,List.append_nil,List.length_nil,Int.natCast_zero]
   rfl
  rw[e1]
  obtain⟨g',hg'⟩: ∃y,upd (upd (del g5 q5) (nx+2000*(nm.length+1)+2000+7) (AO.cells (c8 b5) true)) w (AO.cells [AV.os (nx+2000*(nm.length+1)+2000+7) 0 (b5.length) 1 true,AV.mp m] true)=y:=⟨_,rfl⟩
  rw[hg']
  refine⟨rfl,?_,by simp only;omega⟩
  simp only
  refine fHx ⟨⟨?_,?_,by omega⟩,?_,n1,by omega⟩ fun j o j1 j2 j3 hj=>?_
  ·rw[←hg',bJ,J4 rfl]
  ·rw[←hg',bJ,J3 (by omega),bJ,J4 rfl]
  ·rw[←hg',bJ,J3 n1,bJ,J3 (by omega),eV,J3 h5.h.n2];exact h5.h.hm
  have hd:=fId hj
  have:=hlt j o hd.2
  have h6:=h5.sub j o j1 hd.1 j3 (by omega) (by rw[bJ,J3 (by omega)];exact hd.2)
  rw[←hg',bJ,J3 j1,bJ,J3 j2,eV,J3 (by omega)];exact h6
 cases hg
theorem fNg:bX Tryz.prog GLh 29 (.heap fJf):=⟨⟨_,Tryz.func29,rfl,rfl⟩,fMj⟩
end Go.AX

namespace Go.AX
open Go Go.Proofs
set_option maxRecDepth 8000
section
variable {P : Program} {GL : Nat → Option (List AV)} {nt : Nat} {Q : Exit → S → Prop} {s t : S} {ι : Type} {st : ι → S} {inv : ι → Prop}
def dWp (st:ι→S) (inv:ι→Prop) (Q:Exit→S→Prop):Exit→S→Prop
 | .normal,t=> ∃i,inv i∧Sub (st i) t
 |e,t=>Q e t
theorem dWd (st:ι→S) (inv:ι→Prop) {x y:Code} (h:Awp P GL nt x s (dWp st inv Q)) (hb: ∀i,inv i→∀n,Awp P GL nt y {st i with nx:=n} Q):Awp P GL nt x s (oS P GL nt y Q):=
 dCq h fun e t hq=>by
  cases e with
  |normal=>
   obtain⟨i,hi,hs⟩:=hq
   exact tU (hb i hi t.nx) ⟨hs.fr,hs.hp,hs.cx⟩ rfl
  |_=>exact hq
theorem dWa (h: ∃i,inv i∧Sub (st i) t):dWp st inv Q .normal t:=h
end
def bCu:List AV→Option AV
 |[.b c,.w32 x]=>some (.w32 (if c=true then x else 0#32))
 |_=>none
theorem cCk (c:Bool) (x:W32):bCu [.b c,.w32 x]=some (.w32 (if c=true then x else 0#32)):=(rfl)
attribute [go_sem] cCk
theorem cRb:fHn Tryz.prog GLh 27 bCu:=by
 refine zK Tryz.func27 (aT rfl) ?_
 intro args r hg
 unfold bCu at hg
 split at hg
 ·rename_i c x
  obtain rfl:=J0 hg
  refine⟨J1 rfl,fun nx=>?_⟩
  refine aA rfl (aW [0,1] rfl rfl rfl fun K hK=>?_)
  simp(disch:=omega) only[Tryz.f27,go_sem,↓reduceIte]
  refine hK _ ?_
  refine aB (aA rfl (aA rfl (aW [5,1] rfl rfl rfl fun K hK=>?_)))
  simp(disch:=omega) only[Tryz.f27,go_sem,↓reduceIte]
  refine hK _ ?_
  refine aB (cV (.tmp 5) rfl rfl rfl (fun h=>?_) (fun h=>?_))
  ·refine aI rfl ?_
   subst h
   refine aA rfl (aW [4] rfl rfl rfl fun K hK=>?_)
   simp(disch:=omega) only[Tryz.f27,go_sem,↓reduceIte]
   refine hK _ ?_
   refine aB (aS rfl (bI ?_))
   simp(disch:=omega) only[fHo,bV,bK,bQ,Tryz.f27,go_sem,↓reduceIte]
  refine aI rfl ?_
  subst h
  refine aQ rfl (aB (aA rfl (aW [4] rfl rfl rfl fun K hK=>?_)))
  simp(disch:=omega) only[Tryz.f27,go_sem,↓reduceIte]
  refine hK _ ?_
  refine aB (aS rfl ?_)
  simp(disch:=omega) only[fHo,bV,bK,bQ,Tryz.f27,go_sem,↓reduceIte]
 cases hg
theorem fKn:bX Tryz.prog GLh 27 (.pure true bCu):=⟨⟨_,Tryz.func27,rfl,rfl⟩,cRb⟩
def rcC:List RC→List AV
 |[]=>[]
 |c::r=>fLo c++rcC r
theorem fIh: ∀l:List RC,(rcC l).length=5*l.length
 |[]=>rfl
 |c::r=>by simp only[rcC,fLo,List.length_append,List.length_cons,List.length_nil,fIh r];omega
theorem fKk: ∀l m:List RC,rcC (l++m)=rcC l++rcC m
 |[],_=>rfl
 |q::r,m=>by rw[List.cons_append,rcC,rcC,fKk r m,List.append_assoc]
theorem fLp: ∀l:List RC,dB (rcC l)=true
 |[]=>rfl
 |_::r=>fLp r
theorem fIr: ∀(l:List RC) (k:Nat),(rcC l).drop (5*k)=rcC (l.drop k)
 |l,0=>rfl
 |[],k+1=>by simp[rcC]
 |c::r,k+1=>by
  rw[rcC,Nat.mul_succ,Nat.add_comm,←List.drop_drop]
  show List.drop (5*k) (rcC r)=_
  rw[fIr r k];rfl
theorem fIs: ∀(l:List QN) (k:Nat),(qsC l).drop (3*k)=qsC (l.drop k)
 |l,0=>rfl
 |[],k+1=>by simp[qsC]
 |c::r,k+1=>by
  rw[qsC,Nat.mul_succ,Nat.add_comm,←List.drop_drop]
  show List.drop (3*k) (qsC r)=_
  rw[fIs r k];rfl
def unQ:List AV→Option (List QN)
 |[]=>some []
 | .sl n xs::.w16 t::.w16 c::r=>aK (unS xs) fun ps=>aN (ps.length=n) (aK (unQ r) fun l=>some (⟨ps,t,c⟩::l))
 |_=>none
theorem fNb: ∀l:List QN,unQ (qsC l)=some l
 |[]=>rfl
 |q::r=>by
  show aK (unS (cS q.n)) (fun ps=>aN (ps.length=q.n.length) (aK (unQ (qsC r)) fun l=>some (⟨ps,q.t,q.c⟩::l)))=_
  rw[aQr,aX,fNb r];simp[aN,aK]
theorem fMm: ∀ {xs:List AV} {l:List QN},unQ xs=some l→xs=qsC l:=by
 intro xs
 induction xs using unQ.induct with
 |case1=>intro l h;cases h;rfl
 |case2 n xs t c r ih=>
  intro l h
  rw[unQ]at h
  replace h:=aJ h;obtain⟨ps,hp,h⟩:=h
  replace h:=aP h;obtain⟨rfl,h⟩:=h
  replace h:=aJ h;obtain⟨l2,hl,h⟩:=h
  obtain rfl:=J0 h
  have:=gT hp;subst this
  rw[ih hl];rfl
 |case3 xs h1 h2=>intro l h;rw[unQ]at h;cases h;exact h1;exact h2
def unR:List AV→Option (List RC)
 |[]=>some []
 | .sl n xs::.w16 t::.w16 c::.w32 u::.sl m ys::r=>aK (unS xs) fun ps=>aK (fHq ys) fun d=>aN (ps.length=n∧d.length=m) (aK (unR r) fun l=>some (⟨ps,t,c,u,d⟩::l))
 |_=>none
theorem fNa: ∀l:List RC,unR (rcC l)=some l
 |[]=>rfl
 |q::r=>by
  show aK (unS (cS q.nm)) (fun ps=>aK (fHq (c8 q.d)) fun d=>aN (ps.length=q.nm.length∧d.length=q.d.length) (aK (unR (rcC r)) fun l=>some (⟨ps,q.ty,q.cl,q.ttl,d⟩::l)))=_
  rw[aQr,aX,iA,aX,fNa r];simp[aN,aK]
theorem fJl: ∀ {xs:List AV} {l:List RC},unR xs=some l→xs=rcC l:=by
 intro xs
 induction xs using unR.induct with
 |case1=>intro l h;cases h;rfl
 |case2 n xs t c u m ys r ih=>
  intro l h
  rw[unR]at h
  replace h:=aJ h;obtain⟨ps,hp,h⟩:=h
  replace h:=aJ h;obtain⟨d,hd,h⟩:=h
  replace h:=aP h;obtain⟨⟨rfl,rfl⟩,h⟩:=h
  replace h:=aJ h;obtain⟨l2,hl,h⟩:=h
  obtain rfl:=J0 h
  have:=gT hp;subst this
  have:=bW hd;subst this
  rw[ih hl];rfl
 |case3 xs h1 h2=>intro l h;rw[unR]at h;cases h;exact h1;exact h2
structure MD where
 id:BitVec 16
 rp:Bool
 op:Int
 aa:Bool
 tc:Bool
 rd:Bool
 ra:Bool
 rc:Int
 qs:List QN
 an:List RC
 au:List RC
 ad:List RC
 ed:Bool
 sz:BitVec 16
 dn:Bool
def mdA (M:MD):List AV:=[.w16 M.id,.b M.rp,.i M.op,.b M.aa,.b M.tc,.b M.rd,.b M.ra,.i M.rc,.sl M.qs.length (qsC M.qs),.sl M.an.length (rcC M.an),.sl M.au.length (rcC M.au),.sl M.ad.length (rcC M.ad),.b M.ed,.w16 M.sz,.b M.dn]
def fJd:List AV→Option MD
 |[.w16 id,.b rp,.i op,.b aa,.b tc,.b rd,.b ra,.i rc,.sl n1 x1,.sl n2 x2,.sl n3 x3,.sl n4 x4,.b ed,.w16 sz,.b dn]=>
  aK (unQ x1) fun qs=>aK (unR x2) fun an=>aK (unR x3) fun au=>aK (unR x4) fun ad=>aN (qs.length=n1∧an.length=n2∧au.length=n3∧ad.length=n4)
   (some ⟨id,rp,op,aa,tc,rd,ra,rc,qs,an,au,ad,ed,sz,dn⟩)
 |_=>none
theorem fLx (M:MD):fJd (mdA M)=some M:=by
 obtain⟨id,rp,op,aa,tc,rd,ra,rc,qs,an,au,ad,ed,sz,dn⟩:=M
 simp only[mdA,fJd,fNb,fNa,aX,aN,and_self,if_true]
theorem fJz {xs:List AV} {M:MD} (h:fJd xs=some M):xs=mdA M:=by
 unfold fJd at h
 split at h
 ·replace h:=aJ h;obtain⟨qs,hq,h⟩:=h
  replace h:=aJ h;obtain⟨an,ha,h⟩:=h
  replace h:=aJ h;obtain⟨au,hu,h⟩:=h
  replace h:=aJ h;obtain⟨ad,hd,h⟩:=h
  replace h:=aP h;obtain⟨⟨rfl,rfl,rfl,rfl⟩,h⟩:=h
  obtain rfl:=J0 h
  rw[fMm hq,fJl ha,fJl hu,fJl hd];rfl
 cases h
def rcR (l:List RC):Prop:=l.length≤65535∧∀c∈l,okN c.nm∧c.d.length≤65535
structure RX (M:MD):Prop where
 op0:0≤M.op
 op1:M.op≤15
 rc0:0≤M.rc
 qn:M.qs.length≤65535
 qs: ∀q∈M.qs,okN q.n
 an:rcR M.an
 au:rcR M.au
 ad:rcR M.ad
def fIw (M:MD):Int:=if M.ed=true then 4095 else 15
def scC (L:List (List RC)):List AV:=L.map fun l=> .sl l.length (rcC l)
theorem fIm (L:List (List RC)):(scC L).length=L.length:=List.length_map _
theorem fJu (L:List (List RC)) (k:Nat) (h:k<L.length):((scC L).drop k).head? =some (.sl L[k].length (rcC L[k])):=by
 rw[List.head?_drop];simp[scC,List.getElem?_map,List.getElem?_eq_getElem h]
structure LCI where
 k:Nat
 c:Nat
open Classical in
noncomputable def fLn:List AV→Option AV
 |[.agg xs]=>aK (fJd xs) fun M=>if RX M then some (.b (decide (M.rc≤fIw M)))else none
 |_=>none
theorem fNl {xs:List AV} {M:MD} (h:fJd xs=some M) (h2:RX M):fLn [.agg xs]=some (.b (decide (M.rc≤fIw M))):=by
 show aK (fJd xs) _=_
 rw[h,aX,J4 h2]
set_option maxHeartbeats 4000000 in
theorem fNk:fHn Tryz.prog GLh 25 fLn:=by
 refine zK Tryz.func25 (aT rfl) ?_
 intro args r hg
 unfold fLn at hg
 split at hg
 ·rename_i xs
  replace hg:=aJ hg;obtain⟨M,hM,hg⟩:=hg
  have hR:RX M:=Classical.byContradiction fun hn=>by rw[J3 hn]at hg;cases hg
  rw[J4 hR]at hg
  obtain rfl:=J0 hg
  have:=fJz hM;subst this
  refine⟨J1 rfl,fun nx=>?_⟩
  obtain⟨o0,o1,r0,qn,hqs,han,hau,had⟩:=hR
  obtain⟨dd,hdd⟩: ∃x,decide (M.rc≤fIw M)=x:=⟨_,rfl⟩
  rw[hdd]
  have hdt:dd=true→M.rc≤fIw M:=fun h=>of_decide_eq_true (hdd.trans h)
  have hdf:dd=false→¬M.rc≤fIw M:=fun h=>of_decide_eq_false (hdd.trans h)
  obtain⟨lim,hlim⟩: ∃x:Int,fIw M=x:=⟨_,rfl⟩
  rw[hlim]at hdt hdf
  have hle:M.ed=true→lim=4095:=fun h=>by rw[←hlim,fIw,J4 h]
  have hlf:M.ed=false→lim=15:=fun h=>by rw[←hlim,fIw,J3 (by simp[h])]
  clear hg hM hdd hlim
  obtain⟨id,rp,op,aa,tc,rd,ra,rc,qs,an,au,ad,ed,sz,dn⟩:=M
  simp only at o0 o1 r0 qn hqs han hau had hdt hdf hle hlf⊢
  have hlb:15≤lim∧lim≤4095:=by
   cases ed with
   |true=>have:=hle rfl;omega
   |false=>have:=hlf rfl;omega
  refine aA rfl (aW [1] rfl rfl rfl fun K hK=>?_)
  simp(disch:=omega) only[Tryz.f25,go_sem,↓reduceIte,mdA]
  refine hK _ ?_
  refine aB ?_
  refine lW 1 nx 0 rfl (by simp(disch:=omega) only[aV,↓reduceIte];rfl) ?_
  refine yK (hp':=fun _=>none) (fun _ _ h=>by cases h) (aA rfl (aW [1,3] rfl rfl rfl fun K hK=>?_))
  simp(disch:=omega) only[Tryz.f25,go_sem,↓reduceIte]
  refine hK _ ?_
  refine aB (aA rfl (dWd (fun p:Unit=> {fr:=[(1,.rp [AV.w16 id,AV.b rp,AV.i op,AV.b aa,AV.b tc,AV.b rd,AV.b ra,AV.i rc,AV.sl qs.length (qsC qs),AV.sl an.length (rcC an),AV.sl au.length (rcC au),AV.sl ad.length (rcC ad),AV.b ed,AV.w16 sz,AV.b dn]),(3,.i lim)],hp:=fun _=>none,nx:=0,cx:=nx+100}) (fun p=>True) ?_ ?_))
  ·refine aA rfl (aW [11,1,3] rfl rfl rfl fun K hK=>?_)
   simp(disch:=omega) only[Tryz.f25,go_sem,↓reduceIte]
   refine hK _ ?_
   refine aB (cV (.tmp 11) rfl rfl rfl (fun h=>?_) (fun h=>?_))
   ·refine aI rfl (aW [1,3] rfl rfl rfl fun K hK=>?_)
    simp(disch:=omega) only[Tryz.f25,go_sem,↓reduceIte]
    refine hK _ ?_
    refine dWa (⟨(),trivial,bD ?_ rfl (by simp only;omega)⟩)
    simp only[hle h]
   refine aI rfl (aQ rfl (dWa (⟨(),trivial,bD ?_ rfl (by simp only;omega)⟩)))
   simp only[hlf h]
  rintro _ _ n0
  simp only at⊢
  have d1:decide (op<0)=false:=J6 (by omega)
  have d2:decide (15<op)=false:=J6 (by omega)
  have d3:decide (rc<0)=false:=J6 (by omega)
  have d5:decide ((65535:Int)<(qs.length:Int))=false:=J6 (by omega)
  rcases Bool.eq_false_or_eq_true dd with hd|hd
  ·have d4:decide (lim<rc)=false:=J6 (by have:=hdt hd;omega)
   refine aA rfl (aA rfl (aW [36,1] rfl rfl rfl fun K hK=>?_))
   simp(disch:=omega) only[Tryz.f25,go_sem,↓reduceIte,d1,d2,d3,d4,d5]
   refine hK _ ?_
   refine aB (cV (.tmp 36) rfl rfl rfl (fun h=>?_) (fun h=>?_))
   ·refine aI rfl ?_
    cases h
   refine aI rfl ?_
   clear h d1 d2 d3 d4 d5 hdf hdt hle hlf
   subst hd
   refine aQ rfl (aB (aA rfl (aA rfl (aW [1,38,39,40] rfl rfl rfl fun K hK=>?_))))
   simp(disch:=omega) only[Tryz.f25,go_sem,↓reduceIte]
   refine hK _ ?_
   refine aB (aR 0 rfl rfl (bR (fun p:LCI=> {fr:=[(1,.rp [AV.w16 id,AV.b rp,AV.i op,AV.b aa,AV.b tc,AV.b rd,AV.b ra,AV.i rc,AV.sl qs.length (qsC qs),AV.sl an.length (rcC an),AV.sl au.length (rcC au),AV.sl ad.length (rcC ad),AV.b ed,AV.w16 sz,AV.b dn]),(38,.sl qs.length (qsC qs)),(39,.i qs.length),(40,.i p.k)],hp:=fun _=>none,nx:=0,cx:=p.c}) (fun p=>p.k≤qs.length) (fun p=>qs.length-p.k) rfl ⟨⟨0,_⟩,Nat.zero_le _,bD rfl rfl (U3 _)⟩ ?_))
   rintro⟨k,c⟩ hk n0
   simp only at hk⊢
   refine aA rfl (aW [41,1,38,39,40] rfl rfl rfl fun K hK=>?_)
   simp(disch:=omega) only[Tryz.f25,go_sem,↓reduceIte]
   refine hK _ ?_
   refine aB (aA rfl (bA (.tmp 41) rfl rfl rfl (fun h=>?_) (fun h=>?_)))
   ·refine aI rfl ?_
    have hkl:k<qs.length:=by omega
    have hcl:=fIi qs
    obtain⟨q,hq⟩: ∃q,qs[k]=q:=⟨_,rfl⟩
    have hdr:(qsC qs).drop (3*k)=[.sl q.n.length (cS q.n),.w16 q.t,.w16 q.c]++qsC (qs.drop (k+1)):=by
     rw[fIs,List.drop_eq_getElem_cons hkl,hq];rfl
    have hdr2:(qsC qs).drop (k*3)=[.sl q.n.length (cS q.n),.w16 q.t,.w16 q.c]++qsC (qs.drop (k+1)):=by rw[Nat.mul_comm];exact hdr
    have hqm:=hqs q (hq▸List.getElem_mem hkl)
    clear h
    refine aQ rfl (aB (aA rfl (aR 1 rfl rfl (aA rfl (aW [1,5,38,39,40] rfl rfl rfl fun K hK=>?_)))))
    simp(disch:=omega) only[Tryz.f25,go_sem,↓reduceIte,hdr2,List.cons_append,List.nil_append]
    refine hK _ ?_
    refine aB ?_
    have hw:(if 255<wl q.n then(31:Int)else 0)=0:=J3 (by have:=hqm.2;omega)
    have hL:(∀l∈q.n,gZ l)=True:=eq_true hqm.1
    have hln:=eYr hqm
    refine aA rfl (aC (Γ:=bC [(45,.pure true eTn)]) [47,1,38,39,40] (aH fFg aO) rfl rfl rfl (fun K hK=>?_))
    simp(disch:=omega) only[Tryz.f25,go_sem,↓reduceIte,hw,hL]
    refine hK _ ?_
    refine aB (cV (.tmp 47) rfl rfl rfl (fun h=>?_) (fun h=>?_))
    ·refine aI rfl ?_
     cases h
    refine aI rfl ?_
    clear h
    refine aQ rfl (bU (aB (aW [1,38,39,40] rfl rfl rfl fun K hK=>?_)))
    simp(disch:=omega) only[Tryz.f25,go_sem,↓reduceIte]
    refine hK _ ?_
    refine bT ?_
    refine⟨⟨k+1,_⟩,by simp only;omega,by simp only;omega,⟨fun _=> .inr ?_,fun j o hj=>(by cases hj),U3 _⟩⟩
    simp only[Int.natCast_add,Int.natCast_one]
   refine aI rfl ?_
   clear h
   refine bF 0 rfl rfl (aY (aZ (bE (aB (aA rfl (aA rfl (aW [55,56,57] rfl rfl rfl fun K hK=>?_)))))))
   simp(disch:=omega) only[Tryz.f25,go_sem,↓reduceIte]
   refine hK _ ?_
   refine aB ?_
   obtain⟨L,hLL⟩: ∃L,[an,au,ad]=L:=⟨_,rfl⟩
   have hsc:[AV.sl an.length (rcC an),AV.sl au.length (rcC au),AV.sl ad.length (rcC ad)]=scC L:=by rw[←hLL];rfl
   have hLr: ∀l∈L,rcR l:=by rw[←hLL];intro l hl;simp at hl;rcases hl with rfl|rfl|rfl<;>assumption
   have hL3:L.length=3:=by rw[←hLL];rfl
   rw[hsc]
   refine pS 55 (c+1+6) 0 3 1 rfl (by simp(disch:=omega) only[aV,↓reduceIte];rfl) (by rw[fIm,hL3];decide) ?_
   rw[J9,List.take_of_length_le (by rw[fIm,hL3];decide)]
   refine yK (hp':=fun _=>none) (fun _ _ h=>by cases h) (fPg [55,56,57] ?_)
   simp only[iB,fU,eW,↓reduceIte,Nat.reduceEqDiff]
   clear hsc hLL hqs qn
   refine aR 2 rfl rfl (bR (fun p:LCI=> {fr:=[(55,.sl 3 (scC L)),(56,.i (3:Nat)),(57,.i p.k)],hp:=fun _=>none,nx:=0,cx:=p.c}) (fun p=>p.k≤3) (fun p=>3-p.k) rfl ⟨⟨0,_⟩,Nat.zero_le _,bD rfl rfl (U3 _)⟩ ?_)
   rintro⟨k2,c2⟩ hk2 n0
   simp only at hk2⊢
   refine aA rfl (aW [58,55,56,57] rfl rfl rfl fun K hK=>?_)
   simp(disch:=omega) only[Tryz.f25,go_sem,↓reduceIte]
   refine hK _ ?_
   refine aB (aA rfl (bA (.tmp 58) rfl rfl rfl (fun h=>?_) (fun h=>?_)))
   ·refine aI rfl ?_
    have hk3:k2<L.length:=by omega
    have hd2:=fJu L k2 hk3
    obtain⟨l,hl⟩: ∃l,L[k2]=l:=⟨_,rfl⟩
    rw[hl]at hd2
    obtain⟨hln,hlr⟩:=hLr l (hl▸List.getElem_mem hk3)
    clear h hl
    refine aQ rfl (aB (aA rfl (aR 3 rfl rfl (aA rfl (aW [7,55,56,57] rfl rfl rfl fun K hK=>?_)))))
    simp(disch:=omega) only[Tryz.f25,go_sem,↓reduceIte,hd2]
    refine hK _ ?_
    refine aB (aA rfl (aA rfl (aW [63,7,55,56,57] rfl rfl rfl fun K hK=>?_)))
    simp(disch:=omega) only[Tryz.f25,go_sem,↓reduceIte]
    refine hK _ ?_
    refine aB (bA (.tmp 63) rfl rfl rfl (fun h=>?_) (fun h=>?_))
    ·refine aI rfl ?_
     omega
    refine aI rfl ?_
    clear h
    refine aQ rfl (aB (aA rfl (aW [55,56,57,64,65,66] rfl rfl rfl fun K hK=>?_)))
    simp(disch:=omega) only[Tryz.f25,go_sem,↓reduceIte]
    refine hK _ ?_
    refine aB (aR 4 rfl rfl (bR (fun p:LCI=> {fr:=[(55,.sl 3 (scC L)),(56,.i (3:Nat)),(57,.i k2),(64,.sl l.length (rcC l)),(65,.i l.length),(66,.i p.k)],hp:=fun _=>none,nx:=0,cx:=p.c}) (fun p=>p.k≤l.length) (fun p=>l.length-p.k) rfl ⟨⟨0,_⟩,Nat.zero_le _,bD rfl rfl (U3 _)⟩ ?_))
    rintro⟨k3,c3⟩ hk3 n0
    simp only at hk3⊢
    refine aA rfl (aW [67,55,56,57,64,65,66] rfl rfl rfl fun K hK=>?_)
    simp(disch:=omega) only[Tryz.f25,go_sem,↓reduceIte]
    refine hK _ ?_
    refine aB (aA rfl (bA (.tmp 67) rfl rfl rfl (fun h=>?_) (fun h=>?_)))
    ·refine aI rfl ?_
     have hkl:k3<l.length:=by omega
     have hcl:=fIh l
     obtain⟨q,hq⟩: ∃q,l[k3]=q:=⟨_,rfl⟩
     have hdr:(rcC l).drop (5*k3)=[.sl q.nm.length (cS q.nm),.w16 q.ty,.w16 q.cl,.w32 q.ttl,.sl q.d.length (c8 q.d)]++rcC (l.drop (k3+1)):=by
      rw[fIr,List.drop_eq_getElem_cons hkl,hq];rfl
     have hdr2:(rcC l).drop (k3*5)=[.sl q.nm.length (cS q.nm),.w16 q.ty,.w16 q.cl,.w32 q.ttl,.sl q.d.length (c8 q.d)]++rcC (l.drop (k3+1)):=by rw[Nat.mul_comm];exact hdr
     obtain⟨hqm,hqd⟩:=hlr q (hq▸List.getElem_mem hkl)
     clear h
     refine aQ rfl (aB (aA rfl (aR 5 rfl rfl (aA rfl (aW [9,55,56,57,64,65,66] rfl rfl rfl fun K hK=>?_)))))
     simp(disch:=omega) only[Tryz.f25,go_sem,↓reduceIte,hdr2,List.cons_append,List.nil_append]
     refine hK _ ?_
     refine aB ?_
     have hw:(if 255<wl q.nm then(31:Int)else 0)=0:=J3 (by have:=hqm.2;omega)
     have hL:(∀l∈q.nm,gZ l)=True:=eq_true hqm.1
     have hln:=eYr hqm
     have hdd:decide ((65535:Int)<(q.d.length:Int))=false:=J6 (by omega)
     refine aA rfl (aC (Γ:=bC [(45,.pure true eTn)]) [79,55,56,57,64,65,66] (aH fFg aO) rfl rfl rfl (fun K hK=>?_))
     simp(disch:=omega) only[Tryz.f25,go_sem,↓reduceIte,hw,hL,hdd]
     refine hK _ ?_
     refine aB (cV (.tmp 79) rfl rfl rfl (fun h=>?_) (fun h=>?_))
     ·refine aI rfl ?_
      cases h
     refine aI rfl ?_
     clear h
     refine aQ rfl (bU (aB (aW [55,56,57,64,65,66] rfl rfl rfl fun K hK=>?_)))
     simp(disch:=omega) only[Tryz.f25,go_sem,↓reduceIte]
     refine hK _ ?_
     refine bT ?_
     refine⟨⟨k3+1,_⟩,by simp only;omega,by simp only;omega,⟨fun _=> .inr ?_,fun j o hj=>(by cases hj),U3 _⟩⟩
     simp only[Int.natCast_add,Int.natCast_one]
    refine aI rfl ?_
    clear h
    refine bF 4 rfl rfl (aY (aZ (bE (bU (aB (aW [55,56,57] rfl rfl rfl fun K hK=>?_))))))
    simp(disch:=omega) only[Tryz.f25,go_sem,↓reduceIte]
    refine hK _ ?_
    refine bT ?_
    refine⟨⟨k2+1,_⟩,by simp only;omega,by simp only;omega,⟨fun _=> .inr ?_,fun j o hj=>(by cases hj),U3 _⟩⟩
    simp only[Int.natCast_add,Int.natCast_one]
   refine aI rfl ?_
   clear h
   refine bF 2 rfl rfl (aY (aZ (bE (aB (aA rfl (aW [2] rfl rfl rfl fun K hK=>?_))))))
   simp(disch:=omega) only[Tryz.f25,go_sem,↓reduceIte]
   refine hK _ ?_
   refine aB (aS rfl ?_)
   simp(disch:=omega) only[fHo,bV,bK,bQ,Tryz.f25,go_sem,↓reduceIte]
  have d4:decide (lim<rc)=true:=J5 (by have:=hdf hd;omega)
  refine aA rfl (aA rfl (aW [36,1] rfl rfl rfl fun K hK=>?_))
  simp(disch:=omega) only[Tryz.f25,go_sem,↓reduceIte,d1,d2,d3,d4]
  refine hK _ ?_
  refine aB (cV (.tmp 36) rfl rfl rfl (fun h=>?_) (fun h=>?_))
  ·refine aI rfl (aA rfl (aW [2] rfl rfl rfl fun K hK=>?_))
   simp(disch:=omega) only[Tryz.f25,go_sem,↓reduceIte]
   refine hK _ ?_
   refine aB (aS rfl (bI ?_))
   simp(disch:=omega) only[fHo,bV,bK,bQ,Tryz.f25,go_sem,↓reduceIte]
   rw[hd]
  refine aI rfl ?_
  cases h
 cases hg
theorem fOq:bX Tryz.prog GLh 25 (.pure true fLn):=⟨⟨_,Tryz.func25,rfl,rfl⟩,fNk⟩
end Go.AX

namespace Go.AX
open Go Go.Proofs
set_option maxRecDepth 8000
def fJp:List QN→List B8→WF→List B8×WF
 |[],b,F=>(b,F)
 |q::r,b,F=>fJp r ((wnS q.n b F).1++beL (BitVec.setWidth 32 q.t) 2 2++beL (BitVec.setWidth 32 q.c) 2 2) (wnS q.n b F).2.1
def fJa:List RC→List B8→WF→List B8×WF
 |[],b,F=>(b,F)
 |c::r,b,F=>fJa r (wrS c b F).1 (wrS c b F).2
def fKd:List (List RC)→List B8→WF→List B8×WF
 |[],b,F=>(b,F)
 |l::r,b,F=>fKd r (fJa l b F).1 (fJa l b F).2
def szQ (q:QN):Nat:=(eRs q.n).length+6
def szR (c:RC):Nat:=(eRs c.nm).length+12+c.d.length
def fIp (l:List QN):Nat:=(l.map szQ).sum
def fIl (l:List RC):Nat:=(l.map szR).sum
def fJm (L:List (List RC)):Nat:=(L.map fIl).sum
def fl1 (M:MD):W32:=((((if M.rp=true then 128#32 else 0#32)|||BitVec.ofInt 32 M.op <<<3|||if M.aa=true then 4#32 else 0#32)|||if M.tc=true then 2#32 else 0#32)|||if M.rd=true then 1#32 else 0#32)
def fl2 (M:MD):W32:=(if M.ra=true then 128#32 else 0#32)|||BitVec.ofInt 32 (cYz M.rc 15)
def hdB (M:MD):List B8:=beL (BitVec.setWidth 32 M.id) 2 2++beL (fl1 M) 1 1++beL (fl2 M) 1 1++beL (BitVec.ofInt 32 (M.qs.length:Int)) 2 2++beL (BitVec.ofInt 32 (M.an.length:Int)) 2 2++beL (BitVec.ofInt 32 (M.au.length:Int)) 2 2++beL (BitVec.ofInt 32 (M.ad.length:Int)+(if M.ed=true then 1#32 else 0#32)) 2 2
def fLd (M:MD):RC:=⟨[],41#16,M.sz,BitVec.ofInt 32 (M.rc.fdiv (2^min 4 64)) <<<24|||(if M.dn=true then 32768#32 else 0#32),[]⟩
def mbF (M:MD):List B8×WF:=fKd [M.an,M.au,M.ad] (fJp M.qs (hdB M) []).1 (fJp M.qs (hdB M) []).2
def mbS (M:MD):List B8:=if M.ed=true then(wrS (fLd M) (mbF M).1 (mbF M).2).1 else(mbF M).1
def RX2 (M:MD):Prop:=RX M∧fIp M.qs+fJm [M.an,M.au,M.ad]≤60000
theorem WS.upd {hp g:H} {n w q0 m q X:Nat} {o:AO} {b:List B8} {F:WF} (h:WS hp n w q0 m g q b F) (hX:n≤X) (hq:X≠q):WS hp n w q0 m (upd g X o) q b F:=by
 have:=h.wl;have:=h.ml
 refine⟨⟨⟨?_,?_,h.h.h.ne⟩,?_,h.h.n1,h.h.n2⟩,fun j o2 j1 j2 j3 j4 hj=>?_,h.hq,h.wl,h.ml⟩
 ·rw[bJ,J3 (by omega)];exact h.h.h.hw
 ·rw[bJ,J3 (by omega)];exact h.h.h.hq
 ·rw[bJ,J3 (by omega)];exact h.h.hm
 rw[bJ,J3 (by omega)];exact h.sub j o2 j1 j2 j3 j4 hj
theorem fKx (l:List QN) (k:Nat) (h:k<l.length):fIp (l.drop k)=szQ l[k]+fIp (l.drop (k+1)):=by
 rw[fIp,List.drop_eq_getElem_cons h,List.map_cons,List.sum_cons];rfl
theorem fKw (l:List RC) (k:Nat) (h:k<l.length):fIl (l.drop k)=szR l[k]+fIl (l.drop (k+1)):=by
 rw[fIl,List.drop_eq_getElem_cons h,List.map_cons,List.sum_cons];rfl
theorem fKv (l:List (List RC)) (k:Nat) (h:k<l.length):fJm (l.drop k)=fIl l[k]+fJm (l.drop (k+1)):=by
 rw[fJm,List.drop_eq_getElem_cons h,List.map_cons,List.sum_cons];rfl
theorem fKj (c:RC) (b:List B8) (F:WF):(wrS c b F).1.length≤b.length+szR c:=by
 have:=fJk c.nm b F
 simp only[wrS,List.length_append,cZ,szR];omega
structure YI where
 k:Nat
 g:H
 q:Nat
 b:List B8
 F:WF
 c:Nat
open Classical in
noncomputable def byG:List AV→Option AV
 |[.agg xs]=>aK (fJd xs) fun M=>if RX2 M then some (if M.rc≤fIw M then .tup [.sl (mbS M).length (c8 (mbS M)),.i 0]else .tup [.sl 0 [],.i 60])else none
 |_=>none
set_option maxHeartbeats 4000000 in
theorem fOy:fHn Tryz.prog GLh 11 byG:=by
 refine zK Tryz.func11 (aT rfl) ?_
 intro args r hg
 unfold byG at hg
 split at hg
 ·rename_i xs
  replace hg:=aJ hg;obtain⟨M,hM,hg⟩:=hg
  have hR:RX2 M:=Classical.byContradiction fun hn=>by rw[J3 hn]at hg;cases hg
  rw[J4 hR]at hg
  obtain rfl:=J0 hg
  have hrg:=fNl hM hR.1
  have:=fJz hM;subst this
  refine⟨J1 rfl,fun nx=>?_⟩
  obtain⟨⟨o0,o1,r0,qn,hqs,han,hau,had⟩,hsz⟩:=hR
  clear hg hM
  simp only[mdA]at hrg
  refine aA rfl (aW [1] rfl rfl rfl fun K hK=>?_)
  simp(disch:=omega) only[Tryz.f11,go_sem,↓reduceIte,mdA]
  refine hK _ ?_
  refine aB ?_
  refine lW 1 nx 0 rfl (by simp(disch:=omega) only[aV,↓reduceIte];rfl) ?_
  refine yK (hp':=fun _=>none) (fun _ _ h=>by cases h) (aA rfl (aA rfl (aC (Γ:=bC [(25,.pure true fLn)]) [13,1] (aH fOq aO) rfl rfl rfl (fun K hK=>?_))))
  simp(disch:=omega) only[Tryz.f11,go_sem,↓reduceIte,hrg]
  refine hK _ ?_
  refine aB ?_
  by_cases hlim:M.rc≤fIw M
  ·simp only[hlim,decide_true,Bool.not_true,if_true]
   refine cV (.tmp 13) rfl rfl rfl (fun h=>?_) (fun h=>?_)
   ·refine aI rfl ?_
    cases h
   refine aI rfl ?_
   clear h
   refine aQ rfl (aB (aA rfl (aW [1,4] rfl rfl rfl fun K hK=>?_)))
   simp(disch:=omega) only[Tryz.f11,go_sem,↓reduceIte]
   refine hK _ ?_
   refine aB ?_
   refine aDn (nx+3+3+2) 1 [] [AV.mp (nx+6)] true (by simp(disch:=omega) only[aV,↓reduceIte];rfl) (by omega) ?_
   simp only[List.nil_append]
   obtain⟨g0,hg0⟩: ∃y,upd (upd (upd (upd (fun _=>none) (nx+6) (AO.mapo [] true)) (nx+3+3+2) (AO.cells [AV.v (Value.slice none 0 0),AV.mp (nx+6)] true)) (nx+3+3+4) (AO.cells [] true)) (nx+3+3+2) (AO.cells [AV.os (nx+3+3+4) 0 0 1 true,AV.mp (nx+6)] true)=y:=⟨_,rfl⟩
   have h0:WS (fun _=>none) (nx+10) (nx+3+3+2) (nx+10) (nx+6) g0 (nx+10) [] []:=by
    refine⟨⟨⟨?_,?_,by omega⟩,?_,by omega,by omega⟩,fun _ _ _ _ _ _ h=>(by cases h),.inl rfl,by omega,by omega⟩
    ·rw[←hg0,bJ,J4 rfl];rfl
    ·rw[←hg0,bJ,J3 (by omega),bJ,J4 rfl];rfl
    rw[←hg0,bJ,J3 (by omega),bJ,J3 (by omega),bJ,J3 (by omega),bJ,J4 rfl];rfl
   rw[hg0]
   have hl0:([]:List B8).length≤0:=U3 _
   clear hg0
   refine aA rfl (aC (Γ:=bC [(26,.heap fHp)]) [1,4] (aH fHt aO) rfl rfl rfl (fun K hK=>?_))
   simp(disch:=omega) only[Tryz.f11,go_sem,↓reduceIte,yQ h0.h.h]
   refine hK _ ?_
   refine aB ?_
   simp only[fHr,Nat.mul_one]
   refine fHl h0 (by omega) fun g1 b1 eb1 h1=>?_
   have hl1:b1.length≤2:=by rw[eb1];simp only[cZ];omega
   refine aA rfl (bB (Γ:=bC [(27,.pure true bCu),(26,.heap fHp)]) (fun k=>if k=21 then 0 else 2) [1,4] bZ (aH fKn (aH fHt aO)) rfl rfl rfl (by kernel_rfl) (fun K hK=>?_))
   simp(disch:=omega) only[Tryz.f11,go_sem,↓reduceIte,yQ h1.h.h]
   refine hK _ ?_
   refine aB ?_
   simp only[fHr]
   refine fHl h1 (by omega) fun g2 b2 eb2 h2=>?_
   have hl2:b2.length≤4:=by rw[eb2];simp only[List.length_append,cZ];omega
   refine aA rfl (bB (Γ:=bC [(27,.pure true bCu),(26,.heap fHp)]) (fun k=>if k=9 then 0 else 2) [1,4] bZ (aH fKn (aH fHt aO)) rfl rfl rfl (by kernel_rfl) (fun K hK=>?_))
   simp(disch:=omega) only[Tryz.f11,go_sem,↓reduceIte,yQ h2.h.h]
   refine hK _ ?_
   refine aB ?_
   simp only[fHr]
   refine fHl h2 (by omega) fun g3 b3 eb3 h3=>?_
   have hl3:b3.length≤6:=by rw[eb3];simp only[List.length_append,cZ];omega
   refine aA rfl (aC (Γ:=bC [(26,.heap fHp)]) [1,4] (aH fHt aO) rfl rfl rfl (fun K hK=>?_))
   simp(disch:=omega) only[Tryz.f11,go_sem,↓reduceIte,yQ h3.h.h]
   refine hK _ ?_
   refine aB ?_
   simp only[fHr,Nat.mul_one]
   refine fHl h3 (by omega) fun g4 b4 eb4 h4=>?_
   have hl4:b4.length≤8:=by rw[eb4];simp only[List.length_append,cZ];omega
   refine aA rfl (aC (Γ:=bC [(26,.heap fHp)]) [1,4] (aH fHt aO) rfl rfl rfl (fun K hK=>?_))
   simp(disch:=omega) only[Tryz.f11,go_sem,↓reduceIte,yQ h4.h.h]
   refine hK _ ?_
   refine aB ?_
   simp only[fHr,Nat.mul_one]
   refine fHl h4 (by omega) fun g5 b5 eb5 h5=>?_
   have hl5:b5.length≤10:=by rw[eb5];simp only[List.length_append,cZ];omega
   refine aA rfl (aC (Γ:=bC [(26,.heap fHp)]) [1,4] (aH fHt aO) rfl rfl rfl (fun K hK=>?_))
   simp(disch:=omega) only[Tryz.f11,go_sem,↓reduceIte,yQ h5.h.h]
   refine hK _ ?_
   refine aB ?_
   simp only[fHr,Nat.mul_one]
   refine fHl h5 (by omega) fun g6 b6 eb6 h6=>?_
   have hl6:b6.length≤12:=by rw[eb6];simp only[List.length_append,cZ];omega
   refine aA rfl (bB (Γ:=bC [(27,.pure true bCu),(26,.heap fHp)]) (fun k=>if k=9 then 0 else 2) [1,4] bZ (aH fKn (aH fHt aO)) rfl rfl rfl (by kernel_rfl) (fun K hK=>?_))
   simp(disch:=omega) only[Tryz.f11,go_sem,↓reduceIte,yQ h6.h.h]
   refine hK _ ?_
   refine aB ?_
   simp only[fHr,Nat.mul_one]
   refine fHl h6 (by omega) fun g7 b7 eb7 h7=>?_
   have hl7:b7.length≤14:=by rw[eb7];simp only[List.length_append,cZ];omega
   have hhd:b7=hdB M:=by rw[eb7,eb6,eb5,eb4,eb3,eb2,eb1];rfl
   clear eb1 eb2 eb3 eb4 eb5 eb6 eb7 h0 h1 h2 h3 h4 h5 h6 hl0 hl1 hl2 hl3 hl4 hl5 hl6
   obtain⟨w,hw⟩: ∃w,nx+3+3+2=w:=⟨_,rfl⟩
   obtain⟨m,hm⟩: ∃m,nx+6=m:=⟨_,rfl⟩
   obtain⟨q0,hq0⟩: ∃m,nx+10=m:=⟨_,rfl⟩
   obtain⟨c7,hc7⟩: ∃c,nx+3+3+4+1+5+400+22+400+10+400+6+400+6+400+6+400+10+400=c:=⟨_,rfl⟩
   obtain⟨q7,hq7⟩: ∃c,nx+3+3+4+1+5+400+22+400+10+400+6+400+6+400+6+400+10+17+21=c:=⟨_,rfl⟩
   have hqc:q7<c7∧q0≤c7:=by omega
   rw[hq7,hw,hq0,hm]at h7
   rw[hc7,hw]
   refine aA rfl (aA rfl (aW [1,4,83,84,85] rfl rfl rfl fun K hK=>?_))
   simp(disch:=omega) only[Tryz.f11,go_sem,↓reduceIte]
   refine hK _ ?_
   refine aB (aR 0 rfl rfl ?_)
   refine bR (fun p:YI=> {fr:=[(1,.rp (mdA M)),(4,.op w 0),(83,.sl M.qs.length (qsC M.qs)),(84,.i M.qs.length),(85,.i p.k)],hp:=p.g,nx:=0,cx:=p.c}) (fun p=>p.k≤M.qs.length∧fJp (M.qs.drop p.k) p.b p.F=fJp M.qs b7 []∧WS (fun _=>none) q0 w q0 m p.g p.q p.b p.F∧p.q<p.c∧q0≤p.c∧p.b.length+fIp (M.qs.drop p.k)≤14+fIp M.qs) (fun p=>M.qs.length-p.k) rfl ⟨⟨0,g7,q7,b7,[],_⟩,⟨Nat.zero_le _,rfl,h7,by simp only;omega,by simp only;omega,by simp only[J9];omega⟩,bD rfl rfl (U3 _)⟩ ?_
   rintro⟨k,g,q,b,F,c⟩ ⟨hk,hS,hW,hqc1,hcq,hlen⟩ n0
   simp only at hk hS hW hqc1 hcq hlen⊢
   refine aA rfl (aW [86,1,4,83,84,85] rfl rfl rfl fun K hK=>?_)
   simp(disch:=omega) only[Tryz.f11,go_sem,↓reduceIte]
   refine hK _ ?_
   refine aB (aA rfl (bA (.tmp 86) rfl rfl rfl (fun h=>?_) (fun h=>?_)))
   ·refine aI rfl ?_
    have hkl:k<M.qs.length:=by omega
    have hcl:=fIi M.qs
    obtain⟨u,hu⟩: ∃u,M.qs[k]=u:=⟨_,rfl⟩
    have hdr:(qsC M.qs).drop (3*k)=[.sl u.n.length (cS u.n),.w16 u.t,.w16 u.c]++qsC (M.qs.drop (k+1)):=by
     rw[fIs,List.drop_eq_getElem_cons hkl,hu];rfl
    have hdr2:(qsC M.qs).drop (k*3)=[.sl u.n.length (cS u.n),.w16 u.t,.w16 u.c]++qsC (M.qs.drop (k+1)):=by rw[Nat.mul_comm];exact hdr
    have hqm:=hqs u (hu▸List.getElem_mem hkl)
    have hln:=eYr hqm
    have hsu:=fKx M.qs k hkl
    rw[hu,szQ]at hsu
    have hS2:=hS
    rw[List.drop_eq_getElem_cons hkl,hu,fJp]at hS2
    clear h
    refine aQ rfl (aB (aA rfl (aR 1 rfl rfl (aA rfl (aW [1,4,6,83,84,85] rfl rfl rfl fun K hK=>?_)))))
    simp(disch:=omega) only[Tryz.f11,go_sem,↓reduceIte,hdr2,List.cons_append,List.nil_append]
    refine hK _ ?_
    refine aB (lW 6 (c+1+2) 0 rfl (by rw[bJ,J4 rfl]) ?_)
    obtain⟨g0,h0,hg0⟩: ∃y,WS (fun _=>none) q0 w q0 m y q b F∧upd (upd g (c+1+2) (AO.cells [AV.sl u.n.length (cS u.n),AV.w16 u.t,AV.w16 u.c] true)) (c+1+2) (AO.cells [AV.sl u.n.length (cS u.n),AV.w16 u.t,AV.w16 u.c] false)=y:=
     ⟨_,(hW.upd (by omega) (by omega)).upd (by omega) (by omega),rfl⟩
    rw[hg0]
    clear hg0
    refine aA rfl (aC (Γ:=bC [(28,.heap fIf)]) [1,4,6,83,84,85] (aH fLu aO) rfl rfl rfl (fun K hK=>?_))
    simp(disch:=omega) only[Tryz.f11,go_sem,↓reduceIte,fIa h0.h,J9]
    refine hK _ ?_
    refine aB (fIe h0 (Nat.le_trans (by omega) (fKe _ _ _)) fun g1 b1 F1 eb1 eF1 h1=>?_)
    have hwn:=fJk u.n b F
    rw[←eb1]at hwn
    refine aA rfl (aC (Γ:=bC [(26,.heap fHp)]) [1,4,6,83,84,85] (aH fHt aO) rfl rfl rfl (fun K hK=>?_))
    simp(disch:=omega) only[Tryz.f11,go_sem,↓reduceIte,yQ h1.h.h]
    refine hK _ ?_
    refine aB ?_
    simp only[fHr,Nat.mul_one]
    refine fHl h1 (by omega) fun g2 b2 eb2 h2=>?_
    have hl2:b2.length=b1.length+2:=by rw[eb2,List.length_append,cZ]
    refine aA rfl (aC (Γ:=bC [(26,.heap fHp)]) [1,4,83,84,85] (aH fHt aO) rfl rfl rfl (fun K hK=>?_))
    simp(disch:=omega) only[Tryz.f11,go_sem,↓reduceIte,yQ h2.h.h]
    refine hK _ ?_
    refine aB ?_
    simp only[fHr,Nat.mul_one]
    refine fHl h2 (by omega) fun g3 b3 eb3 h3=>?_
    have hl3:b3.length=b1.length+4:=by rw[eb3,List.length_append,cZ];omega
    have hb3:b3.length+fIp (M.qs.drop (k+1))≤14+fIp M.qs:=by omega
    refine aA rfl (aW [108,1,4,83,84,85] rfl rfl rfl fun K hK=>?_)
    simp(disch:=omega) only[Tryz.f11,go_sem,↓reduceIte,h3.h.h.hw]
    refine hK _ ?_
    refine aB (bA (.tmp 108) rfl rfl rfl (fun h=>?_) (fun h=>?_))
    ·refine aI rfl ?_
     omega
    refine aI rfl ?_
    clear h
    refine aQ rfl (bU (aB (aW [1,4,83,84,85] rfl rfl rfl fun K hK=>?_)))
    simp(disch:=omega) only[Tryz.f11,go_sem,↓reduceIte]
    refine hK _ ?_
    refine bT ?_
    refine⟨⟨k+1,g3,_,b3,F1,_⟩,⟨by simp only;omega,?_,h3,by simp only;omega,by simp only;omega,hb3⟩,by simp only;omega,bD ?_ rfl (U3 _)⟩
    ·simp only
     rw[←hS2,eb3,eb2,eb1,eF1]
    simp only[Int.natCast_add,Int.natCast_one]
   refine aI rfl ?_
   obtain rfl:k=M.qs.length:=by omega
   rw[List.drop_length]at hS hlen
   clear h
   refine bF 0 rfl rfl (aY (aZ (bE (aB (aA rfl (aA rfl (aW [1,4,116,117,118] rfl rfl rfl fun K hK=>?_)))))))
   simp(disch:=omega) only[Tryz.f11,go_sem,↓reduceIte,mdA]
   refine hK _ ?_
   refine aB ?_
   obtain⟨L,hLL⟩: ∃L,[M.an,M.au,M.ad]=L:=⟨_,rfl⟩
   have hsc:[AV.sl M.an.length (rcC M.an),AV.sl M.au.length (rcC M.au),AV.sl M.ad.length (rcC M.ad)]=scC L:=by rw[←hLL];rfl
   have hLr: ∀l∈L,rcR l:=by rw[←hLL];intro l hl;simp at hl;rcases hl with rfl|rfl|rfl<;>assumption
   have hL3:L.length=3:=by rw[←hLL];rfl
   rw[hsc]
   rw[hLL]at hsz
   refine pS 116 (c+1+6) 0 3 1 rfl (by rw[bJ,J4 rfl]) (by rw[fIm,hL3];decide) ?_
   rw[J9,List.take_of_length_le (by rw[fIm,hL3];decide)]
   obtain⟨g0,h0,hg0⟩: ∃y,WS (fun _=>none) q0 w q0 m y q b F∧upd (upd g (c+1+6) (AO.cells (scC L) true)) (c+1+6) (AO.cells (scC L) false)=y:=
    ⟨_,(hW.upd (by omega) (by omega)).upd (by omega) (by omega),rfl⟩
   rw[hg0]
   clear hg0 hsc hqs qn
   have hS9:fKd L b F=mbF M:=by rw[←hLL,mbF,←hhd,←hS,fJp]
   have hlen9:b.length+fJm L≤61000:=by rw[show fIp []=0 from rfl]at hlen;omega
   refine fPg [1,4,116,117,118] ?_
   simp only[iB,fU,eW,↓reduceIte,Nat.reduceEqDiff]
   refine aR 2 rfl rfl ?_
   refine bR (fun p:YI=> {fr:=[(1,.rp (mdA M)),(4,.op w 0),(116,.sl 3 (scC L)),(117,.i (3:Nat)),(118,.i p.k)],hp:=p.g,nx:=0,cx:=p.c}) (fun p=>p.k≤3∧fKd (L.drop p.k) p.b p.F=mbF M∧WS (fun _=>none) q0 w q0 m p.g p.q p.b p.F∧p.q<p.c∧q0≤p.c∧p.b.length+fJm (L.drop p.k)≤61000) (fun p=>3-p.k) rfl ⟨⟨0,g0,q,b,F,_⟩,⟨Nat.zero_le _,hS9,h0,by simp only;omega,by simp only;omega,hlen9⟩,bD rfl rfl (U3 _)⟩ ?_
   rintro⟨k2,g2,q2,b2,F2,c2⟩ ⟨hk2,hS2,hW2,hqc2,hcq2,hlen2⟩ n0
   simp only at hk2 hS2 hW2 hqc2 hcq2 hlen2⊢
   refine aA rfl (aW [119,1,4,116,117,118] rfl rfl rfl fun K hK=>?_)
   simp(disch:=omega) only[Tryz.f11,go_sem,↓reduceIte]
   refine hK _ ?_
   refine aB (aA rfl (bA (.tmp 119) rfl rfl rfl (fun h=>?_) (fun h=>?_)))
   ·refine aI rfl ?_
    have hk3:k2<L.length:=by omega
    have hd2:=fJu L k2 hk3
    obtain⟨l,hl⟩: ∃l,L[k2]=l:=⟨_,rfl⟩
    have hsu:=fKv L k2 hk3
    rw[hl]at hd2 hsu
    obtain⟨hln,hlr⟩:=hLr l (hl▸List.getElem_mem hk3)
    have hS3:=hS2
    rw[List.drop_eq_getElem_cons hk3,hl,fKd]at hS3
    clear h hl
    refine aQ rfl (aB (aA rfl (aR 3 rfl rfl (aA rfl (aW [1,4,8,116,117,118] rfl rfl rfl fun K hK=>?_)))))
    simp(disch:=omega) only[Tryz.f11,go_sem,↓reduceIte,hd2]
    refine hK _ ?_
    refine aB (aA rfl (aW [1,4,116,117,118,122,123,124] rfl rfl rfl fun K hK=>?_))
    simp(disch:=omega) only[Tryz.f11,go_sem,↓reduceIte]
    refine hK _ ?_
    refine aB (aR 4 rfl rfl ?_)
    refine bR (fun p:YI=> {fr:=[(1,.rp (mdA M)),(4,.op w 0),(116,.sl 3 (scC L)),(117,.i (3:Nat)),(118,.i k2),(122,.sl l.length (rcC l)),(123,.i l.length),(124,.i p.k)],hp:=p.g,nx:=0,cx:=p.c}) (fun p=>p.k≤l.length∧fJa (l.drop p.k) p.b p.F=fJa l b2 F2∧WS (fun _=>none) q0 w q0 m p.g p.q p.b p.F∧p.q<p.c∧q0≤p.c∧p.b.length+fIl (l.drop p.k)+fJm (L.drop (k2+1))≤61000) (fun p=>l.length-p.k) rfl ⟨⟨0,g2,q2,b2,F2,_⟩,⟨Nat.zero_le _,rfl,hW2,by simp only;omega,by simp only;omega,by simp only[J9];omega⟩,bD rfl rfl (U3 _)⟩ ?_
    rintro⟨k3,g3,q3,b3,F3,c3⟩ ⟨hk3,hS4,hW3,hqc3,hcq3,hlen3⟩ n0
    simp only at hk3 hS4 hW3 hqc3 hcq3 hlen3⊢
    refine aA rfl (aW [125,1,4,116,117,118,122,123,124] rfl rfl rfl fun K hK=>?_)
    simp(disch:=omega) only[Tryz.f11,go_sem,↓reduceIte]
    refine hK _ ?_
    refine aB (aA rfl (bA (.tmp 125) rfl rfl rfl (fun h=>?_) (fun h=>?_)))
    ·refine aI rfl ?_
     have hkl:k3<l.length:=by omega
     have hcl:=fIh l
     obtain⟨u,hu⟩: ∃u,l[k3]=u:=⟨_,rfl⟩
     have hdr:(rcC l).drop (5*k3)=[.sl u.nm.length (cS u.nm),.w16 u.ty,.w16 u.cl,.w32 u.ttl,.sl u.d.length (c8 u.d)]++rcC (l.drop (k3+1)):=by
      rw[fIr,List.drop_eq_getElem_cons hkl,hu];rfl
     have hdr2:(rcC l).drop (k3*5)=[.sl u.nm.length (cS u.nm),.w16 u.ty,.w16 u.cl,.w32 u.ttl,.sl u.d.length (c8 u.d)]++rcC (l.drop (k3+1)):=by rw[Nat.mul_comm];exact hdr
     obtain⟨hqm,hqd⟩:=hlr u (hu▸List.getElem_mem hkl)
     have hln2:=eYr hqm
     have hsu2:=fKw l k3 hkl
     rw[hu,szR]at hsu2
     have hS5:=hS4
     rw[List.drop_eq_getElem_cons hkl,hu,fJa]at hS5
     have hrec:=fMp u
     rw[fLo]at hrec
     clear h
     refine aQ rfl (aB (aA rfl (aR 5 rfl rfl (aA rfl (aW [1,4,10,116,117,118,122,123,124] rfl rfl rfl fun K hK=>?_)))))
     simp(disch:=omega) only[Tryz.f11,go_sem,↓reduceIte,hdr2,List.cons_append,List.nil_append]
     refine hK _ ?_
     refine aB (lW 10 (c3+1+2) 0 rfl (by rw[bJ,J4 rfl]) ?_)
     obtain⟨g4,h4,hg4⟩: ∃y,WS (fun _=>none) q0 w q0 m y q3 b3 F3∧upd (upd g3 (c3+1+2) (AO.cells [AV.sl u.nm.length (cS u.nm),AV.w16 u.ty,AV.w16 u.cl,AV.w32 u.ttl,AV.sl u.d.length (c8 u.d)] true)) (c3+1+2) (AO.cells [AV.sl u.nm.length (cS u.nm),AV.w16 u.ty,AV.w16 u.cl,AV.w32 u.ttl,AV.sl u.d.length (c8 u.d)] false)=y:=
      ⟨_,(hW3.upd (by omega) (by omega)).upd (by omega) (by omega),rfl⟩
     rw[hg4]
     clear hg4
     refine aA rfl (aC (Γ:=bC [(29,.heap fJf)]) [1,4,116,117,118,122,123,124] (aH fNg aO) rfl rfl rfl (fun K hK=>?_))
     simp(disch:=omega) only[Tryz.f11,go_sem,↓reduceIte,fIa h4.h,J9,hrec]
     refine hK _ ?_
     refine aB (fIe h4 (by omega) fun g5 b5 F5 eb5 eF5 h5=>?_)
     have hwn:=fKj u b3 F3
     rw[←eb5]at hwn
     simp only[szR]at hwn
     refine aA rfl (aW [136,1,4,116,117,118,122,123,124] rfl rfl rfl fun K hK=>?_)
     simp(disch:=omega) only[Tryz.f11,go_sem,↓reduceIte,h5.h.h.hw]
     refine hK _ ?_
     refine aB (bA (.tmp 136) rfl rfl rfl (fun h=>?_) (fun h=>?_))
     ·refine aI rfl ?_
      omega
     refine aI rfl ?_
     clear h
     refine aQ rfl (bU (aB (aW [1,4,116,117,118,122,123,124] rfl rfl rfl fun K hK=>?_)))
     simp(disch:=omega) only[Tryz.f11,go_sem,↓reduceIte]
     refine hK _ ?_
     refine bT ?_
     refine⟨⟨k3+1,g5,_,b5,F5,_⟩,⟨by simp only;omega,?_,h5,by simp only;omega,by simp only;omega,by simp only;omega⟩,by simp only;omega,bD ?_ rfl (U3 _)⟩
     ·simp only
      rw[←hS5,eb5,eF5]
     simp only[Int.natCast_add,Int.natCast_one]
    refine aI rfl ?_
    obtain rfl:k3=l.length:=by omega
    rw[List.drop_length]at hS4 hlen3
    clear h
    refine bF 4 rfl rfl (aY (aZ (bE (bU (aB (aW [1,4,116,117,118] rfl rfl rfl fun K hK=>?_))))))
    simp(disch:=omega) only[Tryz.f11,go_sem,↓reduceIte]
    refine hK _ ?_
    refine bT ?_
    refine⟨⟨k2+1,g3,q3,b3,F3,_⟩,⟨by simp only;omega,?_,hW3,by simp only;omega,by simp only;omega,by simp only;omega⟩,by simp only;omega,bD ?_ rfl (U3 _)⟩
    ·simp only
     rw[←hS3,←hS4,fJa]
    simp only[Int.natCast_add,Int.natCast_one]
   refine aI rfl ?_
   obtain rfl:k2=3:=by omega
   rw[List.drop_eq_nil_of_le (by omega),fKd]at hS2
   clear h
   refine bF 2 rfl rfl (aY (aZ (bE (aB ?_))))
   obtain⟨e1,e2⟩:b2=(mbF M).1∧F2=(mbF M).2:=by rw[←hS2];exact⟨rfl,rfl⟩
   have hlb:b2.length≤61000:=by omega
   refine aA rfl (aA rfl (aW [140,1,4] rfl rfl rfl fun K hK=>?_))
   simp(disch:=omega) only[Tryz.f11,go_sem,↓reduceIte,mdA]
   refine hK _ ?_
   refine aB ?_
   rcases Bool.eq_false_or_eq_true M.ed with hd|hd
   ·simp only[hd]
    refine cV (.tmp 140) rfl rfl rfl (fun h=>?_) (fun h=>?_)
    ·refine aI rfl ?_
     clear h
     have hrec:fIq [.v (.slice none 0 0),.w16 41#16,.w16 M.sz,.w32 (BitVec.ofInt 32 (M.rc.fdiv (2^min 4 64)) <<<24|||(if M.dn=true then 32768#32 else 0#32)),.v (.slice none 0 0)]=some (fLd M):=rfl
     have ho1:(fLd M).nm.length=0:=rfl
     have ho2:(eRs (fLd M).nm).length=0:=rfl
     have ho3:(fLd M).d.length=0:=rfl
     refine bB (Γ:=bC [(27,.pure true bCu),(29,.heap fJf)]) (fun k=>if k=13 then 0 else 2) [4] bZ (aH fKn (aH fNg aO)) rfl rfl rfl (by kernel_rfl) (fun K hK=>?_)
     simp(disch:=omega) only[Tryz.f11,go_sem,↓reduceIte,fIa hW2.h,hrec,ho1,ho2,ho3]
     refine hK _ ?_
     refine aB (fIe hW2 (by omega) fun g5 b5 F5 eb5 eF5 h5=>?_)
     have hwn:=fKj (fLd M) b2 F2
     rw[←eb5]at hwn
     simp only[szR,ho2,ho3]at hwn
     have hmb:mbS M=b5:=by rw[mbS,J4 hd,eb5,e1,e2]
     rw[hmb]
     refine aA rfl (aA rfl (aW [160,4] rfl rfl rfl fun K hK=>?_))
     simp(disch:=omega) only[Tryz.f11,go_sem,↓reduceIte,h5.h.h.hw]
     refine hK _ ?_
     refine aB (bA (.tmp 160) rfl rfl rfl (fun h=>?_) (fun h=>?_))
     ·refine aI rfl ?_
      omega
     refine aI rfl ?_
     clear h
     refine aQ rfl (aB (aA rfl (aW [2,3] rfl rfl rfl fun K hK=>?_)))
     simp(disch:=omega) only[Tryz.f11,go_sem,↓reduceIte,h5.h.h.hw]
     refine hK _ ?_
     refine aB (aS rfl ?_)
     simp(disch:=omega) only[fHo,bV,bK,bQ,Tryz.f11,go_sem,↓reduceIte,h5.h.h.hq]
    refine aI rfl ?_
    cases h
   simp only[hd]
   refine cV (.tmp 140) rfl rfl rfl (fun h=>?_) (fun h=>?_)
   ·refine aI rfl ?_
    cases h
   refine aI rfl ?_
   clear h
   have hmb:mbS M=b2:=by rw[mbS,J3 (by simp[hd]),e1]
   rw[hmb]
   refine aQ rfl (aB (aA rfl (aA rfl (aW [160,4] rfl rfl rfl fun K hK=>?_))))
   simp(disch:=omega) only[Tryz.f11,go_sem,↓reduceIte,hW2.h.h.hw]
   refine hK _ ?_
   refine aB (bA (.tmp 160) rfl rfl rfl (fun h=>?_) (fun h=>?_))
   ·refine aI rfl ?_
    omega
   refine aI rfl ?_
   clear h
   refine aQ rfl (aB (aA rfl (aW [2,3] rfl rfl rfl fun K hK=>?_)))
   simp(disch:=omega) only[Tryz.f11,go_sem,↓reduceIte,hW2.h.h.hw]
   refine hK _ ?_
   refine aB (aS rfl ?_)
   simp(disch:=omega) only[fHo,bV,bK,bQ,Tryz.f11,go_sem,↓reduceIte,hW2.h.h.hq]
  simp only[hlim,decide_false,Bool.not_false,if_false]
  refine cV (.tmp 13) rfl rfl rfl (fun h=>?_) (fun h=>?_)
  ·refine aI rfl (aA rfl (aW [2,3] rfl rfl rfl fun K hK=>?_))
   simp(disch:=omega) only[Tryz.f11,go_sem,↓reduceIte]
   refine hK _ ?_
   refine aB (aS rfl (bI ?_))
   simp(disch:=omega) only[fHo,bV,bK,bQ,Tryz.f11,go_sem,↓reduceIte]
  refine aI rfl ?_
  cases h
 cases hg
end Go.AX

namespace Go.AX
open Go Go.Proofs
set_option maxRecDepth 8000
def isM:Option AO→Bool
 |some (.cells (.w16 _::xs) true)=>decide (xs.length=14)
 |_=>false
theorem fMv {o:Option AO} (h:isM o=true): ∃xs,o=some (.cells xs true):=by
 unfold isM at h
 split at h
 ·exact⟨_,rfl⟩
 cases h
theorem fOs (x:BitVec 16) (xs:List AV):isM (some (.cells (.w16 x::xs) true))=decide (xs.length=14):=(rfl)
theorem fOt (x:List B8) (xs:List AV):isM (some (.cells (.s x::xs) true))=false:=(rfl)
theorem fNt (i a n e:Nat) (g:Bool) (xs:List AV):isM (some (.cells (.os i a n e g::xs) true))=false:=(rfl)
attribute [go_sem] fOs fOt fNt
def bUf (hp:H):H:=fun k=>if isM (hp k)=true then none else hp k
def fJn (hp:H):H:=fun k=>if isM (hp k)=true then hp k else(hp k).map eQs
theorem fHy (hp:H) (k:Nat):bUf hp k=if isM (hp k)=true then none else hp k:=rfl
theorem fKb (hp:H) (k:Nat):fJn hp k=if isM (hp k)=true then hp k else(hp k).map eQs:=rfl
theorem Inv.lendS {c:Ctx} {σ:Nat→Loc} {I:Nat→Prop} {w:World} {hp:H} {un:Nat→Prop} (h:Inv c σ I w hp un):
  ∃I1,Inv c σ I1 w (fJn hp) un∧(∀k,I k→I1 k)∧(∀id o blk base sz,bUf hp id=some o→σ id=.at_ blk base sz→I1 blk):=by
 have mY: ∀id o,bUf hp id=some o→hp id=some o∧isM (hp id)=false:=fun id o ho=>by
  rw[fHy]at ho
  split at ho
  ·cases ho
  ·rename_i e;exact⟨ho,by simpa using e⟩
 have hfrz: ∀id o,fJn hp id=some o→(hp id=some o∧isM (hp id)=true)∨(∃o',hp id=some o'∧o=eQs o'∧bUf hp id=some o'):=fun id o ho=>by
  rw[fKb]at ho
  split at ho
  ·rename_i e;exact .inl ⟨ho,e⟩
  ·rename_i e
   cases e2:hp id with
   |none=>rw[e2]at ho;cases ho
   |some o'=>
    rw[e2]at ho
    exact .inr ⟨o',rfl,(J0 ho).symm,by rw[fHy,J3 e,e2]⟩
 have hmt: ∀id o,hp id=some o→isM (hp id)=true→o.mt=true:=fun id o ho h15=>by
  obtain⟨xs,e⟩:=fMv h15
  rw[ho]at e;cases e;rfl
 refine⟨fun k=>I k∨∃id o base sz,bUf hp id=some o∧σ id=.at_ k base sz,?_,fun k hk=> .inl hk,fun id o blk base sz h1 h2=> .inr ⟨id,o,base,sz,h1,h2⟩⟩
 refine {h with imm:=fun k hk=> .inl (h.imm k hk),ilt:=fun k hk=>?_,own:=fun id o ho=>?_,inj:=fun id id' o o' blk base sz base' sz' ho hm ho' hne e1 e2=>?_,lim:=fun id o blk base sz ho hm e1=>?_,glob:=fun g xs hg=>(h.glob g xs hg).mono (fun _ _=>rfl) (fun k hk=> .inl hk) (fun _ _=>rfl),inew:=fun k hk=>?_}
 ·rcases hk with hk|⟨id,o,base,sz,h1,h2⟩
  ·exact h.ilt k hk
  ·exact(h.own id o (mY id o h1).1).lt h2
 ·rcases hfrz id o ho with⟨h1,h15⟩|⟨o',h1,rfl,h2⟩
  ·refine(h.own id o h1).mono (fun _ _=>rfl) (fun k hk=> .inl hk) (fun _ _=>rfl) fun blk base sz e1=>⟨rfl,fun hm hI=>?_⟩
   rintro(hk|⟨id2,o2,base2,sz2,g1,g2⟩)
   ·exact hI hk
   ·obtain⟨g3,g4⟩:=mY id2 o2 g1
    refine h.inj id id2 o o2 blk base sz base2 sz2 h1 hm g3 ?_ e1 g2
    intro e;subst e
    rw[h15]at g4;cases g4
  ·exact(h.own id o' h1).lend (fun k hk=> .inl hk) fun k base sz e=> .inr ⟨id,o',base,sz,h2,e⟩
 ·have key: ∀id o,fJn hp id=some o→∃o2,hp id=some o2:=fun id o ho=>by
   rcases hfrz id o ho with⟨h1,_⟩|⟨o',h1,_,_⟩
   ·exact⟨_,h1⟩
   ·exact⟨_,h1⟩
  rcases hfrz id o ho with⟨h1,h15⟩|⟨o2,h1,rfl,_⟩
  ·obtain⟨o2,h2⟩:=key id' o' ho'
   exact h.inj id id' o o2 blk base sz base' sz' h1 hm h2 hne e1 e2
  ·rw[eRv]at hm;cases hm
 ·rcases hfrz id o ho with⟨h1,h15⟩|⟨o2,h1,rfl,_⟩
  ·exact h.lim id o blk base sz h1 hm e1
  ·rw[eRv]at hm;cases hm
 ·rcases hk with hk|⟨id,o,base,sz,h1,h2⟩
  ·exact h.inew k hk
  ·obtain⟨h3,_⟩:=mY id o h1
   cases hm:o.mt with
   |true=>exact .inr (h.lim id o k base sz h3 hm h2)
   |false=>
    refine h.inew k ?_
    have:=h.own id o h3
    cases o with
    |cells xs mt=>
     simp only[hD,h2]at this
     exact this.2.2 hm
    |mapo es mt=>
     obtain⟨blk,a1,a2,a3,a4⟩:=this
     rw[h2]at a1;cases a1
     exact a4 hm
def fLr (g:List AV→Option AV):List AV→H→Nat→Option (AV×H×Nat):=fun args hp nx=>aK (gR (bUf hp) args) fun as_=>aK (g as_) fun r=>aN (r.ids=0) (some (r,fJn hp,nx))
theorem fKh {P:Program} {GL:Nat→Option (List AV)} {f:FuncId} {g:List AV→Option AV} (hok:fHn P GL f g):fHs P GL f (fLr g):=by
 intro c σ I w hp nx args vals r hp' nx' hGL hi hs hr hg
 unfold fLr at hg
 replace hg:=aJ hg;obtain⟨as_,has,hg⟩:=hg
 replace hg:=aJ hg;obtain⟨r',hr',hg⟩:=hg
 replace hg:=aP hg;obtain⟨hids,hg⟩:=hg
 simp only[Option.some.injEq,Prod.mk.injEq]at hg;obtain⟨rfl,rfl,rfl⟩:=hg
 refine⟨U3 _,?_⟩
 obtain⟨I1,b2,b1,b4⟩:=hi.lendS
 obtain⟨e1,e2⟩:=pR (Ib:=I1) (hi.sub (hp':=bUf hp) fun id o ho=>by
  rw[fHy]at ho
  split at ho
  ·cases ho
  exact ho) b1 b4 args (fun i=>vals.getD i undef) has hr
 subst hGL
 refine(hok σ I1 w nx as_ vals r' (fun id hid=>b2.un id hid) b2.ilt b2.glob (by rw[hs,e1]) e2 hr').mono ?_
 rintro e w' ⟨v,σ',I',rfl,a1,a2,a3,a4,a5,a6,a7,a8,a9⟩
 have hg1: ∀k,I1 k→(I1 k∨(w.heap.size≤k∧k<w'.heap.size)):=fun k hk=> .inl hk
 refine⟨v,σ,fun k=>I1 k∨(w.heap.size≤k∧k<w'.heap.size),rfl,b2.extend a1 a2 a3 a4 a5 _ hg1 (fun _ h=>h),?_,⟨fun _ _=>rfl,fun k hk=> .inl (b1 k hk),fun k hk=>a5 k (hi.ilt k hk)⟩,fun _ _ h=>h⟩
 have h9:Rel σ I' w' r' v:=a9.congr_ids fun id hid=>by omega
 exact h9.mono (fun _ _=>rfl) (fun k hk=>by
  rcases a7 k hk with h|h
  ·exact .inl h
  exact .inr ⟨h,a8 k hk⟩) (fun _ _=>rfl)
end Go.AX

namespace Go.AX
open Go Go.Proofs
set_option maxRecDepth 8000
def idV (b:List B8):AV:=if b.length<12 then .tup [.w16 0#16,.b false]else .tup [.w16 (((b.getD 0 0#8).setWidth 16 <<<8)|||(b.getD 1 0#8).setWidth 16),.b true]
def idG:List AV→Option AV
 |[.sl n xs]=>aK (fHq xs) fun b=>aN (b.length=n∧n≤1000000) (some (idV b))
 |_=>none
theorem fNx (n:Nat) (xs:List AV):idG [.sl n xs]=aK (fHq xs) fun b=>aN (b.length=n∧n≤1000000) (some (idV b)):=(rfl)
attribute [go_sem] fNx
set_option maxHeartbeats 1000000 in
theorem fOw:fHn Tryz.prog GLh 16 idG:=by
 refine zK Tryz.func16 (aT rfl) ?_
 intro args r hg
 unfold idG at hg
 split at hg
 ·rename_i n xs
  replace hg:=aJ hg;obtain⟨b,hl,hg⟩:=hg
  replace hg:=aP hg;obtain⟨⟨rfl,hn⟩,hg⟩:=hg
  obtain rfl:=J0 hg
  have:=bW hl;subst this
  refine⟨J1 rfl,fun nx=>?_⟩
  clear hg hl
  refine aA rfl (aW [0] rfl rfl rfl fun K hK=>?_)
  simp(disch:=omega) only[Tryz.f16,go_sem,↓reduceIte]
  refine hK _ ?_
  refine aB (aA rfl (aA rfl (aW [6,0] rfl rfl rfl fun K hK=>?_)))
  simp(disch:=omega) only[Tryz.f16,go_sem,↓reduceIte]
  refine hK _ ?_
  refine aB (bA (.tmp 6) rfl rfl rfl (fun h=>?_) (fun h=>?_))
  ·refine aI rfl ?_
   have e:idV b=.tup [.w16 0#16,.b false]:=J4 (by omega)
   rw[e]
   refine aA rfl (aW [2,3] rfl rfl rfl fun K hK=>?_)
   simp(disch:=omega) only[Tryz.f16,go_sem,↓reduceIte]
   refine hK _ ?_
   refine aB (aS rfl (bI ?_))
   simp(disch:=omega) only[fHo,bV,bK,bQ,Tryz.f16,go_sem,↓reduceIte]
  refine aI rfl ?_
  have e:idV b=.tup [.w16 (((b.getD 0 0#8).setWidth 16 <<<8)|||(b.getD 1 0#8).setWidth 16),.b true]:=J3 (by omega)
  rw[e]
  have hb:12≤b.length:=by omega
  have h0:=oC b 0 (by omega)
  have h1:=oC b 1 (by omega)
  rw[J9]at h0
  clear h
  refine aQ rfl (aB (aA rfl (bB (Γ:=aL) (fun _=>2) [2,3] bZ (aD _ _) rfl rfl rfl (by kernel_rfl) (fun K hK=>?_))))
  simp(disch:=omega) only[Tryz.f16,go_sem,↓reduceIte,h0]
  refine hK _ ?_
  refine aB (aS rfl ?_)
  simp(disch:=omega) only[fHo,bV,bK,bQ,Tryz.f16,go_sem,↓reduceIte]
 cases hg
theorem fOr:bX Tryz.prog GLh 16 (.pure true idG):=⟨⟨_,Tryz.func16,rfl,rfl⟩,fOw⟩
noncomputable def byH:List AV→H→Nat→Option (AV×H×Nat):=fLr byG
theorem fOf (args:List AV) (hp:H) (nx:Nat):byH args hp nx=aK (gR (bUf hp) args) fun as_=>aK (byG as_) fun r=>aN (r.ids=0) (some (r,fJn hp,nx)):=(rfl)
attribute [go_sem] fOf
theorem fLs:bX Tryz.prog GLh 11 (.heap byH):=⟨⟨_,Tryz.func11,rfl,rfl⟩,fKh fOy⟩
theorem fIx (hp:H) (k:Nat) (o:AO):fJn (upd hp k o)=upd (fJn hp) k (if isM (some o)=true then o else eQs o):=by
 funext j
 simp only[fKb,bJ]
 split
 ·split<;>rfl
 rfl
theorem fIy:fJn (fun _=>none)=fun _=>none:=rfl
theorem fOz {xs:List AV} {M:MD} (h:fJd xs=some M) (h2:RX2 M) (h3:M.rc≤fIw M):byG [.agg xs]=some (.tup [.sl (mbS M).length (c8 (mbS M)),.i 0]):=by
 show aK (fJd xs) _=_
 rw[h,aX,J4 h2,J4 h3]
def M0:MD:=⟨7#16,false,0,false,false,true,false,0,[⟨[[97#8]],1#16,1#16⟩],[],[],[],false,0#16,false⟩
def B0:List B8:=[0,7,1,0,0,1,0,0,0,0,0,0,1,97,0,0,1,0,1]
theorem M0_B:mbS M0=B0:=by decide
theorem M0_R:RX2 M0:=by
 refine⟨⟨by decide,by decide,by decide,by decide,fun q hq=>?_,⟨by decide,fun c hc=>by cases hc⟩,⟨by decide,fun c hc=>by cases hc⟩,⟨by decide,fun c hc=>by cases hc⟩⟩,by decide⟩
 have:q=⟨[[97#8]],1#16,1#16⟩:=by simpa [M0]using hq
 subst this
 decide
theorem fPb:byG [.agg (mdA M0)]=some (.tup [.sl 19 (c8 B0),.i 0]):=by
 rw[fOz (fLx M0) M0_R (by decide),M0_B];rfl
theorem fPa:mgR B0=some (msA B0 [⟨[[97#8]],1#16,1#16⟩],[.sl B0.length (c8 B0),.i 19]):=rfl
theorem B0_g:MGd B0:=.inr ⟨by decide,rfl,rfl,rfl⟩
theorem N0_g:MGd []:=.inl (by decide)
def eNl:List AV→Option AV
 |[]=>some (.b true)
 |_=>none
theorem eTd:eNl []=some (.b true):=(rfl)
attribute [go_sem] eTd
set_option maxHeartbeats 4000000 in
theorem eBb:fHn Tryz.prog GLh 6 eNl:=by
 refine zK Tryz.func6 (aT rfl) ?_
 intro args r hg
 unfold eNl at hg
 split at hg
 ·obtain rfl:=J0 hg
  refine⟨J1 rfl,fun nx=>?_⟩
  clear hg
  have hB:=fPb
  simp only[mdA,M0,qsC,rcC,List.length_nil,List.length_cons,cS,List.map_cons,List.map_nil,List.nil_append,List.cons_append,Nat.zero_add]at hB
  have hids:AV.ids (.tup [.sl 19 (c8 B0),.i 0])=0:=by decide
  refine aA rfl (aW [] rfl rfl rfl fun K hK=>?_)
  simp(disch:=omega) only[Tryz.f6,go_sem]
  refine hK _ ?_
  refine aB ?_
  have h97:ofV (Value.string {data:= #[97]})=.s [97#8]:=rfl
  refine aA rfl (aC (Γ:=bC [(11,.heap byH)]) [1,2] (aH fLs aO) rfl rfl rfl (fun K hK=>?_))
  simp(disch:=omega) only[Tryz.f6,go_sem,↓reduceIte,h97,fHy,hB,hids,fIx,fIy,fCz,U0,U1,J9,List.all_cons,List.all_nil,Option.isSome_some,Bool.and_self]
  refine hK _ ?_
  refine aB (yK (hp':=fun _=>none) (fun _ _ h=>by cases h) ?_)
  have e1:B0.length=19:=rfl
  have e2:MGd B0=True:=eq_true B0_g
  have e3:rwT (mgR B0)=.tup [.agg [.w16 7#16,.b false,.i 0,.b false,.b false,.b true,.b false,.i 0,.sl 1 (qsC [⟨[[97#8]],1#16,1#16⟩]),.sl 0 [],.sl 0 [],.sl 0 [],.b false,.w16 0#16,.b false],.i 0]:=by
   rw[fPa];rfl
  have e4:MGd []=True:=eq_true N0_g
  have e5:rwT (mgR [])=.tup [msZ,.i 60]:=rfl
  have e6:fHq []=some []:=rfl
  have e7:idV B0=.tup [.w16 7#16,.b true]:=rfl
  refine aA rfl (aC (Γ:=bC [(7,.pure false rwG)]) [1,2,3,4] (aH fOn aO) rfl rfl rfl (fun K hK=>?_))
  simp(disch:=omega) only[Tryz.f6,go_sem,↓reduceIte,e1,e2,e3]
  refine hK _ ?_
  refine aB (aA rfl (aC (Γ:=bC [(7,.pure false rwG)]) [1,2,3,4,6] (aH fOn aO) rfl rfl rfl (fun K hK=>?_)))
  simp(disch:=omega) only[Tryz.f6,go_sem,↓reduceIte,e4,e5,e6,msZ,List.length_nil,fV,dW]
  refine hK _ ?_
  refine aB (aA rfl (aC (Γ:=bC [(16,.pure true idG)]) [1,2,3,4,6,7,8] (aH fOr aO) rfl rfl rfl (fun K hK=>?_)))
  simp(disch:=omega) only[Tryz.f6,go_sem,↓reduceIte,e1,e7]
  refine hK _ ?_
  refine aB ?_
  have d19:decide (((19:Nat):Int)=19)=true:=rfl
  have d1:decide (((1:Nat):Int)=1)=true:=rfl
  refine aA rfl (aW [0] rfl rfl rfl fun K hK=>?_)
  simp(disch:=omega) only[Tryz.f6,go_sem,↓reduceIte,d19,d1,J8,J7,J9]
  refine hK _ ?_
  refine aB (aS rfl ?_)
  simp(disch:=omega) only[fHo,bV,bK,bQ,Tryz.f6,go_sem,↓reduceIte]
 cases hg
theorem okw5:bX Tryz.prog GLh 6 (.pure true eNl):=⟨⟨_,Tryz.func6,rfl,rfl⟩,eBb⟩
end Go.AX

namespace Go.AX
open Go Go.Proofs
set_option maxRecDepth 8000
def fPe (b:List B8) (s:NS) (a:Nat):Nat:=
 if b.length≤s.pl then s.en.getD a
 else if(b.getD s.pl 0#8).toNat=0 then s.en.getD a
 else if 192≤(b.getD s.pl 0#8).toNat then
  if b.length≤s.pl+1 then s.en.getD a else s.en.getD (s.pl+2)
 else s.en.getD a
def fPh (b:List B8) (a:Nat):Nat→NS→Nat
 |0,_=>a
 |f+1,s=>match fHj b s with
  | .no=>fPe b s a
  | .done _ e=>e
  | .go t=>fPh b a f t
def nI (b:List B8) (a:Nat):Nat:=fPh b a (nMu b (ns0 a)+1) (ns0 a)
end Go.AX

namespace Go.AX
open Go Go.Proofs
set_option maxRecDepth 8000
end Go.AX

namespace Go.AX
open Go Go.Proofs
set_option maxRecDepth 8000
end Go.AX

namespace Go.AX
open Go Go.Proofs
set_option maxRecDepth 8000
def eNi:List AV→Option AV
 |[.sl n xs,.sl m ys]=>aK (unS xs) fun p=>aK (unS ys) fun q=>aN (p.length=n∧q.length=m∧n≤9223372036854775807∧m≤9223372036854775807) (some (.b (decide (p=q))))
 |_=>none
theorem eSz (n m:Nat) (xs ys:List AV):eNi [.sl n xs,.sl m ys]=aK (unS xs) fun p=>aK (unS ys) fun q=>aN (p.length=n∧q.length=m∧n≤9223372036854775807∧m≤9223372036854775807) (some (.b (decide (p=q)))):=(rfl)
attribute [go_sem] eSz
theorem eQl {a b:Nm} {k:Nat} (ha:k<a.length) (hb:k<b.length) (h:a.take k=b.take k) (e:a.getD k []=b.getD k []):a.take (k+1)=b.take (k+1):=by
 rw[List.take_succ_eq_append_getElem ha,List.take_succ_eq_append_getElem hb,h]
 rw[List.getD_eq_getElem?_getD,List.getD_eq_getElem?_getD,List.getElem?_eq_getElem ha,List.getElem?_eq_getElem hb]at e
 simp only[Option.getD_some]at e
 rw[e]
set_option maxHeartbeats 4000000 in
theorem eVs:fHn Tryz.prog GLh 15 eNi:=by
 refine zK Tryz.func15 (aT rfl) ?_
 intro args r hg
 unfold eNi at hg
 split at hg
 ·rename_i n xs m ys
  replace hg:=aJ hg;obtain⟨a,ha,hg⟩:=hg
  replace hg:=aJ hg;obtain⟨b,hb,hg⟩:=hg
  replace hg:=aP hg;obtain⟨⟨rfl,rfl,hn,hm⟩,hg⟩:=hg
  obtain rfl:=J0 hg
  have:=gT ha;subst this
  have:=gT hb;subst this
  refine⟨J1 rfl,fun nx=>?_⟩
  clear ha hb hg
  refine aA rfl (aW [0,1] rfl rfl rfl fun K hK=>?_)
  simp(disch:=omega) only[Tryz.f15,go_sem,↓reduceIte]
  refine hK _ ?_
  refine aB (aA rfl (aA rfl (aW [10,0,1] rfl rfl rfl fun K hK=>?_)))
  simp(disch:=omega) only[Tryz.f15,go_sem,↓reduceIte]
  refine hK _ ?_
  refine aB (eGn (.tmp 10) rfl rfl rfl (fun h=>?_) (fun h=>?_))
  ·refine aI rfl ?_
   rw[J6 (fun q=>by rw[q]at h;exact h rfl)]
   refine aA rfl (aW [4] rfl rfl rfl fun K hK=>?_)
   simp(disch:=omega) only[Tryz.f15,go_sem,↓reduceIte]
   refine hK _ ?_
   refine aB (aS rfl (bI ?_))
   simp(disch:=omega) only[fHo,bV,bK,bQ,Tryz.f15,go_sem,↓reduceIte]
  refine aI rfl ?_
  have hab:a.length=b.length:=by omega
  refine aQ rfl (aB (aA rfl (aA rfl (aW [0,1,5] rfl rfl rfl fun K hK=>?_))))
  simp(disch:=omega) only[Tryz.f15,go_sem,↓reduceIte]
  refine hK _ ?_
  refine aB (aR 0 rfl rfl (bR (fun p:KC5=> {fr:=[(0,.sl a.length (cS a)),(1,.sl b.length (cS b)),(5,.i (p.k:Int))],hp:=fun _=>none,nx:=0,cx:=p.c}) (fun p=>p.k≤a.length∧a.take p.k=b.take p.k) (fun p=>a.length-p.k) rfl ⟨⟨0,_⟩,⟨Nat.zero_le _,rfl⟩,bD rfl rfl (U3 _)⟩ ?_))
  rintro⟨k,c⟩ ⟨hk,he⟩ n0
  simp only at hk he⊢
  refine aA rfl (aA rfl (aW [14,0,1,5] rfl rfl rfl fun K hK=>?_))
  simp(disch:=omega) only[Tryz.f15,go_sem,↓reduceIte]
  refine hK _ ?_
  refine aB (bA (.tmp 14) rfl rfl rfl (fun h=>?_) (fun h=>?_))
  ·refine aI rfl ?_
   have hka:k<a.length:=by omega
   have hkb:k<b.length:=by omega
   have hnx:=eQl hka hkb he
   obtain⟨x,hx⟩: ∃x,a.getD k []=x:=⟨_,rfl⟩
   obtain⟨y,hy⟩: ∃y,b.getD k []=y:=⟨_,rfl⟩
   rw[hx,hy]at hnx
   refine aQ rfl (aB (aA rfl (aR 1 rfl rfl (aA rfl (bB (Γ:=aL) (fun _=>2) [25,0,1,5] bZ (aD _ _) rfl rfl rfl (by kernel_rfl) (fun K hK=>?_))))))
   simp(disch:=omega) only[Tryz.f15,go_sem,↓reduceIte,hx,hy]
   refine hK _ ?_
   refine aB (eGn (.tmp 25) rfl rfl rfl (fun h=>?_) (fun h=>?_))
   ·refine aI rfl ?_
    rw[J6 (fun q=>h (by rw[←hx,←hy,q]))]
    refine aA rfl (aW [4] rfl rfl rfl fun K hK=>?_)
    simp(disch:=omega) only[Tryz.f15,go_sem,↓reduceIte]
    refine hK _ ?_
    refine aB (aS rfl (bN (bI (dF (bN (bI ?_))))))
    simp(disch:=omega) only[fHo,bV,bK,bQ,Tryz.f15,go_sem,↓reduceIte]
   refine aI rfl (aQ rfl (bU (aB (aW [0,1,5] rfl rfl rfl fun K hK=>?_))))
   simp(disch:=omega) only[Tryz.f15,go_sem,↓reduceIte]
   refine hK _ ?_
   refine bT ?_
   refine⟨⟨k+1,_⟩,⟨by simp only;omega,hnx (by first|exact h|exact Decidable.not_not.1 h)⟩,by simp only;omega,bD ?_ rfl (U3 _)⟩
   simp only[Int.natCast_add,Int.natCast_one]
  refine aI rfl (bF 0 rfl rfl (aY (aZ (bE (aB (aA rfl ?_))))))
  obtain rfl:k=a.length:=by omega
  rw[List.take_length,hab,List.take_length]at he
  rw[J5 he]
  refine aW [4] rfl rfl rfl fun K hK=>?_
  simp(disch:=omega) only[Tryz.f15,go_sem,↓reduceIte]
  refine hK _ ?_
  refine aB (aS rfl ?_)
  simp(disch:=omega) only[fHo,bV,bK,bQ,Tryz.f15,go_sem,↓reduceIte]
 cases hg
theorem fRj:bX Tryz.prog GLh 15 (.pure true eNi):=⟨⟨_,Tryz.func15,rfl,rfl⟩,eVs⟩
instance:DecidableEq QN:=fun a b=>if h:a.n=b.n∧a.t=b.t∧a.c=b.c then .isTrue (by cases a;cases b;simp at h;obtain⟨rfl,rfl,rfl⟩:=h;rfl)else .isFalse (fun e=>h (by subst e;exact⟨rfl,rfl,rfl⟩))
theorem ibt4:pE Tryz.prog 4=true:=by kernel_rfl
attribute [go_sem] ibt4
end Go.AX

namespace Go.AX
open Go Go.Proofs
set_option maxRecDepth 8000
def two (x y:B8):W32:=((((0#32 <<<8)|||x.setWidth 32) <<<8)|||y.setWidth 32)
def one (x:B8):W32:=(0#32 <<<8)|||x.setWidth 32
theorem o2: ∀x:B8,(!decide (one x&&&4#32=0#32))=decide (x.toNat/4%2=1):=by decide
theorem o1: ∀x:B8,(!decide (one x&&&2#32=0#32))=decide (x.toNat/2%2=1):=by decide
theorem o0: ∀x:B8,(!decide (one x&&&1#32=0#32))=decide (x.toNat%2=1):=by decide
end Go.AX

namespace Go.AX
open Go Go.Proofs
set_option maxRecDepth 20000
def NoR (b:List B8):Prop:=12≤b.length∧c16 b 6=0∧c16 b 8=0∧c16 b 10=0
instance (b:List B8):Decidable (NoR b):=by unfold NoR;infer_instance
theorem NoR.md {b:List B8} (h:NoR b):MGd b:=.inr h
end Go.AX

namespace Go.AX
open Go Go.Proofs
set_option maxRecDepth 20000
end Go.AX

namespace Go.AX
open Go Go.Proofs Go.RowKit Go.WideShapes Go.ChangeShapes
section
variable {H : Type} {enc : TypeId × Value → H} {P : Program}
theorem uC (hl:laidOutB P=true) {W W':World} {sp:Nat→Bool}: ∀ {ts:List TypeId} {vs:List Value} {ds:List (DataW H)} {ps:List MemPlace},(ts.all fun t=>P.readableRec t&&decide (t<P.types.size))=true→
  DataW.TrodAll enc P W 0 (fun _=>true) true ts vs ds ps→(∀p∈ps,W.sameAt W' p)→(∀p∈ps,sp p.block=true)→DataW.TrodAll enc P W' 0 sp true ts vs ds ps
 |[],[],[],_,_,h,_,_=>h
 |t::ts,v::vs,d::ds,ps,ha,h,hs,hp=>by
  obtain⟨p,q,h1,h2,e⟩:=h
  simp only[List.all_cons,Bool.and_eq_true,decide_eq_true_eq]at ha
  refine⟨p,q,WideElems.Trod_stays hl ha.1.1 ha.1.2 h1 (fun x hx=>hs x (by rw[e];exact List.mem_append_left _ hx)) (fun x hx=>hp x (by rw[e];exact List.mem_append_left _ hx)),?_,e⟩
  exact uC hl (by simpa using ha.2) h2 (fun x hx=>hs x (by rw[e];exact List.mem_append_right _ hx)) (fun x hx=>hp x (by rw[e];exact List.mem_append_right _ hx))
 |[],_::_,_,_,_,h,_,_=>h.elim
 |[],[],_::_,_,_,h,_,_=>h.elim
 |_::_,[],_,_,_,h,_,_=>h.elim
 |_::_,_::_,[],_,_,h,_,_=>h.elim
theorem aZq {f:Func} {s:ChangeSpec} {apart fresh handsOn again:Bool} {W W':World} {args:Array Value} {ds gs:List (DataW H)} {before:List MemPlace} {tb:TypeId}
  (hl:laidOutB P=true) (hro:(f.params.toList.all fun t=>P.readableRec t&&decide (t<P.types.size))=true) (hrt:f.resultTypes= #[tb]) (htb:P.underlying tb=some .bool) (hvs:s.vars=[])
  (hfn:s.fn H (ds++gs)= {results:=[.lit (.bool true)],args:=ds})
  (hW:DataW.Whole enc P f.params.toList s.vars apart W args.toList ds gs before) (hb:Below W.heap.size W W'):
  s.post enc P f apart fresh handsOn again W args (.bool true) W':=by
 have hlt: ∀p∈before,p.block<W.heap.size:=fun p hp=>hW.lt p hp
 have hW':=hW
 obtain⟨p,q,hA,hV,hpq,hz,hn⟩:=hW
 have hq:q=[]∧gs=[]:=by
  rw[hvs]at hV
  cases gs with
  |nil=>exact⟨hV,rfl⟩
  |cons g r=>exact hV.elim
 obtain⟨rfl,rfl⟩:=hq
 rw[List.append_nil]at hpq
 subst hpq
 have hargs: ∀sp:Nat→Bool,(∀p∈before,sp p.block=true)→DataW.TrodAll enc P W' 0 sp true f.params.toList args.toList (s.fn H (ds++[])).args before:=by
  intro sp hsp
  rw[hfn]
  exact uC hl hro hA (fun x hx=>hb.same (hlt x hx)) hsp
 have hres: ∀(b:Nat) (sp:Nat→Bool) (hd:Bool),DataW.TrodAll enc P W' b sp hd f.resultTypes.toList ((Value.bool true).resultList f.resultTypes.size) (s.fn H (ds++[])).results []:=by
  intro b sp hd
  rw[hfn,hrt]
  exact trodAll_mk1 (shut_bool htb true)
 have hvars: ∀sp:Nat→Bool,(∀p∈before,sp p.block=true)→DataW.TrodVars enc P W' sp s.vars (s.fn H (ds++[])).vars []:=by
  intro sp _
  rw[hfn,hvs];rfl
 have hold: ∀p∈before,(fun b=>decide (b<W.heap.size)) p.block=true:=fun p hp=>by simpa using hlt p hp
 refine⟨ds,[],before,[],before,[],hW',hres _ _ _,hargs _ hold,hvars _ hold,World.keptBut_mono (fun p hp=>⟨hp,?_⟩) (hb.frame (· ∈before)),fun _=>?_⟩
 ·exact Or.inr (by simpa using hp)
 ·refine⟨ok_one hrt rfl (okWide_bool_mk htb true),_,_,([]++before)++[],⟨[]++before,[],trodAll_append (hargs _ (fun _ _=>rfl)) (hres _ _ _),hvars _ (fun _ _=>rfl),rfl,?_,?_⟩,?_⟩
  ·intro b off hp
   have hin:MemPlace.cell b off∈before:=by simpa using hp
   rw[hb.frozen (hlt _ hin)]
   exact hz b off hin
  ·intro ha
   have:=hn ha
   simpa using this
  ·intro p hp _
   simpa using hp
end
section
variable {H : Type} {enc : TypeId × Value → H} {P : Program} {W : World} {σ : Nat → Loc}
def nQ (enc:TypeId×Value→H) (P:Program) (W:World) (σ:Nat→Loc) (t:TypeId) (Q:AV→Prop):Prop:=
 ∀(m:Nat) (cs:List Value) (x:DataW H×List MemPlace),DataW.trod enc P W 0 (fun _=>true) true m t cs=some x→∃v y,cs=[v]∧Q y∧y.isCell=true∧Rel σ (fun k=>k<W.heap.size) W y v
theorem uZ {k:IntKind} {n:Int} (h:(Lit.int k n).wf=true):k.min≤n∧n≤k.max:=by
 simpa [Lit.wf]using h
theorem vX {t:TypeId} (ht:P.underlying t=some (.int .u8)):nQ enc P W σ t (fun y=> ∃b:B8,y=.w8 b):=by
 intro m cs x h
 obtain⟨n,rfl,_,hw⟩:=DataW.trod_int ht h
 have hb:=uZ hw
 have e1:IntKind.min .u8=0:=by decide
 have e2:IntKind.max .u8=255:=by decide
 rw[e1,e2]at hb
 refine⟨_,.w8 (BitVec.ofInt 8 n),rfl,⟨_,rfl⟩,rfl,?_⟩
 have e:((BitVec.ofInt 8 n).toNat:Int)=n:=by simp[BitVec.toNat_ofInt];omega
 have:=Rel.w8 (σ:=σ) (I:=fun k=>k<W.heap.size) (w:=W) (BitVec.ofInt 8 n)
 rwa [e]at this
theorem aGe {t:TypeId} (ht:P.underlying t=some (.int .i64)):nQ enc P W σ t (fun y=> ∃n:Int,y=.i n∧ -9223372036854775808≤n∧n≤9223372036854775807):=by
 intro m cs x h
 obtain⟨n,rfl,_,hw⟩:=DataW.trod_int ht h
 have hb:=uZ hw
 have e1:IntKind.min .i64= -9223372036854775808:=by decide
 have e2:IntKind.max .i64=9223372036854775807:=by decide
 rw[e1,e2]at hb
 exact⟨_,.i n,rfl,⟨_,rfl,hb⟩,rfl,.i _⟩
end
end Go.AX

namespace Go.AX
open Go Go.Proofs Go.RowKit Go.WideShapes Go.ChangeShapes Go.Proofs.YtbhlbggocbhecaaGreat
theorem bLx:laidOutB Tryz.prog=true:=by kernel_rfl
theorem ownT:ownKnob Tryz.prog.godebug=none:=by kernel_rfl
theorem bAx {f:Nat} {g:List AV→Option AV} (hf:fHn Tryz.prog GLh f g) {W:World} {args:List AV} {vals:Array Value} (hs:vals.size=args.length)
  (hr: ∀i (_h:i<args.length),Rel (fun _=> .unset) (fun k=>k<W.heap.size) W args[i] (vals.getD i undef)) (hg:g args=some (.b true)):
  Calls Tryz.prog f vals W fun e W'=>e=.returned (.bool true)∧Below W.heap.size W W':=by
 refine(hf (fun _=> .unset) (fun k=>k<W.heap.size) W 0 args vals _ (fun _ _=>rfl) (fun _ h=>h) (fun g xs h=>by cases h) hs hr hg).mono ?_
 rintro e w' ⟨v,σ',I',rfl,a1,a2,a3,a4,a5,_,_,_,a9⟩
 cases a9
 exact⟨rfl,a1,a2,a3,a4,a5⟩
theorem aTx {H:Type} {enc:TypeId×Value→H} {P:Program} {W:World} {σ:Nat→Loc} {t:TypeId} {Q:AV→Prop} {v:Value} {d:DataW H} {ps:List MemPlace} (ho:nQ enc P W σ t Q) (hv:v.cells.toList=[v]) (h:DataW.Trod enc P W 0 (fun _=>true) true t v d ps):
  ∃y,Q y∧Rel σ (fun k=>k<W.heap.size) W y v:=by
 obtain⟨m,h⟩:=h
 obtain⟨v',y,e,hq,_,hr⟩:=ho m _ _ h
 rw[hv]at e
 obtain rfl:v=v':=by simpa using e
 exact⟨y,hq,hr⟩
theorem cDy {H:Type} {enc:TypeId×Value→H} {P:Program} {W W2:World} {σ:Nat→Loc} {t:TypeId} {k:IntKind} {Q:AV→Prop} {v:Value} {d:DataW H} {ps:List MemPlace} {r:Reach} {b:Nat} (ht:P.underlying t=some (.int k)) (hval:Value.okWide P W2 r b t v) (ho:nQ enc P W σ t Q) (h:DataW.Trod enc P W 0 (fun _=>true) true t v d ps):
  ∃y,Q y∧Rel σ (fun k=>k<W.heap.size) W y v:=by
 obtain⟨n,rfl⟩:=okWide_int ht hval
 exact aTx ho rfl h
end Go.AX

namespace Go.AX
open Go
def fTj (g:List AV→List AV→Option (Nat×Nat×List AV×List AV)) (args:List AV) (id:Nat) (hp:H) (nx:Nat):AO→Option (AV×H×Nat)
 | .cells xs mt=>aN (mt=true) (aK (g args xs) fun p=>some (.os nx 0 p.1 p.2.1 true,upd (upd hp id (.cells p.2.2.2 true)) nx (.cells p.2.2.1 true),nx+1))
 |_=>none
def rdF (g:List AV→List AV→Option (Nat×Nat×List AV×List AV)):List AV→H→Nat→Option (AV×H×Nat)
 | .op id off::rest,hp,nx=>aK (hp id) (fTj g (.op id off::rest) id hp nx)
 |_,_,_=>none
theorem fUd (g:List AV→List AV→Option (Nat×Nat×List AV×List AV)) (id off:Nat) (rest:List AV) (hp:H) (nx:Nat):rdF g (.op id off::rest) hp nx=aK (hp id) (fTj g (.op id off::rest) id hp nx):=(rfl)
theorem fSx (g:List AV→List AV→Option (Nat×Nat×List AV×List AV)) (args:List AV) (id:Nat) (hp:H) (nx:Nat) (xs:List AV) (mt:Bool):fTj g args id hp nx (.cells xs mt)=aN (mt=true) (aK (g args xs) fun p=>some (.os nx 0 p.1 p.2.1 true,upd (upd hp id (.cells p.2.2.2 true)) nx (.cells p.2.2.1 true),nx+1)):=(rfl)
attribute [go_sem] fUd fSx
def rdFQ (P:Program) (rs:List ResultVar) (id n e:Nat) (zs ys:List AV) (x:Exit) (t:S):Prop:=
 (x=.ret∨x=.normal)∧∃q,bV P rs t=some (.os q 0 n e true)∧t.hp q=some (.cells zs true)∧q≠id∧n*e=zs.length∧t.hp id=some (.cells ys true)∧AV.ids.idsL zs=0∧AV.ids.idsL ys=0
theorem fSc {P:Program} {GL:Nat→Option (List AV)} {f:FuncId} {fn:Func} {code:Code} {g:List AV→List AV→Option (Nat×Nat×List AV×List AV)} (hf:P.funcs[f]? =some fn) (hb:fn.body=some code)
  (h: ∀id off rest nx xs n e zs ys,g (.op id off::rest) xs=some (n,e,zs,ys)→rest.length+1≤fn.ntmps∧(id<nx→Awp P GL fn.ntmps code (sN (.op id off::rest) (upd (fun _=>none) id (.cells xs true)) nx) (rdFQ P fn.results.toList id n e zs ys))):fHs P GL f (rdF g):=by
 intro c σ I w hp nx args vals r hp' nx' hGL hi hs hr hg
 unfold rdF at hg
 split at hg
 case h_2=>cases hg
 rename_i id off rest
 replace hg:=aJ hg;obtain⟨o,ho,hg⟩:=hg
 obtain⟨xs,mt,rfl⟩: ∃a b,o=AO.cells a b:=by cases o<;>first|exact⟨_,_,rfl⟩|(simp[fTj]at hg)
 rw[fSx]at hg
 replace hg:=aP hg;obtain⟨rfl,hg⟩:=hg
 replace hg:=aJ hg;obtain⟨⟨n,e,zs,ys⟩,hp1,hg⟩:=hg
 simp only[Option.some.injEq,Prod.mk.injEq]at hg
 obtain⟨rfl,rfl,rfl⟩:=hg
 refine⟨Nat.le_succ nx,?_⟩
 obtain⟨hlen,haw⟩:=h id off rest nx xs n e zs ys hp1
 have hset:σ id≠.unset:=by
  intro hu
  have:=hi.own id _ ho
  simp[hD,hu]at this
 have hid:id<nx:=by
  apply Classical.byContradiction
  intro hc
  exact hset (hi.un id (by omega))
 have get1: ∀k o,upd (fun _=>none:H) id (.cells xs true) k=some o→k=id∧o=.cells xs true:=by
  intro k o hk
  rw[bJ]at hk
  split at hk
  ·rename_i e;exact⟨e,(J0 hk).symm⟩
  ·cases hk
 have hnI: ∀blk base sz,σ id=.at_ blk base sz→¬I blk:=by
  intro blk base sz e1
  have:=hi.own id _ ho
  simp only[hD,e1]at this
  exact this.2.1 trivial
 let c':Ctx:= {w0:=w,σ0:=σ,I0:=I,O:=fun k=> ∃base sz,σ id=.at_ k base sz,GL:=GL,nt:=fn.ntmps,u0:=fun k=>k<nx∧σ k=.unset}
 have hi':Inv c' σ I w (upd (fun _=>none) id (.cells xs true)) (fun k=>nx≤k∨(k<nx∧σ k=.unset)):=by
  refine⟨fun _ _=>rfl,fun _ h=>h,fun _ _=>rfl,rfl,rfl,rfl,U3 _,fun _ _ _=>rfl,hi.ilt,fun k o hk=>?_,fun k k' zs o' blk base sz base' sz' h1 hm h2 hne e1=>?_,fun k zs blk base sz h1 hm e1=>?_,fun k hk=>hk.elim (hi.un k) (fun h=>h.2),fun g xs hg=>hi.glob g xs (by rw[hGL];exact hg),fun _ h=> .inl h⟩
  ·obtain⟨rfl,rfl⟩:=get1 k o hk;exact hi.own _ _ ho
  ·obtain⟨rfl,_⟩:=get1 k _ h1
   obtain⟨rfl,_⟩:=get1 k' _ h2
   exact absurd rfl hne
  ·obtain⟨rfl,_⟩:=get1 k _ h1
   exact .inr ⟨base,sz,e1⟩
 refine calls_of_wp hf hb (wp_mono (haw hid c' rfl rfl σ I w {tmps:=vals++Array.replicate (fn.ntmps-vals.size) undef,defers:=[]} w ?_) ?_)
 ·refine⟨⟨σ,I,?_,iO.refl _ _ _,fun t=>oG hs hr t⟩,rfl,(by show _=fn.ntmps;simp at hs⊢;omega),fun k hk=>hk.elim,fun id hid=>⟨hid.1,hid.1⟩⟩
  refine hi'.mono_un fun id hid=>?_
  rcases hid with hid|⟨k,hk,_⟩|hid
  ·exact .inl hid
  ·exact hk.elim
  ·exact .inr hid
 rintro x a w' ⟨t,hq,hR⟩
 have hd:a.defers=[]:=hR.defers
 obtain⟨⟨σ',I',a1,a2,a3⟩,_⟩:=hR
 obtain⟨hex,q,q1,q2,qne,qlen,q3,q4,q5⟩:=hq
 obtain⟨v,hv,hrel⟩:=eZ (P:=P) a1 a3 q1
 have hold: ∀k,k<w.heap.size→(∀base sz,σ id≠.at_ k base sz)→w'.heap[k]? =w.heap[k]?:=fun k hk hn=>a1.old k hk (fun⟨base,sz,e⟩=>hn base sz e)
 have hIs: ∀k,I k→w'.heap[k]? =w.heap[k]?:=fun k hk=>hold k (hi.ilt k hk) (fun base sz e=>hnI k base sz e hk)
 have hO: ∀k,k<c.w0.heap.size→¬c.O k→w'.heap[k]? =c.w0.heap[k]?:=fun k hk hO=>by
  rw[hold k (Nat.lt_of_lt_of_le hk hi.size) (fun base sz e=>?_)]
  ·exact hi.old k hk hO
  ·rcases hi.lim id _ k base sz ho rfl e with h5|h5
   ·omega
   ·exact hO h5
 have other: ∀(J:Nat→Prop),(∀k,I k→J k)→(∀k,J k→I k∨w.heap.size≤k)→∀k o,k≠id→hp k=some o→hD σ J w' k o:=by
  intro J hJ1 hJ2 k o hne h2
  have h3:=hi.own k o h2
  refine h3.mono (fun _ _=>rfl) hJ1 hIs fun blk base sz e1=>⟨hold blk (h3.lt e1) (fun base' sz' e2=>?_),fun _ hn hb=>?_⟩
  ·exact hi.inj id k _ o blk base' sz' base sz ho rfl h2 (fun e=>hne e.symm) e2 e1
  ·rcases hJ2 blk hb with h|h
   ·exact hn h
   ·have:=h3.lt e1;omega
 have h4:σ' id=σ id:=a2.loc id hset
 have hidI: ∀blk base sz,σ id=.at_ blk base sz→¬I' blk:=by
  intro blk base sz e1
  have:=a1.own id _ q3
  simp only[hD,h4,e1]at this
  exact this.2.1 trivial
 have hI'c: ∀k,I' k→(I k∨w.heap.size≤k)∧k<w'.heap.size∧∀base sz,σ id≠.at_ k base sz:=by
  intro k hk
  refine⟨?_,a1.ilt k hk,fun base sz e=>hidI k base sz e hk⟩
  rcases a1.inew k hk with h|h|⟨base,sz,h⟩
  ·exact .inl h
  ·exact .inr h
  ·exact absurd hk (hidI k base sz h)
 have hinv:Inv c σ I' w' (upd hp id (.cells ys true)) (fun id=>nx≤id):=by
  refine⟨hi.ext,fun k hk=>a2.imm k (hi.imm k hk),fun k hk=>by rw[hIs k (hi.imm k hk)];exact hi.iw k hk,by rw[a1.os];exact hi.os,by rw[a1.tape];exact hi.tape,by rw[a1.output];exact hi.output,Nat.le_trans hi.size a1.size,hO,fun k hk=>(hI'c k hk).2.1,fun k o hk=>?_,(hi.updIL ho (.cells ys true) fun _=>rfl).1,(hi.updIL ho (.cells ys true) fun _=>rfl).2,hi.un,fun g zs hg=>(hi.glob g zs hg).mono (fun _ _=>rfl) a2.imm hIs,fun k hk=>?_⟩
  ·rw[bJ]at hk
   split at hk
   ·rename_i e
    subst e
    obtain rfl:=J0 hk
    have h3:=a1.own k _ q3
    have h6:=hi.own k _ ho
    simp only[hD,h4]at h3 h6⊢
    cases e5:σ k with
    |unset=>exact absurd e5 hset
    |nil=>simp only[e5]at h3⊢;exact h3
    |at_ blk base sz=>
     simp only[e5]at h3 h6⊢
     obtain⟨⟨⟨cs,T,lo,hi2,b1,b2,b3,b4,b5⟩,b6⟩,b7⟩:=h3
     refine⟨⟨⟨cs,T,lo,hi2,b1,b2,b3,b4,fun i hi3=>?_⟩,b6⟩,fun _ hb=>(hI'c blk hb).2.2 base sz e5,fun hm=>by cases hm⟩
     exact(b5 i hi3).congr_ids (σ':=σ) fun k hk=>by have:=AV.ids_get ys i hi3;omega
   ·rename_i hne;exact other I' a2.imm (fun k hk=>(hI'c k hk).1) k o hne hk
  ·rcases(hI'c k hk).1 with h|h
   ·exact hi.inew k h
   ·exact .inr (.inl (Nat.le_trans hi.size h))
 have hgr: ∀l:Loc,iO σ I w (cU σ nx l) I' w':=fun l=>⟨fun k hk=>dM (l:=l) (hi.un nx (U3 _)) k hk,a2.imm,hIs⟩
 have hun: ∀(l:Loc) k,k<nx→σ k=.unset→cU σ nx l k=.unset:=fun l k hk hu=>by
  unfold cU;rw[J3 (by omega)];exact hu
 have hmu: ∀k,nx+1≤k→nx≤k∧k≠nx:=fun k hk=>by omega
 have fin: ∃(v':Value) (σ2:Nat→Loc) (I2:Nat→Prop),v=v'∧Inv c σ2 I2 w' (upd (upd hp id (.cells ys true)) nx (.cells zs true)) (fun id=>nx+1≤id)∧Rel σ2 I2 w' (.os nx 0 n e true) v'∧iO σ I w σ2 I2 w'∧(∀id,id<nx→σ id=.unset→σ2 id=.unset):=by
  have hown:=a1.own q _ q2
  cases hrel with
  |osnil _ _ _ g1=>
   obtain rfl:zs=[]:=bVq hown g1
   exact⟨_,cU σ nx .nil,I',rfl,(hinv.newNil (id:=nx) (U3 _)).mono_un hmu,.osnil _ _ _ (by simp[cU]),hgr _,hun _⟩
  |oszero _ _ _ _ ad g1=>
   obtain rfl:zs=[]:=List.eq_nil_of_length_eq_zero (by omega)
   exact⟨_,cU σ nx .nil,I',rfl,(hinv.newNil (id:=nx) (U3 _)).mono_un hmu,.oszero _ _ _ _ _ (by simp[cU]),hgr _,hun _⟩
  |os _ _ _ _ _ blk base sz cap g1 g2 g3=>
   have hrow:=fPc hown g1
   have hnq: ¬I' blk:=by
    simp only[hD,g1]at hown
    exact hown.2.1 trivial
   have hlim:w.heap.size≤blk:=by
    rcases a1.lim q _ blk base sz q2 rfl g1 with h|⟨base',sz',h⟩
    ·exact h
    ·exact absurd (h4.trans h) (a1.inj q id _ _ blk base sz base' sz' q2 rfl q3 qne g1)
   have hrow2:uM σ I' w' zs blk base sz:=by
    obtain⟨⟨cs,T,lo,hi2,b1,b2,b3,b4,b5⟩,b6⟩:=hrow
    exact⟨⟨cs,T,lo,hi2,b1,b2,b3,b4,fun i hi3=>(b5 i hi3).congr_ids (σ':=σ) fun k hk=>by have:=AV.ids_get zs i hi3;omega⟩,b6⟩
   refine⟨_,cU σ nx (.at_ blk base sz),I',rfl,(hinv.adopt (id:=nx) (U3 _) hrow2 hnq (Nat.le_trans hi.size hlim) fun k o blk' base' sz' h1 h2 h3=>?_).mono_un hmu,?_,hgr _,hun _⟩
   ·subst h3
    rw[bJ]at h1
    split at h1
    ·rename_i e0
     subst e0
     exact a1.inj q k _ _ blk' base sz base' sz' q2 rfl q3 qne g1 (h4.trans h2)
    ·have:=(hi.own k o h1).lt h2
     omega
   ·exact .os _ _ _ _ _ blk base sz cap (by simp[cU]) g2 g3
 obtain⟨v',σ2,I2,rfl,f1,f2,f3,f4⟩:=fin
 have fin2:a.defers=[]∧∃v,(results fn a.tmps).run P w'=.ok v w'∧∃v' σ' I',Ending.returned v=.returned v'∧Inv c σ' I' w' (upd (upd hp id (.cells ys true)) nx (.cells zs true)) (fun id=>nx+1≤id)∧Rel σ' I' w' (.os nx 0 n e true) v'∧iO σ I w σ' I' w'∧(∀id,id<nx→σ id=.unset→σ' id=.unset):=
  ⟨hd,v,hv,v,σ2,I2,rfl,f1,f2,f3,f4⟩
 rcases hex with rfl|rfl
 ·exact fin2
 ·exact fin2
end Go.AX

namespace Go.AX
open Go Go.Proofs
theorem eSk {P:Program} {t e:TypeId} (hu:P.underlying t=some (.slice e)) (w:World):(binOp .eql t (.slice none 0 0) (.slice none 0 0)).run P w=.ok (.bool true) w:=by
 have k:(Op.equal t (.slice none 0 0) (.slice none 0 0)).run P w=.ok true w:=by
  show(Op.equalIn (9999+1) t _ _).run P w=_
  rw[Op.equalIn,Sem.run_bind,run_underlying hu];rfl
 simp only[binOp,Sem.run_bind,k,Result.andThen_ok,Sem.run_pure]
theorem eSl {P:Program} {t e:TypeId} (hu:P.underlying t=some (.slice e)) (a:Addr) (n cap:Nat) (w:World):(binOp .eql t (.slice (some a) n cap) (.slice none 0 0)).run P w=.ok (.bool false) w:=by
 have k:(Op.equal t (.slice (some a) n cap) (.slice none 0 0)).run P w=.ok false w:=by
  show(Op.equalIn (9999+1) t _ _).run P w=_
  rw[Op.equalIn,Sem.run_bind,run_underlying hu];rfl
 simp only[binOp,Sem.run_bind,k,Result.andThen_ok,Sem.run_pure]
set_option maxRecDepth 100000 in
theorem eTj (w:World):Calls Tryz.prog 67 #[.slice none 0 0] w fun e w'=>e=.returned (.slice none 0 0)∧w'=w:=by
 have hd: ∀w,(binOp .eql 22 (.slice none 0 0) (.slice none 0 0)).run Tryz.prog w=.ok (.bool true) w:=eSk Tryz.underlying22
 go_enter Tryz.func67,Tryz.ntmps67
 go_wp2
 exact⟨rfl,_,results_tmp rfl _ _ _,rfl,rfl⟩
set_option maxRecDepth 100000 in
theorem eQv (a:Addr) (cap:Nat) (w:World):Calls Tryz.prog 67 #[.slice (some a) 0 cap] w fun e w'=>(∃b,e=.returned (.slice (some b) 0 0))∧w'=w.alloc (.cells #[] 5):=by
 have hd: ∀w,(binOp .eql 22 (.slice (some a) 0 cap) (.slice none 0 0)).run Tryz.prog w=.ok (.bool false) w:=eSl Tryz.underlying22 a 0 cap
 go_enter Tryz.func67,Tryz.ntmps67
 go_wp2
 exact⟨rfl,_,results_tmp rfl _ _ _,⟨_,rfl⟩,rfl⟩
theorem rep0 (a:AV):rep 0 [a]=[]:=(rfl)
attribute [go_sem] rep0
def dDv:List AV→Option (Nat×Nat×List AV)
 |[.sl n xs]=>aK (fHq xs) fun l=>aN (l.length=n∧n≤100000) (some (l.length,1,c8 l))
 |_=>none
theorem eTk (n:Nat) (xs:List AV):dDv [.sl n xs]=aK (fHq xs) fun l=>aN (l.length=n∧n≤100000) (some (l.length,1,c8 l)):=(rfl)
def ePb:List AV→Option (Nat×Nat×List AV)
 |[.sl n xs]=>aK (fHq xs) fun l=>aN (l.length=n∧n≤100000∧0<n) (some (l.length,1,c8 l))
 |_=>none
theorem isl22:oQ Tryz.prog 22=true:=by kernel_rfl
attribute [go_sem] eTk isl22
set_option maxHeartbeats 2000000 in
theorem eTl:dH Tryz.prog GLh 67 ePb:=by
 refine fJo Tryz.func67 (aT rfl) ?_
 intro args r hg
 unfold ePb at hg
 split at hg
 ·rename_i n xs
  replace hg:=aJ hg;obtain⟨l,hl,hg⟩:=hg
  replace hg:=aP hg;obtain⟨⟨hn,hnb,hpos⟩,hg⟩:=hg
  obtain rfl:=J0 hg
  have:=bW hl;subst this
  refine⟨J1 rfl,fun nx=>?_⟩
  clear hl hg
  subst hn
  refine aA rfl (aW [0] rfl rfl rfl fun K hK=>?_)
  simp(disch:=omega) only[Tryz.f67,go_sem,↓reduceIte]
  refine hK _ ?_
  refine aB (aA rfl (aA rfl (aW [4,0] rfl rfl rfl fun K hK=>?_)))
  simp(disch:=omega) only[Tryz.f67,go_sem,↓reduceIte]
  refine hK _ ?_
  refine aB (cV (.tmp 4) rfl rfl rfl (fun h=>?_) (fun h=>?_))
  ·refine aI rfl ?_
   cases h
  refine aI rfl ?_
  clear h
  refine aQ rfl (aB (aA rfl (aW [2] rfl rfl rfl fun K hK=>?_)))
  simp(disch:=omega) only[Tryz.f67,go_sem,↓reduceIte,List.length_nil,List.nil_append]
  refine hK _ ?_
  refine aB (aS rfl ?_)
  simp(disch:=omega) only[fPz,fRw,bV,bK,bQ,Tryz.f67,go_sem,↓reduceIte]
 cases hg
theorem dLj:dH Tryz.prog GLh 67 dDv:=by
 intro σ I w nx args vals n e xs h1 h2 h3 hs hr hg
 have hg0:=hg
 unfold dDv at hg
 split at hg
 ·rename_i m ys
  replace hg:=aJ hg;obtain⟨l,hl,hg⟩:=hg
  replace hg:=aP hg;obtain⟨⟨hn,hnb⟩,hg⟩:=hg
  by_cases hm:0<m
  ·refine eTl σ I w nx _ vals n e xs h1 h2 h3 hs hr ?_
   unfold ePb
   simp only[hl,aX]
   rw[hH _ ⟨hn,hnb,hm⟩];exact hg
  obtain rfl:m=0:=by omega
  obtain rfl:l=[]:=List.eq_nil_of_length_eq_zero hn
  simp only[Option.some.injEq,Prod.mk.injEq]at hg;obtain⟨rfl,rfl,rfl⟩:=hg
  obtain⟨v,rfl,hv⟩:=dXv hs hr
  have key: ∀a cap,v=.slice (some a) 0 cap→Calls Tryz.prog 67 #[v] w fun e' w'=> ∃v σ' I',e'=.returned v∧w'.os=w.os∧w'.tape=w.tape∧w'.output=w.output∧w.heap.size≤w'.heap.size∧(∀k,k<w.heap.size→w'.heap[k]? =w.heap[k]?)∧
    (∀id,id<nx→σ' id=σ id)∧(∀k,I' k→I k∨w.heap.size≤k)∧(∀k,I' k→k<w'.heap.size)∧
    (((v=.slice none 0 0∨∃a,v=.slice (some a) 0 0)∧([]:List B8).length=0∧c8 []=[])∨∃blk base sz cap,v=.slice (some ⟨blk,base,none⟩) ([]:List B8).length cap∧([]:List B8).length≤cap∧base+cap*1≤sz∧w.heap.size≤blk∧¬I' blk∧uM σ' I' w' (c8 []) blk base sz):=by
   intro a cap e
   subst e
   refine(eQv a cap w).mono ?_
   rintro e' w' ⟨⟨b,rfl⟩,rfl⟩
   obtain⟨o,hw⟩: ∃o,(w.alloc (.cells #[] 5)).heap=w.heap.push o:=⟨_,rfl⟩
   have hsz:(w.alloc (.cells #[] 5)).heap.size=w.heap.size+1:=by rw[hw,Array.size_push]
   refine⟨_,σ,I,rfl,rfl,rfl,rfl,by omega,fun k hk=>?_,fun _ _=>rfl,fun _ h=> .inl h,fun k hk=>by have:=h2 k hk;omega,.inl ⟨.inr ⟨b,rfl⟩,rfl,rfl⟩⟩
   rw[hw,Array.getElem?_push]
   rw[J3 (by omega)]
  cases hv with
  |sl _ _ blk off cap f g1 g2 g3 g4 g5=>exact key _ _ rfl
  |slzero a=>exact key _ _ rfl
  |slnil=>
   refine(eTj w).mono ?_
   rintro e' w' ⟨rfl,rfl⟩
   exact⟨_,σ,I,rfl,rfl,rfl,rfl,U3 _,fun _ _=>rfl,fun _ _=>rfl,fun _ h=> .inl h,h2,.inl ⟨.inl rfl,rfl,rfl⟩⟩
 cases hg
theorem fTu:bX Tryz.prog GLh 67 (.fresh true dDv):=⟨⟨_,Tryz.func67,rfl,rfl⟩,dLj⟩
theorem fSo (w:World):Calls Tryz.prog 86 #[.bool true] w fun e w'=>e=.returned (.tuple #[])∧w'=w:=by
 go_enter Tryz.func86,Tryz.ntmps86
 go_wp2
 exact⟨rfl,_,results_none rfl _ _ _,rfl,rfl⟩
theorem fTc:fHn Tryz.prog GLh 86 eO:=by
 refine eSu fun args r hg σ I w vals hs hr=>?_
 unfold eO at hg
 split at hg
 ·obtain rfl:=J0 hg
  obtain⟨v,rfl,hv⟩:=dXv hs hr
  obtain rfl:=bQs hv
  exact⟨_,.tup _ _ rfl (fun i h=>by simp at h),fSo w⟩
 cases hg
theorem fTt:bX Tryz.prog GLh 86 (.pure true eO):=⟨⟨_,Tryz.func86,rfl,rfl⟩,fTc⟩
def fSd:List AV→List AV→Option (Option (AV×List AV))
 |[.op _ 0,.i k],[.sl n xs,.i a]=>aK (fHq xs) fun l=>aN (l.length=n∧0≤k∧k≤100000∧0≤a∧a≤n∧n≤100000∧k≤n-a) (some (eSc l k.toNat a.toNat))
 |_,_=>none
theorem fTp (id n:Nat) (k a:Int) (xs:List AV):fSd [.op id 0,.i k] [.sl n xs,.i a]=aK (fHq xs) fun l=>aN (l.length=n∧0≤k∧k≤100000∧0≤a∧a≤n∧n≤100000∧k≤n-a) (some (eSc l k.toNat a.toNat)):=(rfl)
attribute [go_sem] fTp
set_option maxHeartbeats 2000000 in
theorem fTb:fHs Tryz.prog GLh 91 (rdH fSd)∧dE Tryz.prog GLh 91 chM (rdP fSd):=by
 refine dT Tryz.func91 (aT rfl) ?_
 intro id off rest nx xs o hg
 unfold fSd at hg
 split at hg
 ·rename_i id2 k0 n xs2 a0 heq
  simp only[List.cons.injEq,AV.op.injEq]at heq
  obtain⟨⟨rfl,rfl⟩,rfl⟩:=heq
  replace hg:=aJ hg;obtain⟨l,hl,hg⟩:=hg
  replace hg:=aP hg;obtain⟨⟨rfl,hk,hkb,ha,han,hnb,hka0⟩,hg⟩:=hg
  obtain rfl:=J0 hg
  have:=bW hl;subst this
  obtain⟨k,rfl⟩:=Int.eq_ofNat_of_zero_le hk
  obtain⟨a,rfl⟩:=Int.eq_ofNat_of_zero_le ha
  simp only[U2]at*
  refine⟨J1 rfl,fun hid=>?_⟩
  clear hl hg
  refine aA rfl (aW [0,1] rfl rfl rfl fun K hK=>?_)
  simp(disch:=omega) only[Tryz.f91,go_sem,↓reduceIte]
  refine hK _ ?_
  refine aB ?_
  have hka:k≤l.length-a:=by omega
  rw[eMu hka]
  have hd:decide ((k:Int)≤(l.length:Int)-(a:Int))=true:=J5 (by omega)
  refine aA rfl (bB (Γ:=bC [(86,.pure true eO)]) (fun k=>if k=12 then 0 else 2) [0,1] bZ (aH fTt aO) rfl rfl rfl (by kernel_rfl) (fun K hK=>?_))
  simp(disch:=omega) only[Tryz.f91,go_sem,↓reduceIte,hd]
  refine hK _ ?_
  refine aB ?_
  have ea:(a:Int)+(k:Int)=((a+k:Nat):Int):=rfl
  refine aA rfl (aW [0,1] rfl rfl rfl fun K hK=>?_)
  simp(disch:=omega) only[Tryz.f91,go_sem,↓reduceIte,ea]
  refine hK _ ?_
  refine aB ?_
  have es:((a+k:Nat):Int)-(k:Int)=(a:Int):=by omega
  have e2:a+k-a=k:=by omega
  refine aA rfl (bB (Γ:=aL) (fun _=>2) [4] bZ (aD _ _) rfl rfl rfl (by kernel_rfl) (fun K hK=>?_))
  simp(disch:=omega) only[Tryz.f91,go_sem,↓reduceIte,es,e2,U2]
  refine hK _ ?_
  exact aB (aS rfl (⟨by simp only[bV,bK,bQ,Tryz.f91,go_sem],by simp only[aV,if_true],eLf _ _,fVp _ _ _⟩))
 cases hg
theorem fTs:bX Tryz.prog GLh 91 (.heap (rdH fSd)):=⟨⟨_,Tryz.func91,rfl,rfl⟩,fTb.1⟩
def eUw (l:List B8) (a:Nat):Option (AV×List AV):=some (.sl (l.length-a) (c8 (l.drop a)),[.sl l.length (c8 l),.i (l.length:Int)])
def rB:List AV→List AV→Option (Option (AV×List AV))
 |[.op _ 0],[.sl n xs,.i a]=>aK (fHq xs) fun l=>aN (l.length=n∧0≤a∧a≤n∧n≤100000) (some (eUw l a.toNat))
 |_,_=>none
theorem eUx (id n:Nat) (a:Int) (xs:List AV):rB [.op id 0] [.sl n xs,.i a]=aK (fHq xs) fun l=>aN (l.length=n∧0≤a∧a≤n∧n≤100000) (some (eUw l a.toNat)):=(rfl)
theorem rA (l:List B8) (a:Nat):eUw l a=some (.sl (l.length-a) (c8 (l.drop a)),[.sl l.length (c8 l),.i (l.length:Int)]):=(rfl)
attribute [go_sem] eUx
set_option maxHeartbeats 4000000 in
theorem eSm:fHs Tryz.prog GLh 82 (rdH rB)∧dE Tryz.prog GLh 82 chM (rdP rB):=by
 refine dT Tryz.func82 (aT rfl) ?_
 intro id off rest nx xs o hg
 unfold rB at hg
 split at hg
 ·rename_i id2 n xs2 a0 heq
  simp only[List.cons.injEq,AV.op.injEq]at heq
  obtain⟨⟨rfl,rfl⟩,rfl⟩:=heq
  replace hg:=aJ hg;obtain⟨l,hl,hg⟩:=hg
  replace hg:=aP hg;obtain⟨⟨rfl,ha,han,hnb⟩,hg⟩:=hg
  obtain rfl:=J0 hg
  have:=bW hl;subst this
  obtain⟨a,rfl⟩:=Int.eq_ofNat_of_zero_le ha
  simp only[U2]at*
  refine⟨J1 rfl,fun hid=>?_⟩
  clear hl hg
  have ht:=eMu (l:=l) (k:=l.length-a) (a:=a) (U3 _)
  have ed:(l.drop a).take (l.length-a)=l.drop a:=List.take_of_length_le (by rw[List.length_drop];omega)
  have ea:a+(l.length-a)=l.length:=by omega
  rw[ed,ea]at ht
  have es:(l.length:Int)-(a:Int)=((l.length-a:Nat):Int):=by omega
  have hdl:(l.drop a).length=l.length-a:=List.length_drop ..
  obtain⟨d,hd⟩: ∃d,l.drop a=d:=⟨_,rfl⟩
  rw[hd]at ht hdl
  rw[rA,hd]
  refine aA rfl (aW [0] rfl rfl rfl fun K hK=>?_)
  simp(disch:=omega) only[Tryz.f82,go_sem,↓reduceIte]
  refine hK _ ?_
  refine aB (aA rfl (bB (Γ:=bC [(91,.heap (rdH fSd)),(67,.fresh true dDv)]) (fun k=>if k=11 then 0 else if k=12 then 0 else 2) [2] bZ (aH fTs (aH fTu aO)) rfl rfl rfl (by kernel_rfl) (fun K hK=>?_)))
  simp(disch:=omega) only[Tryz.f82,go_sem,↓reduceIte,es,U2,ht,hdl]
  refine hK _ ?_
  refine aB (aS rfl (⟨by simp(disch:=omega) only[bV,bK,bQ,Tryz.f82,go_sem,aV,kE,bY,eq_self,↓reduceIte,hdl],by simp(disch:=omega) only[aV,bY,↓reduceIte,eq_self],?_,?_⟩))
  ·exact eLf _ _
  exact fVp _ _ _
 cases hg
theorem fUu:bX Tryz.prog GLh 82 (.heap (rdH rB)):=⟨⟨_,Tryz.func82,rfl,rfl⟩,eSm.1⟩
def shG:List AV→List AV→Option (Option (AV×List AV))
 |[.op _ 0,.w16 t],[.sl n xs,.i 0]=>aK (fHq xs) fun l=>aN (l.length=n∧n≤100000∧(t=1#16∧n=4∨t=99#16)) (some (some (.tup [],[.sl l.length (c8 l),.i (l.length:Int)])))
 |_,_=>none
theorem fTy (id n:Nat) (t:BitVec 16) (xs:List AV):shG [.op id 0,.w16 t] [.sl n xs,.i 0]=aK (fHq xs) fun l=>aN (l.length=n∧n≤100000∧(t=1#16∧n=4∨t=99#16)) (some (some (.tup [],[.sl l.length (c8 l),.i (l.length:Int)]))):=(rfl)
attribute [go_sem] fTy
theorem eUg {l:List B8} {k:Nat} (h:k≤l.length):eSc l k 0=some (.sl k (c8 (l.take k)),[.sl l.length (c8 l),.i (k:Int)]):=by rw[eMu (by omega),J9,Nat.zero_add]
set_option maxHeartbeats 4000000 in
theorem fTe:fHs Tryz.prog GLh 75 (rdH shG)∧dE Tryz.prog GLh 75 chM (rdP shG):=by
 refine dT Tryz.func75 (aT rfl) ?_
 intro id off rest nx xs o hg
 unfold shG at hg
 split at hg
 ·rename_i id2 t n xs2 heq
  simp only[List.cons.injEq,AV.op.injEq]at heq
  obtain⟨⟨rfl,rfl⟩,rfl⟩:=heq
  replace hg:=aJ hg;obtain⟨l,hl,hg⟩:=hg
  replace hg:=aP hg;obtain⟨⟨rfl,hnb,hty⟩,hg⟩:=hg
  obtain rfl:=J0 hg
  have:=bW hl;subst this
  refine⟨J1 rfl,fun hid=>?_⟩
  clear hl hg
  refine aA rfl (aW [0,4] rfl rfl rfl fun K hK=>?_)
  simp(disch:=omega) only[Tryz.f75,go_sem,↓reduceIte]
  refine hK _ ?_
  refine aB (aR 0 rfl rfl (aA rfl (aW [7,0,4] rfl rfl rfl fun K hK=>?_)))
  simp(disch:=omega) only[Tryz.f75,go_sem,↓reduceIte]
  refine hK _ ?_
  refine aB ?_
  rcases hty with⟨rfl,h4⟩|rfl
  ·refine bA (.tmp 7) rfl rfl rfl (fun h=>?_) (fun h=>?_)
   ·refine aI rfl ?_
    have ht:=eUg (l:=l) (k:=4) (by omega)
    refine aC (Γ:=bC [(91,.heap (rdH fSd))]) [] (aH fTs aO) rfl rfl rfl (fun K hK=>?_)
    simp(disch:=omega) only[Tryz.f75,go_sem,↓reduceIte,ht]
    refine hK _ ?_
    refine bU ?_
    rw[show((4:Nat):Int)=(l.length:Int)by omega]
    refine⟨by simp(disch:=omega) only[bV,bK,Tryz.f75,go_sem,eq_self],by simp(disch:=omega) only[aV,↓reduceIte,eq_self],?_,?_⟩
    ·rfl
    exact fVp _ _ _
   exact aI rfl (absurd rfl h)
  refine bA (.tmp 7) rfl rfl rfl (fun h=>?_) (fun h=>?_)
  ·exact aI rfl (absurd h (by decide))
  refine aI rfl ?_
  clear h
  refine aA rfl (aW [11,0,4] rfl rfl rfl fun K hK=>?_)
  simp(disch:=omega) only[Tryz.f75,go_sem,↓reduceIte]
  refine hK _ ?_
  refine aB (bA (.tmp 11) rfl rfl rfl (fun h=>?_) (fun h=>?_))
  ·exact aI rfl (absurd h (by decide))
  refine aI rfl ?_
  clear h
  refine aA rfl (aA rfl (aW [0,4,15] rfl rfl rfl fun K hK=>?_))
  simp(disch:=omega) only[Tryz.f75,go_sem,↓reduceIte]
  refine hK _ ?_
  refine aB (bA (.tmp 15) rfl rfl rfl (fun h=>?_) (fun h=>?_))
  ·exact absurd h (by decide)
  have h2:=h
  refine aW [15,0,4] rfl rfl rfl fun K hK=>?_
  simp(disch:=omega) only[Tryz.f75,go_sem,↓reduceIte]
  refine hK _ ?_
  refine aB (bA (.tmp 15) rfl rfl rfl (fun h=>?_) (fun h=>?_))
  ·exact aI rfl (absurd h (by decide))
  refine aI rfl ?_
  clear h h2
  refine aA rfl (aW [20,0,4] rfl rfl rfl fun K hK=>?_)
  simp(disch:=omega) only[Tryz.f75,go_sem,↓reduceIte]
  refine hK _ ?_
  refine aB (bA (.tmp 20) rfl rfl rfl (fun h=>?_) (fun h=>?_))
  ·exact aI rfl (absurd h (by decide))
  refine aI rfl ?_
  clear h
  refine aA rfl (aW [26,0,4] rfl rfl rfl fun K hK=>?_)
  simp(disch:=omega) only[Tryz.f75,go_sem,↓reduceIte]
  refine hK _ ?_
  refine aB (bA (.tmp 26) rfl rfl rfl (fun h=>?_) (fun h=>?_))
  ·exact aI rfl (absurd h (by decide))
  refine aI rfl ?_
  clear h
  refine aA rfl (aW [30,0,4] rfl rfl rfl fun K hK=>?_)
  simp(disch:=omega) only[Tryz.f75,go_sem,↓reduceIte]
  refine hK _ ?_
  refine aB (bA (.tmp 30) rfl rfl rfl (fun h=>?_) (fun h=>?_))
  ·exact aI rfl (absurd h (by decide))
  refine aI rfl ?_
  clear h
  refine aA rfl (aW [39,0] rfl rfl rfl fun K hK=>?_)
  simp(disch:=omega) only[Tryz.f75,go_sem,↓reduceIte]
  refine hK _ ?_
  refine aB (bA (.tmp 39) rfl rfl rfl (fun h=>?_) (fun h=>?_))
  ·exact aI rfl (absurd h (by decide))
  refine aI rfl ?_
  clear h
  have hr:=rA l 0
  refine aC (Γ:=bC [(82,.heap (rdH rB))]) [] (aH fUu aO) rfl rfl rfl (fun K hK=>?_)
  simp(disch:=omega) only[Tryz.f75,go_sem,↓reduceIte,hr,Int.toNat_zero]
  refine hK _ ?_
  refine bU (⟨by simp(disch:=omega) only[bV,bK,Tryz.f75,go_sem,eq_self],by simp(disch:=omega) only[aV,↓reduceIte,eq_self],?_,?_⟩)
  ·rfl
  exact fVp _ _ _
 cases hg
theorem fUv:bX Tryz.prog GLh 75 (.heap (rdH shG)):=⟨⟨_,Tryz.func75,rfl,rfl⟩,fTe.1⟩
def eMj:List AV→List AV→Option (Option (AV×List AV))
 |[.op _ 0,.rp [.w16 t]],[.sl n xs,.i 0]=>aK (fHq xs) fun l=>aN (l.length=n∧n≤100000∧(t=1#16∧n=4∨t=99#16)) (some (some (.i 0,[.sl l.length (c8 l),.i (l.length:Int)])))
 |_,_=>none
theorem eXa (id n:Nat) (t:BitVec 16) (xs:List AV):eMj [.op id 0,.rp [.w16 t]] [.sl n xs,.i 0]=aK (fHq xs) fun l=>aN (l.length=n∧n≤100000∧(t=1#16∧n=4∨t=99#16)) (some (some (.i 0,[.sl l.length (c8 l),.i (l.length:Int)]))):=(rfl)
attribute [go_sem] eXa
set_option maxHeartbeats 4000000 in
theorem eOn:fHs Tryz.prog GLh 74 (rdH eMj)∧dE Tryz.prog GLh 74 chM (rdP eMj):=by
 refine dT Tryz.func74 (aT rfl) ?_
 intro id off rest nx xs o hg
 unfold eMj at hg
 split at hg
 ·rename_i id2 t n xs2 heq
  simp only[List.cons.injEq,AV.op.injEq]at heq
  obtain⟨⟨rfl,rfl⟩,rfl⟩:=heq
  replace hg:=aJ hg;obtain⟨l,hl,hg⟩:=hg
  replace hg:=aP hg;obtain⟨⟨rfl,hnb,hty⟩,hg⟩:=hg
  obtain rfl:=J0 hg
  have:=bW hl;subst this
  refine⟨J1 rfl,fun hid=>?_⟩
  clear hl hg
  have hty2:=eq_true hty
  refine aA rfl (aW [0,1] rfl rfl rfl fun K hK=>?_)
  simp(disch:=omega) only[Tryz.f74,go_sem,↓reduceIte]
  refine hK _ ?_
  refine aB (aA rfl (aC (Γ:=bC [(75,.heap (rdH shG))]) [] (aH fUv aO) rfl rfl rfl (fun K hK=>?_)))
  simp(disch:=omega) only[Tryz.f74,go_sem,↓reduceIte,hty2]
  refine hK _ ?_
  refine aB (aA rfl (aW [3] rfl rfl rfl fun K hK=>?_))
  simp(disch:=omega) only[Tryz.f74,go_sem,↓reduceIte]
  refine hK _ ?_
  refine aB (aS rfl (⟨by simp(disch:=omega) only[bV,bK,bQ,Tryz.f74,go_sem,eq_self,↓reduceIte],by simp(disch:=omega) only[aV,↓reduceIte,eq_self],?_,?_⟩))
  ·rfl
  exact fVp _ _ _
 cases hg
theorem fUw:bX Tryz.prog GLh 74 (.heap (rdH eMj)):=⟨⟨_,Tryz.func74,rfl,rfl⟩,eOn.1⟩
end Go.AX

namespace Go.AX
open Go Go.Proofs
set_option maxRecDepth 20000
theorem fUh (vals:Array Value) (w:World) (hs:vals.size=2):CallsD Tryz.prog 90 vals .returning w fun e u1 w'=>e=.returned (.tuple #[])∧u1=.returning∧w'=w:=by
 obtain⟨l⟩:=vals
 match l,hs with
 |[a,b],_=>
  refine callsD_of_wpS Tryz.func90 rfl fun c₀ cs hu=>?_
  apply wpS_seq
  apply wpS_region
  simp[wpOpsS,go_sem,recoverD,hu,Tryz.ntmps90,Exit.thenS]
  apply wpS_seq
  apply wpS_region
  simp[wpOpsS,go_sem,Tryz.ntmps90,Exit.thenS]
  refine wpS_cond (t:=false) (by simp[Act.eval,Array.replicate]) ?_
  simp only[Bool.false_eq_true,if_false]
  refine wpS_of_wp (wp_skip ?_)
  cases c₀
  simp_all [bodyPostS,results,Tryz.results90]
theorem fVn:bSj Tryz.prog GLh 90 .returning .returning (fQc 2):=dPj fUh
theorem fUn:fHm Tryz.prog 90:=⟨_,Tryz.func90,rfl,rfl⟩
theorem fTq:bSj Tryz.prog GLh 90 (.panicking chM) .returning (fun _ _ _=>none):=by
 intro c σ I w hp nx args vals hp' nx' _ _ _ _ hg
 cases hg
def fSw:List AV→Option AV
 |[.sl n xs,.fn 74 [.rp [.w16 t]]]=>aK (fHq xs) fun l=>aN (l.length=n∧n≤100000∧(t=1#16∧n=4∨t=99#16)) (some (.tup [.i 0,.i 0]))
 |_=>none
theorem fTi (t:BitVec 16) (n:Nat) (xs:List AV):fSw [.sl n xs,.fn 74 [.rp [.w16 t]]]=aK (fHq xs) fun l=>aN (l.length=n∧n≤100000∧(t=1#16∧n=4∨t=99#16)) (some (.tup [.i 0,.i 0])):=(rfl)
attribute [go_sem] fTi
set_option maxHeartbeats 4000000 in
theorem fUc:fHn Tryz.prog GLh 73 fSw:=by
 refine cUy (r0:=(cl (aE Tryz.f73))) (C:=(cr (cr (aE Tryz.f73)))) (k:=7) (d:=90) (caps:= #[.tmp 4,.tmp 5]) Tryz.func73 rfl (J1 rfl) fUn fVn fTq rfl ?_
 intro args r hg
 unfold fSw at hg
 split at hg
 ·rename_i n xs t
  replace hg:=aJ hg;obtain⟨l,hl,hg⟩:=hg
  replace hg:=aP hg;obtain⟨⟨rfl,hnb,hty⟩,hg⟩:=hg
  obtain rfl:=J0 hg
  have:=bW hl;subst this
  refine⟨J1 rfl,fun nx=>⟨[.op nx 0,.op (nx+1) 0],?_⟩⟩
  clear hl hg
  have hty2:=eq_true hty
  refine aW [0,1,4,5] rfl rfl rfl fun K hK=>?_
  simp(disch:=omega) only[Tryz.f73,go_sem,↓reduceIte]
  refine hK _ ?_
  refine⟨rfl,?_⟩
  simp only[dBa]
  refine aA rfl (aW [0,1,4,5,6] rfl rfl rfl fun K hK=>?_)
  simp(disch:=omega) only[Tryz.f73,go_sem,↓reduceIte]
  refine hK _ ?_
  refine aB (aA rfl (aC (Γ:=bC [(74,.heap (rdH eMj))]) [0,4,5,6] (aH fUw aO) rfl rfl rfl (fun K hK=>?_)))
  simp(disch:=omega) only[Tryz.f73,go_sem,↓reduceIte,hty2]
  refine hK _ ?_
  refine aB ?_
  have hd:decide ((l.length:Int)=(l.length:Int))=true:=J5 rfl
  refine aA rfl (aC (Γ:=bC [(86,.pure true eO)]) [4,5] (aH fTt aO) rfl rfl rfl (fun K hK=>?_))
  simp(disch:=omega) only[Tryz.f73,go_sem,↓reduceIte]
  refine hK _ ?_
  refine aB (aA rfl (aW [4,5] rfl rfl rfl fun K hK=>?_))
  simp(disch:=omega) only[Tryz.f73,go_sem,↓reduceIte]
  refine hK _ ?_
  refine aB (aS rfl (rO (gP:=fun _ _ _=>none) (ch:=chM) (p:=_) (eKm _ _ _ _) ?_))
  simp(disch:=omega) only[bV,bK,bQ,Tryz.f73,go_sem,aV,bY,↓reduceIte]
 cases hg
theorem fUx:bX Tryz.prog GLh 73 (.heap (bOt 74 fSw)):=⟨⟨_,Tryz.func73,rfl,rfl⟩,cSn fUc⟩
def ckG:List AV→Option AV
 |[.w16 t,.sl n xs]=>aK (fHq xs) fun l=>aN (l.length=n∧n≤8192∧(t=1#16∧n=4∨t=99#16)) (some (.i 0))
 |_=>none
theorem fUm (t:BitVec 16) (n:Nat) (xs:List AV):ckG [.w16 t,.sl n xs]=aK (fHq xs) fun l=>aN (l.length=n∧n≤8192∧(t=1#16∧n=4∨t=99#16)) (some (.i 0)):=(rfl)
attribute [go_sem] fUm
set_option maxHeartbeats 4000000 in
theorem fVm:fHn Tryz.prog GLh 68 ckG:=by
 refine zK Tryz.func68 (aT rfl) ?_
 intro args r hg
 unfold ckG at hg
 split at hg
 ·rename_i t n xs
  replace hg:=aJ hg;obtain⟨l,hl,hg⟩:=hg
  replace hg:=aP hg;obtain⟨⟨rfl,hn,hty⟩,hg⟩:=hg
  obtain rfl:=J0 hg
  have:=bW hl;subst this
  refine⟨J1 rfl,fun nx=>?_⟩
  clear hl hg
  have hty2:=eq_true hty
  have h6: ¬t=6#16:=by rcases hty with⟨rfl,_⟩|rfl<;>decide
  have h46: ¬t=46#16:=by rcases hty with⟨rfl,_⟩|rfl<;>decide
  have h50: ¬t=50#16:=by rcases hty with⟨rfl,_⟩|rfl<;>decide
  have h48: ¬t=48#16:=by rcases hty with⟨rfl,_⟩|rfl<;>decide
  refine aA rfl (aW [1,2] rfl rfl rfl fun K hK=>?_)
  simp(disch:=omega) only[Tryz.f68,go_sem,↓reduceIte]
  refine hK _ ?_
  refine aB (aA rfl (aA rfl (aW [8,1,2] rfl rfl rfl fun K hK=>?_)))
  simp(disch:=omega) only[Tryz.f68,go_sem,↓reduceIte]
  refine hK _ ?_
  refine aB (bA (.tmp 8) rfl rfl rfl (fun h=>?_) (fun h=>?_))
  ·refine aI rfl ?_
   omega
  refine aI rfl ?_
  clear h
  refine aQ rfl (aB (aA rfl (aW [1,2] rfl rfl rfl fun K hK=>?_)))
  simp(disch:=omega) only[Tryz.f68,go_sem,↓reduceIte]
  refine hK _ ?_
  refine aB (aA rfl (aA rfl (aW [1,2,9] rfl rfl rfl fun K hK=>?_)))
  simp(disch:=omega) only[Tryz.f68,go_sem,↓reduceIte]
  refine hK _ ?_
  refine aB (aR 0 rfl rfl (aA rfl (aW [16,1,2,9] rfl rfl rfl fun K hK=>?_)))
  simp(disch:=omega) only[Tryz.f68,go_sem,↓reduceIte]
  refine hK _ ?_
  refine aB (bA (.tmp 16) rfl rfl rfl (fun h=>?_) (fun h=>?_))
  ·exact aI rfl (absurd h h6)
  refine aI rfl ?_
  clear h
  refine aA rfl (aW [23,1,2,9] rfl rfl rfl fun K hK=>?_)
  simp(disch:=omega) only[Tryz.f68,go_sem,↓reduceIte]
  refine hK _ ?_
  refine aB (bA (.tmp 23) rfl rfl rfl (fun h=>?_) (fun h=>?_))
  ·exact aI rfl (absurd h h46)
  refine aI rfl ?_
  clear h
  refine aA rfl (aW [30,1,2,9] rfl rfl rfl fun K hK=>?_)
  simp(disch:=omega) only[Tryz.f68,go_sem,↓reduceIte]
  refine hK _ ?_
  refine aB (bA (.tmp 30) rfl rfl rfl (fun h=>?_) (fun h=>?_))
  ·exact aI rfl (absurd h h50)
  refine aI rfl ?_
  clear h
  refine aA rfl (aW [37,1,2] rfl rfl rfl fun K hK=>?_)
  simp(disch:=omega) only[Tryz.f68,go_sem,↓reduceIte]
  refine hK _ ?_
  refine aB (bA (.tmp 37) rfl rfl rfl (fun h=>?_) (fun h=>?_))
  ·exact aI rfl (absurd h h48)
  refine aI rfl ?_
  clear h
  refine aC (Γ:=bC [(73,.heap (bOt 74 fSw))]) [5] (aH fUx aO) rfl rfl rfl (fun K hK=>?_)
  simp(disch:=omega) only[Tryz.f68,go_sem,↓reduceIte,hty2]
  refine hK _ ?_
  refine bU (aB (aA rfl (aW [4] rfl rfl rfl fun K hK=>?_)))
  simp(disch:=omega) only[Tryz.f68,go_sem,↓reduceIte]
  refine hK _ ?_
  refine aB (aS rfl ?_)
  simp(disch:=omega) only[fHo,bV,bK,bQ,Tryz.f68,go_sem,↓reduceIte]
 cases hg
theorem fTa:bX Tryz.prog GLh 68 (.pure true ckG):=⟨⟨_,Tryz.func68,rfl,rfl⟩,fVm⟩
def nsG:List AV→Option AV
 |[.w16 t]=>aN (t≠2#16∧t≠5#16∧t≠15#16∧t≠6#16) (some (.tup [.i 0,.i 0,.i 0]))
 |_=>none
theorem fUe (t:BitVec 16):nsG [.w16 t]=aN (t≠2#16∧t≠5#16∧t≠15#16∧t≠6#16) (some (.tup [.i 0,.i 0,.i 0])):=(rfl)
attribute [go_sem] fUe
set_option maxHeartbeats 4000000 in
theorem fVe:fHn Tryz.prog GLh 65 nsG:=by
 refine zK Tryz.func65 (aT rfl) ?_
 intro args r hg
 unfold nsG at hg
 split at hg
 ·rename_i t
  replace hg:=aP hg;obtain⟨⟨h2,h5,h15,h6⟩,hg⟩:=hg
  obtain rfl:=J0 hg
  refine⟨J1 rfl,fun nx=>?_⟩
  clear hg
  refine aA rfl (aW [0] rfl rfl rfl fun K hK=>?_)
  simp(disch:=omega) only[Tryz.f65,go_sem,↓reduceIte]
  refine hK _ ?_
  refine aB (aA rfl (aA rfl (aW [5] rfl rfl rfl fun K hK=>?_)))
  simp(disch:=omega) only[Tryz.f65,go_sem,↓reduceIte]
  refine hK _ ?_
  refine aB (aR 0 rfl rfl (aA rfl (aA rfl (aW [5,6] rfl rfl rfl fun K hK=>?_))))
  simp(disch:=omega) only[Tryz.f65,go_sem,↓reduceIte]
  refine hK _ ?_
  refine aB (bA (.tmp 6) rfl rfl rfl (fun h=>?_) (fun h=>?_))
  ·exact absurd h h2
  clear h
  refine aW [6,5] rfl rfl rfl fun K hK=>?_
  simp(disch:=omega) only[Tryz.f65,go_sem,↓reduceIte]
  refine hK _ ?_
  refine aB (bA (.tmp 6) rfl rfl rfl (fun h=>?_) (fun h=>?_))
  ·exact aI rfl (absurd h h5)
  refine aI rfl ?_
  clear h
  refine aA rfl (aW [9,5] rfl rfl rfl fun K hK=>?_)
  simp(disch:=omega) only[Tryz.f65,go_sem,↓reduceIte]
  refine hK _ ?_
  refine aB (bA (.tmp 9) rfl rfl rfl (fun h=>?_) (fun h=>?_))
  ·exact aI rfl (absurd h h15)
  refine aI rfl ?_
  clear h
  refine aA rfl (aW [11] rfl rfl rfl fun K hK=>?_)
  simp(disch:=omega) only[Tryz.f65,go_sem,↓reduceIte]
  refine hK _ ?_
  refine aB (bA (.tmp 11) rfl rfl rfl (fun h=>?_) (fun h=>?_))
  ·exact aI rfl (absurd h h6)
  refine aI rfl ?_
  clear h
  refine aQ rfl (bU (aB (aA rfl (aW [2,3,4] rfl rfl rfl fun K hK=>?_))))
  simp(disch:=omega) only[Tryz.f65,go_sem,↓reduceIte]
  refine hK _ ?_
  refine aB (aS rfl ?_)
  simp(disch:=omega) only[fHo,bV,bK,bQ,Tryz.f65,go_sem,↓reduceIte]
 cases hg
theorem fUy:bX Tryz.prog GLh 65 (.pure true nsG):=⟨⟨_,Tryz.func65,rfl,rfl⟩,fVe⟩
end Go.AX

namespace Go.AX
open Go Go.Proofs
set_option maxRecDepth 20000
def fSs (t:BitVec 16) (sz:Nat):Prop:=t=41#16∨(t=1#16∧sz=4)∨(t=99#16∧sz≤8192)
instance (t:BitVec 16) (sz:Nat):Decidable (fSs t sz):=by unfold fSs;infer_instance
def bOf:List AV→List AV→Option (Option (AV×List AV))
 |[.op _ 0,.agg [.sl _ _,.w16 t,.w16 _,.w32 _,.v (.slice none 0 0)],.i sz],[.sl n xs,.i a]=>aK (fHq xs) fun b=>aN (b.length=n∧0≤a∧a≤n∧n≤100000∧0≤sz∧sz≤n-a∧fSs t sz.toNat) (some (eSc b sz.toNat a.toNat))
 |_,_=>none
theorem cBb (id n nn:Nat) (t c:BitVec 16) (u:W32) (sz a:Int) (ns xs:List AV):bOf [.op id 0,.agg [.sl nn ns,.w16 t,.w16 c,.w32 u,.v (.slice none 0 0)],.i sz] [.sl n xs,.i a]=aK (fHq xs) fun b=>aN (b.length=n∧0≤a∧a≤n∧n≤100000∧0≤sz∧sz≤n-a∧fSs t sz.toNat) (some (eSc b sz.toNat a.toNat)):=(rfl)
attribute [go_sem] cBb
set_option maxHeartbeats 8000000 in
theorem fTd:fHs Tryz.prog GLh 60 (rdH bOf)∧dE Tryz.prog GLh 60 chM (rdP bOf):=by
 refine dT Tryz.func60 (aT rfl) ?_
 intro id off rest nx xs o hg
 unfold bOf at hg
 split at hg
 ·rename_i id2 nn ns t c u sz0 n xs2 a0 heq
  simp only[List.cons.injEq,AV.op.injEq]at heq
  obtain⟨⟨rfl,rfl⟩,rfl⟩:=heq
  replace hg:=aJ hg;obtain⟨b,hl,hg⟩:=hg
  replace hg:=aP hg;obtain⟨⟨rfl,ha,han,hnb,hsz,hszn,hsm⟩,hg⟩:=hg
  obtain rfl:=J0 hg
  have:=bW hl;subst this
  obtain⟨a,rfl⟩:=Int.eq_ofNat_of_zero_le ha
  obtain⟨sz,rfl⟩:=Int.eq_ofNat_of_zero_le hsz
  simp only[U2]at*
  refine⟨J1 rfl,fun hid=>?_⟩
  clear hl hg
  have hk:sz≤b.length-a:=by omega
  have ht:=eMu hk
  rw[ht]
  obtain⟨d,hd⟩: ∃d,(b.drop a).take sz=d:=⟨_,rfl⟩
  have hdl:d.length=sz:=by rw[←hd,List.length_take,List.length_drop];omega
  rw[hd]at ht⊢
  have d0:decide ((sz:Int)≤(b.length:Int)-(a:Int))=true:=J5 (by omega)
  have g2:(t=2#16)=False:=eq_false (by rcases hsm with rfl|⟨rfl,_⟩|⟨rfl,_⟩<;>decide)
  have g5:(t=5#16)=False:=eq_false (by rcases hsm with rfl|⟨rfl,_⟩|⟨rfl,_⟩<;>decide)
  have g15:(t=15#16)=False:=eq_false (by rcases hsm with rfl|⟨rfl,_⟩|⟨rfl,_⟩<;>decide)
  have g6:(t=6#16)=False:=eq_false (by rcases hsm with rfl|⟨rfl,_⟩|⟨rfl,_⟩<;>decide)
  refine aA rfl (aW [0,2,4] rfl rfl rfl fun K hK=>?_)
  simp(disch:=omega) only[Tryz.f60,go_sem,↓reduceIte]
  refine hK _ ?_
  refine aB (aA rfl (bB (Γ:=bC [(35,.pure true eO)]) (fun k=>if k=12 then 0 else 2) [0,2,4] bZ (aH rP aO) rfl rfl rfl (by kernel_rfl) (fun K hK=>?_)))
  simp(disch:=omega) only[Tryz.f60,go_sem,↓reduceIte,d0]
  refine hK _ ?_
  refine aB (aA rfl (aC (Γ:=bC [(65,.pure true nsG)]) [0,2,4,8] (aH fUy aO) rfl rfl rfl (fun K hK=>?_)))
  simp(disch:=omega) only[Tryz.f60,go_sem,↓reduceIte,ne_eq,g2,g5,g15,g6,not_false_eq_true]
  refine hK _ ?_
  refine aB (aA rfl (aW [0,2,4,8,10] rfl rfl rfl fun K hK=>?_))
  simp(disch:=omega) only[Tryz.f60,go_sem,↓reduceIte]
  refine hK _ ?_
  refine aB (aA rfl (aW [0,2,4,8,10] rfl rfl rfl fun K hK=>?_))
  simp(disch:=omega) only[Tryz.f60,go_sem,↓reduceIte]
  refine hK _ ?_
  refine aB (aA rfl (aA rfl (aW [39,0,2,4,10] rfl rfl rfl fun K hK=>?_)))
  simp(disch:=omega) only[Tryz.f60,go_sem,↓reduceIte]
  refine hK _ ?_
  refine aB (cV (.tmp 39) rfl rfl rfl (fun h=>?_) (fun h=>?_))
  ·refine aI rfl ?_
   cases h
  refine aI rfl ?_
  clear h
  refine aC (Γ:=bC [(50,.heap (rdH fJ)),(67,.fresh true dDv)]) [4,10,11] (aH eLb (aH fTu aO)) rfl rfl rfl (fun K hK=>?_)
  simp(disch:=omega) only[Tryz.f60,go_sem,↓reduceIte,ht,hdl,U2]
  refine hK _ ?_
  refine aB ?_
  by_cases hc:c=1#16
  ·rw[J5 hc]
   by_cases h41:t=41#16
   ·have e41:decide (t=41#16)=true:=J5 h41
    refine aA rfl (aC (Γ:=bC [(68,.pure true ckG),(35,.pure true eO)]) [11] (aH fTa (aH rP aO)) rfl rfl rfl (fun K hK=>?_))
    simp(disch:=omega) only[Tryz.f60,go_sem,↓reduceIte,e41,Bool.not_true]
    refine hK _ ?_
    refine aB (aA rfl (aW [6] rfl rfl rfl fun K hK=>?_))
    simp(disch:=omega) only[Tryz.f60,go_sem,↓reduceIte]
    refine hK _ ?_
    refine aB (aS rfl (⟨by simp(disch:=omega) only[bV,bK,bQ,Tryz.f60,go_sem,aV,kE,bY,eq_self,↓reduceIte,hdl],by simp(disch:=omega) only[aV,bY,↓reduceIte,eq_self],?_,?_⟩))
    ·exact eLf _ _
    exact fVp _ _ _
   have e41:decide (t=41#16)=false:=J6 h41
   have hty:(t=1#16∧sz=4∨t=99#16)=True:=eq_true (by rcases hsm with h|⟨h1,h2⟩|⟨h1,h2⟩;exact absurd h h41;exact .inl ⟨h1,h2⟩;exact .inr h1)
   have hsb:sz≤8192:=by rcases hsm with h|⟨h1,h2⟩|⟨h1,h2⟩;exact absurd h h41;omega;exact h2
   refine aA rfl (aC (Γ:=bC [(68,.pure true ckG),(35,.pure true eO)]) [11] (aH fTa (aH rP aO)) rfl rfl rfl (fun K hK=>?_))
   simp(disch:=omega) only[Tryz.f60,go_sem,↓reduceIte,e41,hty,hdl,Bool.not_true]
   refine hK _ ?_
   refine aB (aA rfl (aW [6] rfl rfl rfl fun K hK=>?_))
   simp(disch:=omega) only[Tryz.f60,go_sem,↓reduceIte]
   refine hK _ ?_
   refine aB (aS rfl (⟨by simp(disch:=omega) only[bV,bK,bQ,Tryz.f60,go_sem,aV,kE,bY,eq_self,↓reduceIte,hdl],by simp(disch:=omega) only[aV,bY,↓reduceIte,eq_self],?_,?_⟩))
   ·exact eLf _ _
   exact fVp _ _ _
  rw[J6 hc]
  refine aA rfl (aC (Γ:=bC [(68,.pure true ckG),(35,.pure true eO)]) [11] (aH fTa (aH rP aO)) rfl rfl rfl (fun K hK=>?_))
  simp(disch:=omega) only[Tryz.f60,go_sem,↓reduceIte,Bool.not_false]
  refine hK _ ?_
  refine aB (aA rfl (aW [6] rfl rfl rfl fun K hK=>?_))
  simp(disch:=omega) only[Tryz.f60,go_sem,↓reduceIte]
  refine hK _ ?_
  refine aB (aS rfl (⟨by simp(disch:=omega) only[bV,bK,bQ,Tryz.f60,go_sem,aV,kE,bY,eq_self,↓reduceIte,hdl],by simp(disch:=omega) only[aV,bY,↓reduceIte,eq_self],?_,?_⟩))
  ·exact eLf _ _
  exact fVp _ _ _
 cases hg
theorem fUz:bX Tryz.prog GLh 60 (.heap (rdH bOf)):=⟨⟨_,Tryz.func60,rfl,rfl⟩,fTd.1⟩
end Go.AX

namespace Go.AX
open Go Go.Proofs
set_option maxRecDepth 20000
def n32 (b:List B8) (a:Nat):W32:=fRs ((b.drop a).take 4)
def fTh (b:List B8) (e:Nat):Prop:=e+2+2+4+2≤b.length∧c16 b (e+2+2+4)≤b.length-(e+2+2+4+2)∧fSs (n16 b e) (c16 b (e+2+2+4))
instance (b:List B8) (e:Nat):Decidable (fTh b e):=by unfold fTh;infer_instance
def reR (b:List B8) (a:Nat):Option (RC×Nat):=match fJj b a with
 |none=>none
 |some (n,e)=>if fTh b e then some (⟨n,n16 b e,n16 b (e+2),n32 b (e+2+2),(b.drop (e+2+2+4+2)).take (c16 b (e+2+2+4))⟩,e+2+2+4+2+c16 b (e+2+2+4))else none
theorem fSg {b:List B8} {a:Nat} {c:RC} {e2:Nat} (h:reR b a=some (c,e2)): ∃n e,fJj b a=some (n,e)∧fTh b e∧c=⟨n,n16 b e,n16 b (e+2),n32 b (e+2+2),(b.drop (e+2+2+4+2)).take (c16 b (e+2+2+4))⟩∧e2=e+2+2+4+2+c16 b (e+2+2+4):=by
 unfold reR at h
 rcases hn:fJj b a with _|⟨n,e⟩
 ·rw[hn]at h;cases h
 rw[hn]at h
 simp only at h
 split at h
 ·rename_i ho
  simp only[Option.some.injEq,Prod.mk.injEq]at h
  exact⟨n,e,rfl,ho,h.1.symm,h.2.symm⟩
 cases h
theorem fSv {b:List B8} {a:Nat} {c:RC} {e2:Nat} (h:reR b a=some (c,e2)):e2≤b.length:=by
 obtain⟨n,e,_,⟨h1,h2,_⟩,_,rfl⟩:=fSg h
 omega
def reA (b:List B8):Option (RC×Nat)→Option (AV×List AV)
 |none=>none
 |some (c,e)=>some (.agg (fLo c),[.sl b.length (c8 b),.i (e:Int)])
def reG:List AV→List AV→Option (Option (AV×List AV))
 |[.op _ 0],[.sl n xs,.i a]=>aK (fHq xs) fun b=>aN (b.length=n∧0≤a∧a≤n∧n≤100000∧(reR b a.toNat).isSome=true) (some (reA b (reR b a.toNat)))
 |_,_=>none
theorem fUb (id n:Nat) (a:Int) (xs:List AV):reG [.op id 0] [.sl n xs,.i a]=aK (fHq xs) fun b=>aN (b.length=n∧0≤a∧a≤n∧n≤100000∧(reR b a.toNat).isSome=true) (some (reA b (reR b a.toNat))):=(rfl)
attribute [go_sem] fUb
theorem fSk (c:RC):AV.ids (.agg (fLo c))=0:=by
 show max (AV.ids (.sl c.nm.length (cS c.nm))) (max 0 (max 0 (max 0 (max (AV.ids (.sl c.d.length (c8 c.d))) 0))))=0
 rw[eKy,eLf];rfl
set_option maxHeartbeats 8000000 in
theorem fTg:fHs Tryz.prog GLh 52 (rdH reG)∧dE Tryz.prog GLh 52 chM (rdP reG):=by
 refine dT Tryz.func52 (aT rfl) ?_
 intro id off rest nx xs o hg
 unfold reG at hg
 split at hg
 ·rename_i id2 n xs2 a0 heq
  simp only[List.cons.injEq,AV.op.injEq]at heq
  obtain⟨⟨rfl,rfl⟩,rfl⟩:=heq
  replace hg:=aJ hg;obtain⟨b,hl,hg⟩:=hg
  replace hg:=aP hg;obtain⟨⟨rfl,ha,han,hnb,hsm⟩,hg⟩:=hg
  obtain rfl:=J0 hg
  have:=bW hl;subst this
  obtain⟨a,rfl⟩:=Int.eq_ofNat_of_zero_le ha
  simp only[U2]at*
  refine⟨J1 rfl,fun hid=>?_⟩
  clear hl hg
  obtain⟨⟨c,e2⟩,hR⟩:=Option.isSome_iff_exists.1 hsm
  rw[hR]
  obtain⟨nm,e,hn,⟨h1,h2,h3⟩,rfl,rfl⟩:=fSg hR
  obtain⟨he,hlb,hsum⟩:=fLw hn
  have hA:nmA b (some (nm,e))=some (.sl nm.length (cS nm),[.sl b.length (c8 b),.i (e:Int)]):=rfl
  have n2:=eKs (l:=b) (k:=2) (a:=e) (by omega)
  have n4:=eKs (l:=b) (k:=2) (a:=e+2) (by omega)
  have n6:=eKs (l:=b) (k:=4) (a:=e+2+2) (by omega)
  have n8:=eKs (l:=b) (k:=2) (a:=e+2+2+4) (by omega)
  have v2:(fRs (List.take 2 (List.drop e b))).setWidth 16=n16 b e:=rfl
  have v4:(fRs (List.take 2 (List.drop (e+2) b))).setWidth 16=n16 b (e+2):=rfl
  have v6:fRs (List.take 4 (List.drop (e+2+2) b))=n32 b (e+2+2):=rfl
  have v8:(fRs (List.take 2 (List.drop (e+2+2+4) b))).toNat=c16 b (e+2+2+4):=rfl
  have hsm2:=eq_true h3
  have ht:=eMu h2
  have hdl:((b.drop (e+2+2+4+2)).take (c16 b (e+2+2+4))).length=c16 b (e+2+2+4):=by rw[List.length_take,List.length_drop];omega
  obtain⟨d,hd⟩: ∃d,(b.drop (e+2+2+4+2)).take (c16 b (e+2+2+4))=d:=⟨_,rfl⟩
  obtain⟨sz,hsz⟩: ∃s,c16 b (e+2+2+4)=s:=⟨_,rfl⟩
  rw[hd]at ht hdl⊢
  rw[hsz]at v8 hsm2 ht hdl⊢
  refine aA rfl (aW [0,2] rfl rfl rfl fun K hK=>?_)
  simp(disch:=omega) only[Tryz.f52,go_sem,↓reduceIte]
  refine hK _ ?_
  refine aB (aA rfl (aC (Γ:=bC [(51,.heap (rdH nmG)),(32,.heap (rdH eN))]) [0,2,3] (aH fKm (aH fL aO)) rfl rfl rfl (fun K hK=>?_)))
  simp(disch:=omega) only[Tryz.f52,go_sem,↓reduceIte,hn,hA,n2,n4,n6,v2,v4,v6,U2]
  refine hK _ ?_
  refine aB (aA rfl (aKy (Γ:=bC [(32,.heap (rdH eN)),(60,.heap (rdH bOf))]) 1 3 [1,0,2,3,4,5,6,7] [2,3,0,1,4,5,6,7] (fun k=>if k=3 then 0 else if k=5 then 0 else 2) [2,3] bZ (aH fL (aH fUz aO)) (by decide) rfl rfl rfl (by kernel_rfl) (fun K hK=>?_) (fun K hK=>?_)))
  ·simp(disch:=omega) only[Tryz.f52,go_sem,nJ,lY,eDt,List.getElem?_cons_zero,List.getElem?_cons_succ,↓reduceIte,n8,v8,hsm2,ht,U2]
   refine hK _ ?_
   refine aB (aA rfl (aW [2] rfl rfl rfl fun K hK=>?_))
   simp(disch:=omega) only[Tryz.f52,go_sem,↓reduceIte]
   refine hK _ ?_
   refine aB (aS rfl (⟨by simp(disch:=omega) only[bV,bK,bQ,Tryz.f52,go_sem,aV,eq_self,↓reduceIte,fLo,hdl,U0,U1,J9],by simp(disch:=omega) only[aV,bY,↓reduceIte,eq_self],?_,?_⟩))
   ·exact fSk _
   exact fVp _ _ _
  simp(disch:=omega) only[Tryz.f52,go_sem,nJ,lY,eDt,List.getElem?_cons_zero,List.getElem?_cons_succ,↓reduceIte,n8,v8,hsm2,ht,U2]
  refine hK _ ?_
  refine aB (aA rfl (aW [2] rfl rfl rfl fun K hK=>?_))
  simp(disch:=omega) only[Tryz.f52,go_sem,↓reduceIte]
  refine hK _ ?_
  refine aB (aS rfl (⟨by simp(disch:=omega) only[bV,bK,bQ,Tryz.f52,go_sem,aV,eq_self,↓reduceIte,fLo,hdl,U0,U1,J9],by simp(disch:=omega) only[aV,bY,↓reduceIte,eq_self],?_,?_⟩))
  ·exact fSk _
  exact fVp _ _ _
 cases hg
theorem fVa:bX Tryz.prog GLh 52 (.heap (rdH reG)):=⟨⟨_,Tryz.func52,rfl,rfl⟩,fTg.1⟩
end Go.AX

namespace Go.AX
open Go Go.Proofs
set_option maxRecDepth 20000
def fSf (c:RC):Prop:=c.ty=41#16∨c.ttl.toNat<2147483648
instance (c:RC):Decidable (fSf c):=by unfold fSf;infer_instance
def fRr (b:List B8):Nat→Nat→List RC→Option (List RC×Nat)
 |0,a,l=>some (l,a)
 |k+1,a,l=>match reR b a with
  |none=>none
  |some (c,e)=>if fSf c then fRr b k e (l++[c])else none
def rsG:List AV→List AV→Option (Nat×Nat×List AV×List AV)
 |[.op _ 0,.i k],[.sl n xs,.i a]=>aK (fHq xs) fun b=>aN (b.length=n∧0≤a∧a≤n∧n≤100000∧0≤k∧k≤65535) (aK (fRr b k.toNat a.toNat []) fun p=>some (p.1.length,5,rcC p.1,[.sl b.length (c8 b),.i (p.2:Int)]))
 |_,_=>none
theorem fUa (id n:Nat) (k a:Int) (xs:List AV):rsG [.op id 0,.i k] [.sl n xs,.i a]=aK (fHq xs) fun b=>aN (b.length=n∧0≤a∧a≤n∧n≤100000∧0≤k∧k≤65535) (aK (fRr b k.toNat a.toNat []) fun p=>some (p.1.length,5,rcC p.1,[.sl b.length (c8 b),.i (p.2:Int)])):=(rfl)
attribute [go_sem] fUa
theorem fSa: ∀l:List RC,AV.ids.idsL (rcC l)=0
 |[]=>rfl
 |c::r=>by
  show max (AV.ids (.sl c.nm.length (cS c.nm))) (max 0 (max 0 (max 0 (max (AV.ids (.sl c.d.length (c8 c.d))) (AV.ids.idsL (rcC r))))))=0
  rw[eKy,eLf,fSa r];rfl
theorem fTr {g:H} {a b c:Nat} {x y z:AO} (h1:g a=some x) (h2:g b=some y) (h3:g c=some z): ∀j o,upd (upd (upd (fun _=>none) a x) b y) c z j=some o→g j=some o:=by
 intro j o h
 simp only[bJ]at h
 split at h
 ·rename_i e;rw[e,h3];exact h
 split at h
 ·rename_i e;rw[e,h2];exact h
 split at h
 ·rename_i e;rw[e,h1];exact h
 cases h
theorem fSr {g:H} {a b:Nat} {x y:AO} (h1:g a=some x) (h2:g b=some y): ∀j o,upd (upd (fun _=>none) a x) b y j=some o→g j=some o:=by
 intro j o h
 simp only[bJ]at h
 split at h
 ·rename_i e;rw[e,h2];exact h
 split at h
 ·rename_i e;rw[e,h1];exact h
 cases h
theorem sp5 (a b c d e v w x y z:AV):yC [a,b,c,d,e] 0 [v,w,x,y,z]=[v,w,x,y,z]:=(rfl)
attribute [go_sem] sp5
structure RSI where
 k:Nat
 e:Nat
 l:List RC
 q:Nat
 c:Nat
set_option maxHeartbeats 8000000 in
theorem dUz:fHs Tryz.prog GLh 34 (rdF rsG):=by
 refine fSc Tryz.func34 (aT rfl) ?_
 intro id off rest nx xs n0 e0 zs ys hg
 unfold rsG at hg
 split at hg
 ·rename_i id2 k0 n xs2 a0 heq
  simp only[List.cons.injEq,AV.op.injEq]at heq
  obtain⟨⟨rfl,rfl⟩,rfl⟩:=heq
  replace hg:=aJ hg;obtain⟨b,hl,hg⟩:=hg
  replace hg:=aP hg;obtain⟨⟨rfl,ha,han,hnb,hk0,hkb⟩,hg⟩:=hg
  replace hg:=aJ hg;obtain⟨⟨L,E⟩,hrs,hg⟩:=hg
  simp only[Option.some.injEq,Prod.mk.injEq]at hg
  obtain⟨rfl,rfl,rfl,rfl⟩:=hg
  have:=bW hl;subst this
  obtain⟨a,rfl⟩:=Int.eq_ofNat_of_zero_le ha
  obtain⟨N,rfl⟩:=Int.eq_ofNat_of_zero_le hk0
  simp only[U2]at*
  refine⟨J1 rfl,fun hid=>?_⟩
  clear hl
  refine aA rfl (aW [0,1] rfl rfl rfl fun K hK=>?_)
  simp(disch:=omega) only[Tryz.f34,go_sem,↓reduceIte]
  refine hK _ ?_
  refine aB (aA rfl (aW [0,1,5] rfl rfl rfl fun K hK=>?_))
  simp(disch:=omega) only[Tryz.f34,go_sem,↓reduceIte]
  refine hK _ ?_
  refine aB (iE 5 5 rfl (fPg [0,1,5] ?_))
  simp only[iB,fU,eW,↓reduceIte,Nat.reduceEqDiff]
  refine aA rfl (aA rfl (aW [0,5,7,8] rfl rfl rfl fun K hK=>?_))
  simp(disch:=omega) only[Tryz.f34,go_sem,↓reduceIte]
  refine hK _ ?_
  refine aB (aR 0 rfl rfl ?_)
  refine bR (fun p:RSI=> {fr:=[(0,.op id 0),(5,.os p.q 0 p.l.length 5 true),(7,.i (N:Int)),(8,.i (p.k:Int))],hp:=upd (upd (fun _=>none) id (.cells [.sl b.length (c8 b),.i (p.e:Int)] true)) p.q (.cells (rcC p.l) true),nx:=0,cx:=p.c}) (fun p=>p.k≤N∧p.l.length=p.k∧p.e≤b.length∧fRr b (N-p.k) p.e p.l=some (L,E)∧id<p.q∧p.q<p.c) (fun p=>N-p.k) rfl ⟨⟨0,a,[],_,_⟩,⟨Nat.zero_le _,rfl,by simp only;omega,hrs,by simp only;omega,by simp only;omega⟩,bD rfl rfl (U3 _)⟩ ?_
  rintro⟨k,e,l,q,c⟩ ⟨hk,hll,he,hrun,hq1,hq2⟩ n0
  simp only at hk hll he hrun hq1 hq2⊢
  refine aA rfl (aW [9,0,5,7,8] rfl rfl rfl fun K hK=>?_)
  simp(disch:=omega) only[Tryz.f34,go_sem,↓reduceIte]
  refine hK _ ?_
  refine aB (aA rfl (bA (.tmp 9) rfl rfl rfl (fun h=>?_) (fun h=>?_)))
  ·refine aI rfl ?_
   obtain⟨j,hj⟩: ∃j,N-k=j+1:=⟨N-k-1,by omega⟩
   rw[hj,fRr]at hrun
   rcases hx:reR b e with _|⟨x,e'⟩
   ·rw[hx]at hrun;cases hrun
   rw[hx]at hrun
   simp only at hrun
   have hok:fSf x:=by
    apply Classical.byContradiction
    intro hn
    rw[J3 hn]at hrun;cases hrun
   rw[J4 hok]at hrun
   have he':=fSv hx
   have hA:reA b (some (x,e'))=some (.agg (fLo x),[.sl b.length (c8 b),.i (e':Int)]):=rfl
   have hcl:=fIh l
   have hsn:rcC l++[.sl x.nm.length (cS x.nm),.w16 x.ty,.w16 x.cl,.w32 x.ttl,.sl x.d.length (c8 x.d)]=rcC (l++[x]):=by rw[fKk];rfl
   have hl1:(l++[x]).length=l.length+1:=by simp
   have hss:(some (x,e')).isSome=true:=rfl
   clear h
   refine aQ rfl (aB (aA rfl (aR 1 rfl rfl (aA rfl (aC (Γ:=bC [(52,.heap (rdH reG))]) [0,5,6,7,8] (aH fVa aO) rfl rfl rfl (fun K hK=>?_))))))
   simp(disch:=omega) only[Tryz.f34,go_sem,↓reduceIte,hx,hA,fLo,hss,U2]
   refine hK _ ?_
   refine aB (aA rfl (dWd (fun p:Nat=> {fr:=[(0,.op id 0),(5,.os q 0 l.length 5 true),(6,.op (c+1+2) 0),(7,.i (N:Int)),(8,.i (k:Int))],hp:=upd (upd (upd (fun _=>none) id (.cells [.sl b.length (c8 b),.i (e':Int)] true)) q (.cells (rcC l) true)) (c+1+2) (.cells (fLo x) true),nx:=0,cx:=p}) (fun p=>c+1+2<p) ?_ ?_))
   ·by_cases h41:x.ty=41#16
    ·have d41:decide (x.ty=41#16)=true:=J5 h41
     refine aA rfl (aW [19,0,5,6,7,8] rfl rfl rfl fun K hK=>?_)
     simp(disch:=omega) only[Tryz.f34,go_sem,↓reduceIte,d41,Bool.not_true]
     refine hK _ ?_
     refine aB (cV (.tmp 19) rfl rfl rfl (fun h=>?_) (fun h=>?_))
     ·refine aI rfl ?_
      cases h
     refine aI rfl ?_
     clear h
     refine aQ rfl (dWa ?_)
     refine⟨_,by omega,⟨fun _=> .inr rfl,fun i o hi=>fTr (by simp(disch:=omega) only[aV,bY,↓reduceIte]<;>rfl) (by simp(disch:=omega) only[aV,bY,↓reduceIte]<;>rfl) (by simp(disch:=omega) only[aV,↓reduceIte]<;>rfl) i o hi,U3 _⟩⟩
    have d41:decide (x.ty=41#16)=false:=J6 h41
    have ht:x.ttl.toNat<2147483648:=hok.resolve_left h41
    have dt:decide (2147483648#32≤x.ttl)=false:=J6 (by rw[BitVec.le_def];show¬2147483648≤_;omega)
    refine aA rfl (aW [19,0,5,6,7,8] rfl rfl rfl fun K hK=>?_)
    simp(disch:=omega) only[Tryz.f34,go_sem,↓reduceIte,d41,dt,Bool.not_false]
    refine hK _ ?_
    refine aB (cV (.tmp 19) rfl rfl rfl (fun h=>?_) (fun h=>?_))
    ·refine aI rfl ?_
     cases h
    refine aI rfl ?_
    clear h
    refine aQ rfl (dWa ?_)
    refine⟨_,by omega,⟨fun _=> .inr rfl,fun i o hi=>fTr (by simp(disch:=omega) only[aV,bY,↓reduceIte]<;>rfl) (by simp(disch:=omega) only[aV,bY,↓reduceIte]<;>rfl) (by simp(disch:=omega) only[aV,↓reduceIte]<;>rfl) i o hi,U3 _⟩⟩
   rintro c2 hc2 n0
   simp only at hc2⊢
   refine aW [0,5,7,8] rfl rfl rfl fun K hK=>?_
   simp(disch:=omega) only[Tryz.f34,go_sem,↓reduceIte,fLo,hcl,hsn,U0,U1,J9]
   refine hK _ ?_
   refine bU (aB (aW [0,5,7,8] rfl rfl rfl fun K hK=>?_))
   simp(disch:=omega) only[Tryz.f34,go_sem,↓reduceIte]
   refine hK _ ?_
   refine bT ?_
   refine⟨⟨k+1,e',l++[x],c2+3,_⟩,⟨by simp only;omega,hl1.trans (by rw[hll]),he',by rw[show N-(k+1)=j by omega];exact hrun,by simp only;omega,by simp only;omega⟩,by simp only;omega,⟨fun _=> .inr ?_,fun i o hi=>?_,U3 _⟩⟩
   ·simp only[hl1,Int.natCast_add,Int.natCast_one]
   simp only at hi
   exact fSr (by simp(disch:=omega) only[aV,kE,bY,↓reduceIte]<;>rfl) (by simp(disch:=omega) only[aV,↓reduceIte]<;>rfl) i o hi
  refine aI rfl ?_
  obtain rfl:k=N:=by omega
  rw[Nat.sub_self,fRr]at hrun
  simp only[Option.some.injEq,Prod.mk.injEq]at hrun
  obtain⟨rfl,rfl⟩:=hrun
  refine bF 0 rfl rfl (aY (aZ (bE (aB (aA rfl (aW [4] rfl rfl rfl fun K hK=>?_))))))
  simp(disch:=omega) only[Tryz.f34,go_sem,↓reduceIte]
  refine hK _ ?_
  refine aB (aS rfl ?_)
  refine⟨.inl rfl,q,?_,?_,by omega,by rw[fIh];omega,?_,fSa _,fVp _ _ _⟩
  ·simp only[bV,bK,bQ,Tryz.f34,go_sem]
  ·simp(disch:=omega) only[aV,↓reduceIte]
  simp(disch:=omega) only[aV,bY,↓reduceIte]
 cases hg
theorem fVc:bX Tryz.prog GLh 34 (.heap (rdF rsG)):=⟨⟨_,Tryz.func34,rfl,rfl⟩,dUz⟩
end Go.AX

namespace Go.AX
open Go Go.Proofs Go.Shelf Go.RowKit Go.Lib Go.Sort
theorem fUg: ∃i0,Tryz.prog.info? 45=some i0∧i0.size=5:=by
 have h:(Tryz.prog.info? 45).map (·.size)=some 5:=by kernel_rfl
 cases h2:Tryz.prog.info? 45 with
 |none=>rw[h2]at h;cases h
 |some i=>rw[h2]at h;exact⟨i,rfl,J0 h⟩
set_option maxHeartbeats 4000000 in
set_option maxRecDepth 1000000 in
theorem fSp (blk off m cap:Nat) (w W2:World) (v:Value) (hcap:m+1≤cap)
  (hcl: ∀ty,(Builtin.clear_ #[26] ty #[.slice (some ⟨blk,off+m*5,none⟩) 1 (cap-m)]).run Tryz.prog (w.drew.setCells blk (off+m*5) [])=.ok v W2):
  Calls Tryz.prog 39 #[.slice (some ⟨blk,off,none⟩) (m+1) cap,.int .i64 (m:Int),.int .i64 ((m+1:Nat):Int)] w fun e w'=>e=.returned (.slice (some ⟨blk,off,none⟩) m cap)∧w'=W2:=by
 obtain⟨i0,hi0,hz1⟩:=fUg
 obtain⟨A,hA⟩: ∃A:Addr,(if cap=m+1 then some (⟨blk,off,none⟩:Addr)else some ⟨blk,off+(m+1)*5,none⟩)=some A:=by
  by_cases h:cap=m+1
  ·exact⟨_,J4 h⟩
  ·exact⟨_,J3 h⟩
 have t30:=Tryz.underlying26
 have mixd:Tryz.prog.follows .mixedOrders=true:=bZ
 have hic:m≤cap:=by omega
 have h00:(0:Int)≤(m:Int)+1:=by omega
 go_enter Tryz.func39,Tryz.ntmps39
 go_wp2_with fail
 have s1:Hid (([]:List Value).length=0*5):=rfl
 go_region_law_o (refine step_append_room rfl (.tmp 22) (.tmp 25) 26 rfl 45 i0 5 t30 hi0 hz1 blk off m cap (by simp[Act.eval,Act.put]) A 0 (cap-(m+1)) [] (by simp[Act.eval,Act.put]) s1.out (fun j u hu=>by simp at hu) (fun u hu=>by simp at hu) (by omega) (fun j hj=>by simp at hj) ?_)
 go_wp2
 go_ret
 exact⟨rfl,rfl⟩
def z5c:List AV:=[.v (.slice none 0 0),.w16 0#16,.w16 0#16,.w32 0#32,.v (.slice none 0 0)]
def dlO (q n:Nat) (i j:Int) (hp:H) (nx:Nat):AO→Option (AV×H×Nat)
 | .cells xs mt=>aN (mt=true∧xs.length=5*n∧0<n∧i=(n:Int)-1∧j=i+1∧n≤65536) (some (.os q 0 (n-1) 5 true,upd hp q (.cells (xs.take (5*(n-1))++z5c) true),nx))
 |_=>none
def dlG:List AV→H→Nat→Option (AV×H×Nat)
 |[.os q 0 n 5 true,.i i,.i j],hp,nx=>aK (hp q) (dlO q n i j hp nx)
 |_,_,_=>none
theorem fUk (q n:Nat) (i j:Int) (hp:H) (nx:Nat):dlG [.os q 0 n 5 true,.i i,.i j] hp nx=aK (hp q) (dlO q n i j hp nx):=(rfl)
theorem fTx (q n:Nat) (i j:Int) (hp:H) (nx:Nat) (xs:List AV) (mt:Bool):dlO q n i j hp nx (.cells xs mt)=aN (mt=true∧xs.length=5*n∧0<n∧i=(n:Int)-1∧j=i+1∧n≤65536) (some (.os q 0 (n-1) 5 true,upd hp q (.cells (xs.take (5*(n-1))++z5c) true),nx)):=(rfl)
attribute [go_sem] fUk fTx
theorem fVl {q m:Nat} {hp:H} {xs:List AV} (ho:hp q=some (.cells xs true)) (hl:xs.length=5*(m+1)):aKa Tryz.prog 26 (.os q (m*5) 1 5 true) hp=some (.tup [],upd hp q (.cells (xs.take (5*m)++z5c) true)):=by
 have e:yC xs (m*5) (rep 1 z5c)=xs.take (5*m)++z5c:=by
  unfold yC
  rw[show rep 1 z5c=z5c from rfl,show z5c.length=5 from rfl,List.drop_of_length_le (by omega),List.append_nil,Nat.mul_comm]
 have hz:lA Tryz.prog 45=some z5c:=fYm
 simp only[aKa,Tryz.underlying26,fYp,hz,aX,ho]
 rw[hH _ ⟨by decide,rfl⟩]
 exact(hH _ ⟨trivial,trivial,by omega⟩).trans (by rw[e])
theorem fVj:fHs Tryz.prog GLh 39 dlG:=by
 intro c σ I w hp nx args vals r hp' nx' hGL hi hs hr hg
 unfold dlG at hg
 split at hg
 case h_2=>cases hg
 rename_i q n i j
 replace hg:=aJ hg;obtain⟨o,ho,hg⟩:=hg
 obtain⟨xs,mt,rfl⟩: ∃a b,o=AO.cells a b:=by cases o<;>first|exact⟨_,_,rfl⟩|(simp[dlO]at hg)
 rw[fTx]at hg
 replace hg:=aP hg;obtain⟨⟨rfl,hxl,hn,rfl,rfl,hn2⟩,hg⟩:=hg
 simp only[Option.some.injEq,Prod.mk.injEq]at hg
 obtain⟨rfl,rfl,rfl⟩:=hg
 refine⟨U3 _,?_⟩
 obtain⟨m,rfl⟩: ∃m,n=m+1:=⟨n-1,by omega⟩
 have r0:=hr 0 (by simp)
 have r1:=hr 1 (by simp)
 have r2:=hr 2 (by simp)
 obtain⟨l⟩:=vals
 simp only[List.size_toArray,List.length_cons,List.length_nil,Nat.zero_add]at hs
 match l,hs with
 |[v0,v1,v2],_=>
  have e1:v1=.int .i64 (((m+1:Nat):Int)-1):=fGm r1
  have e2:v2=.int .i64 (((m+1:Nat):Int)-1+1):=fGm r2
  rw[show((m+1:Nat):Int)-1=(m:Int)by omega]at e1
  rw[show((m+1:Nat):Int)-1+1=((m+1:Nat):Int)by omega]at e2
  subst e1;subst e2
  have r0':Rel σ I w (.os q 0 (m+1) 5 true) v0:=r0
  cases r0' with
  |os _ _ _ _ _ blk base sz cap g1 g2 g3=>
   have hi2:Inv c σ I (w.drew.setCells blk (base+0+m*5) []) hp (fun id=>nx≤id):=hi.world rfl rfl rfl rfl
   have g4:=g3 rfl
   have hx:Rel σ I (w.drew.setCells blk (base+0+m*5) []) (.os q (m*5) 1 5 true) (.slice (some ⟨blk,base+0+m*5,none⟩) 1 (cap-m)):=by
    rw[Nat.add_zero]
    exact .os q (m*5) 1 5 true blk base sz (cap-m) g1 (by omega) (fun _=>by omega)
   obtain⟨v,w2,c1,_,c3,c4⟩:=aPh (P:=Tryz.prog) (ty:=0) (fVl ho hxl) hx hi2
   refine(fSp blk (base+0) m cap w w2 v g2 (fun ty=>c1)).mono ?_
   rintro e w' ⟨rfl,rfl⟩
   exact⟨_,σ,I,rfl,c3,.os q 0 m 5 true blk base sz cap g1 (by omega) g3,⟨fun _ _=>rfl,fun _ h=>h,fun k hk=>c4.heap k hk⟩,fun _ _ h=>h⟩
theorem fUo:fHm Tryz.prog 39:=⟨_,Tryz.func39,rfl,rfl⟩
theorem fVb:bX Tryz.prog GLh 39 (.heap dlG):=⟨fUo,fVj⟩
end Go.AX

namespace Go.AX
open Go Go.Proofs
set_option maxRecDepth 8000
def ixN:List RC→Nat→Int
 |[],_=> -1
 |c::r,k=>if c.ty=41#16 then(k:Int)else ixN r (k+1)
def ixG:List AV→Option AV
 |[.sl n xs,.fn 37 []]=>aK (unR xs) fun l=>aN (l.length=n∧n≤1000000) (some (.i (ixN l 0)))
 |_=>none
theorem dOw (n:Nat) (xs:List AV):ixG [.sl n xs,.fn 37 []]=aK (unR xs) fun l=>aN (l.length=n∧n≤1000000) (some (.i (ixN l 0))):=(rfl)
attribute [go_sem] dOw
set_option maxHeartbeats 4000000 in
theorem cYi:fHn Tryz.prog GLh 38 ixG:=by
 refine zK Tryz.func38 (aT rfl) ?_
 intro args r hg
 unfold ixG at hg
 split at hg
 ·rename_i n xs
  replace hg:=aJ hg;obtain⟨l,hl,hg⟩:=hg
  replace hg:=aP hg;obtain⟨⟨rfl,hn⟩,hg⟩:=hg
  obtain rfl:=J0 hg
  have:=fJl hl;subst this
  refine⟨J1 rfl,fun nx=>?_⟩
  clear hl hg
  obtain⟨R,hR⟩: ∃R,ixN l 0=R:=⟨_,rfl⟩
  rw[hR]
  refine aA rfl (aW [0,1] rfl rfl rfl fun K hK=>?_)
  simp(disch:=omega) only[Tryz.f38,go_sem,↓reduceIte]
  refine hK _ ?_
  refine aB (aA rfl (aA rfl (aW [0,1,7,8] rfl rfl rfl fun K hK=>?_)))
  simp(disch:=omega) only[Tryz.f38,go_sem,↓reduceIte]
  refine hK _ ?_
  refine aB (aR 0 rfl rfl (bR (fun p:KC5=> {fr:=[(0,.sl l.length (rcC l)),(1,.fn 37 []),(7,.i (l.length:Int)),(8,.i (p.k:Int))],hp:=fun _=>none,nx:=0,cx:=p.c}) (fun p=>p.k≤l.length∧ixN (l.drop p.k) p.k=R) (fun p=>l.length-p.k) rfl ⟨⟨0,_⟩,⟨Nat.zero_le _,hR⟩,bD rfl rfl (U3 _)⟩ ?_))
  rintro⟨k,c⟩ ⟨hk,he⟩ n0
  simp only at hk he⊢
  refine aA rfl (aW [9,0,1,7,8] rfl rfl rfl fun K hK=>?_)
  simp(disch:=omega) only[Tryz.f38,go_sem,↓reduceIte]
  refine hK _ ?_
  refine aB (aA rfl (bA (.tmp 9) rfl rfl rfl (fun h=>?_) (fun h=>?_)))
  ·refine aI rfl ?_
   have hkl:k<l.length:=by omega
   have hcl:=fIh l
   obtain⟨q,hq⟩: ∃q,l[k]=q:=⟨_,rfl⟩
   have hdr:(rcC l).drop (5*k)=[.sl q.nm.length (cS q.nm),.w16 q.ty,.w16 q.cl,.w32 q.ttl,.sl q.d.length (c8 q.d)]++rcC (l.drop (k+1)):=by
    rw[fIr,List.drop_eq_getElem_cons hkl,hq];rfl
   have hdr2:(rcC l).drop (k*5)=[.sl q.nm.length (cS q.nm),.w16 q.ty,.w16 q.cl,.w32 q.ttl,.sl q.d.length (c8 q.d)]++rcC (l.drop (k+1)):=by rw[Nat.mul_comm];exact hdr
   rw[List.drop_eq_getElem_cons hkl,hq,ixN]at he
   clear h
   refine aQ rfl (aB (aA rfl (aR 1 rfl rfl (aA rfl (aW [0,1,5,7,8] rfl rfl rfl fun K hK=>?_)))))
   simp(disch:=omega) only[Tryz.f38,go_sem,↓reduceIte]
   refine hK _ ?_
   refine aB (aA rfl (aC (Γ:=bC [(37,.pure true fLg)]) [16,0,1,5,7,8] (aH fLt aO) rfl rfl rfl (fun K hK=>?_)))
   simp(disch:=omega) only[Tryz.f38,go_sem,↓reduceIte,hdr2,List.cons_append,List.nil_append]
   refine hK _ ?_
   refine aB (bA (.tmp 16) rfl rfl rfl (fun h=>?_) (fun h=>?_))
   ·refine aI rfl ?_
    rw[J4 h]at he
    rw[←he]
    refine aA rfl (aW [4] rfl rfl rfl fun K hK=>?_)
    simp(disch:=omega) only[Tryz.f38,go_sem,↓reduceIte]
    refine hK _ ?_
    refine aB (aS rfl (bN (bI (dF (bN (bI ?_))))))
    simp(disch:=omega) only[fHo,bV,bK,bQ,Tryz.f38,go_sem,↓reduceIte]
   refine aI rfl ?_
   rw[J3 h]at he
   clear h
   refine aQ rfl (bU (aB (aW [0,1,7,8] rfl rfl rfl fun K hK=>?_)))
   simp(disch:=omega) only[Tryz.f38,go_sem,↓reduceIte]
   refine hK _ ?_
   refine bT ?_
   refine⟨⟨k+1,_⟩,⟨by simp only;omega,he⟩,by simp only;omega,bD ?_ rfl (U3 _)⟩
   simp only[Int.natCast_add,Int.natCast_one]
  refine aI rfl ?_
  have hkl:l.drop k=[]:=List.drop_of_length_le (by omega)
  clear h
  rw[hkl,ixN]at he
  rw[←he]
  refine bF 0 rfl rfl (aY (aZ (bE (aB (aA rfl (aW [4] rfl rfl rfl fun K hK=>?_))))))
  simp(disch:=omega) only[Tryz.f38,go_sem,↓reduceIte]
  refine hK _ ?_
  refine aB (aS rfl ?_)
  simp(disch:=omega) only[fHo,bV,bK,bQ,Tryz.f38,go_sem,↓reduceIte]
 cases hg
theorem fTv:bX Tryz.prog GLh 38 (.pure true ixG):=⟨⟨_,Tryz.func38,rfl,rfl⟩,cYi⟩
def ctG:List AV→Option AV
 |[.sl n xs,.fn 37 []]=>aK (unR xs) fun l=>aN (l.length=n∧n≤1000000) (some (.b (decide (0≤ixN l 0))))
 |_=>none
theorem fUl (n:Nat) (xs:List AV):ctG [.sl n xs,.fn 37 []]=aK (unR xs) fun l=>aN (l.length=n∧n≤1000000) (some (.b (decide (0≤ixN l 0)))):=(rfl)
attribute [go_sem] fUl
set_option maxHeartbeats 4000000 in
theorem fVk:fHn Tryz.prog GLh 36 ctG:=by
 refine zK Tryz.func36 (aT rfl) ?_
 intro args r hg
 unfold ctG at hg
 split at hg
 ·rename_i n xs
  replace hg:=aJ hg;obtain⟨l,hl,hg⟩:=hg
  replace hg:=aP hg;obtain⟨⟨rfl,hn⟩,hg⟩:=hg
  obtain rfl:=J0 hg
  have:=fJl hl;subst this
  refine⟨J1 rfl,fun nx=>?_⟩
  clear hl hg
  refine aA rfl (aW [0,1] rfl rfl rfl fun K hK=>?_)
  simp(disch:=omega) only[Tryz.f36,go_sem,↓reduceIte]
  refine hK _ ?_
  refine aB (aA rfl (aC (Γ:=bC [(38,.pure true ixG)]) [4] (aH fTv aO) rfl rfl rfl (fun K hK=>?_)))
  simp(disch:=omega) only[Tryz.f36,go_sem,↓reduceIte,fNa]
  refine hK _ ?_
  refine aB (aS rfl ?_)
  simp(disch:=omega) only[fHo,bV,bK,bQ,Tryz.f36,go_sem,↓reduceIte]
 cases hg
theorem fTw:bX Tryz.prog GLh 36 (.pure true ctG):=⟨⟨_,Tryz.func36,rfl,rfl⟩,fVk⟩
end Go.AX

namespace Go.AX
open Go Go.Proofs
set_option maxRecDepth 20000
def fSz (ad:List RC):Option (List RC×Option RC):=
 if ixN ad 0= -1 then some (ad,none)
 else match ad.getLast? with
  |none=>none
  |some o=>if o.ty=41#16∧o.nm=[]∧ixN ad.dropLast 0= -1 then some (ad.dropLast,some o)else none
theorem fSj (o:RC) (ho:o.ty=41#16): ∀(l:List RC) (k:Nat),ixN l k= -1→ixN (l++[o]) k=((k+l.length:Nat):Int)
 |[],k,_=>by
  rw[List.nil_append,ixN,J4 ho];rfl
 |c::r,k,h=>by
  rw[ixN]at h
  split at h
  ·omega
  rename_i hc
  rw[List.cons_append,ixN,J3 hc,fSj o ho r (k+1) h,List.length_cons]
  congr 1;omega
theorem fSy {ad l:List RC} {o:Option RC} (h:fSz ad=some (l,o)):(o=none∧l=ad∧ixN ad 0= -1)∨∃x,o=some x∧ad=l++[x]∧x.ty=41#16∧x.nm=[]∧ixN l 0= -1:=by
 unfold fSz at h
 split at h
 ·rename_i h0
  simp only[Option.some.injEq,Prod.mk.injEq]at h
  exact .inl ⟨h.2.symm,h.1.symm,h0⟩
 rcases hl:ad.getLast? with _|x
 ·rw[hl]at h;cases h
 rw[hl]at h
 simp only at h
 split at h
 ·rename_i hc
  simp only[Option.some.injEq,Prod.mk.injEq]at h
  obtain⟨rfl,rfl⟩:=h
  obtain⟨ys,rfl⟩:=List.getLast?_eq_some_iff.1 hl
  rw[List.dropLast_concat]at hc⊢
  exact .inr ⟨x,rfl,rfl,hc⟩
 cases h
structure PM where
 qs:List QN
 an:List RC
 au:List RC
 ad:List RC
 op:Option RC
def pmR (b:List B8):Option PM:=
 if 12≤b.length then
  match fJv b (c16 b 4) 12 []with
  |none=>none
  |some (q,e1)=>match fRr b (c16 b 6) e1 []with
   |none=>none
   |some (an,e2)=>match fRr b (c16 b 8) e2 []with
    |none=>none
    |some (au,e3)=>match fRr b (c16 b 10) e3 []with
     |none=>none
     |some (ad,e4)=>if e4=b.length∧ixN an 0= -1∧ixN au 0= -1 then
       match fSz ad with
       |none=>none
       |some (l,o)=>some ⟨q,an,au,l,o⟩
      else none
 else none
theorem fTk {b:List B8} {p:PM} (h:pmR b=some p):12≤b.length∧∃L E an e2 au e3 ad,fJv b (c16 b 4) 12 []=some (L,E)∧fRr b (c16 b 6) E []=some (an,e2)∧fRr b (c16 b 8) e2 []=some (au,e3)∧fRr b (c16 b 10) e3 []=some (ad,b.length)∧
  p.qs=L∧p.an=an∧p.au=au∧ixN an 0= -1∧ixN au 0= -1∧fSz ad=some (p.ad,p.op):=by
 unfold pmR at h
 split at h
 rotate_left
 ·cases h
 rename_i h12
 rcases h1:fJv b (c16 b 4) 12 []with _|⟨q,e1⟩
 ·rw[h1]at h;cases h
 rw[h1]at h;simp only at h
 rcases h2:fRr b (c16 b 6) e1 []with _|⟨an,e2⟩
 ·rw[h2]at h;cases h
 rw[h2]at h;simp only at h
 rcases h3:fRr b (c16 b 8) e2 []with _|⟨au,e3⟩
 ·rw[h3]at h;cases h
 rw[h3]at h;simp only at h
 rcases h4:fRr b (c16 b 10) e3 []with _|⟨ad,e4⟩
 ·rw[h4]at h;cases h
 rw[h4]at h;simp only at h
 split at h
 rotate_left
 ·cases h
 rename_i hc
 obtain⟨rfl,c2,c3⟩:=hc
 rcases h5:fSz ad with _|⟨l,o⟩
 ·rw[h5]at h;cases h
 rw[h5]at h;simp only at h
 obtain rfl:=J0 h
 exact⟨h12,q,e1,an,e2,au,e3,ad,rfl,h2,h3,h4,rfl,rfl,rfl,c2,c3,h5⟩
theorem fSh {b:List B8}: ∀ {k a:Nat} {l L:List QN} {E:Nat},a≤b.length→fJv b k a l=some (L,E)→E≤b.length
 |0,a,l,L,E,ha,h=>by
  rw[fJv]at h
  simp only[Option.some.injEq,Prod.mk.injEq]at h
  omega
 |k+1,a,l,L,E,ha,h=>by
  rw[fJv]at h
  rcases hx:qnR b a with _|⟨x,e⟩
  ·rw[hx]at h;cases h
  rw[hx]at h;simp only at h
  exact fSh (fNn hx) h
theorem fRz {b:List B8}: ∀ {k a:Nat} {l L:List RC} {E:Nat},a≤b.length→fRr b k a l=some (L,E)→E≤b.length
 |0,a,l,L,E,ha,h=>by
  rw[fRr]at h
  simp only[Option.some.injEq,Prod.mk.injEq]at h
  omega
 |k+1,a,l,L,E,ha,h=>by
  rw[fRr]at h
  rcases hx:reR b a with _|⟨x,e⟩
  ·rw[hx]at h;cases h
  rw[hx]at h;simp only at h
  split at h
  ·exact fRz (fSv hx) h
  cases h
theorem fRy {b:List B8}: ∀ {k a:Nat} {l L:List RC} {E:Nat},fRr b k a l=some (L,E)→L.length=l.length+k
 |0,a,l,L,E,h=>by
  rw[fRr]at h
  simp only[Option.some.injEq,Prod.mk.injEq]at h
  rw[h.1];rfl
 |k+1,a,l,L,E,h=>by
  rw[fRr]at h
  rcases hx:reR b a with _|⟨x,e⟩
  ·rw[hx]at h;cases h
  rw[hx]at h;simp only at h
  split at h
  ·rw[fRy h,List.length_append,List.length_singleton];omega
  cases h
theorem fRv {b:List B8} {k a:Nat} {L:List RC} {E:Nat} (h:fRr b k a []=some (L,E)):L.length=k:=by
 have:=fRy h
 simpa using this
theorem sub7 {g:H} {a b c d e f h:Nat} {x1 x2 x3 x4 x5 x6 x7:AO} (h1:g a=some x1) (h2:g b=some x2) (h3:g c=some x3) (h4:g d=some x4) (h5:g e=some x5) (h6:g f=some x6) (h7:g h=some x7): ∀j o,upd (upd (upd (upd (upd (upd (upd (fun _=>none) a x1) b x2) c x3) d x4) e x5) f x6) h x7 j=some o→g j=some o:=by
 intro j o hj
 rw[bJ]at hj
 split at hj
 ·rename_i e1;rw[e1,h7];exact hj
 rw[bJ]at hj
 split at hj
 ·rename_i e1;rw[e1,h6];exact hj
 exact fNi h1 h2 h3 h4 h5 j o hj
def cdO (r0:Int):Option RC→Int
 |none=>r0
 |some o=>ior r0 (W (((o.ttl>>>24).toNat:Int)*2^min 4 64))
def szO:Option RC→BitVec 16
 |none=>0#16
 |some o=>o.cl
def doO:Option RC→Bool
 |none=>false
 |some o=> !decide (o.ttl&&&32768#32=0#32)
def fRt (b:List B8) (p:PM):List AV:=[.w16 (n16 b 0),.b (!decide (b1 b 2&&&128#32=0#32)),.i ((b1 b 2>>>3&&&15#32).toNat:Int),.b (!decide (b1 b 2&&&4#32=0#32)),.b (!decide (b1 b 2&&&2#32=0#32)),.b (!decide (b1 b 2&&&1#32=0#32)),.b (!decide (b1 b 3&&&128#32=0#32)),.i (cdO ((b1 b 3&&&15#32).toNat:Int) p.op),.sl p.qs.length (qsC p.qs),.sl p.an.length (rcC p.an),.sl p.au.length (rcC p.au),.sl p.ad.length (rcC p.ad),.b p.op.isSome,.w16 (szO p.op),.b (doO p.op)]
def fSm:List AV→List AV→Option (Option (AV×List AV))
 |[.op _ 0],[.sl n xs,.i 0]=>aK (fHq xs) fun b=>aN (b.length=n∧n≤100000) (aK (pmR b) fun p=>some (some (.agg (fRt b p),[.sl b.length (c8 b),.i (b.length:Int)])))
 |_,_=>none
theorem fTl (id n:Nat) (xs:List AV):fSm [.op id 0] [.sl n xs,.i 0]=aK (fHq xs) fun b=>aN (b.length=n∧n≤100000) (aK (pmR b) fun p=>some (some (.agg (fRt b p),[.sl b.length (c8 b),.i (b.length:Int)]))):=(rfl)
attribute [go_sem] fTl
theorem fSb (b:List B8) (p:PM):AV.ids (.agg (fRt b p))=0:=by
 unfold fRt
 simp[AV.ids,AV.ids.idsL,fKq,fSa]
set_option maxHeartbeats 8000000 in
theorem fSl:fHs Tryz.prog GLh 18 (rdH fSm)∧dE Tryz.prog GLh 18 chM (rdP fSm):=by
 refine dT Tryz.func18 (aT rfl) ?_
 intro id off rest nx xs o hg
 unfold fSm at hg
 split at hg
 ·rename_i id2 n xs2 heq
  simp only[List.cons.injEq,AV.op.injEq]at heq
  obtain⟨⟨rfl,rfl⟩,rfl⟩:=heq
  replace hg:=aJ hg;obtain⟨b,hl,hg⟩:=hg
  replace hg:=aP hg;obtain⟨⟨rfl,hnb⟩,hg⟩:=hg
  replace hg:=aJ hg;obtain⟨p,hp,hg⟩:=hg
  obtain rfl:=J0 hg
  have:=bW hl;subst this
  refine⟨J1 rfl,fun hid=>?_⟩
  clear hl hg
  obtain⟨h12,L,E,an,e2,au,e3,ad,hqs,hrn,hru,hrd,hopt⟩:=fTk hp
  have hE:=fSh (by omega) hqs
  have hE2:=fRz hE hrn
  have hE3:=fRz hE2 hru
  have hln:=fRv hrn
  have hlu:=fRv hru
  have hld:=fRv hrd
  refine aA rfl (aW [0,2] rfl rfl rfl fun K hK=>?_)
  simp(disch:=omega) only[Tryz.f18,go_sem,↓reduceIte]
  refine hK _ ?_
  refine aB ?_
  have n0:rL b 2 0=some (.w32 (fRs (b.take 2)),[.sl b.length (c8 b),.i ((0+2:Nat):Int)]):=eKs (by omega)
  have n2:=eKs (l:=b) (k:=1) (a:=2) (by omega)
  have n3:=eKs (l:=b) (k:=1) (a:=3) (by omega)
  refine aA rfl (aC (Γ:=bC [(32,.heap (rdH eN))]) [0,2,3] (aH fL aO) rfl rfl rfl (fun K hK=>?_))
  simp(disch:=omega) only[Tryz.f18,go_sem,↓reduceIte,n0]
  refine hK _ ?_
  refine aB (aA rfl (aC (Γ:=bC [(32,.heap (rdH eN))]) [0,2,3,4,5] (aH fL aO) rfl rfl rfl (fun K hK=>?_)))
  simp(disch:=omega) only[Tryz.f18,go_sem,↓reduceIte,n2,n3,U2]
  refine hK _ ?_
  refine aB (aA rfl (aW [0,2,3,5] rfl rfl rfl fun K hK=>?_))
  simp(disch:=omega) only[Tryz.f18,go_sem,↓reduceIte]
  refine hK _ ?_
  refine aB (aA rfl (aW [0,2,3] rfl rfl rfl fun K hK=>?_))
  simp(disch:=omega) only[Tryz.f18,go_sem,↓reduceIte]
  refine hK _ ?_
  refine aB (aA rfl (aW [0,2,3,6] rfl rfl rfl fun K hK=>?_))
  simp(disch:=omega) only[Tryz.f18,go_sem,↓reduceIte]
  refine hK _ ?_
  refine aB (aA rfl (aA rfl (aW [0,2,3,6,47] rfl rfl rfl fun K hK=>?_)))
  simp(disch:=omega) only[Tryz.f18,go_sem,↓reduceIte]
  refine hK _ ?_
  refine aB (yK (fMn (a:=id) (b:=nx) (c:=nx+1+4) (d:=nx+49) (x:=.cells [.sl b.length (c8 b),.i ((4:Nat):Int)] true) (y:=.cells z15 true) (z:=.cells (ms0 b (.v (.slice none 0 0))) true) (w:=.cells (fKi b 0) true) ?_ ?_ ?_ ?_) ?_)
  ·simp(disch:=omega) only[aV,bY,↓reduceIte]
  ·simp(disch:=omega) only[aV,bY,↓reduceIte,z15]
  ·simp(disch:=omega) only[aV,bY,↓reduceIte]
   rfl
  ·simp(disch:=omega) only[aV,↓reduceIte,fOa]
  obtain⟨mi,hmi⟩: ∃y,nx+1+4=y:=⟨_,rfl⟩
  obtain⟨ci,hci⟩: ∃y,nx+49=y:=⟨_,rfl⟩
  rw[hmi,hci]
  refine aR 0 rfl rfl ?_
  refine bR (fun p:MGI=> {fr:=[(0,.op id 0),(2,.op nx 0),(3,.op mi 0),(6,.op ci 0),(47,.i (p.k:Int))],hp:=upd (upd (upd (upd (fun _=>none) id (.cells [.sl b.length (c8 b),.i ((4+2*p.k:Nat):Int)] true)) nx (.cells z15 true)) mi (.cells (ms0 b (.v (.slice none 0 0))) true)) ci (.cells (fKi b p.k) true),nx:=0,cx:=p.c}) (fun p=>p.k≤4∧ci<p.c) (fun p=>4-p.k) rfl ⟨⟨0,_⟩,⟨Nat.zero_le _,by simp only;omega⟩,bD rfl rfl (U3 _)⟩ ?_
  rintro⟨k,c⟩ ⟨hk,hcc⟩ n0
  simp only at hk hcc⊢
  refine aA rfl (aW [48,0,2,3,6,47] rfl rfl rfl fun K hK=>?_)
  simp(disch:=omega) only[Tryz.f18,go_sem,↓reduceIte]
  refine hK _ ?_
  refine aB (aA rfl (bA (.tmp 48) rfl rfl rfl (fun h=>?_) (fun h=>?_)))
  ·refine aI rfl ?_
   have hk4:k<4:=by omega
   have nk:=eKs (l:=b) (k:=2) (a:=4+2*k) (by omega)
   have hset:=fMf b hk4
   have hcv:(fRs (List.take 2 (List.drop (4+2*k) b))).toNat=c16 b (4+2*k):=rfl
   clear h
   refine aQ rfl (aB (aA rfl (aR 1 rfl rfl (aA rfl (aW [0,2,3,6,7,47] rfl rfl rfl fun K hK=>?_)))))
   simp(disch:=omega) only[Tryz.f18,go_sem,↓reduceIte]
   refine hK _ ?_
   refine aB (aC (Γ:=bC [(32,.heap (rdH eN))]) [0,2,3,6,47] (aH fL aO) rfl rfl rfl (fun K hK=>?_))
   simp(disch:=omega) only[Tryz.f18,go_sem,↓reduceIte,nk,fMg,hcv,hset,U2]
   refine hK _ ?_
   refine bU (aB (aW [0,2,3,6,47] rfl rfl rfl fun K hK=>?_))
   simp(disch:=omega) only[Tryz.f18,go_sem,↓reduceIte]
   refine hK _ ?_
   refine bT ?_
   refine⟨⟨k+1,_⟩,⟨by simp only;omega,by simp only;omega⟩,by simp only;omega,⟨fun _=> .inr ?_,fun j o hj=>?_,U3 _⟩⟩
   ·simp only[Int.natCast_add,Int.natCast_one]
   simp only at hj
   rw[show 4+2*(k+1)=4+2*k+2 by omega]at hj
   exact fMn (by simp(disch:=omega) only[aV,bY,↓reduceIte]) (by simp(disch:=omega) only[aV,bY,↓reduceIte]) (by simp(disch:=omega) only[aV,bY,↓reduceIte]) (by simp(disch:=omega) only[aV,↓reduceIte]) j o hj
  refine aI rfl ?_
  obtain rfl:k=4:=by omega
  refine bF 0 rfl rfl (aY (aZ (bE (aB (aA rfl (aA rfl ?_))))))
  rw[fNz]
  obtain⟨N1,hN1⟩: ∃N,c16 b 6=N:=⟨_,rfl⟩
  obtain⟨N2,hN2⟩: ∃N,c16 b 8=N:=⟨_,rfl⟩
  obtain⟨N3,hN3⟩: ∃N,c16 b 10=N:=⟨_,rfl⟩
  have hb1:N1<65536:=by rw[←hN1];exact fOe b 6
  have hb2:N2<65536:=by rw[←hN2];exact fOe b 8
  have hb3:N3<65536:=by rw[←hN3];exact fOe b 10
  rw[hN1]at hrn hln⊢
  rw[hN2]at hru hlu⊢
  rw[hN3]at hrd hld⊢
  refine aW [0,2,3,6,57,58] rfl rfl rfl fun K hK=>?_
  simp(disch:=omega) only[Tryz.f18,go_sem,↓reduceIte,J8,J9]
  refine hK _ ?_
  refine aB ?_
  refine aDn mi 3 (fKg b) fKf true (by simp(disch:=omega) only[aV,bY,↓reduceIte];rfl) (by omega) ?_
  obtain⟨N,hN⟩: ∃N,c16 b 4=N:=⟨_,rfl⟩
  rw[hN]at hqs⊢
  have hNl:N<65536:=by rw[←hN];exact fOe b 4
  refine aR 2 rfl rfl ?_
  refine bR (fun p:QLI=> {fr:=[(0,.op id 0),(2,.op nx 0),(3,.op mi 0),(6,.op ci 0),(57,.i (N:Int)),(58,.i (p.k:Int))],hp:=upd (upd (upd (upd (upd (fun _=>none) id (.cells [.sl b.length (c8 b),.i (p.e:Int)] true)) nx (.cells z15 true)) ci (.cells [.i (N:Int),.i (N1:Int),.i (N2:Int),.i (N3:Int)] true)) p.q (.cells (qsC p.l) true)) mi (.cells (fKg b++ .os p.q 0 p.l.length 3 true::fKf) true),nx:=0,cx:=p.c}) (fun p=>p.k≤N∧p.l.length=p.k∧p.e≤b.length∧fJv b (N-p.k) p.e p.l=some (L,E)∧ci<p.q∧p.q<p.c) (fun p=>N-p.k) rfl ⟨⟨0,12,[],c+1+3,_⟩,⟨Nat.zero_le _,rfl,h12,hqs,by simp only;omega,by simp only;omega⟩,⟨fun _=> .inr rfl,fun j o hj=>fNi (by simp(disch:=omega) only[aV,bY,↓reduceIte]<;>rfl) (by simp(disch:=omega) only[aV,bY,↓reduceIte]<;>rfl) (by simp(disch:=omega) only[aV,bY,↓reduceIte]<;>rfl) (by simp(disch:=omega) only[aV,bY,↓reduceIte]<;>rfl) (by simp(disch:=omega) only[aV,↓reduceIte]<;>rfl) j o hj,U3 _⟩⟩ ?_
  rintro⟨k,e,l,q,c⟩ ⟨hk,hl,he,hrun,hq1,hq2⟩ n0
  simp only at hk hl he hrun hq1 hq2⊢
  refine aA rfl (aW [59,0,2,3,6,57,58] rfl rfl rfl fun K hK=>?_)
  simp(disch:=omega) only[Tryz.f18,go_sem,↓reduceIte]
  refine hK _ ?_
  refine aB (aA rfl (bA (.tmp 59) rfl rfl rfl (fun h=>?_) (fun h=>?_)))
  ·refine aI rfl ?_
   obtain⟨j,hj⟩: ∃j,N-k=j+1:=⟨N-k-1,by omega⟩
   rw[hj,fJv]at hrun
   rcases hx:qnR b e with _|⟨x,e'⟩
   ·rw[hx]at hrun;cases hrun
   rw[hx]at hrun
   simp only at hrun
   have he':=fNn hx
   have hA:qsA b (some (x,e'))=some (qA x,[.sl b.length (c8 b),.i (e':Int)]):=rfl
   have hd8: ∀y:AV,(List.drop 8 (fKg b++y::fKf)).head? =some y:=fun y=>rfl
   have hs8: ∀y z:AV,(fKg b++y::fKf).set 8 z=fKg b++z::fKf:=fun y z=>rfl
   have hl8: ∀y:AV,(fKg b++y::fKf).length=15:=fun y=>rfl
   have hsn:qsC l++[.sl x.n.length (cS x.n),.w16 x.t,.w16 x.c]=qsC (l++[x]):=by rw[fKl];rfl
   have hcl:=fIi l
   have hl1:(l++[x]).length=l.length+1:=by simp
   clear h
   refine aQ rfl (aB (aA rfl (aR 3 rfl rfl (aKy (Γ:=bC [(33,.heap (rdH qsG))]) 1 3 [0,1,2,3,4,5,6,7] [2,3,0,1,4,5,6,7] (fun k=>if k=3 then 0 else 2) [0,2,3,6,57,58] bZ (aH fOp aO) (by decide) rfl rfl rfl (by kernel_rfl) (fun K hK=>?_) (fun K hK=>?_)))))
   ·simp(disch:=omega) only[Tryz.f18,go_sem,nJ,lY,eDt,List.getElem?_cons_zero,List.getElem?_cons_succ,↓reduceIte,hd8,hs8,hl8,hx,hA,qA,hcl,hsn,U2,U0,U1,J9]
    refine hK _ ?_
    refine bU (aB (aW [0,2,3,6,57,58] rfl rfl rfl fun K hK=>?_))
    simp(disch:=omega) only[Tryz.f18,go_sem,↓reduceIte]
    refine hK _ ?_
    refine bT ?_
    refine⟨⟨k+1,e',l++[x],c+1+5,_⟩,⟨by simp only;omega,hl1.trans (by rw[hl]),he',by rw[show N-(k+1)=j by omega];exact hrun,by simp only;omega,by simp only;omega⟩,by simp only;omega,⟨fun _=> .inr ?_,fun j o hj=>?_,U3 _⟩⟩
    ·simp only[Int.natCast_add,Int.natCast_one]
    simp only at hj
    rw[hl1]at hj
    exact fNi (by simp(disch:=omega) only[aV,kE,bY,↓reduceIte]<;>rfl) (by simp(disch:=omega) only[aV,kE,bY,↓reduceIte]<;>rfl) (by simp(disch:=omega) only[aV,kE,bY,↓reduceIte]<;>rfl) (by simp(disch:=omega) only[aV,bY,↓reduceIte]<;>rfl) (by simp(disch:=omega) only[aV,↓reduceIte]<;>rfl) j o hj
   simp(disch:=omega) only[Tryz.f18,go_sem,nJ,lY,eDt,List.getElem?_cons_zero,List.getElem?_cons_succ,↓reduceIte,hd8,hs8,hl8,hx,hA,qA,hcl,hsn,U2,U0,U1,J9]
   refine hK _ ?_
   refine bU (aB (aW [0,2,3,6,57,58] rfl rfl rfl fun K hK=>?_))
   simp(disch:=omega) only[Tryz.f18,go_sem,↓reduceIte]
   refine hK _ ?_
   refine bT ?_
   refine⟨⟨k+1,e',l++[x],c+1+5,_⟩,⟨by simp only;omega,hl1.trans (by rw[hl]),he',by rw[show N-(k+1)=j by omega];exact hrun,by simp only;omega,by simp only;omega⟩,by simp only;omega,⟨fun _=> .inr ?_,fun j o hj=>?_,U3 _⟩⟩
   ·simp only[Int.natCast_add,Int.natCast_one]
   simp only at hj
   rw[hl1]at hj
   exact fNi (by simp(disch:=omega) only[aV,kE,bY,↓reduceIte]<;>rfl) (by simp(disch:=omega) only[aV,kE,bY,↓reduceIte]<;>rfl) (by simp(disch:=omega) only[aV,kE,bY,↓reduceIte]<;>rfl) (by simp(disch:=omega) only[aV,bY,↓reduceIte]<;>rfl) (by simp(disch:=omega) only[aV,↓reduceIte]<;>rfl) j o hj
  refine aI rfl ?_
  obtain rfl:k=N:=by omega
  rw[Nat.sub_self,fJv]at hrun
  simp only[Option.some.injEq,Prod.mk.injEq]at hrun
  obtain⟨rfl,rfl⟩:=hrun
  refine bF 2 rfl rfl (aY (aZ (bE (aB ?_))))
  refine lW 6 ci 0 rfl (by simp(disch:=omega) only[aV,bY,↓reduceIte]<;>rfl) ?_
  obtain⟨g1,g2,g3,hi1,hi2,ho⟩:=hopt
  obtain⟨p1,p2,p3,p4,p5⟩:=p
  simp only at g1 g2 g3 ho
  subst g1;subst g2;subst g3
  have ho2:=fSy ho
  clear ho hp
  refine aA rfl (bB (Γ:=bC [(34,.heap (rdF rsG))]) (fun k=>if k=3 then 0 else if k=7 then 0 else if k=11 then 0 else if k=2 then 1 else if k=6 then 1 else if k=10 then 1 else 2) [0,2,3] bZ (aH fVc aO) rfl rfl rfl (by kernel_rfl) (fun K hK=>?_))
  simp(disch:=omega) only[Tryz.f18,go_sem,↓reduceIte,hrn,hru,hrd,U2,fKg,fKf,List.cons_append,List.nil_append,J8,List.set_cons_succ,List.set_cons_zero,J7,J9]
  refine hK _ ?_
  refine aB ?_
  refine yK (sub7 (a:=id) (b:=nx) (c:=q) (d:=c+1+18) (e:=c+1+18+1) (f:=c+1+18+1+1) (h:=mi) (x1:=.cells [.sl b.length (c8 b),.i (b.length:Int)] true) (x2:=.cells z15 true) (x3:=.cells (qsC p1) true) (x4:=.cells (rcC p2) true) (x5:=.cells (rcC p3) true) (x6:=.cells (rcC ad) true) (x7:=.cells (msC b (.os q 0 p1.length 3 true)++[.os (c+1+18) 0 p2.length 5 true,.os (c+1+18+1) 0 p3.length 5 true,.os (c+1+18+1+1) 0 ad.length 5 true,.b false,.w16 0#16,.b false]) true) (by simp(disch:=omega) only[aV,bY,↓reduceIte]<;>rfl) (by simp(disch:=omega) only[aV,bY,↓reduceIte]<;>rfl) (by simp(disch:=omega) only[aV,bY,↓reduceIte]<;>rfl) (by simp(disch:=omega) only[aV,bY,↓reduceIte]<;>rfl) (by simp(disch:=omega) only[aV,bY,↓reduceIte]<;>rfl) (by simp(disch:=omega) only[aV,bY,↓reduceIte]<;>rfl) (by simp(disch:=omega) only[aV,↓reduceIte]<;>rfl)) ?_
  obtain⟨i1,hi01⟩: ∃y,c+1+18=y:=⟨_,rfl⟩
  obtain⟨i2,hi02⟩: ∃y,i1+1=y:=⟨_,rfl⟩
  obtain⟨i3,hi03⟩: ∃y,i2+1=y:=⟨_,rfl⟩
  rw[hi01,hi02,hi03]
  refine kU (cx':=i3+10) (by omega) ?_
  have de:decide ((b.length:Int)=(b.length:Int))=true:=J5 rfl
  have d1:decide ((0:Int)≤ixN p2 0)=false:=J6 (by omega)
  have d2:decide ((0:Int)≤ixN p3 0)=false:=J6 (by omega)
  have hca:=fIh p2
  have hcu:=fIh p3
  have hcd:=fIh ad
  have hna:=fLp p2
  have hnu:=fLp p3
  have hnd:=fLp ad
  refine aA rfl (bB (Γ:=bC [(36,.pure true ctG),(37,.pure true fLg),(35,.pure true eO)]) (fun k=>if k=12 then 0 else if k=13 then 0 else if k=18 then 0 else if k=19 then 0 else if k=22 then 0 else 2) [2,3] bZ (aH fTw (aH fLt (aH rP aO))) rfl rfl rfl (by kernel_rfl) (fun K hK=>?_))
  simp(disch:=omega) only[Tryz.f18,go_sem,↓reduceIte,d1,d2,fNa,hca,hcu,hna,hnu,msC,List.cons_append,List.nil_append,Bool.not_false,J8,J7,J9]
  refine hK _ ?_
  refine aB (aA rfl (aA rfl (aC (Γ:=bC [(38,.pure true ixG),(37,.pure true fLg)]) [2,3,8] (aH fTv (aH fLt aO)) rfl rfl rfl (fun K hK=>?_))))
  simp(disch:=omega) only[Tryz.f18,go_sem,↓reduceIte,fNa,hcd,hnd,List.cons_append,List.nil_append,J8,J7,J9]
  refine hK _ ?_
  refine aB (aA rfl (aW [110,2,3,8] rfl rfl rfl fun K hK=>?_))
  simp(disch:=omega) only[Tryz.f18,go_sem,↓reduceIte]
  refine hK _ ?_
  refine aB ?_
  have hcl:=fIi p1
  have hno:=fLq p1
  rcases ho2 with⟨rfl,rfl,hix⟩|⟨x,rfl,rfl,hty,hnm,hix⟩
  ·have d3:decide ((0:Int)≤ixN p4 0)=false:=J6 (by omega)
   rw[d3]
   refine cV (.tmp 110) rfl rfl rfl (fun h=>?_) (fun h=>?_)
   ·refine aI rfl ?_
    cases h
   refine aI rfl ?_
   clear h
   refine aQ rfl (aB (aA rfl (aW [2] rfl rfl rfl fun K hK=>?_)))
   simp(disch:=omega) only[Tryz.f18,go_sem,↓reduceIte,z15,U0,U1,J9]
   refine hK _ ?_
   refine aB (aS rfl (⟨by simp(disch:=omega) only[bV,bK,bQ,Tryz.f18,go_sem,aV,kE,bY,eq_self,↓reduceIte,hcl,hno,hca,hcu,hcd,hna,hnu,hnd,fRt,cdO,szO,doO,Option.isSome_none,U0,U1,J9],by simp(disch:=omega) only[aV,bY,↓reduceIte,eq_self],?_,?_⟩))
   ·exact fSb _ _
   exact fVp _ _ _
  have hix2:ixN (p4++[x]) 0=(p4.length:Int):=by rw[fSj x hty p4 0 hix,Nat.zero_add]
  have hl1:(p4++[x]).length=p4.length+1:=by simp
  have d3:decide ((0:Int)≤(p4.length:Int))=true:=J5 (by omega)
  have hdr:(rcC (p4++[x])).drop (5*p4.length)=[.sl x.nm.length (cS x.nm),.w16 x.ty,.w16 x.cl,.w32 x.ttl,.sl x.d.length (c8 x.d)]++rcC []:=by
   rw[fIr,List.drop_left'];rfl;rfl
  have hdr2:(rcC (p4++[x])).drop (p4.length*5)=[.sl x.nm.length (cS x.nm),.w16 x.ty,.w16 x.cl,.w32 x.ttl,.sl x.d.length (c8 x.d)]++rcC []:=by rw[Nat.mul_comm];exact hdr
  rw[hl1]at hcd hld
  rw[hix2,d3,hl1]
  refine cV (.tmp 110) rfl rfl rfl (fun h=>?_) (fun h=>?_)
  ·refine aI rfl ?_
   clear h
   refine aA rfl (aW [2,3,8,9] rfl rfl rfl fun K hK=>?_)
   simp(disch:=omega) only[Tryz.f18,go_sem,↓reduceIte,hdr2,List.cons_append,List.nil_append,J8,U0,U1,J7,J9]
   refine hK _ ?_
   refine aB ?_
   have htk:List.take (5*p4.length) (rcC (p4++[x]))=rcC p4:=by
    rw[fKk,List.take_left' (fIh p4)]
   have hi5:((p4.length+1:Nat):Int)-1=(p4.length:Int):=by omega
   refine aA rfl (aC (Γ:=bC [(39,.heap dlG)]) [2,3,9] (aH fVb aO) rfl rfl rfl (fun K hK=>?_))
   simp(disch:=omega) only[Tryz.f18,go_sem,↓reduceIte,hcd,htk,Nat.add_sub_cancel,List.cons_append,List.nil_append,J8,List.set_cons_succ,List.set_cons_zero,J7,J9]
   refine hK _ ?_
   refine aB ?_
   have hz5:z5c.length=5:=rfl
   have hc4:=fIh p4
   have htk2:List.take (p4.length*5) (rcC p4++z5c)=rcC p4:=by rw[Nat.mul_comm,List.take_left' (fIh p4)]
   have hn4:=fLp p4
   have dn:decide ((x.nm.length:Int)=0)=true:=J5 (by rw[hnm];rfl)
   have d4:decide ((0:Int)≤ixN p4 0)=false:=J6 (by omega)
   refine aA rfl (aC (Γ:=bC [(36,.pure true ctG),(37,.pure true fLg),(35,.pure true eO)]) [2,3,9] (aH fTw (aH fLt (aH rP aO))) rfl rfl rfl (fun K hK=>?_))
   simp(disch:=omega) only[Tryz.f18,go_sem,↓reduceIte,dn,d4,hz5,hc4,htk2,hn4,fNa,Bool.not_false,List.cons_append,List.nil_append,J8,J7,J9]
   refine hK _ ?_
   refine aB ?_
   refine lW 9 (i3+10+23+4+2+5) 0 rfl (by simp(disch:=omega) only[aV,bY,↓reduceIte]<;>rfl) ?_
   refine bB (Γ:=aL) (fun k=>if k=1 then 1 else if k=3 then 1 else if k=9 then 1 else 2) [2,3] bZ (aD _ _) rfl rfl rfl (by kernel_rfl) (fun K hK=>?_)
   simp(disch:=omega) only[Tryz.f18,go_sem,↓reduceIte,J9,J8,List.set_cons_succ,List.set_cons_zero,J7,J9]
   refine hK _ ?_
   refine aB (aA rfl (aW [2] rfl rfl rfl fun K hK=>?_))
   simp(disch:=omega) only[Tryz.f18,go_sem,↓reduceIte,z15,U0,U1,J9]
   refine hK _ ?_
   refine aB (aS rfl (⟨by simp(disch:=omega) only[bV,bK,bQ,Tryz.f18,go_sem,aV,kE,bY,eq_self,↓reduceIte,hcl,hno,hca,hcu,hc4,hz5,hna,hnu,hn4,htk2,fRt,cdO,szO,doO,Option.isSome_some,U0,U1,J9,Option.isSome_some],by simp(disch:=omega) only[aV,bY,↓reduceIte,eq_self],?_,?_⟩))
   ·exact fSb _ _
   exact fVp _ _ _
  refine aI rfl ?_
  cases h
 cases hg
theorem fVd:bX Tryz.prog GLh 18 (.heap (rdH fSm)):=⟨⟨_,Tryz.func18,rfl,rfl⟩,fSl.1⟩
end Go.AX

namespace Go.AX
open Go Go.Proofs
set_option maxRecDepth 20000
def fSu:List AV→Option AV
 |[.sl n xs]=>aK (fHq xs) fun b=>aN (b.length=n∧n≤65535) (aK (pmR b) fun p=>some (.tup [.agg (fRt b p),.i 0]))
 |_=>none
theorem fTf (n:Nat) (xs:List AV):fSu [.sl n xs]=aK (fHq xs) fun b=>aN (b.length=n∧n≤65535) (aK (pmR b) fun p=>some (.tup [.agg (fRt b p),.i 0])):=(rfl)
attribute [go_sem] fTf
set_option maxHeartbeats 4000000 in
theorem fSt (b:List B8) (h100:b.length≤100000) (p:PM) (hp:pmR b=some p) {i nx cx:Nat} (hic:i+1<cx):
  Awp Tryz.prog GLh Tryz.f7.ntmps (cr (cr (cr (aE Tryz.f7)))) {fr:=[(9,.fn 17 [.op i 0,.op (i+1) 0]),(0,.sl b.length (c8 b)),(2,.op i 0),(3,.op (i+1) 0)],hp:=upd (upd (fun _=>none) i (.cells z15 true)) (i+1) (.cells [.i 0] true),nx:=nx,cx:=cx} (fDc Tryz.prog Tryz.f7.results.toList chM (fQc 2) fMh [.op i 0,.op (i+1) 0] (.tup [.agg (fRt b p),.i 0])):=by
 have hms:fRt b p=fRt b p:=rfl
 refine aA rfl ?_
 refine aW [2,3,4] rfl rfl rfl fun K hK=>?_
 simp(disch:=omega) only[Tryz.f7,go_sem,↓reduceIte]
 refine hK _ ?_
 refine aB ?_
 refine aA rfl ?_
 refine aC (Γ:=bC [(18,.heap (rdH fSm))]) [2,3] (aH fVd aO) rfl rfl rfl (fun K hK=>?_)
 simp(disch:=omega) only[Tryz.f7,go_sem,↓reduceIte,h100,hp,fRt,z15,List.cons_append,List.nil_append,List.set_cons_zero]
 refine hK _ ?_
 refine aB ?_
 refine aS rfl ?_
 refine rO (gP:=fMh) (ch:=chM) (p:=_) (eKm _ _ _ _) ?_
 simp(disch:=omega) only[bV,bK,bQ,Tryz.f7,go_sem,aV,bY,↓reduceIte,fRt,J8,U0,U1,J9]
set_option maxHeartbeats 4000000 in
theorem fTz:fHn Tryz.prog GLh 7 fSu:=by
 refine fLc (r0:=(cl (aE Tryz.f7))) (r1:=(cl (cr (aE Tryz.f7)))) (C:=(cr (cr (cr (aE Tryz.f7))))) (k:=9) (d:=17) (caps:= #[.tmp 2,.tmp 3]) Tryz.func7 rfl (J1 rfl) fOd fOx fMy rfl ?_
 intro args r hg
 unfold fSu at hg
 split at hg
 ·rename_i n xs
  replace hg:=aJ hg;obtain⟨b,hl,hg⟩:=hg
  replace hg:=aP hg;obtain⟨⟨rfl,hnb⟩,hg⟩:=hg
  replace hg:=aJ hg;obtain⟨p,hp,hg⟩:=hg
  obtain rfl:=J0 hg
  have:=bW hl;subst this
  refine⟨J1 rfl,fun nx=>⟨[.op nx 0,.op (nx+1) 0],?_⟩⟩
  clear hl hg
  have h100:b.length≤100000:=by omega
  have d0:decide ((65535:Int)<(b.length:Int))=false:=J6 (by omega)
  refine aW [0,2,3] rfl rfl rfl fun K hK=>?_
  simp(disch:=omega) only[Tryz.f7,go_sem,↓reduceIte]
  refine hK _ ?_
  refine aB (aA rfl (aW [7,0,2,3] rfl rfl rfl fun K hK=>?_))
  simp(disch:=omega) only[Tryz.f7,go_sem,↓reduceIte,d0]
  refine hK _ ?_
  refine aB (cV (.tmp 7) rfl rfl rfl (fun h=>?_) (fun h=>?_))
  ·refine aI rfl ?_
   cases h
  refine aI rfl ?_
  clear h
  refine aQ rfl (⟨rfl,?_⟩)
  simp only[dBa]
  exact fSt b (by omega) p hp (by omega)
 cases hg
theorem okv9:bX Tryz.prog GLh 7 (.pure false fSu):=⟨⟨_,Tryz.func7,rfl,rfl⟩,fTz⟩
def plR (a b:Int):Int:=if a.tmod b<0 then a.tmod b+b else a.tmod b
def aIy:List AV→Option AV
 |[.i a,.i b]=>aN (0<b∧b≤1000000) (some (.i (plR a b)))
 |_=>none
theorem aZr (a b:Int):aIy [.i a,.i b]=aN (0<b∧b≤1000000) (some (.i (plR a b))):=(rfl)
attribute [go_sem] aZr
theorem bIj:fHn Tryz.prog GLh 12 aIy:=by
 refine zK Tryz.func12 (aT rfl) ?_
 intro args r hg
 unfold aIy at hg
 split at hg
 ·rename_i a b
  replace hg:=aP hg;obtain⟨⟨h0,h1⟩,hg⟩:=hg
  obtain rfl:=J0 hg
  refine⟨J1 rfl,fun nx=>?_⟩
  clear hg
  have hb:(b=0)=False:=eq_false (by omega)
  obtain⟨m,hm⟩: ∃m,a.tmod b=m:=⟨_,rfl⟩
  have hm1: -b<m:=by rw[←hm];exact(Int.neg_lt_of_neg_lt (by have:=Int.lt_tmod_of_pos a h0;omega))
  have hm2:m<b:=by rw[←hm];exact Int.tmod_lt_of_pos a h0
  unfold plR
  rw[hm]
  refine aA rfl (aW [0,1] rfl rfl rfl fun K hK=>?_)
  simp(disch:=omega) only[Tryz.f12,go_sem,↓reduceIte]
  refine hK _ ?_
  refine aB (aA rfl (aW [0,1] rfl rfl rfl fun K hK=>?_))
  simp(disch:=omega) only[Tryz.f12,go_sem,↓reduceIte,hb,hm]
  refine hK _ ?_
  refine aB (aA rfl (aA rfl (aW [9,0,1] rfl rfl rfl fun K hK=>?_)))
  simp(disch:=omega) only[Tryz.f12,go_sem,↓reduceIte]
  refine hK _ ?_
  refine aB (bA (.tmp 9) rfl rfl rfl (fun h=>?_) (fun h=>?_))
  ·refine aI rfl ?_
   rw[J4 h]
   have hW:W (m+b)=m+b:=by
    obtain⟨k,hk⟩:=Int.eq_ofNat_of_zero_le (show 0≤m+b by omega)
    rw[hk]
    exact eKg (by omega) (by omega)
   refine aW [0] rfl rfl rfl fun K hK=>?_
   simp(disch:=omega) only[Tryz.f12,go_sem,↓reduceIte,hW]
   refine hK _ ?_
   refine aB (aA rfl (aW [4] rfl rfl rfl fun K hK=>?_))
   simp(disch:=omega) only[Tryz.f12,go_sem,↓reduceIte]
   refine hK _ ?_
   refine aB (aS rfl ?_)
   simp(disch:=omega) only[fHo,bV,bK,bQ,Tryz.f12,go_sem,↓reduceIte]
  refine aI rfl ?_
  rw[J3 h]
  refine aQ rfl (aB (aA rfl (aW [4] rfl rfl rfl fun K hK=>?_)))
  simp(disch:=omega) only[Tryz.f12,go_sem,↓reduceIte]
  refine hK _ ?_
  refine aB (aS rfl ?_)
  simp(disch:=omega) only[fHo,bV,bK,bQ,Tryz.f12,go_sem,↓reduceIte]
 cases hg
theorem okv8:bX Tryz.prog GLh 12 (.pure true aIy):=⟨⟨_,Tryz.func12,rfl,rfl⟩,bIj⟩
end Go.AX

namespace Go.AX
open Go Go.Proofs
set_option maxRecDepth 20000
set_option maxHeartbeats 1000000 in
set_option maxRecDepth 100000 in
theorem fXd (a b:ByteArray) (w:World):Calls Tryz.prog 59 #[.string a,.string b] w fun e w'=>e=.returned (.int .i64 (Go.Lib.compareBytes a.data.toList b.data.toList))∧w'=w:=by
 go_enter Tryz.func59,Tryz.ntmps59
 go_wp2
 rw[run_callFunc_extern Tryz.func64 (by kernel_rfl) (by kernel_rfl) (by kernel_rfl) (e:=Extern.BytealgCompare.compare) (by kernel_rfl),Go.Lib.run_compareString]
 simp only[Result.andThen]
 rw[Oper.upon_value]
 go_wp2
 go_ret
 exact⟨rfl,rfl⟩
def fVy (a b:List B8):Int:=Go.Lib.compareBytes (a.map UInt8.ofBitVec) (b.map UInt8.ofBitVec)
theorem fWz: ∀a b:List UInt8,Go.Lib.compareBytes a b=0↔a=b
 |[],[]=>by simp[Go.Lib.compareBytes]
 |[],_::_=>by simp[Go.Lib.compareBytes]
 |_::_,[]=>by simp[Go.Lib.compareBytes]
 |a::r,b::t=>by
  simp only[Go.Lib.compareBytes,List.cons.injEq]
  split
  ·rename_i h
   exact⟨fun h2=>absurd h2 (by decide),fun⟨h2,_⟩=>absurd h (by rw[h2];exact UInt8.lt_irrefl b)⟩
  split
  ·rename_i h
   exact⟨fun h2=>absurd h2 (by decide),fun⟨h2,_⟩=>absurd h (by rw[h2];exact UInt8.lt_irrefl b)⟩
  rename_i h1 h2
  have:a=b:=UInt8.le_antisymm (UInt8.not_lt.1 h2) (UInt8.not_lt.1 h1)
  rw[fWz r t]
  exact⟨fun h=>⟨this,h⟩,fun h=>h.2⟩
theorem fXa (a b:List B8):fVy a b=0↔a=b:=by
 unfold fVy
 rw[fWz]
 refine⟨fun h=>?_,fun h=>by rw[h]⟩
 have:(a.map UInt8.ofBitVec).map UInt8.toBitVec=(b.map UInt8.ofBitVec).map UInt8.toBitVec:=by rw[h]
 rw[List.map_map,List.map_map]at this
 have e: ∀l:List B8,l.map (UInt8.toBitVec∘UInt8.ofBitVec)=l:=fun l=>by
  induction l with
  |nil=>rfl
  |cons x r ih=>rw[List.map_cons,ih];rfl
 rw[e,e]at this
 exact this
theorem fXp {σ:Nat→Loc} {I:Nat→Prop} {w:World} {x y:AV} {vals:Array Value} (hs:vals.size=[x,y].length) (hr: ∀i (_h:i<[x,y].length),Rel σ I w [x,y][i] (vals.getD i undef)): ∃v u,vals= #[v,u]∧Rel σ I w x v∧Rel σ I w y u:=by
 have h0:=hr 0 (by simp)
 have h1:=hr 1 (by simp)
 obtain⟨l⟩:=vals
 simp only[List.size_toArray,List.length_cons,List.length_nil,Nat.zero_add]at hs
 match l,hs with
 |[v,u],_=>exact⟨v,u,rfl,h0,h1⟩
def eWt:List AV→Option AV
 |[.s a,.s b]=>some (.i (fVy a b))
 |_=>none
theorem eZk (a b:List B8):eWt [.s a,.s b]=some (.i (fVy a b)):=(rfl)
attribute [go_sem] eZk
theorem fDe:fHn Tryz.prog GLh 59 eWt:=by
 refine eSu fun args r hg σ I w vals hs hr=>?_
 unfold eWt at hg
 split at hg
 ·rename_i a b
  obtain rfl:=J0 hg
  obtain⟨v,u,rfl,hv,hu⟩:=fXp hs hr
  obtain rfl:=aFt hv
  obtain rfl:=aFt hu
  refine⟨.int .i64 (fVy a b),.i _,?_⟩
  have:=fXd (dA a) (dA b) w
  simp only[dA]at this
  exact this
 cases hg
theorem fYy:bX Tryz.prog GLh 59 (.pure true eWt):=⟨⟨_,Tryz.func59,rfl,rfl⟩,fDe⟩
set_option maxHeartbeats 1000000 in
theorem fXq:fHn Tryz.prog GLh 48 eWt:=by
 refine zK Tryz.func48 (aT rfl) ?_
 intro args r hg
 unfold eWt at hg
 split at hg
 ·rename_i a b
  obtain rfl:=J0 hg
  refine⟨J1 rfl,fun nx=>?_⟩
  clear hg
  refine aA rfl (aW [0,1] rfl rfl rfl fun K hK=>?_)
  simp(disch:=omega) only[Tryz.f48,go_sem,↓reduceIte]
  refine hK _ ?_
  refine aB (aA rfl (aC (Γ:=bC [(59,.pure true eWt)]) [4] (aH fYy aO) rfl rfl rfl (fun K hK=>?_)))
  simp(disch:=omega) only[Tryz.f48,go_sem,↓reduceIte]
  refine hK _ ?_
  refine aB (aS rfl ?_)
  simp(disch:=omega) only[fHo,bV,bK,bQ,Tryz.f48,go_sem,↓reduceIte]
 cases hg
theorem fWy:bX Tryz.prog GLh 48 (.pure true eWt):=⟨⟨_,Tryz.func48,rfl,rfl⟩,fXq⟩
end Go.AX

namespace Go.AX
open Go Go.Proofs
set_option maxRecDepth 20000
def fWb (l:List B8):Prop:= ∀x∈l,¬(65≤x.toNat∧x.toNat≤90)
instance (l:List B8):Decidable (fWb l):=by unfold fWb;infer_instance
def smG:List AV→Option AV
 |[.s l]=>aN (fWb l∧l.length≤1000) (some (.s l))
 |_=>none
theorem fYa (l:List B8):smG [.s l]=aN (fWb l∧l.length≤1000) (some (.s l)):=(rfl)
attribute [go_sem] fYa
set_option maxHeartbeats 4000000 in
theorem fYs:fHn Tryz.prog GLh 63 smG:=by
 refine zK Tryz.func63 (aT rfl) ?_
 intro args r hg
 unfold smG at hg
 split at hg
 ·rename_i l
  replace hg:=aP hg;obtain⟨⟨hl,hn⟩,hg⟩:=hg
  obtain rfl:=J0 hg
  refine⟨J1 rfl,fun nx=>?_⟩
  clear hg
  refine aA rfl (aW [0] rfl rfl rfl fun K hK=>?_)
  simp(disch:=omega) only[Tryz.f63,go_sem,↓reduceIte]
  refine hK _ ?_
  refine aB (aA rfl (aW [3] rfl rfl rfl fun K hK=>?_))
  simp(disch:=omega) only[Tryz.f63,go_sem,↓reduceIte]
  refine hK _ ?_
  refine aB (aA rfl (aA rfl (aW [3,8,9,10] rfl rfl rfl fun K hK=>?_)))
  simp(disch:=omega) only[Tryz.f63,go_sem,↓reduceIte]
  refine hK _ ?_
  refine aB ?_
  obtain⟨q,hq⟩: ∃q,nx+1+1=q:=⟨_,rfl⟩
  rw[hq]
  refine aR 0 rfl rfl ?_
  refine bR (fun p:KC5=> {fr:=[(3,.os q 0 l.length 1 true),(8,.os q 0 l.length 1 true),(9,.i (l.length:Int)),(10,.i (p.k:Int))],hp:=upd (fun _=>none) q (.cells (c8 l) true),nx:=0,cx:=p.c}) (fun p=>p.k≤l.length∧q<p.c) (fun p=>l.length-p.k) rfl ⟨⟨0,_⟩,⟨Nat.zero_le _,by simp only;omega⟩,bD rfl rfl (U3 _)⟩ ?_
  rintro⟨k,c⟩ ⟨hk,hqc⟩ n0
  simp only at hk hqc⊢
  refine aA rfl (aW [11,3,8,9,10] rfl rfl rfl fun K hK=>?_)
  simp(disch:=omega) only[Tryz.f63,go_sem,↓reduceIte]
  refine hK _ ?_
  refine aB (aA rfl (bA (.tmp 11) rfl rfl rfl (fun h=>?_) (fun h=>?_)))
  ·refine aI rfl ?_
   have hkl:k<l.length:=by omega
   obtain⟨x,hx⟩: ∃x,l.getD k 0#8=x:=⟨_,rfl⟩
   have hxm:x∈l:=by rw[←hx,List.getD_eq_getElem?_getD,List.getElem?_eq_getElem hkl];exact List.getElem_mem hkl
   have hxl:=hl x hxm
   clear h
   refine aQ rfl (aB (aA rfl (aR 1 rfl rfl (aA rfl (aW [3,4,5,8,9,10] rfl rfl rfl fun K hK=>?_)))))
   simp(disch:=omega) only[Tryz.f63,go_sem,↓reduceIte,hx]
   refine hK _ ?_
   refine aB ?_
   by_cases h65:65#8≤x
   ·have d65:decide (65#8≤x)=true:=J5 h65
    have d90:decide (x≤90#8)=false:=J6 (fun h=>hxl ⟨by have:=BitVec.le_def.1 h65;exact this,by have:=BitVec.le_def.1 h;exact this⟩)
    refine aA rfl (aW [20,3,4,5,8,9,10] rfl rfl rfl fun K hK=>?_)
    simp(disch:=omega) only[Tryz.f63,go_sem,↓reduceIte,d65,d90]
    refine hK _ ?_
    refine aB (cV (.tmp 20) rfl rfl rfl (fun h=>?_) (fun h=>?_))
    ·refine aI rfl ?_
     cases h
    refine aI rfl ?_
    clear h
    refine aQ rfl (bU (aB (aW [3,8,9,10] rfl rfl rfl fun K hK=>?_)))
    simp(disch:=omega) only[Tryz.f63,go_sem,↓reduceIte]
    refine hK _ ?_
    refine bT ?_
    refine⟨⟨k+1,_⟩,⟨by simp only;omega,by simp only;omega⟩,by simp only;omega,bD ?_ rfl (U3 _)⟩
    simp only[Int.natCast_add,Int.natCast_one]
   have d65:decide (65#8≤x)=false:=J6 h65
   refine aA rfl (aW [20,3,4,5,8,9,10] rfl rfl rfl fun K hK=>?_)
   simp(disch:=omega) only[Tryz.f63,go_sem,↓reduceIte,d65]
   refine hK _ ?_
   refine aB (cV (.tmp 20) rfl rfl rfl (fun h=>?_) (fun h=>?_))
   ·refine aI rfl ?_
    cases h
   refine aI rfl ?_
   clear h
   refine aQ rfl (bU (aB (aW [3,8,9,10] rfl rfl rfl fun K hK=>?_)))
   simp(disch:=omega) only[Tryz.f63,go_sem,↓reduceIte]
   refine hK _ ?_
   refine bT ?_
   refine⟨⟨k+1,_⟩,⟨by simp only;omega,by simp only;omega⟩,by simp only;omega,bD ?_ rfl (U3 _)⟩
   simp only[Int.natCast_add,Int.natCast_one]
  refine aI rfl ?_
  clear h
  refine bF 0 rfl rfl (aY (aZ (bE (aB (aA rfl (aW [2] rfl rfl rfl fun K hK=>?_))))))
  simp(disch:=omega) only[Tryz.f63,go_sem,↓reduceIte,iM]
  refine hK _ ?_
  refine aB (aS rfl ?_)
  simp(disch:=omega) only[fHo,bV,bK,bQ,Tryz.f63,go_sem,↓reduceIte]
 cases hg
theorem fYx:bX Tryz.prog GLh 63 (.pure true smG):=⟨⟨_,Tryz.func63,rfl,rfl⟩,fYs⟩
def ncG:List AV→Option AV
 |[.sl 1 [.s a],.sl 1 [.s b]]=>aN (fWb a∧fWb b∧a.length≤1000∧b.length≤1000) (some (.i (fVy a b)))
 |_=>none
theorem fYg (a b:List B8):ncG [.sl 1 [.s a],.sl 1 [.s b]]=aN (fWb a∧fWb b∧a.length≤1000∧b.length≤1000) (some (.i (fVy a b))):=(rfl)
attribute [go_sem] fYg
set_option maxHeartbeats 4000000 in
theorem fZd:fHn Tryz.prog GLh 58 ncG:=by
 refine zK Tryz.func58 (aT rfl) ?_
 intro args r hg
 unfold ncG at hg
 split at hg
 ·rename_i a b
  replace hg:=aP hg;obtain⟨⟨ha,hb,hal,hbl⟩,hg⟩:=hg
  obtain rfl:=J0 hg
  refine⟨J1 rfl,fun nx=>?_⟩
  clear hg
  have ha2:=eq_true ha
  have hb2:=eq_true hb
  refine aA rfl (aW [0,1] rfl rfl rfl fun K hK=>?_)
  simp(disch:=omega) only[Tryz.f58,go_sem,↓reduceIte]
  refine hK _ ?_
  refine aB (aA rfl (aA rfl (aW [0,1,11,12] rfl rfl rfl fun K hK=>?_)))
  simp(disch:=omega) only[Tryz.f58,go_sem,↓reduceIte]
  refine hK _ ?_
  refine aB (aR 0 rfl rfl (bR (fun p:KC5=> {fr:=[(0,.sl 1 [.s a]),(1,.sl 1 [.s b]),(11,.i 1),(12,.i (p.k:Int))],hp:=fun _=>none,nx:=0,cx:=p.c}) (fun p=>p.k=0∨(p.k=1∧fVy a b=0)) (fun p=>1-p.k) rfl ⟨⟨0,_⟩,.inl rfl,bD rfl rfl (U3 _)⟩ ?_))
  rintro⟨k,c⟩ hk n0
  simp only at hk⊢
  rcases hk with rfl|⟨rfl,h0⟩
  ·refine aA rfl (aW [13,0,1,11,12] rfl rfl rfl fun K hK=>?_)
   simp(disch:=omega) only[Tryz.f58,go_sem,↓reduceIte]
   refine hK _ ?_
   refine aB (aA rfl (cV (.tmp 13) rfl rfl rfl (fun h=>?_) (fun h=>?_)))
   ·refine aI rfl ?_
    clear h
    refine aQ rfl (aB (aA rfl (aR 1 rfl rfl (aA rfl (aW [0,1,5,11,12] rfl rfl rfl fun K hK=>?_)))))
    simp(disch:=omega) only[Tryz.f58,go_sem,↓reduceIte]
    refine hK _ ?_
    refine aB ?_
    have e0:(((1:Nat):Int)-1-((0:Nat):Int)).toNat=0:=rfl
    refine aA rfl (bB (Γ:=bC [(63,.pure true smG),(48,.pure true eWt)]) (fun k=>if k=17 then 0 else if k=18 then 0 else 2) [0,1,6,11,12] bZ (aH fYx (aH fWy aO)) rfl rfl rfl (by kernel_rfl) (fun K hK=>?_))
    simp(disch:=omega) only[Tryz.f58,go_sem,↓reduceIte,e0,ha2,hb2,J9,J8,J9]
    refine hK _ ?_
    refine aB ?_
    by_cases hc:fVy a b=0
    ·have dc:decide (fVy a b=0)=true:=J5 hc
     refine aA rfl (aW [35,0,1,6,11,12] rfl rfl rfl fun K hK=>?_)
     simp(disch:=omega) only[Tryz.f58,go_sem,↓reduceIte,dc,Bool.not_true]
     refine hK _ ?_
     refine aB (cV (.tmp 35) rfl rfl rfl (fun h=>?_) (fun h=>?_))
     ·refine aI rfl ?_
      cases h
     refine aI rfl ?_
     clear h
     refine aQ rfl (bU (aB (aW [0,1,11,12] rfl rfl rfl fun K hK=>?_)))
     simp(disch:=omega) only[Tryz.f58,go_sem,↓reduceIte]
     refine hK _ ?_
     refine bT ?_
     refine⟨⟨1,_⟩,.inr ⟨rfl,hc⟩,by simp only;omega,bD rfl rfl (U3 _)⟩
    have dc:decide (fVy a b=0)=false:=J6 hc
    refine aA rfl (aW [35,0,1,6,11,12] rfl rfl rfl fun K hK=>?_)
    simp(disch:=omega) only[Tryz.f58,go_sem,↓reduceIte,dc,Bool.not_false]
    refine hK _ ?_
    refine aB (cV (.tmp 35) rfl rfl rfl (fun h=>?_) (fun h=>?_))
    ·refine aI rfl ?_
     clear h
     refine aA rfl (aW [4] rfl rfl rfl fun K hK=>?_)
     simp(disch:=omega) only[Tryz.f58,go_sem,↓reduceIte]
     refine hK _ ?_
     refine aB (aS rfl (bN (bI (dF (bN (bI ?_))))))
     simp(disch:=omega) only[fHo,bV,bK,bQ,Tryz.f58,go_sem,↓reduceIte]
    refine aI rfl ?_
    cases h
   refine aI rfl ?_
   cases h
  refine aA rfl (aW [13,0,1,11,12] rfl rfl rfl fun K hK=>?_)
  simp(disch:=omega) only[Tryz.f58,go_sem,↓reduceIte]
  refine hK _ ?_
  refine aB (aA rfl (cV (.tmp 13) rfl rfl rfl (fun h=>?_) (fun h=>?_)))
  ·refine aI rfl ?_
   cases h
  refine aI rfl ?_
  clear h
  refine bF 0 rfl rfl (aY (aZ (bE (aB ?_))))
  rw[h0]
  refine aA rfl (aR 2 rfl rfl (aA rfl (aW [38,0,1] rfl rfl rfl fun K hK=>?_)))
  simp(disch:=omega) only[Tryz.f58,go_sem,↓reduceIte]
  refine hK _ ?_
  refine aB (cV (.tmp 38) rfl rfl rfl (fun h=>?_) (fun h=>?_))
  ·refine aI rfl ?_
   cases h
  refine aI rfl ?_
  clear h
  refine aA rfl (aW [44] rfl rfl rfl fun K hK=>?_)
  simp(disch:=omega) only[Tryz.f58,go_sem,↓reduceIte]
  refine hK _ ?_
  refine aB (cV (.tmp 44) rfl rfl rfl (fun h=>?_) (fun h=>?_))
  ·refine aI rfl ?_
   cases h
  refine aI rfl ?_
  clear h
  refine aQ rfl (bU (aB (aA rfl (aW [4] rfl rfl rfl fun K hK=>?_))))
  simp(disch:=omega) only[Tryz.f58,go_sem,↓reduceIte]
  refine hK _ ?_
  refine aB (aS rfl ?_)
  simp(disch:=omega) only[fHo,bV,bK,bQ,Tryz.f58,go_sem,↓reduceIte]
 cases hg
theorem fYz:bX Tryz.prog GLh 58 (.pure true ncG):=⟨⟨_,Tryz.func58,rfl,rfl⟩,fZd⟩
def saG:List AV→Option AV
 |[.sl 1 [.s a],.sl 1 [.s b]]=>aN (fWb a∧fWb b∧a.length≤1000∧b.length≤1000) (some (.b (decide (fVy a b=0))))
 |_=>none
theorem fYc (a b:List B8):saG [.sl 1 [.s a],.sl 1 [.s b]]=aN (fWb a∧fWb b∧a.length≤1000∧b.length≤1000) (some (.b (decide (fVy a b=0)))):=(rfl)
attribute [go_sem] fYc
set_option maxHeartbeats 1000000 in
theorem fYv:fHn Tryz.prog GLh 47 saG:=by
 refine zK Tryz.func47 (aT rfl) ?_
 intro args r hg
 unfold saG at hg
 split at hg
 ·rename_i a b
  replace hg:=aP hg;obtain⟨⟨ha,hb,hal,hbl⟩,hg⟩:=hg
  obtain rfl:=J0 hg
  refine⟨J1 rfl,fun nx=>?_⟩
  clear hg
  have ha2:=eq_true ha
  have hb2:=eq_true hb
  refine aA rfl (aW [0,1] rfl rfl rfl fun K hK=>?_)
  simp(disch:=omega) only[Tryz.f47,go_sem,↓reduceIte]
  refine hK _ ?_
  refine aB (aA rfl (aC (Γ:=bC [(58,.pure true ncG)]) [4] (aH fYz aO) rfl rfl rfl (fun K hK=>?_)))
  simp(disch:=omega) only[Tryz.f47,go_sem,↓reduceIte,ha2,hb2]
  refine hK _ ?_
  refine aB (aS rfl ?_)
  simp(disch:=omega) only[fHo,bV,bK,bQ,Tryz.f47,go_sem,↓reduceIte]
 cases hg
theorem fXj:bX Tryz.prog GLh 47 (.pure true saG):=⟨⟨_,Tryz.func47,rfl,rfl⟩,fYv⟩
def cvG:List AV→Option AV
 |[.agg [.sl _ _,.w16 t,.w16 _,.w32 _,.sl _ _]]=>aN (t≠46#16) (some (.s []))
 |_=>none
theorem fYl (n m:Nat) (xs ys:List AV) (t c:BitVec 16) (u:W32):cvG [.agg [.sl n xs,.w16 t,.w16 c,.w32 u,.sl m ys]]=aN (t≠46#16) (some (.s [])):=(rfl)
attribute [go_sem] fYl
set_option maxHeartbeats 1000000 in
theorem fZf:fHn Tryz.prog GLh 49 cvG:=by
 refine zK Tryz.func49 (aT rfl) ?_
 intro args r hg
 unfold cvG at hg
 split at hg
 ·rename_i n xs t c u m ys
  replace hg:=aP hg;obtain⟨ht,hg⟩:=hg
  obtain rfl:=J0 hg
  refine⟨J1 rfl,fun nx=>?_⟩
  clear hg
  have h46:decide (t=46#16)=false:=J6 ht
  have he:ofV (Value.string {data:= #[]})=.s []:=rfl
  refine aA rfl (aW [1] rfl rfl rfl fun K hK=>?_)
  simp(disch:=omega) only[Tryz.f49,go_sem,↓reduceIte]
  refine hK _ ?_
  refine aB (aA rfl (aA rfl (aW [11,1] rfl rfl rfl fun K hK=>?_)))
  simp(disch:=omega) only[Tryz.f49,go_sem,↓reduceIte,h46]
  refine hK _ ?_
  refine aB (cV (.tmp 11) rfl rfl rfl (fun h=>?_) (fun h=>?_))
  ·refine aI rfl ?_
   cases h
  refine aI rfl ?_
  clear h
  refine aQ rfl (aB (aA rfl (aW [2] rfl rfl rfl fun K hK=>?_)))
  simp(disch:=omega) only[Tryz.f49,go_sem,↓reduceIte,he]
  refine hK _ ?_
  refine aB (aS rfl ?_)
  simp(disch:=omega) only[fHo,bV,bK,bQ,Tryz.f49,go_sem,↓reduceIte]
 cases hg
theorem fXi:bX Tryz.prog GLh 49 (.pure true cvG):=⟨⟨_,Tryz.func49,rfl,rfl⟩,fZf⟩
end Go.AX

namespace Go.AX
open Go Go.Proofs
set_option maxRecDepth 20000
def fZe (x:List B8) (c:RC):Prop:=c.nm=[x]∧c.ty=99#16∧c.cl=1#16∧fWb x∧x.length≤1000
def fXw (l:List RC):Prop:= ∀c∈l,∃x,fZe x c
theorem fWm: ∀(l:List RC) (k:Nat),(rcC l).take (k*5)=rcC (l.take k)
 |l,0=>by rw[Nat.zero_mul,U1,U1];rfl
 |[],k+1=>by simp[rcC]
 |c::r,k+1=>by
  rw[U0,rcC,rcC,←fWm r k,Nat.succ_mul,Nat.add_comm,List.take_add]
  rfl
def fWe (l:List RC) (o:Nm):Nat→Nat
 |0=>0
 |n+1=>match l[n]? with
  |none=>0
  |some c=>if c.nm=o then fWe l o n else n+1
theorem fWs (l:List RC) (o:Nm): ∀k,fWe l o k≤k
 |0=>U3 _
 |n+1=>by
  rw[fWe]
  split
  ·omega
  split
  ·have:=fWs l o n;omega
  exact U3 _
def fWa (l:List RC):Nat:=match l[l.length-1]? with
 |none=>0
 |some c=>fWe l c.nm (l.length-1)
open Classical in
noncomputable def dJc:List AV→Option AV
 |[.sl n xs]=>aK (unR xs) fun l=>if l.length=n∧0<n∧n≤100000∧fXw l then some (.sl (fWa l) (rcC (l.take (fWa l))))else none
 |_=>none
theorem fXz {l:List RC} (h0:0<l.length) (h1:l.length≤100000) (h2:fXw l):dJc [.sl l.length (rcC l)]=some (.sl (fWa l) (rcC (l.take (fWa l)))):=by
 show aK (unR (rcC l)) _=_
 rw[fNa,aX,J4 ⟨rfl,h0,h1,h2⟩]
set_option maxHeartbeats 8000000 in
theorem dNj:fHn Tryz.prog GLh 30 dJc:=by
 refine zK Tryz.func30 (aT rfl) ?_
 intro args r hg
 unfold dJc at hg
 split at hg
 ·rename_i n xs
  replace hg:=aJ hg;obtain⟨l,hl,hg⟩:=hg
  by_cases hc:l.length=n∧0<n∧n≤100000∧fXw l
  rotate_left
  ·rw[J3 hc]at hg;cases hg
  rw[J4 hc]at hg
  obtain⟨rfl,h0,hn,hall⟩:=hc
  obtain rfl:=J0 hg
  have:=fJl hl;subst this
  refine⟨J1 rfl,fun nx=>?_⟩
  clear hl hg
  obtain⟨m,hm⟩: ∃m,l.length=m+1:=⟨l.length-1,by omega⟩
  obtain⟨o,ho⟩: ∃o,l[m]'(by omega)=o:=⟨_,rfl⟩
  have ho2:l[m]? =some o:=by rw[List.getElem?_eq_getElem (by omega),ho]
  have hW:fWa l=fWe l o.nm m:=by unfold fWa;rw[hm,Nat.add_sub_cancel,ho2]
  obtain⟨x,e1,e2,e3,hxl,hxn⟩:=hall o (ho▸List.getElem_mem _)
  obtain⟨W,hWW⟩: ∃W,fWe l o.nm m=W:=⟨_,rfl⟩
  rw[hW,hWW]
  have hcl:=fIh l
  have hdr:(rcC l).drop (5*m)=[.sl o.nm.length (cS o.nm),.w16 o.ty,.w16 o.cl,.w32 o.ttl,.sl o.d.length (c8 o.d)]++rcC (l.drop (m+1)):=by
   rw[fIr,List.drop_eq_getElem_cons (by omega),ho];rfl
  have hdr2:(rcC l).drop (m*5)=[.sl o.nm.length (cS o.nm),.w16 o.ty,.w16 o.cl,.w32 o.ttl,.sl o.d.length (c8 o.d)]++rcC (l.drop (m+1)):=by rw[Nat.mul_comm];exact hdr
  have hi1:(((m+1:Nat):Int)-1).toNat=m:=by omega
  have hi2:((m+1:Nat):Int)-1=(m:Int):=by omega
  have eS:cS [x]=[.s x]:=rfl
  rw[e1,e2,e3]at hdr hdr2
  rw[e1]at hWW
  rw[hm]at hcl⊢
  refine aA rfl (aW [0] rfl rfl rfl fun K hK=>?_)
  simp(disch:=omega) only[Tryz.f30,go_sem,↓reduceIte]
  refine hK _ ?_
  refine aB (aA rfl (aW [0,3] rfl rfl rfl fun K hK=>?_))
  simp(disch:=omega) only[Tryz.f30,go_sem,↓reduceIte,hi2,hdr2,eS,List.cons_append,List.nil_append,List.length_cons,List.length_nil,U0,U1]
  refine hK _ ?_
  refine aB (aA rfl (aW [0,3,4] rfl rfl rfl fun K hK=>?_))
  simp(disch:=omega) only[Tryz.f30,go_sem,↓reduceIte,hi2]
  refine hK _ ?_
  refine aB ?_
  refine lW 3 (nx+1+6) 0 rfl (by simp(disch:=omega) only[aV,↓reduceIte]<;>rfl) ?_
  refine yK (hp':=fun _=>none) (fun _ _ h=>by cases h) ?_
  rw[J9]
  refine fPg [0,3,4] ?_
  simp only[iB,fU,eW,↓reduceIte,Nat.reduceEqDiff]
  clear hdr hdr2
  have hxl2:=eq_true hxl
  have h99:((99#16:BitVec 16)≠46#16)=True:=eq_true (by decide)
  have c00:fVy [] []=0:=rfl
  have d99:decide ((99#16:BitVec 16)=99#16)=true:=rfl
  have d1:decide ((1#16:BitVec 16)=1#16)=true:=rfl
  have d0:decide ((0:Int)=0)=true:=rfl
  refine aA rfl (aR 0 rfl rfl (bR (fun p:KC5=> {fr:=[(0,.sl (m+1) (rcC l)),(3,.rp [.sl 1 [.s x],.w16 99#16,.w16 1#16,.w32 o.ttl,.sl o.d.length (c8 o.d)]),(4,.i (p.k:Int))],hp:=fun _=>none,nx:=0,cx:=p.c}) (fun p=>p.k≤m∧fWe l [x] p.k=W) (fun p=>p.k) rfl ⟨⟨m,_⟩,⟨U3 _,hWW⟩,bD rfl rfl (U3 _)⟩ ?_))
  rintro⟨k,c⟩ ⟨hk,hw⟩ n0
  simp only at hk hw⊢
  rcases k with _|j
  ·obtain rfl:0=W:=hw
   refine aA rfl (aA rfl (bB (Γ:=bC [(47,.pure true saG),(49,.pure true cvG),(48,.pure true eWt)]) (fun k=>if k=33 then 0 else if k=43 then 0 else if k=44 then 0 else 2) [60,0,3,4] bZ (aH fXj (aH fXi (aH fWy aO))) rfl rfl rfl (by kernel_rfl) (fun K hK=>?_)))
   simp(disch:=omega) only[Tryz.f30,go_sem,↓reduceIte]
   refine hK _ ?_
   refine aB (cV (.tmp 60) rfl rfl rfl (fun h=>?_) (fun h=>?_))
   ·refine aI rfl ?_
    cases h
   refine aI rfl ?_
   clear h
   refine bF 0 rfl rfl (aY (aZ (bE (aB (aA rfl (aW [2] rfl rfl rfl fun K hK=>?_))))))
   simp(disch:=omega) only[Tryz.f30,go_sem,↓reduceIte]
   refine hK _ ?_
   refine aB (aS rfl ?_)
   simp(disch:=omega) only[fHo,bV,bK,bQ,Tryz.f30,go_sem,↓reduceIte,U1,rcC]
  have hjl:j<l.length:=by omega
  obtain⟨q,hq⟩: ∃q,l[j]=q:=⟨_,rfl⟩
  have hq2:l[j]? =some q:=by rw[List.getElem?_eq_getElem hjl,hq]
  rw[fWe,hq2]at hw
  simp only at hw
  obtain⟨y,f1,f2,f3,hyl,hyn⟩:=hall q (hq▸List.getElem_mem hjl)
  have hdr:(rcC l).drop (5*j)=[.sl q.nm.length (cS q.nm),.w16 q.ty,.w16 q.cl,.w32 q.ttl,.sl q.d.length (c8 q.d)]++rcC (l.drop (j+1)):=by
   rw[fIr,List.drop_eq_getElem_cons hjl,hq];rfl
  have hdr2:(rcC l).drop (j*5)=[.sl q.nm.length (cS q.nm),.w16 q.ty,.w16 q.cl,.w32 q.ttl,.sl q.d.length (c8 q.d)]++rcC (l.drop (j+1)):=by rw[Nat.mul_comm];exact hdr
  have hj1:(((j+1:Nat):Int)-1).toNat=j:=by omega
  have hj2:((j+1:Nat):Int)-1=(j:Int):=by omega
  have dj:decide ((0:Int)<((j+1:Nat):Int))=true:=J5 (by omega)
  have eY:cS [y]=[.s y]:=rfl
  have hyl2:=eq_true hyl
  rw[f1,f2,f3]at hdr hdr2
  rw[f1]at hw
  by_cases hyx:fVy y x=0
  ·obtain rfl:=(fXa y x).1 hyx
   rw[J4 rfl]at hw
   have dy:decide (fVy y y=0)=true:=J5 hyx
   refine aA rfl (aA rfl (bB (Γ:=bC [(47,.pure true saG),(49,.pure true cvG),(48,.pure true eWt)]) (fun k=>if k=33 then 0 else if k=43 then 0 else if k=44 then 0 else 2) [60,0,3,4] bZ (aH fXj (aH fXi (aH fWy aO))) rfl rfl rfl (by kernel_rfl) (fun K hK=>?_)))
   simp(maxSteps:=400000) (disch:=omega) only[Tryz.f30,go_sem,↓reduceIte,dj,hj2,hdr2,eY,hyl2,dy,h99,c00,List.cons_append,List.nil_append,List.length_cons,List.length_nil,J8,U0,U1,J7,J9]
   refine hK _ ?_
   refine aB (cV (.tmp 60) rfl rfl rfl (fun h=>?_) (fun h=>?_))
   ·refine aI rfl ?_
    clear h
    refine aQ rfl (aB (aR 1 rfl rfl (aW [0,3,4] rfl rfl rfl fun K hK=>?_)))
    simp(disch:=omega) only[Tryz.f30,go_sem,↓reduceIte,hj2]
    refine hK _ ?_
    refine bU (bT ?_)
    refine⟨⟨j,_⟩,⟨by simp only;omega,hw⟩,by simp only;omega,bD rfl rfl (U3 _)⟩
   refine aI rfl ?_
   cases h
  have hne: ¬[y]=[x]:=fun h=>hyx ((fXa y x).2 (by simpa using h))
  rw[J3 hne]at hw
  subst hw
  have dy:decide (fVy y x=0)=false:=J6 hyx
  refine aA rfl (aA rfl (bB (Γ:=bC [(47,.pure true saG),(49,.pure true cvG),(48,.pure true eWt)]) (fun k=>if k=33 then 0 else if k=43 then 0 else if k=44 then 0 else 2) [60,0,3,4] bZ (aH fXj (aH fXi (aH fWy aO))) rfl rfl rfl (by kernel_rfl) (fun K hK=>?_)))
  simp(maxSteps:=400000) (disch:=omega) only[Tryz.f30,go_sem,↓reduceIte,dj,hj2,hdr2,eY,hyl2,hxl2,dy,List.cons_append,List.nil_append,List.length_cons,List.length_nil,J8,J7,J9]
  refine hK _ ?_
  refine aB ?_
  have htk:=fWm l (j+1)
  refine cV (.tmp 60) rfl rfl rfl (fun h=>?_) (fun h=>?_)
  ·refine aI rfl ?_
   cases h
  refine aI rfl ?_
  clear h
  refine bF 0 rfl rfl (aY (aZ (bE (aB (aA rfl (aW [2] rfl rfl rfl fun K hK=>?_))))))
  simp(disch:=omega) only[Tryz.f30,go_sem,↓reduceIte,Nat.sub_zero,htk,U2]
  refine hK _ ?_
  refine aB (aS rfl ?_)
  simp(disch:=omega) only[fHo,bV,bK,bQ,Tryz.f30,go_sem,↓reduceIte]
 cases hg
theorem fZb:bX Tryz.prog GLh 30 (.pure false dJc):=⟨⟨_,Tryz.func30,rfl,rfl⟩,dNj⟩
end Go.AX
