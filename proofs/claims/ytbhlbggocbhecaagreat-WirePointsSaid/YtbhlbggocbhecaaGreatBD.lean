/-
  Wire, part cO: a writer's names: what was written is written as a pointer. Wire, part cP: a writer's records. Wire, part cQ: messages as values; bits; which messages may be written. Wire, part cR: a message written. Wire, part cS: a plain function on own objects: all of them are frozen behind it, but messages under way. Wire, part cT: a message's number; the first of each statement. Wire, part fA: in plain words: how far a name's reading went where it came to nothing; the document's reader. Wire, part fC: the document's numbers, off bytes and off its reader. Wire, part fD: a name taken off the document's reader, pointers and all. Wire, part fE: names, and messages that have no records, held against each other. Wire, part fF: in plain words: a message's flags, read as one number or as two bytes; a question off the document's reader. Wire, part fG: the document's reading of a message that has no records. Wire, part fH: the law WirePoints. Data, part R2: from calls over abstract values to the given rows. Data, part T2: the lift of a statement's call to its row.
-/
import Derived.Test.YtbhlbggocbhecaaGreatBC
import Derived.Test.YtbhlbggocbhecaaGreatRows
import Derived.ProofKit
import Derived.LaidMore
import Derived.OpenShut
import Derived.Stop.Joined
import Derived.WideKeyArgs
import Derived.SevenTiedAt
import Derived.Below
import Derived.ChangeSame
namespace Go.AX
open Go Go.Proofs
set_option maxRecDepth 8000
abbrev WF:=List (List B8×Nat)
def fJe (F:WF):List (AV×AV):=F.map fun p=>(.s p.1,.i p.2)
theorem fKc (k:List B8) (F:WF):aNp (.s k) (fJe F)=some ((iK k F).map fun n=> .i n):=aNo .s fNh (fun n:Nat=> .i n) k F
theorem fMa (k:List B8) (n:Nat) (F:WF):aEh (.s k) (.i n) (fJe F)=some (fJe (kT k n F)):=aNm .s fNh (fun n:Nat=> .i n) k n F
theorem fMb {F G:WF} (h:fJe F=fJe G):F=G:=by
 unfold fJe at h
 exact(List.map_inj_right (fun a b e=>by
  have e1:=(Prod.mk.injEq ..▸e:_∧_)
  obtain⟨e1,e2⟩:=e1
  cases a;cases b
  simp only[AV.s.injEq]at e1
  simp only[AV.i.injEq,Int.ofNat_inj]at e2
  rw[e1,e2])).1 h
structure W3 (hp:H) (w q m:Nat) (b:List B8) (F:WF):Prop where
 h:fIz hp w q b (.mp m)
 hm:hp m=some (.mapo (fJe F) true)
 n1:m≠w
 n2:m≠q
def fIb (w q m:Nat) (b:List B8) (F:WF) (hp:H):H:=fHw w q b (.mp m) (upd hp m (.mapo (fJe F) true))
structure W3T where
 q:Nat
 m:Nat
 b:List B8
 F:WF
theorem W3.uniq {hp:H} {w q q' m m':Nat} {b b':List B8} {F F':WF} (h:W3 hp w q m b F) (h':W3 hp w q' m' b' F'):q=q'∧m=m'∧b=b'∧F=F':=by
 obtain⟨rfl,rfl,e⟩:=h.h.uniq h'.h
 obtain rfl:=AV.mp.inj e
 exact⟨rfl,rfl,rfl,fMb (AO.mapo.inj (J0 (h.hm.symm.trans h'.hm))).1⟩
open Classical in
noncomputable def fJt (hp:H) (w:Nat):Option W3T:=if h: ∃t:W3T,W3 hp w t.q t.m t.b t.F then some (Classical.choose h)else none
theorem fIa {hp:H} {w q m:Nat} {b:List B8} {F:WF} (h:W3 hp w q m b F):fJt hp w=some ⟨q,m,b,F⟩:=by
 have hx: ∃t:W3T,W3 hp w t.q t.m t.b t.F:=⟨⟨q,m,b,F⟩,h⟩
 unfold fJt
 rw[dif_pos hx]
 have h2:=Classical.choose_spec hx
 obtain⟨e1,e2,e3,e4⟩:=h2.uniq h
 congr 1
 generalize Classical.choose hx=t at e1 e2 e3 e4
 cases t;simp only at e1 e2 e3 e4;rw[e1,e2,e3,e4]
theorem fJs {hp:H} {w:Nat} {t:W3T} (h:fJt hp w=some t):W3 hp w t.q t.m t.b t.F:=by
 unfold fJt at h
 split at h
 ·rename_i hx
  obtain rfl:=J0 h
  exact Classical.choose_spec hx
 cases h
theorem fKy {hp:H} {w q m:Nat} {b:List B8} {F:WF} (h:w≠q) (h1:m≠w) (h2:m≠q):W3 (fIb w q m b F hp) w q m b F:=
 ⟨fJh h,by unfold fIb;rw[fHv h1 h2,bJ,J4 rfl],h1,h2⟩
theorem fKz {hp:H} {w q m:Nat} {b:List B8} {F:WF} {k:Nat} (h1:k≠w) (h2:k≠q) (h3:k≠m):fIb w q m b F hp k=hp k:=by
 unfold fIb;rw[fHv h1 h2,bJ,J3 h3]
theorem fHx {hp g:H} {w q m:Nat} {b:List B8} {F:WF} (h:W3 g w q m b F) (hs: ∀j o,j≠w→j≠q→j≠m→hp j=some o→g j=some o): ∀j o,fIb w q m b F hp j=some o→g j=some o:=
 fJg h.h fun j o h1 h2 hj=>by
  rw[bJ]at hj
  split at hj
  ·rename_i e;rw[e,h.hm];exact hj
  exact hs j o h1 h2 (by assumption) hj
theorem W3.num {hp:H} {w q m q':Nat} {b b':List B8} {F:WF} (h:W3 hp w q m b F) (hw:w≠q') (hm:m≠q'):W3 (fHw w q' b' (.mp m) (del hp q)) w q' m b' F:=
 ⟨fJh hw,by rw[fHv h.n1 hm,eV,J3 h.n2];exact h.hm,h.n1,hm⟩
def wnS:Nm→List B8→WF→List B8×WF×Nat
 |[],b,F=>(b++[0#8],F,0)
 |l::r,b,F=>match iK (fHk (l::r)) F with
  |some a=>(b++beL (49152#32|||BitVec.ofInt 32 (a:Int)) 2 2,F,r.length+1)
  |none=>wnS r (b++ePy l) (if b.length<16384 then kT (fHk (l::r)) b.length F else F)
def wnQ (nx n k:Nat):Nat:=if k=0 then nx+2000*n+1006 else nx+2000*(n-k)+1043
def fJx:AV→Option Nm
 | .sl n xs=>aK (unS xs) fun ps=>aN (ps.length=n) (some ps)
 | .v (.slice none 0 0)=>some []
 |_=>none
theorem fMt (n:Nat) (xs:List AV):fJx (.sl n xs)=aK (unS xs) fun ps=>aN (ps.length=n) (some ps):=(rfl)
theorem fLv {x:AV} {ps:Nm} (h:fJx x=some ps):x=.sl ps.length (cS ps)∨(x=.v (.slice none 0 0)∧ps=[]):=by
 unfold fJx at h
 split at h
 ·replace h:=aJ h;obtain⟨qs,hq,h⟩:=h
  replace h:=aP h;obtain⟨rfl,h⟩:=h
  obtain rfl:=J0 h
  have:=gT hq;subst this
  exact .inl rfl
 ·obtain rfl:=J0 h
  exact .inr ⟨rfl,rfl⟩
 cases h
noncomputable def fIf:List AV→H→Nat→Option (AV×H×Nat)
 |[.op w 0,x],hp,nx=>aK (fJt hp w) fun t=>aK (fJx x) fun ps=>aN (ps.length≤255∧t.b.length+(eF ps).length≤900000)
   (some (.tup [],fIb w (wnQ nx ps.length (wnS ps t.b t.F).2.2) t.m (wnS ps t.b t.F).1 (wnS ps t.b t.F).2.1 (del hp t.q),nx+2000*(ps.length+1)))
 |_,_,_=>none
theorem fKs (w:Nat) (x:AV) (hp:H) (nx:Nat):fIf [.op w 0,x] hp nx=aK (fJt hp w) fun t=>aK (fJx x) fun ps=>aN (ps.length≤255∧t.b.length+(eF ps).length≤900000)
   (some (.tup [],fIb w (wnQ nx ps.length (wnS ps t.b t.F).2.2) t.m (wnS ps t.b t.F).1 (wnS ps t.b t.F).2.1 (del hp t.q),nx+2000*(ps.length+1))):=(rfl)
attribute [go_sem] fMt
attribute [go_sem] fKs
theorem fKu (ps:List (List B8)) (k:Nat) (h:k<ps.length):eF (ps.drop k)=ePy (ps.getD k [])++eF (ps.drop (k+1)):=by
 rw[List.drop_eq_getElem_cons h,eNx];simp[List.getD,List.getElem?_eq_getElem h]
theorem eTh (ps:Nm) (k:Nat) (h:k<ps.length):ps.drop k=ps.getD k []::ps.drop (k+1):=by
 rw[List.drop_eq_getElem_cons h];simp[List.getD,List.getElem?_eq_getElem h]
theorem kU {P:Program} {GL:Nat→Option (List AV)} {nt:Nat} {code:Code} {Q:Exit→S→Prop} {fr:List (Nat×AV)} {hp:H} {nx cx:Nat} (cx':Nat) (hc:cx≤cx')
  (h:Awp P GL nt code {fr:=fr,hp:=hp,nx:=nx,cx:=cx'} Q):Awp P GL nt code {fr:=fr,hp:=hp,nx:=nx,cx:=cx} Q:=tU h ⟨fun _=> .inr rfl,fun _ _ h=>h,hc⟩ rfl
theorem fId {hp:H} {q j:Nat} {o:AO} (h:del hp q j=some o):j≠q∧hp j=some o:=by
 rw[eV]at h
 split at h
 ·cases h
 exact⟨by assumption,h⟩
theorem W3.upM {hp:H} {w q m:Nat} {b:List B8} {F G:WF} (h:W3 hp w q m b F):W3 (upd hp m (.mapo (fJe G) true)) w q m b G:=
 ⟨⟨by rw[bJ,J3 (Ne.symm h.n1)];exact h.h.hw,by rw[bJ,J3 (Ne.symm h.n2)];exact h.h.hq,h.h.ne⟩,by rw[bJ,J4 rfl],h.n1,h.n2⟩
theorem fJq {l:List B8} {r:Nm} {b:List B8} {F:WF} {a:Nat} (h:iK (fHk (l::r)) F=some a):wnS (l::r) b F=(b++beL (49152#32|||BitVec.ofInt 32 (a:Int)) 2 2,F,r.length+1):=by
 rw[wnS,h]
theorem fIg {l:List B8} {r:Nm} {b:List B8} {F:WF} (h:iK (fHk (l::r)) F=none):wnS (l::r) b F=wnS r (b++ePy l) (if b.length<16384 then kT (fHk (l::r)) b.length F else F):=by
 rw[wnS,h]
structure WMI where
 k:Nat
 g:H
 q:Nat
 b:List B8
 F:WF
set_option maxHeartbeats 4000000 in
theorem fLm:fHs Tryz.prog GLh 28 fIf:=by
 refine gF Tryz.func28 (aT rfl) ?_
 intro args hp nx r hp' nx' hg
 unfold fIf at hg
 split at hg
 ·rename_i w x
  replace hg:=aJ hg;obtain⟨⟨q,m,b,F⟩,hW0,hg⟩:=hg
  have hW:=fJs hW0
  replace hg:=aJ hg;obtain⟨ps,hl,hg⟩:=hg
  replace hg:=aP hg;obtain⟨⟨hn,hbig⟩,hg⟩:=hg
  simp only[Option.some.injEq,Prod.mk.injEq]at hg hW hbig;obtain⟨rfl,rfl,rfl⟩:=hg
  refine⟨J1 rfl,by omega,fun hnone=>?_⟩
  have hlt: ∀k o,hp k=some o→k<nx:=fun k o hk=>lI hnone hk
  have hwl:=hlt _ _ hW.h.hw
  have hql:=hlt _ _ hW.h.hq
  have hml:=hlt _ _ hW.hm
  obtain⟨n1,n2⟩:=And.intro hW.n1 hW.n2
  rcases fLv hl with rfl|⟨rfl,rfl⟩
  ·refine aA rfl (aA rfl (aW [0,1,9,10] rfl rfl rfl fun K hK=>?_))
   simp(disch:=omega) only[Tryz.f28,go_sem,↓reduceIte]
   refine hK _ ?_
   refine aB (aR 0 rfl rfl ?_)
   refine bR (fun p:WMI=> {fr:=[(0,.op w 0),(1,.sl ps.length (cS ps)),(9,.i ps.length),(10,.i p.k)],hp:=p.g,nx:=0,cx:=nx+100+2000*p.k}) (fun p=>p.k≤ps.length∧wnS (ps.drop p.k) p.b p.F=wnS ps b F∧W3 p.g w p.q m p.b p.F∧(∀j o,j≠w→j≠q→j≠m→hp j=some o→p.g j=some o)∧(p.q=q∨nx≤p.q)∧p.q<nx+100+2000*p.k∧p.b.length+(eF (ps.drop p.k)).length=b.length+(eF ps).length) (fun p=>ps.length-p.k) rfl ⟨⟨0,hp,q,b,F⟩,⟨Nat.zero_le _,rfl,hW,fun j o _ _ _ h=>h,.inl rfl,by simp only;omega,rfl⟩,bD rfl rfl (by simp only;omega)⟩ ?_
   rintro⟨k,g,q1,b1,F1⟩ ⟨hk,hS,hW1,hsub,hq1,hqc,hlen⟩ n0
   simp only at hk hS hW1 hsub hq1 hqc hlen⊢
   refine aA rfl (aW [11,0,1,9,10] rfl rfl rfl fun K hK=>?_)
   simp(disch:=omega) only[Tryz.f28,go_sem,↓reduceIte]
   refine hK _ ?_
   refine aB (aA rfl (bA (.tmp 11) rfl rfl rfl (fun h=>?_) (fun h=>?_)))
   ·refine aI rfl ?_
    have hkl:k<ps.length:=by omega
    have hwd:=fKu ps k hkl
    have hpd:=eTh ps k hkl
    have hdl:(ps.drop k).length=ps.length-k:=List.length_drop
    have hwb:(eF (ps.drop k)).length≤900000:=by omega
    have hX: ∀X o,nx+100+2000*k<X→W3 (upd g X o) w q1 m b1 F1∧∀j o',j≠w→j≠q→j≠m→hp j=some o'→upd g X o j=some o':=by
     intro X o hXk
     refine⟨⟨⟨?_,?_,hW1.h.ne⟩,?_,hW1.n1,hW1.n2⟩,fun j o' j1 j2 j3 hj=>?_⟩
     ·rw[bJ,J3 (by omega)];exact hW1.h.hw
     ·rw[bJ,J3 (by omega)];exact hW1.h.hq
     ·rw[bJ,J3 (by omega)];exact hW1.hm
     have:=hlt j o' hj
     rw[bJ,J3 (by omega)];exact hsub j o' j1 j2 j3 hj
    clear h
    refine aQ rfl (aB (aA rfl (aR 1 rfl rfl (aA rfl (aW [0,1,4,9,10] rfl rfl rfl fun K hK=>?_)))))
    simp(disch:=omega) only[Tryz.f28,go_sem,↓reduceIte]
    refine hK _ ?_
    refine aB (aA rfl (aC (Γ:=bC [(46,.fresh true rG)]) [0,1,4,5,9,10] (aH eVk aO) rfl rfl rfl (fun K hK=>?_)))
    simp(disch:=omega) only[Tryz.f28,go_sem,↓reduceIte,hdl]
    refine hK _ ?_
    refine aB ?_
    obtain⟨hW2,hsub2⟩:=hX (nx+100+2000*k+1+2+3) (AO.cells (c8 (fHk (ps.drop k))) true) (by omega)
    obtain⟨g2,hg2⟩: ∃y,upd g (nx+100+2000*k+1+2+3) (AO.cells (c8 (fHk (ps.drop k))) true)=y:=⟨_,rfl⟩
    rw[hg2]at hW2 hsub2⊢
    clear hX hg2 hW1 hsub
    have h1:=hW2.h.hw
    have h2:=hW2.h.hq
    have h3:=hW2.hm
    have h4:=hW2.h.ne
    rcases hgk:iK (fHk (ps.drop k)) F1 with _|a
    ·refine aA rfl (aA rfl (aW [0,1,4,5,6,7,9,10] rfl rfl rfl fun K hK=>?_))
     simp(disch:=omega) only[Tryz.f28,go_sem,↓reduceIte,h1,h3,fKc,hgk,Option.map_none]
     refine hK _ ?_
     refine aB (aA rfl (aW [27,0,1,4,5,6,9,10] rfl rfl rfl fun K hK=>?_))
     simp(disch:=omega) only[Tryz.f28,go_sem,↓reduceIte]
     refine hK _ ?_
     refine aB (eC (.tmp 27) rfl rfl rfl (fun h=>?_) (fun h=>?_))
     ·refine aI rfl ?_
      cases h
     refine aI rfl ?_
     clear h
     refine aQ rfl (aB (aA rfl (aA rfl (aW [38,0,1,4,5,9,10] rfl rfl rfl fun K hK=>?_))))
     simp(disch:=omega) only[Tryz.f28,go_sem,↓reduceIte,h1]
     refine hK _ ?_
     refine aB (bA (.tmp 38) rfl rfl rfl (fun h=>?_) (fun h=>?_))
     ·refine aI rfl ?_
      have hb14:b1.length<16384:=by omega
      clear h
      refine bB (Γ:=aL) (fun _=>2) [0,1,4,9,10] bZ (aD _ _) rfl rfl rfl (by kernel_rfl) (fun K hK=>?_)
      simp(disch:=omega) only[Tryz.f28,go_sem,↓reduceIte,h1,h3,fMa]
      refine hK _ ?_
      refine aB ?_
      obtain⟨F2,g3,hS3,hW3,hsub3,hg3⟩: ∃F2 g3,wnS (ps.drop (k+1)) (b1++ePy (ps.getD k [])) F2=wnS ps b F∧W3 g3 w q1 m b1 F2∧(∀j o',j≠w→j≠q→j≠m→hp j=some o'→g3 j=some o')∧upd g2 m (AO.mapo (fJe (kT (fHk (List.drop k ps)) b1.length F1)) true)=g3:=
       ⟨kT (fHk (List.drop k ps)) b1.length F1,_,by rw[←hS,hpd,fIg (hpd▸hgk),J4 hb14,←hpd],hW2.upM,fun j o' j1 j2 j3 hj=>by rw[bJ,J3 j3];exact hsub2 j o' j1 j2 j3 hj,rfl⟩
      first|rw[hg3]|(obtain rfl:=hg3)
      clear hS hW2 hsub2 h1 h2 h3 hg3
      have h1:=hW3.h.hw
      have h2:=hW3.h.hq
      have hlab:b1.length+1+(ps.getD k []).length≤900000:=by
       have:=congrArg List.length hwd
       simp only[List.length_append,ePy,List.length_cons]at this
       omega
      refine kU (nx+2000*k+200) (by omega) ?_
      have e6:b1++[BitVec.ofInt 8 ((ps.getD k []).length:Int)]++ps.getD k []=b1++ePy (ps.getD k []):=by simp[ePy]
      have hbl3:(b1++ePy (ps.getD k [])).length=b1.length+1+(ps.getD k []).length:=by simp only[List.length_append,ePy,List.length_cons];omega
      have hlen3:(b1++ePy (ps.getD k [])).length+(eF (ps.drop (k+1))).length=b.length+(eF ps).length:=by
       rw[←hlen,hwd,List.length_append,List.length_append,Nat.add_assoc]
      refine aYa (Γ:=aL) (fun k=>if k=4 then true else if k=8 then true else if k=11 then true else if k=12 then true else if k=16 then true else false) [(4,8),(4,11),(4,16),(8,16),(11,16),(12,16)] (fun _=>2) [0,1,9,10] bZ (aD _ _) rfl rfl rfl (by kernel_rfl) (fun K hK=>?_)
      simp(maxSteps:=400000) (disch:=omega) only[Tryz.f28,go_sem,and_self,and_true,true_and,ne_eq,not_false_eq_true,↓reduceIte,h1,h2,e6]
      refine hK _ ?_
      refine bU (aB (aW [0,1,9,10] rfl rfl rfl fun K hK=>?_))
      simp(disch:=omega) only[Tryz.f28,go_sem,↓reduceIte]
      refine hK _ ?_
      refine bT ?_
      obtain⟨g',hg'⟩: ∃y,upd (upd (del (upd (del (upd g3 (nx+2000*k+200+11) (AO.cells [AV.w8 (BitVec.ofInt 8 ((ps.getD k []).length:Int))] true)) q1) (nx+2000*k+200+12) (AO.cells (c8 (b1++[BitVec.ofInt 8 ((ps.getD k []).length:Int)])) true)) (nx+2000*k+200+12)) (nx+2000*k+200+17) (AO.cells (c8 (b1++ePy (ps.getD k []))) true)) w (AO.cells [AV.os (nx+2000*k+200+17) 0 (b1.length+1+(ps.getD k []).length) 1 true,AV.mp m] true)=y:=⟨_,rfl⟩
      rw[hg']
      refine⟨⟨k+1,g',nx+2000*k+200+17,b1++ePy (ps.getD k []),F2⟩,⟨by simp only;omega,hS3,⟨⟨?_,?_,?_⟩,?_,hW3.n1,?_⟩,fun j o j1 j2 j3 hj=>?_,.inr (by simp only;omega),by simp only;omega,hlen3⟩,by simp only;omega,bD ?_ rfl (by simp only;omega)⟩
      ·simp only;rw[←hg',bJ,J4 rfl,hbl3]
      ·simp only;rw[←hg',bJ,J3 (by omega),bJ,J4 rfl]
      ·simp only;omega
      ·simp only;rw[←hg',bJ,J3 (by omega),bJ,J3 (by omega),eV,J3 (by omega),bJ,J3 (by omega),eV,J3 hW3.n2,bJ,J3 (by omega)];exact hW3.hm
      ·simp only;omega
      ·have:=hlt j o hj
       simp only;rw[←hg',bJ,J3 j1,bJ,J3 (by omega),eV,J3 (by omega),bJ,J3 (by omega),eV,J3 (by omega),bJ,J3 (by omega)];exact hsub3 j o j1 j2 j3 hj
      simp only[Int.natCast_add,Int.natCast_one]
     refine aI rfl ?_
     have hb14: ¬b1.length<16384:=by omega
     clear h
     refine aQ rfl (aB ?_)
     obtain⟨F2,g3,hS3,hW3,hsub3,hg3⟩: ∃F2 g3,wnS (ps.drop (k+1)) (b1++ePy (ps.getD k [])) F2=wnS ps b F∧W3 g3 w q1 m b1 F2∧(∀j o',j≠w→j≠q→j≠m→hp j=some o'→g3 j=some o')∧g2=g3:=
      ⟨F1,_,by rw[←hS,hpd,fIg (hpd▸hgk),J3 hb14],hW2,hsub2,rfl⟩
     first|rw[hg3]|(obtain rfl:=hg3)
     clear hS hW2 hsub2 h1 h2 h3 hg3
     have h1:=hW3.h.hw
     have h2:=hW3.h.hq
     have hlab:b1.length+1+(ps.getD k []).length≤900000:=by
      have:=congrArg List.length hwd
      simp only[List.length_append,ePy,List.length_cons]at this
      omega
     refine kU (nx+2000*k+200) (by omega) ?_
     have e6:b1++[BitVec.ofInt 8 ((ps.getD k []).length:Int)]++ps.getD k []=b1++ePy (ps.getD k []):=by simp[ePy]
     have hbl3:(b1++ePy (ps.getD k [])).length=b1.length+1+(ps.getD k []).length:=by simp only[List.length_append,ePy,List.length_cons];omega
     have hlen3:(b1++ePy (ps.getD k [])).length+(eF (ps.drop (k+1))).length=b.length+(eF ps).length:=by
      rw[←hlen,hwd,List.length_append,List.length_append,Nat.add_assoc]
     refine aYa (Γ:=aL) (fun k=>if k=4 then true else if k=8 then true else if k=11 then true else if k=12 then true else if k=16 then true else false) [(4,8),(4,11),(4,16),(8,16),(11,16),(12,16)] (fun _=>2) [0,1,9,10] bZ (aD _ _) rfl rfl rfl (by kernel_rfl) (fun K hK=>?_)
     simp(maxSteps:=400000) (disch:=omega) only[Tryz.f28,go_sem,and_self,and_true,true_and,ne_eq,not_false_eq_true,↓reduceIte,h1,h2,e6]
     refine hK _ ?_
     refine bU (aB (aW [0,1,9,10] rfl rfl rfl fun K hK=>?_))
     simp(disch:=omega) only[Tryz.f28,go_sem,↓reduceIte]
     refine hK _ ?_
     refine bT ?_
     obtain⟨g',hg'⟩: ∃y,upd (upd (del (upd (del (upd g3 (nx+2000*k+200+11) (AO.cells [AV.w8 (BitVec.ofInt 8 ((ps.getD k []).length:Int))] true)) q1) (nx+2000*k+200+12) (AO.cells (c8 (b1++[BitVec.ofInt 8 ((ps.getD k []).length:Int)])) true)) (nx+2000*k+200+12)) (nx+2000*k+200+17) (AO.cells (c8 (b1++ePy (ps.getD k []))) true)) w (AO.cells [AV.os (nx+2000*k+200+17) 0 (b1.length+1+(ps.getD k []).length) 1 true,AV.mp m] true)=y:=⟨_,rfl⟩
     rw[hg']
     refine⟨⟨k+1,g',nx+2000*k+200+17,b1++ePy (ps.getD k []),F2⟩,⟨by simp only;omega,hS3,⟨⟨?_,?_,?_⟩,?_,hW3.n1,?_⟩,fun j o j1 j2 j3 hj=>?_,.inr (by simp only;omega),by simp only;omega,hlen3⟩,by simp only;omega,bD ?_ rfl (by simp only;omega)⟩
     ·simp only;rw[←hg',bJ,J4 rfl,hbl3]
     ·simp only;rw[←hg',bJ,J3 (by omega),bJ,J4 rfl]
     ·simp only;omega
     ·simp only;rw[←hg',bJ,J3 (by omega),bJ,J3 (by omega),eV,J3 (by omega),bJ,J3 (by omega),eV,J3 hW3.n2,bJ,J3 (by omega)];exact hW3.hm
     ·simp only;omega
     ·have:=hlt j o hj
      simp only;rw[←hg',bJ,J3 j1,bJ,J3 (by omega),eV,J3 (by omega),bJ,J3 (by omega),eV,J3 (by omega),bJ,J3 (by omega)];exact hsub3 j o j1 j2 j3 hj
     simp only[Int.natCast_add,Int.natCast_one]
    refine aA rfl (aA rfl (aW [0,1,4,5,6,7,9,10] rfl rfl rfl fun K hK=>?_))
    simp(disch:=omega) only[Tryz.f28,go_sem,↓reduceIte,h1,h3,fKc,hgk,Option.map_none,Option.map_some]
    refine hK _ ?_
    refine aB (aA rfl (aW [27,0,1,4,5,6,9,10] rfl rfl rfl fun K hK=>?_))
    simp(disch:=omega) only[Tryz.f28,go_sem,↓reduceIte]
    refine hK _ ?_
    refine aB (eC (.tmp 27) rfl rfl rfl (fun h=>?_) (fun h=>?_))
    ·refine aI rfl ?_
     clear h
     refine kU (nx+2000*k+1000) (by omega) (aA rfl (aC (Γ:=bC [(26,.heap fHp)]) [] (aH fHt aO) rfl rfl rfl (fun K hK=>?_)))
     simp(disch:=omega) only[Tryz.f28,go_sem,↓reduceIte,yQ hW2.h]
     refine hK _ ?_
     refine aB (aS rfl (bI (bN (bI (dF (bN (bI ?_)))))))
     have hS2:wnS ps b F=(b1++beL (49152#32|||BitVec.ofInt 32 (a:Int)) 2 2,F1,(ps.drop (k+1)).length+1):=by rw[←hS,hpd,fJq (hpd▸hgk)]
     rw[hS2]
     have e:wnQ nx ps.length ((ps.drop (k+1)).length+1)=nx+2000*k+1000+5+17+21:=by
      rw[wnQ,J3 (by omega),List.length_drop];omega
     refine⟨rfl,?_,by simp only;omega⟩
     simp only[e,fHr,Nat.mul_one]
     refine fHx (hW2.num (by omega) (by omega)) fun j o j1 j2 j3 hj=>?_
     have hd:=fId hj
     have:=hlt j o hd.2
     rw[fHv j1 j2,eV,J3 (by omega)]
     exact hsub2 j o j1 hd.1 j3 hd.2
    refine aI rfl ?_
    cases h
   refine aI rfl ?_
   obtain rfl:k=ps.length:=by omega
   clear h
   refine bF 0 rfl rfl (aY (aZ (bE (aB ?_))))
   have h1:=hW1.h.hw
   have h2:=hW1.h.hq
   have h4:=hW1.h.ne
   have hb9:b1.length≤900000:=by omega
   refine kU (nx+2000*ps.length+1000) (by omega) (aW [] rfl rfl rfl fun K hK=>?_)
   simp(disch:=omega) only[Tryz.f28,go_sem,↓reduceIte,h1,h2]
   refine hK _ ?_
   have hS2:wnS ps b F=(b1++[0#8],F1,0):=by rw[←hS,List.drop_length];rfl
   have hbl:(b1++[0#8]).length=b1.length+1:=by simp
   rw[hS2]
   obtain⟨g',hg'⟩: ∃y,upd (upd (del (upd g (nx+2000*ps.length+1000+5) (AO.cells [AV.w8 0#8] true)) q1) (nx+2000*ps.length+1000+6) (AO.cells (c8 (b1++[0#8])) true)) w (AO.cells [AV.os (nx+2000*ps.length+1000+6) 0 (b1.length+1) 1 true,AV.mp m] true)=y:=⟨_,rfl⟩
   rw[hg']
   refine⟨rfl,?_,by simp only;omega⟩
   simp only[wnQ,if_true]
   refine fHx ⟨⟨?_,?_,by omega⟩,?_,n1,by omega⟩ fun j o j1 j2 j3 hj=>?_
   ·rw[←hg',bJ,J4 rfl,hbl]
   ·rw[←hg',bJ,J3 (by omega),bJ,J4 rfl]
   ·rw[←hg',bJ,J3 n1,bJ,J3 (by omega),eV,J3 hW1.n2,bJ,J3 (by omega)];exact hW1.hm
   have hd:=fId hj
   have:=hlt j o hd.2
   rw[←hg',bJ,J3 j1,bJ,J3 j2,eV,J3 (by omega),bJ,J3 (by omega)];exact hsub j o j1 hd.1 j3 hd.2
  refine aA rfl (aA rfl (aW [0,1,9,10] rfl rfl rfl fun K hK=>?_))
  simp(disch:=omega) only[Tryz.f28,go_sem,↓reduceIte]
  refine hK _ ?_
  refine aB (aR 0 rfl rfl (bR (fun k:Nat=> {fr:=[(0,.op w 0),(1,.v (.slice none 0 0)),(9,.i 0),(10,.i 0)],hp:=hp,nx:=0,cx:=nx+100}) (fun k=>k=0) (fun k=>k) rfl ⟨0,rfl,bD rfl rfl (by simp only;omega)⟩ ?_))
  rintro k hk0 n0
  simp only at hk0⊢
  refine aA rfl (aW [11,0,1,9,10] rfl rfl rfl fun K hK=>?_)
  simp(disch:=omega) only[Tryz.f28,go_sem,↓reduceIte]
  refine hK _ ?_
  refine aB (aA rfl (eC (.tmp 11) rfl rfl rfl (fun h=>?_) (fun h=>?_)))
  ·refine aI rfl ?_
   cases h
  refine aI rfl ?_
  clear h
  refine bF 0 rfl rfl (aY (aZ (bE (aB ?_))))
  obtain⟨q1,b1,F1,g,hW1,hS,hq1⟩: ∃q1 b1 F1 g,W3 g w q1 m b1 F1∧g=hp∧q1=q∧b1=b∧F1=F:=⟨q,b,F,hp,hW,rfl,rfl,rfl,rfl⟩
  subst hS
  obtain⟨rfl,rfl,rfl⟩:=hq1
  have hsub: ∀j o,j≠w→j≠q1→j≠m→g j=some o→g j=some o:=fun j o _ _ _ h=>h
  have h1:=hW1.h.hw
  have h2:=hW1.h.hq
  have h4:=hW1.h.ne
  have hb9:b1.length≤900000:=by omega
  refine kU (nx+1000) (by omega) (aW [] rfl rfl rfl fun K hK=>?_)
  simp(disch:=omega) only[Tryz.f28,go_sem,↓reduceIte,h1,h2]
  refine hK _ ?_
  have hS2:wnS [] b1 F1=(b1++[0#8],F1,0):=rfl
  have hbl:(b1++[0#8]).length=b1.length+1:=by simp
  rw[hS2]
  obtain⟨g',hg'⟩: ∃y,upd (upd (del (upd g (nx+1000+5) (AO.cells [AV.w8 0#8] true)) q1) (nx+1000+6) (AO.cells (c8 (b1++[0#8])) true)) w (AO.cells [AV.os (nx+1000+6) 0 (b1.length+1) 1 true,AV.mp m] true)=y:=⟨_,rfl⟩
  rw[hg']
  refine⟨rfl,?_,by simp only;omega⟩
  simp only[wnQ,if_true,List.length_nil,Nat.mul_zero,Nat.add_zero]
  refine fHx ⟨⟨?_,?_,by omega⟩,?_,n1,by omega⟩ fun j o j1 j2 j3 hj=>?_
  ·rw[←hg',bJ,J4 rfl,hbl]
  ·rw[←hg',bJ,J3 (by omega),bJ,J4 rfl]
  ·rw[←hg',bJ,J3 n1,bJ,J3 (by omega),eV,J3 hW1.n2,bJ,J3 (by omega)];exact hW1.hm
  have hd:=fId hj
  have:=hlt j o hd.2
  rw[←hg',bJ,J3 j1,bJ,J3 j2,eV,J3 (by omega),bJ,J3 (by omega)];exact hsub j o j1 hd.1 j3 hd.2
 cases hg
theorem fLu:bX Tryz.prog GLh 28 (.heap fIf):=⟨⟨_,Tryz.func28,rfl,rfl⟩,fLm⟩
end Go.AX

namespace Go.AX
open Go Go.Proofs
set_option maxRecDepth 8000
structure RC where
 nm:Nm
 ty:BitVec 16
 cl:BitVec 16
 ttl:W32
 d:List B8
def fMd:AV→Option (List B8)
 | .sl n xs=>aK (fHq xs) fun d=>aN (d.length=n) (some d)
 | .v (.slice none 0 0)=>some []
 |_=>none
theorem fMc {x:AV} {d:List B8} (h:fMd x=some d):x=.sl d.length (c8 d)∨(x=.v (.slice none 0 0)∧d=[]):=by
 unfold fMd at h
 split at h
 ·replace h:=aJ h;obtain⟨qs,hq,h⟩:=h
  replace h:=aP h;obtain⟨rfl,h⟩:=h
  obtain rfl:=J0 h
  have:=bW hq;subst this
  exact .inl rfl
 ·obtain rfl:=J0 h
  exact .inr ⟨rfl,rfl⟩
 cases h
def fLo (c:RC):List AV:=[.sl c.nm.length (cS c.nm),.w16 c.ty,.w16 c.cl,.w32 c.ttl,.sl c.d.length (c8 c.d)]
def fIq:List AV→Option RC
 |[x,.w16 t,.w16 c,.w32 l,y]=>aK (fJx x) fun ps=>aK (fMd y) fun d=>some ⟨ps,t,c,l,d⟩
 |_=>none
theorem fMp (c:RC):fIq (fLo c)=some c:=by
 obtain⟨nm,ty,cl,ttl,d⟩:=c
 simp only[fLo,fIq,fJx,fMd,aQr,iA,aX,aN,if_true]
theorem fLa {xs:List AV} {c:RC} (h:fIq xs=some c): ∃x y,xs=[x,.w16 c.ty,.w16 c.cl,.w32 c.ttl,y]∧fJx x=some c.nm∧fMd y=some c.d:=by
 unfold fIq at h
 split at h
 ·replace h:=aJ h;obtain⟨ps,hp,h⟩:=h
  replace h:=aJ h;obtain⟨d,hd,h⟩:=h
  obtain rfl:=J0 h
  exact⟨_,_,rfl,hp,hd⟩
 cases h
def wrS (c:RC) (b:List B8) (F:WF):List B8×WF:=
 ((wnS c.nm b F).1++beL (BitVec.setWidth 32 c.ty) 2 2++beL (BitVec.setWidth 32 c.cl) 2 2++beL c.ttl 4 4++beL (BitVec.ofInt 32 (c.d.length:Int)) 2 2++c.d,(wnS c.nm b F).2.1)
theorem fJk (n:Nm): ∀(b:List B8) (F:WF),(wnS n b F).1.length≤b.length+(eF n).length+2:=by
 induction n with
 |nil=>intro b F;simp[wnS,fJr]
 |cons l r ih=>
  intro b F
  rw[wnS,eNx]
  split
  ·simp[cZ]
  refine Nat.le_trans (ih _ _) ?_
  simp only[List.length_append];omega
structure WS (hp:H) (n w q0 m:Nat) (g:H) (q:Nat) (b:List B8) (F:WF):Prop where
 h:W3 g w q m b F
 sub: ∀j o,j≠w→j≠q0→j≠m→j<n→hp j=some o→g j=some o
 hq:q=q0∨n≤q
 wl:w<n
 ml:m<n
theorem WS.num {hp g:H} {n w q0 m q q':Nat} {b b':List B8} {F:WF} (h:WS hp n w q0 m g q b F) (hq:n≤q'):WS hp n w q0 m (fHw w q' b' (.mp m) (del g q)) q' b' F:=by
 have:=h.wl;have:=h.ml
 refine⟨h.h.num (by omega) (by omega),fun j o j1 j2 j3 j4 hj=>?_,.inr hq,h.wl,h.ml⟩
 have:=h.hq
 rw[fHv j1 (by omega),eV,J3 (by omega)]
 exact h.sub j o j1 j2 j3 j4 hj
theorem WS.name {hp g:H} {n w q0 m q q':Nat} {b b':List B8} {F F':WF} (h:WS hp n w q0 m g q b F) (hq:n≤q'):WS hp n w q0 m (fIb w q' m b' F' (del g q)) q' b' F':=by
 have:=h.wl;have:=h.ml
 refine⟨fKy (by omega) h.h.n1 (by omega),fun j o j1 j2 j3 j4 hj=>?_,.inr hq,h.wl,h.ml⟩
 have:=h.hq
 rw[fKz j1 (by omega) j3,eV,J3 (by omega)]
 exact h.sub j o j1 j2 j3 j4 hj
theorem fHl {P:Program} {GL:Nat→Option (List AV)} {nt:Nat} {code:Code} {Q:Exit→S→Prop} {fr:List (Nat×AV)} {hp g:H} {n w q0 m q q' nx cx:Nat} {b b':List B8} {F:WF} (h:WS hp n w q0 m g q b F) (hq:n≤q')
  (h2: ∀g2 b2,b2=b'→WS hp n w q0 m g2 q' b2 F→Awp P GL nt code {fr:=fr,hp:=g2,nx:=nx,cx:=cx} Q):Awp P GL nt code {fr:=fr,hp:=fHw w q' b' (.mp m) (del g q),nx:=nx,cx:=cx} Q:=h2 _ _ rfl (h.num hq)
theorem fIe {P:Program} {GL:Nat→Option (List AV)} {nt:Nat} {code:Code} {Q:Exit→S→Prop} {fr:List (Nat×AV)} {hp g:H} {n w q0 m q q' nx cx:Nat} {b b':List B8} {F F':WF} (h:WS hp n w q0 m g q b F) (hq:n≤q')
  (h2: ∀g2 b2 F2,b2=b'→F2=F'→WS hp n w q0 m g2 q' b2 F2→Awp P GL nt code {fr:=fr,hp:=g2,nx:=nx,cx:=cx} Q):Awp P GL nt code {fr:=fr,hp:=fIb w q' m b' F' (del g q),nx:=nx,cx:=cx} Q:=h2 _ _ _ rfl rfl (h.name hq)
theorem fKe (nx n k:Nat):nx≤wnQ nx n k:=by unfold wnQ;split<;>omega
noncomputable def fJf:List AV→H→Nat→Option (AV×H×Nat)
 |[.op w 0,.agg xs],hp,nx=>aK (fJt hp w) fun t=>aK (fIq xs) fun c=>aN (c.nm.length≤255∧t.b.length+(eF c.nm).length+c.d.length≤800000)
   (some (.tup [],fIb w (nx+2000*(c.nm.length+1)+2007) t.m (wrS c t.b t.F).1 (wrS c t.b t.F).2 (del hp t.q),nx+2000*(c.nm.length+3)))
 |_,_,_=>none
theorem fLj (w:Nat) (xs:List AV) (hp:H) (nx:Nat):fJf [.op w 0,.agg xs] hp nx=aK (fJt hp w) fun t=>aK (fIq xs) fun c=>aN (c.nm.length≤255∧t.b.length+(eF c.nm).length+c.d.length≤800000)
   (some (.tup [],fIb w (nx+2000*(c.nm.length+1)+2007) t.m (wrS c t.b t.F).1 (wrS c t.b t.F).2 (del hp t.q),nx+2000*(c.nm.length+3))):=(rfl)
attribute [go_sem] fLj
set_option maxHeartbeats 4000000 in
theorem fMj:fHs Tryz.prog GLh 29 fJf:=by
 refine gF Tryz.func29 (aT rfl) ?_
 intro args hp nx r hp' nx' hg
 unfold fJf at hg
 split at hg
 ·rename_i w xs
  replace hg:=aJ hg;obtain⟨⟨q,m,b,F⟩,hW0,hg⟩:=hg
  have hW:=fJs hW0
  replace hg:=aJ hg;obtain⟨c,hc,hg⟩:=hg
  obtain⟨x,y,rfl,hx,hy⟩:=fLa hc
  replace hg:=aP hg;obtain⟨⟨hn,hbig⟩,hg⟩:=hg
  simp only[Option.some.injEq,Prod.mk.injEq]at hg hW hbig;obtain⟨rfl,rfl,rfl⟩:=hg
  refine⟨J1 rfl,by omega,fun hnone=>?_⟩
  have hlt: ∀k o,hp k=some o→k<nx:=fun k o hk=>lI hnone hk
  have hwl:=hlt _ _ hW.h.hw
  have hql:=hlt _ _ hW.h.hq
  have hml:=hlt _ _ hW.hm
  obtain⟨n1,n2⟩:=And.intro hW.n1 hW.n2
  obtain⟨nm,ty,cl,ttl,d⟩:=c
  simp only at hn hbig
  have hwn:=fJk nm b F
  simp only at hx hy
  rcases fMc hy with rfl|⟨rfl,rfl⟩
  ·obtain⟨bx,hbx⟩: ∃o,AO.cells [x,AV.w16 ty,AV.w16 cl,AV.w32 ttl,AV.sl d.length (c8 d)] true=o:=⟨_,rfl⟩
   have h0:WS (upd hp nx bx) (nx+1) w q m (upd hp nx bx) q b F:=by
    refine⟨⟨⟨?_,?_,hW.h.ne⟩,?_,n1,n2⟩,fun j o _ _ _ _ hj=>hj,.inl rfl,by omega,by omega⟩
    ·rw[bJ,J3 (by omega)];exact hW.h.hw
    ·rw[bJ,J3 (by omega)];exact hW.h.hq
    rw[bJ,J3 (by omega)];exact hW.hm
   have hkeep: ∀ {g2 q2 b2 F2},WS (upd hp nx bx) (nx+1) w q m g2 q2 b2 F2→g2 nx=some (AO.cells [x,AV.w16 ty,AV.w16 cl,AV.w32 ttl,AV.sl d.length (c8 d)] true):=fun h=>
    h.sub nx _ (by omega) (by omega) (by omega) (by omega) (by rw[bJ,J4 rfl,hbx])
   refine aA rfl (aW [0,3] rfl rfl rfl fun K hK=>?_)
   simp(disch:=omega) only[Tryz.f29,go_sem,↓reduceIte]
   refine hK _ ?_
   refine aB ?_
   rw[hbx]
   refine aA rfl (aC (Γ:=bC [(28,.heap fIf)]) [0,3] (aH fLu aO) rfl rfl rfl (fun K hK=>?_))
   simp(disch:=omega) only[Tryz.f29,go_sem,↓reduceIte,hkeep h0,fIa h0.h,hx]
   refine hK _ ?_
   refine aB ?_
   have hQ:=fKe
   refine fIe h0 (Nat.le_trans (by omega) (hQ _ _ _)) fun g1 b1 F1 eb1 eF1 h1=>?_
   rw[←eb1]at hwn
   have hl1:b1.length≤800002+0:=by omega
   refine aA rfl (aC (Γ:=bC [(26,.heap fHp)]) [0,3] (aH fHt aO) rfl rfl rfl (fun K hK=>?_))
   simp(disch:=omega) only[Tryz.f29,go_sem,↓reduceIte,hkeep h1,yQ h1.h.h]
   refine hK _ ?_
   refine aB ?_
   simp only[fHr,Nat.mul_one]
   refine fHl h1 (by omega) fun g2 b2 eb2 h2=>?_
   have hl2:b2.length≤800002+4:=by rw[eb2,List.length_append,cZ];omega
   refine aA rfl (aC (Γ:=bC [(26,.heap fHp)]) [0,3] (aH fHt aO) rfl rfl rfl (fun K hK=>?_))
   simp(disch:=omega) only[Tryz.f29,go_sem,↓reduceIte,hkeep h2,yQ h2.h.h]
   refine hK _ ?_
   refine aB ?_
   simp only[fHr,Nat.mul_one]
   refine fHl h2 (by omega) fun g3 b3 eb3 h3=>?_
   have hl3:b3.length≤800002+8:=by rw[eb3,List.length_append,cZ];omega
   refine aA rfl (aC (Γ:=bC [(26,.heap fHp)]) [0,3] (aH fHt aO) rfl rfl rfl (fun K hK=>?_))
   simp(disch:=omega) only[Tryz.f29,go_sem,↓reduceIte,hkeep h3,yQ h3.h.h]
   refine hK _ ?_
   refine aB ?_
   simp only[fHr]
   refine fHl h3 (by omega) fun g4 b4 eb4 h4=>?_
   have hl4:b4.length≤800002+12:=by rw[eb4,List.length_append,cZ];omega
   refine aA rfl (aC (Γ:=bC [(26,.heap fHp)]) [0,3] (aH fHt aO) rfl rfl rfl (fun K hK=>?_))
   simp(disch:=omega) only[Tryz.f29,go_sem,↓reduceIte,hkeep h4,yQ h4.h.h]
   refine hK _ ?_
   refine aB ?_
   simp only[fHr,Nat.mul_one]
   refine fHl h4 (by omega) fun g5 b5 eb5 h5=>?_
   have hl5:b5.length≤800002+16:=by rw[eb5,List.length_append,cZ];omega
   refine kU (nx+2000*(nm.length+1)+2000) (by omega) ?_
   have ha:=h5.h.h.hw
   have hb:=h5.h.h.hq
   have hwq:=h5.h.h.ne
   refine aYa (Γ:=aL) (fun k=>if k=4 then true else if k=6 then true else false) [(4,6)] (fun _=>2) [] bZ (aD _ _) rfl rfl rfl (by kernel_rfl) (fun K hK=>?_)
   simp(maxSteps:=400000) (disch:=omega) only[Tryz.f29,go_sem,and_self,and_true,true_and,↓reduceIte,hkeep h5,ha,hb]
   refine hK _ ?_
   obtain⟨q5,hq5⟩: ∃x,nx+1+4+2000*(nm.length+1)+5+400+5+400+4+400+6+17+21=x:=⟨_,rfl⟩
   simp only[hq5]at h5 hwq⊢
   have e1:(wrS ⟨nm,ty,cl,ttl,d⟩ b F)=(b5++d,F1):=by
    simp only[wrS,eb5,eb4,eb3,eb2,eb1,eF1]
   have e2:(b5++d).length=b5.length+d.length:=List.length_append
   rw[e1]
   obtain⟨g',hg'⟩: ∃y,upd (upd (del g5 q5) (nx+2000*(nm.length+1)+2000+7) (AO.cells (c8 (b5++d)) true)) w (AO.cells [AV.os (nx+2000*(nm.length+1)+2000+7) 0 (b5.length+d.length) 1 true,AV.mp m] true)=y:=⟨_,rfl⟩
   rw[hg']
   refine⟨rfl,?_,by simp only;omega⟩
   simp only
   refine fHx ⟨⟨?_,?_,by omega⟩,?_,n1,by omega⟩ fun j o j1 j2 j3 hj=>?_
   ·rw[←hg',bJ,J4 rfl,e2]
   ·rw[←hg',bJ,J3 (by omega),bJ,J4 rfl]
   ·rw[←hg',bJ,J3 n1,bJ,J3 (by omega),eV,J3 h5.h.n2];exact h5.h.hm
   have hd:=fId hj
   have:=hlt j o hd.2
   have h6:=h5.sub j o j1 hd.1 j3 (by omega) (by rw[bJ,J3 (by omega)];exact hd.2)
   rw[←hg',bJ,J3 j1,bJ,J3 j2,eV,J3 (by omega)];exact h6
  obtain⟨bx,hbx⟩: ∃o,AO.cells [x,AV.w16 ty,AV.w16 cl,AV.w32 ttl,AV.v (Value.slice none 0 0)] true=o:=⟨_,rfl⟩
  have h0:WS (upd hp nx bx) (nx+1) w q m (upd hp nx bx) q b F:=by
   refine⟨⟨⟨?_,?_,hW.h.ne⟩,?_,n1,n2⟩,fun j o _ _ _ _ hj=>hj,.inl rfl,by omega,by omega⟩
   ·rw[bJ,J3 (by omega)];exact hW.h.hw
   ·rw[bJ,J3 (by omega)];exact hW.h.hq
   rw[bJ,J3 (by omega)];exact hW.hm
  have hkeep: ∀ {g2 q2 b2 F2},WS (upd hp nx bx) (nx+1) w q m g2 q2 b2 F2→g2 nx=some (AO.cells [x,AV.w16 ty,AV.w16 cl,AV.w32 ttl,AV.v (Value.slice none 0 0)] true):=fun h=>
   h.sub nx _ (by omega) (by omega) (by omega) (by omega) (by rw[bJ,J4 rfl,hbx])
  refine aA rfl (aW [0,3] rfl rfl rfl fun K hK=>?_)
  simp(disch:=omega) only[Tryz.f29,go_sem,↓reduceIte]
  refine hK _ ?_
  refine aB ?_
  rw[hbx]
  refine aA rfl (aC (Γ:=bC [(28,.heap fIf)]) [0,3] (aH fLu aO) rfl rfl rfl (fun K hK=>?_))
  simp(disch:=omega) only[Tryz.f29,go_sem,↓reduceIte,hkeep h0,fIa h0.h,hx]
  refine hK _ ?_
  refine aB ?_
  have hQ:=fKe
  refine fIe h0 (Nat.le_trans (by omega) (hQ _ _ _)) fun g1 b1 F1 eb1 eF1 h1=>?_
  rw[←eb1]at hwn
  have hl1:b1.length≤800002+0:=by omega
  refine aA rfl (aC (Γ:=bC [(26,.heap fHp)]) [0,3] (aH fHt aO) rfl rfl rfl (fun K hK=>?_))
  simp(disch:=omega) only[Tryz.f29,go_sem,↓reduceIte,hkeep h1,yQ h1.h.h]
  refine hK _ ?_
  refine aB ?_
  simp only[fHr,Nat.mul_one]
  refine fHl h1 (by omega) fun g2 b2 eb2 h2=>?_
  have hl2:b2.length≤800002+4:=by rw[eb2,List.length_append,cZ];omega
  refine aA rfl (aC (Γ:=bC [(26,.heap fHp)]) [0,3] (aH fHt aO) rfl rfl rfl (fun K hK=>?_))
  simp(disch:=omega) only[Tryz.f29,go_sem,↓reduceIte,hkeep h2,yQ h2.h.h]
  refine hK _ ?_
  refine aB ?_
  simp only[fHr,Nat.mul_one]
  refine fHl h2 (by omega) fun g3 b3 eb3 h3=>?_
  have hl3:b3.length≤800002+8:=by rw[eb3,List.length_append,cZ];omega
  refine aA rfl (aC (Γ:=bC [(26,.heap fHp)]) [0,3] (aH fHt aO) rfl rfl rfl (fun K hK=>?_))
  simp(disch:=omega) only[Tryz.f29,go_sem,↓reduceIte,hkeep h3,yQ h3.h.h]
  refine hK _ ?_
  refine aB ?_
  simp only[fHr]
  refine fHl h3 (by omega) fun g4 b4 eb4 h4=>?_
  have hl4:b4.length≤800002+12:=by rw[eb4,List.length_append,cZ];omega
  refine aA rfl (aC (Γ:=bC [(26,.heap fHp)]) [0,3] (aH fHt aO) rfl rfl rfl (fun K hK=>?_))
  simp(disch:=omega) only[Tryz.f29,go_sem,↓reduceIte,hkeep h4,yQ h4.h.h]
  refine hK _ ?_
  refine aB ?_
  simp only[fHr,Nat.mul_one]
  refine fHl h4 (by omega) fun g5 b5 eb5 h5=>?_
  have hl5:b5.length≤800002+16:=by rw[eb5,List.length_append,cZ];omega
  refine kU (nx+2000*(nm.length+1)+2000) (by omega) ?_
  have ha:=h5.h.h.hw
  have hb:=h5.h.h.hq
  have hwq:=h5.h.h.ne
  refine aYa (Γ:=aL) (fun k=>if k=4 then true else if k=6 then true else false) [(4,6)] (fun _=>2) [] bZ (aD _ _) rfl rfl rfl (by kernel_rfl) (fun K hK=>?_)
  simp(maxSteps:=400000) (disch:=omega) only[Tryz.f29,go_sem,and_self,and_true,true_and,↓reduceIte,hkeep h5,ha,hb]
  refine hK _ ?_
  obtain⟨q5,hq5⟩: ∃x,nx+1+4+2000*(nm.length+1)+5+400+5+400+4+400+6+17+21=x:=⟨_,rfl⟩
  simp only[hq5]at h5 hwq⊢
  have e1:(wrS ⟨nm,ty,cl,ttl,[]⟩ b F)=(b5,F1):=by
   simp only[wrS,eb5,eb4,eb3,eb2,eb1,eF1,List.append_nil,List.length_nil,Int.natCast_zero]
   rfl
  rw[e1]
  obtain⟨g',hg'⟩: ∃y,upd (upd (del g5 q5) (nx+2000*(nm.length+1)+2000+7) (AO.cells (c8 b5) true)) w (AO.cells [AV.os (nx+2000*(nm.length+1)+2000+7) 0 (b5.length) 1 true,AV.mp m] true)=y:=⟨_,rfl⟩
  rw[hg']
  refine⟨rfl,?_,by simp only;omega⟩
  simp only
  refine fHx ⟨⟨?_,?_,by omega⟩,?_,n1,by omega⟩ fun j o j1 j2 j3 hj=>?_
  ·rw[←hg',bJ,J4 rfl]
  ·rw[←hg',bJ,J3 (by omega),bJ,J4 rfl]
  ·rw[←hg',bJ,J3 n1,bJ,J3 (by omega),eV,J3 h5.h.n2];exact h5.h.hm
  have hd:=fId hj
  have:=hlt j o hd.2
  have h6:=h5.sub j o j1 hd.1 j3 (by omega) (by rw[bJ,J3 (by omega)];exact hd.2)
  rw[←hg',bJ,J3 j1,bJ,J3 j2,eV,J3 (by omega)];exact h6
 cases hg
theorem fNg:bX Tryz.prog GLh 29 (.heap fJf):=⟨⟨_,Tryz.func29,rfl,rfl⟩,fMj⟩
end Go.AX

namespace Go.AX
open Go Go.Proofs
set_option maxRecDepth 8000
section
variable {P : Program} {GL : Nat → Option (List AV)} {nt : Nat} {Q : Exit → S → Prop} {s t : S} {ι : Type} {st : ι → S} {inv : ι → Prop}
def dWp (st:ι→S) (inv:ι→Prop) (Q:Exit→S→Prop):Exit→S→Prop
 | .normal,t=> ∃i,inv i∧Sub (st i) t
 |e,t=>Q e t
theorem dWd (st:ι→S) (inv:ι→Prop) {x y:Code} (h:Awp P GL nt x s (dWp st inv Q)) (hb: ∀i,inv i→∀n,Awp P GL nt y {st i with nx:=n} Q):Awp P GL nt x s (oS P GL nt y Q):=
 dCq h fun e t hq=>by
  cases e with
  |normal=>
   obtain⟨i,hi,hs⟩:=hq
   exact tU (hb i hi t.nx) ⟨hs.fr,hs.hp,hs.cx⟩ rfl
  |_=>exact hq
theorem dWa (h: ∃i,inv i∧Sub (st i) t):dWp st inv Q .normal t:=h
end
def bCu:List AV→Option AV
 |[.b c,.w32 x]=>some (.w32 (if c=true then x else 0#32))
 |_=>none
theorem cCk (c:Bool) (x:W32):bCu [.b c,.w32 x]=some (.w32 (if c=true then x else 0#32)):=(rfl)
attribute [go_sem] cCk
theorem cRb:fHn Tryz.prog GLh 27 bCu:=by
 refine zK Tryz.func27 (aT rfl) ?_
 intro args r hg
 unfold bCu at hg
 split at hg
 ·rename_i c x
  obtain rfl:=J0 hg
  refine⟨J1 rfl,fun nx=>?_⟩
  refine aA rfl (aW [0,1] rfl rfl rfl fun K hK=>?_)
  simp(disch:=omega) only[Tryz.f27,go_sem,↓reduceIte]
  refine hK _ ?_
  refine aB (aA rfl (aA rfl (aW [5,1] rfl rfl rfl fun K hK=>?_)))
  simp(disch:=omega) only[Tryz.f27,go_sem,↓reduceIte]
  refine hK _ ?_
  refine aB (eC (.tmp 5) rfl rfl rfl (fun h=>?_) (fun h=>?_))
  ·refine aI rfl ?_
   subst h
   refine aA rfl (aW [4] rfl rfl rfl fun K hK=>?_)
   simp(disch:=omega) only[Tryz.f27,go_sem,↓reduceIte]
   refine hK _ ?_
   refine aB (aS rfl (bI ?_))
   simp(disch:=omega) only[fHo,bV,bK,bQ,Tryz.f27,go_sem,↓reduceIte]
  refine aI rfl ?_
  subst h
  refine aQ rfl (aB (aA rfl (aW [4] rfl rfl rfl fun K hK=>?_)))
  simp(disch:=omega) only[Tryz.f27,go_sem,↓reduceIte]
  refine hK _ ?_
  refine aB (aS rfl ?_)
  simp(disch:=omega) only[fHo,bV,bK,bQ,Tryz.f27,go_sem,↓reduceIte]
 cases hg
theorem fKn:bX Tryz.prog GLh 27 (.pure true bCu):=⟨⟨_,Tryz.func27,rfl,rfl⟩,cRb⟩
def rcC:List RC→List AV
 |[]=>[]
 |c::r=>fLo c++rcC r
theorem fIh: ∀l:List RC,(rcC l).length=5*l.length
 |[]=>rfl
 |c::r=>by simp only[rcC,fLo,List.length_append,List.length_cons,List.length_nil,fIh r];omega
theorem fIr: ∀(l:List RC) (k:Nat),(rcC l).drop (5*k)=rcC (l.drop k)
 |l,0=>rfl
 |[],k+1=>by simp[rcC]
 |c::r,k+1=>by
  rw[rcC,Nat.mul_succ,Nat.add_comm,←List.drop_drop]
  show List.drop (5*k) (rcC r)=_
  rw[fIr r k];rfl
theorem fIs: ∀(l:List QN) (k:Nat),(qsC l).drop (3*k)=qsC (l.drop k)
 |l,0=>rfl
 |[],k+1=>by simp[qsC]
 |c::r,k+1=>by
  rw[qsC,Nat.mul_succ,Nat.add_comm,←List.drop_drop]
  show List.drop (3*k) (qsC r)=_
  rw[fIs r k];rfl
def unQ:List AV→Option (List QN)
 |[]=>some []
 | .sl n xs::.w16 t::.w16 c::r=>aK (unS xs) fun ps=>aN (ps.length=n) (aK (unQ r) fun l=>some (⟨ps,t,c⟩::l))
 |_=>none
theorem fNb: ∀l:List QN,unQ (qsC l)=some l
 |[]=>rfl
 |q::r=>by
  show aK (unS (cS q.n)) (fun ps=>aN (ps.length=q.n.length) (aK (unQ (qsC r)) fun l=>some (⟨ps,q.t,q.c⟩::l)))=_
  rw[aQr,aX,fNb r];simp[aN,aK]
theorem fMm: ∀ {xs:List AV} {l:List QN},unQ xs=some l→xs=qsC l:=by
 intro xs
 induction xs using unQ.induct with
 |case1=>intro l h;cases h;rfl
 |case2 n xs t c r ih=>
  intro l h
  rw[unQ]at h
  replace h:=aJ h;obtain⟨ps,hp,h⟩:=h
  replace h:=aP h;obtain⟨rfl,h⟩:=h
  replace h:=aJ h;obtain⟨l2,hl,h⟩:=h
  obtain rfl:=J0 h
  have:=gT hp;subst this
  rw[ih hl];rfl
 |case3 xs h1 h2=>intro l h;rw[unQ]at h;cases h;exact h1;exact h2
def unR:List AV→Option (List RC)
 |[]=>some []
 | .sl n xs::.w16 t::.w16 c::.w32 u::.sl m ys::r=>aK (unS xs) fun ps=>aK (fHq ys) fun d=>aN (ps.length=n∧d.length=m) (aK (unR r) fun l=>some (⟨ps,t,c,u,d⟩::l))
 |_=>none
theorem fNa: ∀l:List RC,unR (rcC l)=some l
 |[]=>rfl
 |q::r=>by
  show aK (unS (cS q.nm)) (fun ps=>aK (fHq (c8 q.d)) fun d=>aN (ps.length=q.nm.length∧d.length=q.d.length) (aK (unR (rcC r)) fun l=>some (⟨ps,q.ty,q.cl,q.ttl,d⟩::l)))=_
  rw[aQr,aX,iA,aX,fNa r];simp[aN,aK]
theorem fJl: ∀ {xs:List AV} {l:List RC},unR xs=some l→xs=rcC l:=by
 intro xs
 induction xs using unR.induct with
 |case1=>intro l h;cases h;rfl
 |case2 n xs t c u m ys r ih=>
  intro l h
  rw[unR]at h
  replace h:=aJ h;obtain⟨ps,hp,h⟩:=h
  replace h:=aJ h;obtain⟨d,hd,h⟩:=h
  replace h:=aP h;obtain⟨⟨rfl,rfl⟩,h⟩:=h
  replace h:=aJ h;obtain⟨l2,hl,h⟩:=h
  obtain rfl:=J0 h
  have:=gT hp;subst this
  have:=bW hd;subst this
  rw[ih hl];rfl
 |case3 xs h1 h2=>intro l h;rw[unR]at h;cases h;exact h1;exact h2
structure MD where
 id:BitVec 16
 rp:Bool
 op:Int
 aa:Bool
 tc:Bool
 rd:Bool
 ra:Bool
 rc:Int
 qs:List QN
 an:List RC
 au:List RC
 ad:List RC
 ed:Bool
 sz:BitVec 16
 dn:Bool
def mdA (M:MD):List AV:=[.w16 M.id,.b M.rp,.i M.op,.b M.aa,.b M.tc,.b M.rd,.b M.ra,.i M.rc,.sl M.qs.length (qsC M.qs),.sl M.an.length (rcC M.an),.sl M.au.length (rcC M.au),.sl M.ad.length (rcC M.ad),.b M.ed,.w16 M.sz,.b M.dn]
def fJd:List AV→Option MD
 |[.w16 id,.b rp,.i op,.b aa,.b tc,.b rd,.b ra,.i rc,.sl n1 x1,.sl n2 x2,.sl n3 x3,.sl n4 x4,.b ed,.w16 sz,.b dn]=>
  aK (unQ x1) fun qs=>aK (unR x2) fun an=>aK (unR x3) fun au=>aK (unR x4) fun ad=>aN (qs.length=n1∧an.length=n2∧au.length=n3∧ad.length=n4)
   (some ⟨id,rp,op,aa,tc,rd,ra,rc,qs,an,au,ad,ed,sz,dn⟩)
 |_=>none
theorem fLx (M:MD):fJd (mdA M)=some M:=by
 obtain⟨id,rp,op,aa,tc,rd,ra,rc,qs,an,au,ad,ed,sz,dn⟩:=M
 simp only[mdA,fJd,fNb,fNa,aX,aN,and_self,if_true]
theorem fJz {xs:List AV} {M:MD} (h:fJd xs=some M):xs=mdA M:=by
 unfold fJd at h
 split at h
 ·replace h:=aJ h;obtain⟨qs,hq,h⟩:=h
  replace h:=aJ h;obtain⟨an,ha,h⟩:=h
  replace h:=aJ h;obtain⟨au,hu,h⟩:=h
  replace h:=aJ h;obtain⟨ad,hd,h⟩:=h
  replace h:=aP h;obtain⟨⟨rfl,rfl,rfl,rfl⟩,h⟩:=h
  obtain rfl:=J0 h
  rw[fMm hq,fJl ha,fJl hu,fJl hd];rfl
 cases h
def rcR (l:List RC):Prop:=l.length≤65535∧∀c∈l,okN c.nm∧c.d.length≤65535
structure RX (M:MD):Prop where
 op0:0≤M.op
 op1:M.op≤15
 rc0:0≤M.rc
 qn:M.qs.length≤65535
 qs: ∀q∈M.qs,okN q.n
 an:rcR M.an
 au:rcR M.au
 ad:rcR M.ad
def fIw (M:MD):Int:=if M.ed=true then 4095 else 15
def scC (L:List (List RC)):List AV:=L.map fun l=> .sl l.length (rcC l)
theorem fIm (L:List (List RC)):(scC L).length=L.length:=List.length_map _
theorem fJu (L:List (List RC)) (k:Nat) (h:k<L.length):((scC L).drop k).head? =some (.sl L[k].length (rcC L[k])):=by
 rw[List.head?_drop];simp[scC,List.getElem?_map,List.getElem?_eq_getElem h]
structure LCI where
 k:Nat
 c:Nat
open Classical in
noncomputable def fLn:List AV→Option AV
 |[.agg xs]=>aK (fJd xs) fun M=>if RX M then some (.b (decide (M.rc≤fIw M)))else none
 |_=>none
theorem fNl {xs:List AV} {M:MD} (h:fJd xs=some M) (h2:RX M):fLn [.agg xs]=some (.b (decide (M.rc≤fIw M))):=by
 show aK (fJd xs) _=_
 rw[h,aX,J4 h2]
set_option maxHeartbeats 4000000 in
theorem fNk:fHn Tryz.prog GLh 25 fLn:=by
 refine zK Tryz.func25 (aT rfl) ?_
 intro args r hg
 unfold fLn at hg
 split at hg
 ·rename_i xs
  replace hg:=aJ hg;obtain⟨M,hM,hg⟩:=hg
  have hR:RX M:=Classical.byContradiction fun hn=>by rw[J3 hn]at hg;cases hg
  rw[J4 hR]at hg
  obtain rfl:=J0 hg
  have:=fJz hM;subst this
  refine⟨J1 rfl,fun nx=>?_⟩
  obtain⟨o0,o1,r0,qn,hqs,han,hau,had⟩:=hR
  obtain⟨dd,hdd⟩: ∃x,decide (M.rc≤fIw M)=x:=⟨_,rfl⟩
  rw[hdd]
  have hdt:dd=true→M.rc≤fIw M:=fun h=>of_decide_eq_true (hdd.trans h)
  have hdf:dd=false→¬M.rc≤fIw M:=fun h=>of_decide_eq_false (hdd.trans h)
  obtain⟨lim,hlim⟩: ∃x:Int,fIw M=x:=⟨_,rfl⟩
  rw[hlim]at hdt hdf
  have hle:M.ed=true→lim=4095:=fun h=>by rw[←hlim,fIw,J4 h]
  have hlf:M.ed=false→lim=15:=fun h=>by rw[←hlim,fIw,J3 (by simp[h])]
  clear hg hM hdd hlim
  obtain⟨id,rp,op,aa,tc,rd,ra,rc,qs,an,au,ad,ed,sz,dn⟩:=M
  simp only at o0 o1 r0 qn hqs han hau had hdt hdf hle hlf⊢
  have hlb:15≤lim∧lim≤4095:=by
   cases ed with
   |true=>have:=hle rfl;omega
   |false=>have:=hlf rfl;omega
  refine aA rfl (aW [1] rfl rfl rfl fun K hK=>?_)
  simp(disch:=omega) only[Tryz.f25,go_sem,↓reduceIte,mdA]
  refine hK _ ?_
  refine aB ?_
  refine lW 1 nx 0 rfl (by simp(disch:=omega) only[aV,↓reduceIte];rfl) ?_
  refine yK (hp':=fun _=>none) (fun _ _ h=>by cases h) (aA rfl (aW [1,3] rfl rfl rfl fun K hK=>?_))
  simp(disch:=omega) only[Tryz.f25,go_sem,↓reduceIte]
  refine hK _ ?_
  refine aB (aA rfl (dWd (fun p:Unit=> {fr:=[(1,.rp [AV.w16 id,AV.b rp,AV.i op,AV.b aa,AV.b tc,AV.b rd,AV.b ra,AV.i rc,AV.sl qs.length (qsC qs),AV.sl an.length (rcC an),AV.sl au.length (rcC au),AV.sl ad.length (rcC ad),AV.b ed,AV.w16 sz,AV.b dn]),(3,.i lim)],hp:=fun _=>none,nx:=0,cx:=nx+100}) (fun p=>True) ?_ ?_))
  ·refine aA rfl (aW [11,1,3] rfl rfl rfl fun K hK=>?_)
   simp(disch:=omega) only[Tryz.f25,go_sem,↓reduceIte]
   refine hK _ ?_
   refine aB (eC (.tmp 11) rfl rfl rfl (fun h=>?_) (fun h=>?_))
   ·refine aI rfl (aW [1,3] rfl rfl rfl fun K hK=>?_)
    simp(disch:=omega) only[Tryz.f25,go_sem,↓reduceIte]
    refine hK _ ?_
    refine dWa (⟨(),trivial,bD ?_ rfl (by simp only;omega)⟩)
    simp only[hle h]
   refine aI rfl (aQ rfl (dWa (⟨(),trivial,bD ?_ rfl (by simp only;omega)⟩)))
   simp only[hlf h]
  rintro _ _ n0
  simp only at⊢
  have d1:decide (op<0)=false:=J6 (by omega)
  have d2:decide (15<op)=false:=J6 (by omega)
  have d3:decide (rc<0)=false:=J6 (by omega)
  have d5:decide ((65535:Int)<(qs.length:Int))=false:=J6 (by omega)
  rcases Bool.eq_false_or_eq_true dd with hd|hd
  ·have d4:decide (lim<rc)=false:=J6 (by have:=hdt hd;omega)
   refine aA rfl (aA rfl (aW [36,1] rfl rfl rfl fun K hK=>?_))
   simp(disch:=omega) only[Tryz.f25,go_sem,↓reduceIte,d1,d2,d3,d4,d5]
   refine hK _ ?_
   refine aB (eC (.tmp 36) rfl rfl rfl (fun h=>?_) (fun h=>?_))
   ·refine aI rfl ?_
    cases h
   refine aI rfl ?_
   clear h d1 d2 d3 d4 d5 hdf hdt hle hlf
   subst hd
   refine aQ rfl (aB (aA rfl (aA rfl (aW [1,38,39,40] rfl rfl rfl fun K hK=>?_))))
   simp(disch:=omega) only[Tryz.f25,go_sem,↓reduceIte]
   refine hK _ ?_
   refine aB (aR 0 rfl rfl (bR (fun p:LCI=> {fr:=[(1,.rp [AV.w16 id,AV.b rp,AV.i op,AV.b aa,AV.b tc,AV.b rd,AV.b ra,AV.i rc,AV.sl qs.length (qsC qs),AV.sl an.length (rcC an),AV.sl au.length (rcC au),AV.sl ad.length (rcC ad),AV.b ed,AV.w16 sz,AV.b dn]),(38,.sl qs.length (qsC qs)),(39,.i qs.length),(40,.i p.k)],hp:=fun _=>none,nx:=0,cx:=p.c}) (fun p=>p.k≤qs.length) (fun p=>qs.length-p.k) rfl ⟨⟨0,_⟩,Nat.zero_le _,bD rfl rfl (U3 _)⟩ ?_))
   rintro⟨k,c⟩ hk n0
   simp only at hk⊢
   refine aA rfl (aW [41,1,38,39,40] rfl rfl rfl fun K hK=>?_)
   simp(disch:=omega) only[Tryz.f25,go_sem,↓reduceIte]
   refine hK _ ?_
   refine aB (aA rfl (bA (.tmp 41) rfl rfl rfl (fun h=>?_) (fun h=>?_)))
   ·refine aI rfl ?_
    have hkl:k<qs.length:=by omega
    have hcl:=fIi qs
    obtain⟨q,hq⟩: ∃q,qs[k]=q:=⟨_,rfl⟩
    have hdr:(qsC qs).drop (3*k)=[.sl q.n.length (cS q.n),.w16 q.t,.w16 q.c]++qsC (qs.drop (k+1)):=by
     rw[fIs,List.drop_eq_getElem_cons hkl,hq];rfl
    have hdr2:(qsC qs).drop (k*3)=[.sl q.n.length (cS q.n),.w16 q.t,.w16 q.c]++qsC (qs.drop (k+1)):=by rw[Nat.mul_comm];exact hdr
    have hqm:=hqs q (hq▸List.getElem_mem hkl)
    clear h
    refine aQ rfl (aB (aA rfl (aR 1 rfl rfl (aA rfl (aW [1,5,38,39,40] rfl rfl rfl fun K hK=>?_)))))
    simp(disch:=omega) only[Tryz.f25,go_sem,↓reduceIte,hdr2,List.cons_append,List.nil_append]
    refine hK _ ?_
    refine aB ?_
    have hw:(if 255<wl q.n then(31:Int)else 0)=0:=J3 (by have:=hqm.2;omega)
    have hL:(∀l∈q.n,gZ l)=True:=eq_true hqm.1
    have hln:=eYr hqm
    refine aA rfl (aC (Γ:=bC [(45,.pure true eTn)]) [47,1,38,39,40] (aH fFg aO) rfl rfl rfl (fun K hK=>?_))
    simp(disch:=omega) only[Tryz.f25,go_sem,↓reduceIte,hw,hL]
    refine hK _ ?_
    refine aB (eC (.tmp 47) rfl rfl rfl (fun h=>?_) (fun h=>?_))
    ·refine aI rfl ?_
     cases h
    refine aI rfl ?_
    clear h
    refine aQ rfl (bU (aB (aW [1,38,39,40] rfl rfl rfl fun K hK=>?_)))
    simp(disch:=omega) only[Tryz.f25,go_sem,↓reduceIte]
    refine hK _ ?_
    refine bT ?_
    refine⟨⟨k+1,_⟩,by simp only;omega,by simp only;omega,⟨fun _=> .inr ?_,fun j o hj=>(by cases hj),U3 _⟩⟩
    simp only[Int.natCast_add,Int.natCast_one]
   refine aI rfl ?_
   clear h
   refine bF 0 rfl rfl (aY (aZ (bE (aB (aA rfl (aA rfl (aW [55,56,57] rfl rfl rfl fun K hK=>?_)))))))
   simp(disch:=omega) only[Tryz.f25,go_sem,↓reduceIte]
   refine hK _ ?_
   refine aB ?_
   obtain⟨L,hLL⟩: ∃L,[an,au,ad]=L:=⟨_,rfl⟩
   have hsc:[AV.sl an.length (rcC an),AV.sl au.length (rcC au),AV.sl ad.length (rcC ad)]=scC L:=by rw[←hLL];rfl
   have hLr: ∀l∈L,rcR l:=by rw[←hLL];intro l hl;simp at hl;rcases hl with rfl|rfl|rfl<;>assumption
   have hL3:L.length=3:=by rw[←hLL];rfl
   rw[hsc]
   refine pS 55 (c+1+6) 0 3 1 rfl (by simp(disch:=omega) only[aV,↓reduceIte];rfl) (by rw[fIm,hL3];decide) ?_
   rw[J9,List.take_of_length_le (by rw[fIm,hL3];decide)]
   refine yK (hp':=fun _=>none) (fun _ _ h=>by cases h) (fPg [55,56,57] ?_)
   simp only[iB,fU,eW,↓reduceIte,Nat.reduceEqDiff]
   clear hsc hLL hqs qn
   refine aR 2 rfl rfl (bR (fun p:LCI=> {fr:=[(55,.sl 3 (scC L)),(56,.i (3:Nat)),(57,.i p.k)],hp:=fun _=>none,nx:=0,cx:=p.c}) (fun p=>p.k≤3) (fun p=>3-p.k) rfl ⟨⟨0,_⟩,Nat.zero_le _,bD rfl rfl (U3 _)⟩ ?_)
   rintro⟨k2,c2⟩ hk2 n0
   simp only at hk2⊢
   refine aA rfl (aW [58,55,56,57] rfl rfl rfl fun K hK=>?_)
   simp(disch:=omega) only[Tryz.f25,go_sem,↓reduceIte]
   refine hK _ ?_
   refine aB (aA rfl (bA (.tmp 58) rfl rfl rfl (fun h=>?_) (fun h=>?_)))
   ·refine aI rfl ?_
    have hk3:k2<L.length:=by omega
    have hd2:=fJu L k2 hk3
    obtain⟨l,hl⟩: ∃l,L[k2]=l:=⟨_,rfl⟩
    rw[hl]at hd2
    obtain⟨hln,hlr⟩:=hLr l (hl▸List.getElem_mem hk3)
    clear h hl
    refine aQ rfl (aB (aA rfl (aR 3 rfl rfl (aA rfl (aW [7,55,56,57] rfl rfl rfl fun K hK=>?_)))))
    simp(disch:=omega) only[Tryz.f25,go_sem,↓reduceIte,hd2]
    refine hK _ ?_
    refine aB (aA rfl (aA rfl (aW [63,7,55,56,57] rfl rfl rfl fun K hK=>?_)))
    simp(disch:=omega) only[Tryz.f25,go_sem,↓reduceIte]
    refine hK _ ?_
    refine aB (bA (.tmp 63) rfl rfl rfl (fun h=>?_) (fun h=>?_))
    ·refine aI rfl ?_
     omega
    refine aI rfl ?_
    clear h
    refine aQ rfl (aB (aA rfl (aW [55,56,57,64,65,66] rfl rfl rfl fun K hK=>?_)))
    simp(disch:=omega) only[Tryz.f25,go_sem,↓reduceIte]
    refine hK _ ?_
    refine aB (aR 4 rfl rfl (bR (fun p:LCI=> {fr:=[(55,.sl 3 (scC L)),(56,.i (3:Nat)),(57,.i k2),(64,.sl l.length (rcC l)),(65,.i l.length),(66,.i p.k)],hp:=fun _=>none,nx:=0,cx:=p.c}) (fun p=>p.k≤l.length) (fun p=>l.length-p.k) rfl ⟨⟨0,_⟩,Nat.zero_le _,bD rfl rfl (U3 _)⟩ ?_))
    rintro⟨k3,c3⟩ hk3 n0
    simp only at hk3⊢
    refine aA rfl (aW [67,55,56,57,64,65,66] rfl rfl rfl fun K hK=>?_)
    simp(disch:=omega) only[Tryz.f25,go_sem,↓reduceIte]
    refine hK _ ?_
    refine aB (aA rfl (bA (.tmp 67) rfl rfl rfl (fun h=>?_) (fun h=>?_)))
    ·refine aI rfl ?_
     have hkl:k3<l.length:=by omega
     have hcl:=fIh l
     obtain⟨q,hq⟩: ∃q,l[k3]=q:=⟨_,rfl⟩
     have hdr:(rcC l).drop (5*k3)=[.sl q.nm.length (cS q.nm),.w16 q.ty,.w16 q.cl,.w32 q.ttl,.sl q.d.length (c8 q.d)]++rcC (l.drop (k3+1)):=by
      rw[fIr,List.drop_eq_getElem_cons hkl,hq];rfl
     have hdr2:(rcC l).drop (k3*5)=[.sl q.nm.length (cS q.nm),.w16 q.ty,.w16 q.cl,.w32 q.ttl,.sl q.d.length (c8 q.d)]++rcC (l.drop (k3+1)):=by rw[Nat.mul_comm];exact hdr
     obtain⟨hqm,hqd⟩:=hlr q (hq▸List.getElem_mem hkl)
     clear h
     refine aQ rfl (aB (aA rfl (aR 5 rfl rfl (aA rfl (aW [9,55,56,57,64,65,66] rfl rfl rfl fun K hK=>?_)))))
     simp(disch:=omega) only[Tryz.f25,go_sem,↓reduceIte,hdr2,List.cons_append,List.nil_append]
     refine hK _ ?_
     refine aB ?_
     have hw:(if 255<wl q.nm then(31:Int)else 0)=0:=J3 (by have:=hqm.2;omega)
     have hL:(∀l∈q.nm,gZ l)=True:=eq_true hqm.1
     have hln:=eYr hqm
     have hdd:decide ((65535:Int)<(q.d.length:Int))=false:=J6 (by omega)
     refine aA rfl (aC (Γ:=bC [(45,.pure true eTn)]) [79,55,56,57,64,65,66] (aH fFg aO) rfl rfl rfl (fun K hK=>?_))
     simp(disch:=omega) only[Tryz.f25,go_sem,↓reduceIte,hw,hL,hdd]
     refine hK _ ?_
     refine aB (eC (.tmp 79) rfl rfl rfl (fun h=>?_) (fun h=>?_))
     ·refine aI rfl ?_
      cases h
     refine aI rfl ?_
     clear h
     refine aQ rfl (bU (aB (aW [55,56,57,64,65,66] rfl rfl rfl fun K hK=>?_)))
     simp(disch:=omega) only[Tryz.f25,go_sem,↓reduceIte]
     refine hK _ ?_
     refine bT ?_
     refine⟨⟨k3+1,_⟩,by simp only;omega,by simp only;omega,⟨fun _=> .inr ?_,fun j o hj=>(by cases hj),U3 _⟩⟩
     simp only[Int.natCast_add,Int.natCast_one]
    refine aI rfl ?_
    clear h
    refine bF 4 rfl rfl (aY (aZ (bE (bU (aB (aW [55,56,57] rfl rfl rfl fun K hK=>?_))))))
    simp(disch:=omega) only[Tryz.f25,go_sem,↓reduceIte]
    refine hK _ ?_
    refine bT ?_
    refine⟨⟨k2+1,_⟩,by simp only;omega,by simp only;omega,⟨fun _=> .inr ?_,fun j o hj=>(by cases hj),U3 _⟩⟩
    simp only[Int.natCast_add,Int.natCast_one]
   refine aI rfl ?_
   clear h
   refine bF 2 rfl rfl (aY (aZ (bE (aB (aA rfl (aW [2] rfl rfl rfl fun K hK=>?_))))))
   simp(disch:=omega) only[Tryz.f25,go_sem,↓reduceIte]
   refine hK _ ?_
   refine aB (aS rfl ?_)
   simp(disch:=omega) only[fHo,bV,bK,bQ,Tryz.f25,go_sem,↓reduceIte]
  have d4:decide (lim<rc)=true:=J5 (by have:=hdf hd;omega)
  refine aA rfl (aA rfl (aW [36,1] rfl rfl rfl fun K hK=>?_))
  simp(disch:=omega) only[Tryz.f25,go_sem,↓reduceIte,d1,d2,d3,d4]
  refine hK _ ?_
  refine aB (eC (.tmp 36) rfl rfl rfl (fun h=>?_) (fun h=>?_))
  ·refine aI rfl (aA rfl (aW [2] rfl rfl rfl fun K hK=>?_))
   simp(disch:=omega) only[Tryz.f25,go_sem,↓reduceIte]
   refine hK _ ?_
   refine aB (aS rfl (bI ?_))
   simp(disch:=omega) only[fHo,bV,bK,bQ,Tryz.f25,go_sem,↓reduceIte]
   rw[hd]
  refine aI rfl ?_
  cases h
 cases hg
theorem fOq:bX Tryz.prog GLh 25 (.pure true fLn):=⟨⟨_,Tryz.func25,rfl,rfl⟩,fNk⟩
end Go.AX

namespace Go.AX
open Go Go.Proofs
set_option maxRecDepth 8000
def fJp:List QN→List B8→WF→List B8×WF
 |[],b,F=>(b,F)
 |q::r,b,F=>fJp r ((wnS q.n b F).1++beL (BitVec.setWidth 32 q.t) 2 2++beL (BitVec.setWidth 32 q.c) 2 2) (wnS q.n b F).2.1
def fJa:List RC→List B8→WF→List B8×WF
 |[],b,F=>(b,F)
 |c::r,b,F=>fJa r (wrS c b F).1 (wrS c b F).2
def fKd:List (List RC)→List B8→WF→List B8×WF
 |[],b,F=>(b,F)
 |l::r,b,F=>fKd r (fJa l b F).1 (fJa l b F).2
def szQ (q:QN):Nat:=(eF q.n).length+6
def szR (c:RC):Nat:=(eF c.nm).length+12+c.d.length
def fIp (l:List QN):Nat:=(l.map szQ).sum
def fIl (l:List RC):Nat:=(l.map szR).sum
def fJm (L:List (List RC)):Nat:=(L.map fIl).sum
def fl1 (M:MD):W32:=((((if M.rp=true then 128#32 else 0#32)|||BitVec.ofInt 32 M.op <<<3|||if M.aa=true then 4#32 else 0#32)|||if M.tc=true then 2#32 else 0#32)|||if M.rd=true then 1#32 else 0#32)
def fl2 (M:MD):W32:=(if M.ra=true then 128#32 else 0#32)|||BitVec.ofInt 32 (cYz M.rc 15)
def hdB (M:MD):List B8:=beL (BitVec.setWidth 32 M.id) 2 2++beL (fl1 M) 1 1++beL (fl2 M) 1 1++beL (BitVec.ofInt 32 (M.qs.length:Int)) 2 2++beL (BitVec.ofInt 32 (M.an.length:Int)) 2 2++beL (BitVec.ofInt 32 (M.au.length:Int)) 2 2++beL (BitVec.ofInt 32 (M.ad.length:Int)+(if M.ed=true then 1#32 else 0#32)) 2 2
def fLd (M:MD):RC:=⟨[],41#16,M.sz,BitVec.ofInt 32 (M.rc.fdiv (2^min 4 64)) <<<24|||(if M.dn=true then 32768#32 else 0#32),[]⟩
def mbF (M:MD):List B8×WF:=fKd [M.an,M.au,M.ad] (fJp M.qs (hdB M) []).1 (fJp M.qs (hdB M) []).2
def mbS (M:MD):List B8:=if M.ed=true then(wrS (fLd M) (mbF M).1 (mbF M).2).1 else(mbF M).1
def RX2 (M:MD):Prop:=RX M∧fIp M.qs+fJm [M.an,M.au,M.ad]≤60000
theorem WS.upd {hp g:H} {n w q0 m q X:Nat} {o:AO} {b:List B8} {F:WF} (h:WS hp n w q0 m g q b F) (hX:n≤X) (hq:X≠q):WS hp n w q0 m (upd g X o) q b F:=by
 have:=h.wl;have:=h.ml
 refine⟨⟨⟨?_,?_,h.h.h.ne⟩,?_,h.h.n1,h.h.n2⟩,fun j o2 j1 j2 j3 j4 hj=>?_,h.hq,h.wl,h.ml⟩
 ·rw[bJ,J3 (by omega)];exact h.h.h.hw
 ·rw[bJ,J3 (by omega)];exact h.h.h.hq
 ·rw[bJ,J3 (by omega)];exact h.h.hm
 rw[bJ,J3 (by omega)];exact h.sub j o2 j1 j2 j3 j4 hj
theorem fKx (l:List QN) (k:Nat) (h:k<l.length):fIp (l.drop k)=szQ l[k]+fIp (l.drop (k+1)):=by
 rw[fIp,List.drop_eq_getElem_cons h,List.map_cons,List.sum_cons];rfl
theorem fKw (l:List RC) (k:Nat) (h:k<l.length):fIl (l.drop k)=szR l[k]+fIl (l.drop (k+1)):=by
 rw[fIl,List.drop_eq_getElem_cons h,List.map_cons,List.sum_cons];rfl
theorem fKv (l:List (List RC)) (k:Nat) (h:k<l.length):fJm (l.drop k)=fIl l[k]+fJm (l.drop (k+1)):=by
 rw[fJm,List.drop_eq_getElem_cons h,List.map_cons,List.sum_cons];rfl
theorem fKj (c:RC) (b:List B8) (F:WF):(wrS c b F).1.length≤b.length+szR c:=by
 have:=fJk c.nm b F
 simp only[wrS,List.length_append,cZ,szR];omega
structure YI where
 k:Nat
 g:H
 q:Nat
 b:List B8
 F:WF
 c:Nat
open Classical in
noncomputable def byG:List AV→Option AV
 |[.agg xs]=>aK (fJd xs) fun M=>if RX2 M then some (if M.rc≤fIw M then .tup [.sl (mbS M).length (c8 (mbS M)),.i 0]else .tup [.sl 0 [],.i 60])else none
 |_=>none
set_option maxHeartbeats 4000000 in
theorem fOy:fHn Tryz.prog GLh 11 byG:=by
 refine zK Tryz.func11 (aT rfl) ?_
 intro args r hg
 unfold byG at hg
 split at hg
 ·rename_i xs
  replace hg:=aJ hg;obtain⟨M,hM,hg⟩:=hg
  have hR:RX2 M:=Classical.byContradiction fun hn=>by rw[J3 hn]at hg;cases hg
  rw[J4 hR]at hg
  obtain rfl:=J0 hg
  have hrg:=fNl hM hR.1
  have:=fJz hM;subst this
  refine⟨J1 rfl,fun nx=>?_⟩
  obtain⟨⟨o0,o1,r0,qn,hqs,han,hau,had⟩,hsz⟩:=hR
  clear hg hM
  simp only[mdA]at hrg
  refine aA rfl (aW [1] rfl rfl rfl fun K hK=>?_)
  simp(disch:=omega) only[Tryz.f11,go_sem,↓reduceIte,mdA]
  refine hK _ ?_
  refine aB ?_
  refine lW 1 nx 0 rfl (by simp(disch:=omega) only[aV,↓reduceIte];rfl) ?_
  refine yK (hp':=fun _=>none) (fun _ _ h=>by cases h) (aA rfl (aA rfl (aC (Γ:=bC [(25,.pure true fLn)]) [13,1] (aH fOq aO) rfl rfl rfl (fun K hK=>?_))))
  simp(disch:=omega) only[Tryz.f11,go_sem,↓reduceIte,hrg]
  refine hK _ ?_
  refine aB ?_
  by_cases hlim:M.rc≤fIw M
  ·simp only[hlim,decide_true,Bool.not_true,if_true]
   refine eC (.tmp 13) rfl rfl rfl (fun h=>?_) (fun h=>?_)
   ·refine aI rfl ?_
    cases h
   refine aI rfl ?_
   clear h
   refine aQ rfl (aB (aA rfl (aW [1,4] rfl rfl rfl fun K hK=>?_)))
   simp(disch:=omega) only[Tryz.f11,go_sem,↓reduceIte]
   refine hK _ ?_
   refine aB ?_
   refine aDn (nx+3+3+2) 1 [] [AV.mp (nx+6)] true (by simp(disch:=omega) only[aV,↓reduceIte];rfl) (by omega) ?_
   simp only[List.nil_append]
   obtain⟨g0,hg0⟩: ∃y,upd (upd (upd (upd (fun _=>none) (nx+6) (AO.mapo [] true)) (nx+3+3+2) (AO.cells [AV.v (Value.slice none 0 0),AV.mp (nx+6)] true)) (nx+3+3+4) (AO.cells [] true)) (nx+3+3+2) (AO.cells [AV.os (nx+3+3+4) 0 0 1 true,AV.mp (nx+6)] true)=y:=⟨_,rfl⟩
   have h0:WS (fun _=>none) (nx+10) (nx+3+3+2) (nx+10) (nx+6) g0 (nx+10) [] []:=by
    refine⟨⟨⟨?_,?_,by omega⟩,?_,by omega,by omega⟩,fun _ _ _ _ _ _ h=>(by cases h),.inl rfl,by omega,by omega⟩
    ·rw[←hg0,bJ,J4 rfl];rfl
    ·rw[←hg0,bJ,J3 (by omega),bJ,J4 rfl];rfl
    rw[←hg0,bJ,J3 (by omega),bJ,J3 (by omega),bJ,J3 (by omega),bJ,J4 rfl];rfl
   rw[hg0]
   have hl0:([]:List B8).length≤0:=U3 _
   clear hg0
   refine aA rfl (aC (Γ:=bC [(26,.heap fHp)]) [1,4] (aH fHt aO) rfl rfl rfl (fun K hK=>?_))
   simp(disch:=omega) only[Tryz.f11,go_sem,↓reduceIte,yQ h0.h.h]
   refine hK _ ?_
   refine aB ?_
   simp only[fHr,Nat.mul_one]
   refine fHl h0 (by omega) fun g1 b1 eb1 h1=>?_
   have hl1:b1.length≤2:=by rw[eb1];simp only[cZ];omega
   refine aA rfl (bB (Γ:=bC [(27,.pure true bCu),(26,.heap fHp)]) (fun k=>if k=21 then 0 else 2) [1,4] bZ (aH fKn (aH fHt aO)) rfl rfl rfl (by kernel_rfl) (fun K hK=>?_))
   simp(disch:=omega) only[Tryz.f11,go_sem,↓reduceIte,yQ h1.h.h]
   refine hK _ ?_
   refine aB ?_
   simp only[fHr]
   refine fHl h1 (by omega) fun g2 b2 eb2 h2=>?_
   have hl2:b2.length≤4:=by rw[eb2];simp only[List.length_append,cZ];omega
   refine aA rfl (bB (Γ:=bC [(27,.pure true bCu),(26,.heap fHp)]) (fun k=>if k=9 then 0 else 2) [1,4] bZ (aH fKn (aH fHt aO)) rfl rfl rfl (by kernel_rfl) (fun K hK=>?_))
   simp(disch:=omega) only[Tryz.f11,go_sem,↓reduceIte,yQ h2.h.h]
   refine hK _ ?_
   refine aB ?_
   simp only[fHr]
   refine fHl h2 (by omega) fun g3 b3 eb3 h3=>?_
   have hl3:b3.length≤6:=by rw[eb3];simp only[List.length_append,cZ];omega
   refine aA rfl (aC (Γ:=bC [(26,.heap fHp)]) [1,4] (aH fHt aO) rfl rfl rfl (fun K hK=>?_))
   simp(disch:=omega) only[Tryz.f11,go_sem,↓reduceIte,yQ h3.h.h]
   refine hK _ ?_
   refine aB ?_
   simp only[fHr,Nat.mul_one]
   refine fHl h3 (by omega) fun g4 b4 eb4 h4=>?_
   have hl4:b4.length≤8:=by rw[eb4];simp only[List.length_append,cZ];omega
   refine aA rfl (aC (Γ:=bC [(26,.heap fHp)]) [1,4] (aH fHt aO) rfl rfl rfl (fun K hK=>?_))
   simp(disch:=omega) only[Tryz.f11,go_sem,↓reduceIte,yQ h4.h.h]
   refine hK _ ?_
   refine aB ?_
   simp only[fHr,Nat.mul_one]
   refine fHl h4 (by omega) fun g5 b5 eb5 h5=>?_
   have hl5:b5.length≤10:=by rw[eb5];simp only[List.length_append,cZ];omega
   refine aA rfl (aC (Γ:=bC [(26,.heap fHp)]) [1,4] (aH fHt aO) rfl rfl rfl (fun K hK=>?_))
   simp(disch:=omega) only[Tryz.f11,go_sem,↓reduceIte,yQ h5.h.h]
   refine hK _ ?_
   refine aB ?_
   simp only[fHr,Nat.mul_one]
   refine fHl h5 (by omega) fun g6 b6 eb6 h6=>?_
   have hl6:b6.length≤12:=by rw[eb6];simp only[List.length_append,cZ];omega
   refine aA rfl (bB (Γ:=bC [(27,.pure true bCu),(26,.heap fHp)]) (fun k=>if k=9 then 0 else 2) [1,4] bZ (aH fKn (aH fHt aO)) rfl rfl rfl (by kernel_rfl) (fun K hK=>?_))
   simp(disch:=omega) only[Tryz.f11,go_sem,↓reduceIte,yQ h6.h.h]
   refine hK _ ?_
   refine aB ?_
   simp only[fHr,Nat.mul_one]
   refine fHl h6 (by omega) fun g7 b7 eb7 h7=>?_
   have hl7:b7.length≤14:=by rw[eb7];simp only[List.length_append,cZ];omega
   have hhd:b7=hdB M:=by rw[eb7,eb6,eb5,eb4,eb3,eb2,eb1];rfl
   clear eb1 eb2 eb3 eb4 eb5 eb6 eb7 h0 h1 h2 h3 h4 h5 h6 hl0 hl1 hl2 hl3 hl4 hl5 hl6
   obtain⟨w,hw⟩: ∃w,nx+3+3+2=w:=⟨_,rfl⟩
   obtain⟨m,hm⟩: ∃m,nx+6=m:=⟨_,rfl⟩
   obtain⟨q0,hq0⟩: ∃m,nx+10=m:=⟨_,rfl⟩
   obtain⟨c7,hc7⟩: ∃c,nx+3+3+4+1+5+400+22+400+10+400+6+400+6+400+6+400+10+400=c:=⟨_,rfl⟩
   obtain⟨q7,hq7⟩: ∃c,nx+3+3+4+1+5+400+22+400+10+400+6+400+6+400+6+400+10+17+21=c:=⟨_,rfl⟩
   have hqc:q7<c7∧q0≤c7:=by omega
   rw[hq7,hw,hq0,hm]at h7
   rw[hc7,hw]
   refine aA rfl (aA rfl (aW [1,4,83,84,85] rfl rfl rfl fun K hK=>?_))
   simp(disch:=omega) only[Tryz.f11,go_sem,↓reduceIte]
   refine hK _ ?_
   refine aB (aR 0 rfl rfl ?_)
   refine bR (fun p:YI=> {fr:=[(1,.rp (mdA M)),(4,.op w 0),(83,.sl M.qs.length (qsC M.qs)),(84,.i M.qs.length),(85,.i p.k)],hp:=p.g,nx:=0,cx:=p.c}) (fun p=>p.k≤M.qs.length∧fJp (M.qs.drop p.k) p.b p.F=fJp M.qs b7 []∧WS (fun _=>none) q0 w q0 m p.g p.q p.b p.F∧p.q<p.c∧q0≤p.c∧p.b.length+fIp (M.qs.drop p.k)≤14+fIp M.qs) (fun p=>M.qs.length-p.k) rfl ⟨⟨0,g7,q7,b7,[],_⟩,⟨Nat.zero_le _,rfl,h7,by simp only;omega,by simp only;omega,by simp only[J9];omega⟩,bD rfl rfl (U3 _)⟩ ?_
   rintro⟨k,g,q,b,F,c⟩ ⟨hk,hS,hW,hqc1,hcq,hlen⟩ n0
   simp only at hk hS hW hqc1 hcq hlen⊢
   refine aA rfl (aW [86,1,4,83,84,85] rfl rfl rfl fun K hK=>?_)
   simp(disch:=omega) only[Tryz.f11,go_sem,↓reduceIte]
   refine hK _ ?_
   refine aB (aA rfl (bA (.tmp 86) rfl rfl rfl (fun h=>?_) (fun h=>?_)))
   ·refine aI rfl ?_
    have hkl:k<M.qs.length:=by omega
    have hcl:=fIi M.qs
    obtain⟨u,hu⟩: ∃u,M.qs[k]=u:=⟨_,rfl⟩
    have hdr:(qsC M.qs).drop (3*k)=[.sl u.n.length (cS u.n),.w16 u.t,.w16 u.c]++qsC (M.qs.drop (k+1)):=by
     rw[fIs,List.drop_eq_getElem_cons hkl,hu];rfl
    have hdr2:(qsC M.qs).drop (k*3)=[.sl u.n.length (cS u.n),.w16 u.t,.w16 u.c]++qsC (M.qs.drop (k+1)):=by rw[Nat.mul_comm];exact hdr
    have hqm:=hqs u (hu▸List.getElem_mem hkl)
    have hln:=eYr hqm
    have hsu:=fKx M.qs k hkl
    rw[hu,szQ]at hsu
    have hS2:=hS
    rw[List.drop_eq_getElem_cons hkl,hu,fJp]at hS2
    clear h
    refine aQ rfl (aB (aA rfl (aR 1 rfl rfl (aA rfl (aW [1,4,6,83,84,85] rfl rfl rfl fun K hK=>?_)))))
    simp(disch:=omega) only[Tryz.f11,go_sem,↓reduceIte,hdr2,List.cons_append,List.nil_append]
    refine hK _ ?_
    refine aB (lW 6 (c+1+2) 0 rfl (by rw[bJ,J4 rfl]) ?_)
    obtain⟨g0,h0,hg0⟩: ∃y,WS (fun _=>none) q0 w q0 m y q b F∧upd (upd g (c+1+2) (AO.cells [AV.sl u.n.length (cS u.n),AV.w16 u.t,AV.w16 u.c] true)) (c+1+2) (AO.cells [AV.sl u.n.length (cS u.n),AV.w16 u.t,AV.w16 u.c] false)=y:=
     ⟨_,(hW.upd (by omega) (by omega)).upd (by omega) (by omega),rfl⟩
    rw[hg0]
    clear hg0
    refine aA rfl (aC (Γ:=bC [(28,.heap fIf)]) [1,4,6,83,84,85] (aH fLu aO) rfl rfl rfl (fun K hK=>?_))
    simp(disch:=omega) only[Tryz.f11,go_sem,↓reduceIte,fIa h0.h,J9]
    refine hK _ ?_
    refine aB (fIe h0 (Nat.le_trans (by omega) (fKe _ _ _)) fun g1 b1 F1 eb1 eF1 h1=>?_)
    have hwn:=fJk u.n b F
    rw[←eb1]at hwn
    refine aA rfl (aC (Γ:=bC [(26,.heap fHp)]) [1,4,6,83,84,85] (aH fHt aO) rfl rfl rfl (fun K hK=>?_))
    simp(disch:=omega) only[Tryz.f11,go_sem,↓reduceIte,yQ h1.h.h]
    refine hK _ ?_
    refine aB ?_
    simp only[fHr,Nat.mul_one]
    refine fHl h1 (by omega) fun g2 b2 eb2 h2=>?_
    have hl2:b2.length=b1.length+2:=by rw[eb2,List.length_append,cZ]
    refine aA rfl (aC (Γ:=bC [(26,.heap fHp)]) [1,4,83,84,85] (aH fHt aO) rfl rfl rfl (fun K hK=>?_))
    simp(disch:=omega) only[Tryz.f11,go_sem,↓reduceIte,yQ h2.h.h]
    refine hK _ ?_
    refine aB ?_
    simp only[fHr,Nat.mul_one]
    refine fHl h2 (by omega) fun g3 b3 eb3 h3=>?_
    have hl3:b3.length=b1.length+4:=by rw[eb3,List.length_append,cZ];omega
    have hb3:b3.length+fIp (M.qs.drop (k+1))≤14+fIp M.qs:=by omega
    refine aA rfl (aW [108,1,4,83,84,85] rfl rfl rfl fun K hK=>?_)
    simp(disch:=omega) only[Tryz.f11,go_sem,↓reduceIte,h3.h.h.hw]
    refine hK _ ?_
    refine aB (bA (.tmp 108) rfl rfl rfl (fun h=>?_) (fun h=>?_))
    ·refine aI rfl ?_
     omega
    refine aI rfl ?_
    clear h
    refine aQ rfl (bU (aB (aW [1,4,83,84,85] rfl rfl rfl fun K hK=>?_)))
    simp(disch:=omega) only[Tryz.f11,go_sem,↓reduceIte]
    refine hK _ ?_
    refine bT ?_
    refine⟨⟨k+1,g3,_,b3,F1,_⟩,⟨by simp only;omega,?_,h3,by simp only;omega,by simp only;omega,hb3⟩,by simp only;omega,bD ?_ rfl (U3 _)⟩
    ·simp only
     rw[←hS2,eb3,eb2,eb1,eF1]
    simp only[Int.natCast_add,Int.natCast_one]
   refine aI rfl ?_
   obtain rfl:k=M.qs.length:=by omega
   rw[List.drop_length]at hS hlen
   clear h
   refine bF 0 rfl rfl (aY (aZ (bE (aB (aA rfl (aA rfl (aW [1,4,116,117,118] rfl rfl rfl fun K hK=>?_)))))))
   simp(disch:=omega) only[Tryz.f11,go_sem,↓reduceIte,mdA]
   refine hK _ ?_
   refine aB ?_
   obtain⟨L,hLL⟩: ∃L,[M.an,M.au,M.ad]=L:=⟨_,rfl⟩
   have hsc:[AV.sl M.an.length (rcC M.an),AV.sl M.au.length (rcC M.au),AV.sl M.ad.length (rcC M.ad)]=scC L:=by rw[←hLL];rfl
   have hLr: ∀l∈L,rcR l:=by rw[←hLL];intro l hl;simp at hl;rcases hl with rfl|rfl|rfl<;>assumption
   have hL3:L.length=3:=by rw[←hLL];rfl
   rw[hsc]
   rw[hLL]at hsz
   refine pS 116 (c+1+6) 0 3 1 rfl (by rw[bJ,J4 rfl]) (by rw[fIm,hL3];decide) ?_
   rw[J9,List.take_of_length_le (by rw[fIm,hL3];decide)]
   obtain⟨g0,h0,hg0⟩: ∃y,WS (fun _=>none) q0 w q0 m y q b F∧upd (upd g (c+1+6) (AO.cells (scC L) true)) (c+1+6) (AO.cells (scC L) false)=y:=
    ⟨_,(hW.upd (by omega) (by omega)).upd (by omega) (by omega),rfl⟩
   rw[hg0]
   clear hg0 hsc hqs qn
   have hS9:fKd L b F=mbF M:=by rw[←hLL,mbF,←hhd,←hS,fJp]
   have hlen9:b.length+fJm L≤61000:=by rw[show fIp []=0 from rfl]at hlen;omega
   refine fPg [1,4,116,117,118] ?_
   simp only[iB,fU,eW,↓reduceIte,Nat.reduceEqDiff]
   refine aR 2 rfl rfl ?_
   refine bR (fun p:YI=> {fr:=[(1,.rp (mdA M)),(4,.op w 0),(116,.sl 3 (scC L)),(117,.i (3:Nat)),(118,.i p.k)],hp:=p.g,nx:=0,cx:=p.c}) (fun p=>p.k≤3∧fKd (L.drop p.k) p.b p.F=mbF M∧WS (fun _=>none) q0 w q0 m p.g p.q p.b p.F∧p.q<p.c∧q0≤p.c∧p.b.length+fJm (L.drop p.k)≤61000) (fun p=>3-p.k) rfl ⟨⟨0,g0,q,b,F,_⟩,⟨Nat.zero_le _,hS9,h0,by simp only;omega,by simp only;omega,hlen9⟩,bD rfl rfl (U3 _)⟩ ?_
   rintro⟨k2,g2,q2,b2,F2,c2⟩ ⟨hk2,hS2,hW2,hqc2,hcq2,hlen2⟩ n0
   simp only at hk2 hS2 hW2 hqc2 hcq2 hlen2⊢
   refine aA rfl (aW [119,1,4,116,117,118] rfl rfl rfl fun K hK=>?_)
   simp(disch:=omega) only[Tryz.f11,go_sem,↓reduceIte]
   refine hK _ ?_
   refine aB (aA rfl (bA (.tmp 119) rfl rfl rfl (fun h=>?_) (fun h=>?_)))
   ·refine aI rfl ?_
    have hk3:k2<L.length:=by omega
    have hd2:=fJu L k2 hk3
    obtain⟨l,hl⟩: ∃l,L[k2]=l:=⟨_,rfl⟩
    have hsu:=fKv L k2 hk3
    rw[hl]at hd2 hsu
    obtain⟨hln,hlr⟩:=hLr l (hl▸List.getElem_mem hk3)
    have hS3:=hS2
    rw[List.drop_eq_getElem_cons hk3,hl,fKd]at hS3
    clear h hl
    refine aQ rfl (aB (aA rfl (aR 3 rfl rfl (aA rfl (aW [1,4,8,116,117,118] rfl rfl rfl fun K hK=>?_)))))
    simp(disch:=omega) only[Tryz.f11,go_sem,↓reduceIte,hd2]
    refine hK _ ?_
    refine aB (aA rfl (aW [1,4,116,117,118,122,123,124] rfl rfl rfl fun K hK=>?_))
    simp(disch:=omega) only[Tryz.f11,go_sem,↓reduceIte]
    refine hK _ ?_
    refine aB (aR 4 rfl rfl ?_)
    refine bR (fun p:YI=> {fr:=[(1,.rp (mdA M)),(4,.op w 0),(116,.sl 3 (scC L)),(117,.i (3:Nat)),(118,.i k2),(122,.sl l.length (rcC l)),(123,.i l.length),(124,.i p.k)],hp:=p.g,nx:=0,cx:=p.c}) (fun p=>p.k≤l.length∧fJa (l.drop p.k) p.b p.F=fJa l b2 F2∧WS (fun _=>none) q0 w q0 m p.g p.q p.b p.F∧p.q<p.c∧q0≤p.c∧p.b.length+fIl (l.drop p.k)+fJm (L.drop (k2+1))≤61000) (fun p=>l.length-p.k) rfl ⟨⟨0,g2,q2,b2,F2,_⟩,⟨Nat.zero_le _,rfl,hW2,by simp only;omega,by simp only;omega,by simp only[J9];omega⟩,bD rfl rfl (U3 _)⟩ ?_
    rintro⟨k3,g3,q3,b3,F3,c3⟩ ⟨hk3,hS4,hW3,hqc3,hcq3,hlen3⟩ n0
    simp only at hk3 hS4 hW3 hqc3 hcq3 hlen3⊢
    refine aA rfl (aW [125,1,4,116,117,118,122,123,124] rfl rfl rfl fun K hK=>?_)
    simp(disch:=omega) only[Tryz.f11,go_sem,↓reduceIte]
    refine hK _ ?_
    refine aB (aA rfl (bA (.tmp 125) rfl rfl rfl (fun h=>?_) (fun h=>?_)))
    ·refine aI rfl ?_
     have hkl:k3<l.length:=by omega
     have hcl:=fIh l
     obtain⟨u,hu⟩: ∃u,l[k3]=u:=⟨_,rfl⟩
     have hdr:(rcC l).drop (5*k3)=[.sl u.nm.length (cS u.nm),.w16 u.ty,.w16 u.cl,.w32 u.ttl,.sl u.d.length (c8 u.d)]++rcC (l.drop (k3+1)):=by
      rw[fIr,List.drop_eq_getElem_cons hkl,hu];rfl
     have hdr2:(rcC l).drop (k3*5)=[.sl u.nm.length (cS u.nm),.w16 u.ty,.w16 u.cl,.w32 u.ttl,.sl u.d.length (c8 u.d)]++rcC (l.drop (k3+1)):=by rw[Nat.mul_comm];exact hdr
     obtain⟨hqm,hqd⟩:=hlr u (hu▸List.getElem_mem hkl)
     have hln2:=eYr hqm
     have hsu2:=fKw l k3 hkl
     rw[hu,szR]at hsu2
     have hS5:=hS4
     rw[List.drop_eq_getElem_cons hkl,hu,fJa]at hS5
     have hrec:=fMp u
     rw[fLo]at hrec
     clear h
     refine aQ rfl (aB (aA rfl (aR 5 rfl rfl (aA rfl (aW [1,4,10,116,117,118,122,123,124] rfl rfl rfl fun K hK=>?_)))))
     simp(disch:=omega) only[Tryz.f11,go_sem,↓reduceIte,hdr2,List.cons_append,List.nil_append]
     refine hK _ ?_
     refine aB (lW 10 (c3+1+2) 0 rfl (by rw[bJ,J4 rfl]) ?_)
     obtain⟨g4,h4,hg4⟩: ∃y,WS (fun _=>none) q0 w q0 m y q3 b3 F3∧upd (upd g3 (c3+1+2) (AO.cells [AV.sl u.nm.length (cS u.nm),AV.w16 u.ty,AV.w16 u.cl,AV.w32 u.ttl,AV.sl u.d.length (c8 u.d)] true)) (c3+1+2) (AO.cells [AV.sl u.nm.length (cS u.nm),AV.w16 u.ty,AV.w16 u.cl,AV.w32 u.ttl,AV.sl u.d.length (c8 u.d)] false)=y:=
      ⟨_,(hW3.upd (by omega) (by omega)).upd (by omega) (by omega),rfl⟩
     rw[hg4]
     clear hg4
     refine aA rfl (aC (Γ:=bC [(29,.heap fJf)]) [1,4,116,117,118,122,123,124] (aH fNg aO) rfl rfl rfl (fun K hK=>?_))
     simp(disch:=omega) only[Tryz.f11,go_sem,↓reduceIte,fIa h4.h,J9,hrec]
     refine hK _ ?_
     refine aB (fIe h4 (by omega) fun g5 b5 F5 eb5 eF5 h5=>?_)
     have hwn:=fKj u b3 F3
     rw[←eb5]at hwn
     simp only[szR]at hwn
     refine aA rfl (aW [136,1,4,116,117,118,122,123,124] rfl rfl rfl fun K hK=>?_)
     simp(disch:=omega) only[Tryz.f11,go_sem,↓reduceIte,h5.h.h.hw]
     refine hK _ ?_
     refine aB (bA (.tmp 136) rfl rfl rfl (fun h=>?_) (fun h=>?_))
     ·refine aI rfl ?_
      omega
     refine aI rfl ?_
     clear h
     refine aQ rfl (bU (aB (aW [1,4,116,117,118,122,123,124] rfl rfl rfl fun K hK=>?_)))
     simp(disch:=omega) only[Tryz.f11,go_sem,↓reduceIte]
     refine hK _ ?_
     refine bT ?_
     refine⟨⟨k3+1,g5,_,b5,F5,_⟩,⟨by simp only;omega,?_,h5,by simp only;omega,by simp only;omega,by simp only;omega⟩,by simp only;omega,bD ?_ rfl (U3 _)⟩
     ·simp only
      rw[←hS5,eb5,eF5]
     simp only[Int.natCast_add,Int.natCast_one]
    refine aI rfl ?_
    obtain rfl:k3=l.length:=by omega
    rw[List.drop_length]at hS4 hlen3
    clear h
    refine bF 4 rfl rfl (aY (aZ (bE (bU (aB (aW [1,4,116,117,118] rfl rfl rfl fun K hK=>?_))))))
    simp(disch:=omega) only[Tryz.f11,go_sem,↓reduceIte]
    refine hK _ ?_
    refine bT ?_
    refine⟨⟨k2+1,g3,q3,b3,F3,_⟩,⟨by simp only;omega,?_,hW3,by simp only;omega,by simp only;omega,by simp only;omega⟩,by simp only;omega,bD ?_ rfl (U3 _)⟩
    ·simp only
     rw[←hS3,←hS4,fJa]
    simp only[Int.natCast_add,Int.natCast_one]
   refine aI rfl ?_
   obtain rfl:k2=3:=by omega
   rw[List.drop_eq_nil_of_le (by omega),fKd]at hS2
   clear h
   refine bF 2 rfl rfl (aY (aZ (bE (aB ?_))))
   obtain⟨e1,e2⟩:b2=(mbF M).1∧F2=(mbF M).2:=by rw[←hS2];exact⟨rfl,rfl⟩
   have hlb:b2.length≤61000:=by omega
   refine aA rfl (aA rfl (aW [140,1,4] rfl rfl rfl fun K hK=>?_))
   simp(disch:=omega) only[Tryz.f11,go_sem,↓reduceIte,mdA]
   refine hK _ ?_
   refine aB ?_
   rcases Bool.eq_false_or_eq_true M.ed with hd|hd
   ·simp only[hd]
    refine eC (.tmp 140) rfl rfl rfl (fun h=>?_) (fun h=>?_)
    ·refine aI rfl ?_
     clear h
     have hrec:fIq [.v (.slice none 0 0),.w16 41#16,.w16 M.sz,.w32 (BitVec.ofInt 32 (M.rc.fdiv (2^min 4 64)) <<<24|||(if M.dn=true then 32768#32 else 0#32)),.v (.slice none 0 0)]=some (fLd M):=rfl
     have ho1:(fLd M).nm.length=0:=rfl
     have ho2:(eF (fLd M).nm).length=0:=rfl
     have ho3:(fLd M).d.length=0:=rfl
     refine bB (Γ:=bC [(27,.pure true bCu),(29,.heap fJf)]) (fun k=>if k=13 then 0 else 2) [4] bZ (aH fKn (aH fNg aO)) rfl rfl rfl (by kernel_rfl) (fun K hK=>?_)
     simp(disch:=omega) only[Tryz.f11,go_sem,↓reduceIte,fIa hW2.h,hrec,ho1,ho2,ho3]
     refine hK _ ?_
     refine aB (fIe hW2 (by omega) fun g5 b5 F5 eb5 eF5 h5=>?_)
     have hwn:=fKj (fLd M) b2 F2
     rw[←eb5]at hwn
     simp only[szR,ho2,ho3]at hwn
     have hmb:mbS M=b5:=by rw[mbS,J4 hd,eb5,e1,e2]
     rw[hmb]
     refine aA rfl (aA rfl (aW [160,4] rfl rfl rfl fun K hK=>?_))
     simp(disch:=omega) only[Tryz.f11,go_sem,↓reduceIte,h5.h.h.hw]
     refine hK _ ?_
     refine aB (bA (.tmp 160) rfl rfl rfl (fun h=>?_) (fun h=>?_))
     ·refine aI rfl ?_
      omega
     refine aI rfl ?_
     clear h
     refine aQ rfl (aB (aA rfl (aW [2,3] rfl rfl rfl fun K hK=>?_)))
     simp(disch:=omega) only[Tryz.f11,go_sem,↓reduceIte,h5.h.h.hw]
     refine hK _ ?_
     refine aB (aS rfl ?_)
     simp(disch:=omega) only[fHo,bV,bK,bQ,Tryz.f11,go_sem,↓reduceIte,h5.h.h.hq]
    refine aI rfl ?_
    cases h
   simp only[hd]
   refine eC (.tmp 140) rfl rfl rfl (fun h=>?_) (fun h=>?_)
   ·refine aI rfl ?_
    cases h
   refine aI rfl ?_
   clear h
   have hmb:mbS M=b2:=by rw[mbS,J3 (by simp[hd]),e1]
   rw[hmb]
   refine aQ rfl (aB (aA rfl (aA rfl (aW [160,4] rfl rfl rfl fun K hK=>?_))))
   simp(disch:=omega) only[Tryz.f11,go_sem,↓reduceIte,hW2.h.h.hw]
   refine hK _ ?_
   refine aB (bA (.tmp 160) rfl rfl rfl (fun h=>?_) (fun h=>?_))
   ·refine aI rfl ?_
    omega
   refine aI rfl ?_
   clear h
   refine aQ rfl (aB (aA rfl (aW [2,3] rfl rfl rfl fun K hK=>?_)))
   simp(disch:=omega) only[Tryz.f11,go_sem,↓reduceIte,hW2.h.h.hw]
   refine hK _ ?_
   refine aB (aS rfl ?_)
   simp(disch:=omega) only[fHo,bV,bK,bQ,Tryz.f11,go_sem,↓reduceIte,hW2.h.h.hq]
  simp only[hlim,decide_false,Bool.not_false,if_false]
  refine eC (.tmp 13) rfl rfl rfl (fun h=>?_) (fun h=>?_)
  ·refine aI rfl (aA rfl (aW [2,3] rfl rfl rfl fun K hK=>?_))
   simp(disch:=omega) only[Tryz.f11,go_sem,↓reduceIte]
   refine hK _ ?_
   refine aB (aS rfl (bI ?_))
   simp(disch:=omega) only[fHo,bV,bK,bQ,Tryz.f11,go_sem,↓reduceIte]
  refine aI rfl ?_
  cases h
 cases hg
end Go.AX

namespace Go.AX
open Go Go.Proofs
set_option maxRecDepth 8000
def isM:Option AO→Bool
 |some (.cells (.w16 _::xs) true)=>decide (xs.length=14)
 |_=>false
theorem fMv {o:Option AO} (h:isM o=true): ∃xs,o=some (.cells xs true):=by
 unfold isM at h
 split at h
 ·exact⟨_,rfl⟩
 cases h
theorem fOt (x:List B8) (xs:List AV):isM (some (.cells (.s x::xs) true))=false:=(rfl)
theorem fNt (i a n e:Nat) (g:Bool) (xs:List AV):isM (some (.cells (.os i a n e g::xs) true))=false:=(rfl)
attribute [go_sem] fOt fNt
def bUf (hp:H):H:=fun k=>if isM (hp k)=true then none else hp k
def fJn (hp:H):H:=fun k=>if isM (hp k)=true then hp k else(hp k).map eQs
theorem fHy (hp:H) (k:Nat):bUf hp k=if isM (hp k)=true then none else hp k:=rfl
theorem fKb (hp:H) (k:Nat):fJn hp k=if isM (hp k)=true then hp k else(hp k).map eQs:=rfl
theorem Inv.lendS {c:Ctx} {σ:Nat→Loc} {I:Nat→Prop} {w:World} {hp:H} {un:Nat→Prop} (h:Inv c σ I w hp un):
  ∃I1,Inv c σ I1 w (fJn hp) un∧(∀k,I k→I1 k)∧(∀id o blk base sz,bUf hp id=some o→σ id=.at_ blk base sz→I1 blk):=by
 have mY: ∀id o,bUf hp id=some o→hp id=some o∧isM (hp id)=false:=fun id o ho=>by
  rw[fHy]at ho
  split at ho
  ·cases ho
  ·rename_i e;exact⟨ho,by simpa using e⟩
 have hfrz: ∀id o,fJn hp id=some o→(hp id=some o∧isM (hp id)=true)∨(∃o',hp id=some o'∧o=eQs o'∧bUf hp id=some o'):=fun id o ho=>by
  rw[fKb]at ho
  split at ho
  ·rename_i e;exact .inl ⟨ho,e⟩
  ·rename_i e
   cases e2:hp id with
   |none=>rw[e2]at ho;cases ho
   |some o'=>
    rw[e2]at ho
    exact .inr ⟨o',rfl,(J0 ho).symm,by rw[fHy,J3 e,e2]⟩
 have hmt: ∀id o,hp id=some o→isM (hp id)=true→o.mt=true:=fun id o ho h15=>by
  obtain⟨xs,e⟩:=fMv h15
  rw[ho]at e;cases e;rfl
 refine⟨fun k=>I k∨∃id o base sz,bUf hp id=some o∧σ id=.at_ k base sz,?_,fun k hk=> .inl hk,fun id o blk base sz h1 h2=> .inr ⟨id,o,base,sz,h1,h2⟩⟩
 refine {h with imm:=fun k hk=> .inl (h.imm k hk),ilt:=fun k hk=>?_,own:=fun id o ho=>?_,inj:=fun id id' o o' blk base sz base' sz' ho hm ho' hne e1 e2=>?_,lim:=fun id o blk base sz ho hm e1=>?_,glob:=fun g xs hg=>(h.glob g xs hg).mono (fun _ _=>rfl) (fun k hk=> .inl hk) (fun _ _=>rfl),inew:=fun k hk=>?_}
 ·rcases hk with hk|⟨id,o,base,sz,h1,h2⟩
  ·exact h.ilt k hk
  ·exact(h.own id o (mY id o h1).1).lt h2
 ·rcases hfrz id o ho with⟨h1,h15⟩|⟨o',h1,rfl,h2⟩
  ·refine(h.own id o h1).mono (fun _ _=>rfl) (fun k hk=> .inl hk) (fun _ _=>rfl) fun blk base sz e1=>⟨rfl,fun hm hI=>?_⟩
   rintro(hk|⟨id2,o2,base2,sz2,g1,g2⟩)
   ·exact hI hk
   ·obtain⟨g3,g4⟩:=mY id2 o2 g1
    refine h.inj id id2 o o2 blk base sz base2 sz2 h1 hm g3 ?_ e1 g2
    intro e;subst e
    rw[h15]at g4;cases g4
  ·exact(h.own id o' h1).lend (fun k hk=> .inl hk) fun k base sz e=> .inr ⟨id,o',base,sz,h2,e⟩
 ·have key: ∀id o,fJn hp id=some o→∃o2,hp id=some o2:=fun id o ho=>by
   rcases hfrz id o ho with⟨h1,_⟩|⟨o',h1,_,_⟩
   ·exact⟨_,h1⟩
   ·exact⟨_,h1⟩
  rcases hfrz id o ho with⟨h1,h15⟩|⟨o2,h1,rfl,_⟩
  ·obtain⟨o2,h2⟩:=key id' o' ho'
   exact h.inj id id' o o2 blk base sz base' sz' h1 hm h2 hne e1 e2
  ·rw[eRv]at hm;cases hm
 ·rcases hfrz id o ho with⟨h1,h15⟩|⟨o2,h1,rfl,_⟩
  ·exact h.lim id o blk base sz h1 hm e1
  ·rw[eRv]at hm;cases hm
 ·rcases hk with hk|⟨id,o,base,sz,h1,h2⟩
  ·exact h.inew k hk
  ·obtain⟨h3,_⟩:=mY id o h1
   cases hm:o.mt with
   |true=>exact .inr (h.lim id o k base sz h3 hm h2)
   |false=>
    refine h.inew k ?_
    have:=h.own id o h3
    cases o with
    |cells xs mt=>
     simp only[hD,h2]at this
     exact this.2.2 hm
    |mapo es mt=>
     obtain⟨blk,a1,a2,a3,a4⟩:=this
     rw[h2]at a1;cases a1
     exact a4 hm
def fLr (g:List AV→Option AV):List AV→H→Nat→Option (AV×H×Nat):=fun args hp nx=>aK (gR (bUf hp) args) fun as_=>aK (g as_) fun r=>aN (r.ids=0) (some (r,fJn hp,nx))
theorem fKh {P:Program} {GL:Nat→Option (List AV)} {f:FuncId} {g:List AV→Option AV} (hok:fHn P GL f g):fHs P GL f (fLr g):=by
 intro c σ I w hp nx args vals r hp' nx' hGL hi hs hr hg
 unfold fLr at hg
 replace hg:=aJ hg;obtain⟨as_,has,hg⟩:=hg
 replace hg:=aJ hg;obtain⟨r',hr',hg⟩:=hg
 replace hg:=aP hg;obtain⟨hids,hg⟩:=hg
 simp only[Option.some.injEq,Prod.mk.injEq]at hg;obtain⟨rfl,rfl,rfl⟩:=hg
 refine⟨U3 _,?_⟩
 obtain⟨I1,b2,b1,b4⟩:=hi.lendS
 obtain⟨e1,e2⟩:=pR (Ib:=I1) (hi.sub (hp':=bUf hp) fun id o ho=>by
  rw[fHy]at ho
  split at ho
  ·cases ho
  exact ho) b1 b4 args (fun i=>vals.getD i undef) has hr
 subst hGL
 refine(hok σ I1 w nx as_ vals r' (fun id hid=>b2.un id hid) b2.ilt b2.glob (by rw[hs,e1]) e2 hr').mono ?_
 rintro e w' ⟨v,σ',I',rfl,a1,a2,a3,a4,a5,a6,a7,a8,a9⟩
 have hg1: ∀k,I1 k→(I1 k∨(w.heap.size≤k∧k<w'.heap.size)):=fun k hk=> .inl hk
 refine⟨v,σ,fun k=>I1 k∨(w.heap.size≤k∧k<w'.heap.size),rfl,b2.extend a1 a2 a3 a4 a5 _ hg1 (fun _ h=>h),?_,⟨fun _ _=>rfl,fun k hk=> .inl (b1 k hk),fun k hk=>a5 k (hi.ilt k hk)⟩,fun _ _ h=>h⟩
 have h9:Rel σ I' w' r' v:=a9.congr_ids fun id hid=>by omega
 exact h9.mono (fun _ _=>rfl) (fun k hk=>by
  rcases a7 k hk with h|h
  ·exact .inl h
  exact .inr ⟨h,a8 k hk⟩) (fun _ _=>rfl)
end Go.AX

namespace Go.AX
open Go Go.Proofs
set_option maxRecDepth 8000
def idV (b:List B8):AV:=if b.length<12 then .tup [.w16 0#16,.b false]else .tup [.w16 (((b.getD 0 0#8).setWidth 16 <<<8)|||(b.getD 1 0#8).setWidth 16),.b true]
def idG:List AV→Option AV
 |[.sl n xs]=>aK (fHq xs) fun b=>aN (b.length=n∧n≤1000000) (some (idV b))
 |_=>none
theorem fNx (n:Nat) (xs:List AV):idG [.sl n xs]=aK (fHq xs) fun b=>aN (b.length=n∧n≤1000000) (some (idV b)):=(rfl)
attribute [go_sem] fNx
set_option maxHeartbeats 1000000 in
theorem fOw:fHn Tryz.prog GLh 16 idG:=by
 refine zK Tryz.func16 (aT rfl) ?_
 intro args r hg
 unfold idG at hg
 split at hg
 ·rename_i n xs
  replace hg:=aJ hg;obtain⟨b,hl,hg⟩:=hg
  replace hg:=aP hg;obtain⟨⟨rfl,hn⟩,hg⟩:=hg
  obtain rfl:=J0 hg
  have:=bW hl;subst this
  refine⟨J1 rfl,fun nx=>?_⟩
  clear hg hl
  refine aA rfl (aW [0] rfl rfl rfl fun K hK=>?_)
  simp(disch:=omega) only[Tryz.f16,go_sem,↓reduceIte]
  refine hK _ ?_
  refine aB (aA rfl (aA rfl (aW [6,0] rfl rfl rfl fun K hK=>?_)))
  simp(disch:=omega) only[Tryz.f16,go_sem,↓reduceIte]
  refine hK _ ?_
  refine aB (bA (.tmp 6) rfl rfl rfl (fun h=>?_) (fun h=>?_))
  ·refine aI rfl ?_
   have e:idV b=.tup [.w16 0#16,.b false]:=J4 (by omega)
   rw[e]
   refine aA rfl (aW [2,3] rfl rfl rfl fun K hK=>?_)
   simp(disch:=omega) only[Tryz.f16,go_sem,↓reduceIte]
   refine hK _ ?_
   refine aB (aS rfl (bI ?_))
   simp(disch:=omega) only[fHo,bV,bK,bQ,Tryz.f16,go_sem,↓reduceIte]
  refine aI rfl ?_
  have e:idV b=.tup [.w16 (((b.getD 0 0#8).setWidth 16 <<<8)|||(b.getD 1 0#8).setWidth 16),.b true]:=J3 (by omega)
  rw[e]
  have hb:12≤b.length:=by omega
  have h0:=oC b 0 (by omega)
  have h1:=oC b 1 (by omega)
  rw[J9]at h0
  clear h
  refine aQ rfl (aB (aA rfl (bB (Γ:=aL) (fun _=>2) [2,3] bZ (aD _ _) rfl rfl rfl (by kernel_rfl) (fun K hK=>?_))))
  simp(disch:=omega) only[Tryz.f16,go_sem,↓reduceIte,h0]
  refine hK _ ?_
  refine aB (aS rfl ?_)
  simp(disch:=omega) only[fHo,bV,bK,bQ,Tryz.f16,go_sem,↓reduceIte]
 cases hg
theorem fOr:bX Tryz.prog GLh 16 (.pure true idG):=⟨⟨_,Tryz.func16,rfl,rfl⟩,fOw⟩
noncomputable def byH:List AV→H→Nat→Option (AV×H×Nat):=fLr byG
theorem fOf (args:List AV) (hp:H) (nx:Nat):byH args hp nx=aK (gR (bUf hp) args) fun as_=>aK (byG as_) fun r=>aN (r.ids=0) (some (r,fJn hp,nx)):=(rfl)
attribute [go_sem] fOf
theorem fLs:bX Tryz.prog GLh 11 (.heap byH):=⟨⟨_,Tryz.func11,rfl,rfl⟩,fKh fOy⟩
theorem fIx (hp:H) (k:Nat) (o:AO):fJn (upd hp k o)=upd (fJn hp) k (if isM (some o)=true then o else eQs o):=by
 funext j
 simp only[fKb,bJ]
 split
 ·split<;>rfl
 rfl
theorem fIy:fJn (fun _=>none)=fun _=>none:=rfl
theorem fOz {xs:List AV} {M:MD} (h:fJd xs=some M) (h2:RX2 M) (h3:M.rc≤fIw M):byG [.agg xs]=some (.tup [.sl (mbS M).length (c8 (mbS M)),.i 0]):=by
 show aK (fJd xs) _=_
 rw[h,aX,J4 h2,J4 h3]
def M0:MD:=⟨7#16,false,0,false,false,true,false,0,[⟨[[97#8]],1#16,1#16⟩],[],[],[],false,0#16,false⟩
def B0:List B8:=[0,7,1,0,0,1,0,0,0,0,0,0,1,97,0,0,1,0,1]
theorem M0_B:mbS M0=B0:=by decide
theorem M0_R:RX2 M0:=by
 refine⟨⟨by decide,by decide,by decide,by decide,fun q hq=>?_,⟨by decide,fun c hc=>by cases hc⟩,⟨by decide,fun c hc=>by cases hc⟩,⟨by decide,fun c hc=>by cases hc⟩⟩,by decide⟩
 have:q=⟨[[97#8]],1#16,1#16⟩:=by simpa [M0]using hq
 subst this
 decide
theorem fPb:byG [.agg (mdA M0)]=some (.tup [.sl 19 (c8 B0),.i 0]):=by
 rw[fOz (fLx M0) M0_R (by decide),M0_B];rfl
theorem fPa:mgR B0=some (msA B0 [⟨[[97#8]],1#16,1#16⟩],[.sl B0.length (c8 B0),.i 19]):=rfl
theorem B0_g:MGd B0:=.inr ⟨by decide,rfl,rfl,rfl⟩
theorem N0_g:MGd []:=.inl (by decide)
def eNl:List AV→Option AV
 |[]=>some (.b true)
 |_=>none
theorem eTd:eNl []=some (.b true):=(rfl)
attribute [go_sem] eTd
set_option maxHeartbeats 4000000 in
theorem eBb:fHn Tryz.prog GLh 6 eNl:=by
 refine zK Tryz.func6 (aT rfl) ?_
 intro args r hg
 unfold eNl at hg
 split at hg
 ·obtain rfl:=J0 hg
  refine⟨J1 rfl,fun nx=>?_⟩
  clear hg
  have hB:=fPb
  simp only[mdA,M0,qsC,rcC,List.length_nil,List.length_cons,cS,List.map_cons,List.map_nil,List.nil_append,List.cons_append,Nat.zero_add]at hB
  have hids:AV.ids (.tup [.sl 19 (c8 B0),.i 0])=0:=by decide
  refine aA rfl (aW [] rfl rfl rfl fun K hK=>?_)
  simp(disch:=omega) only[Tryz.f6,go_sem]
  refine hK _ ?_
  refine aB ?_
  have h97:ofV (Value.string {data:= #[97]})=.s [97#8]:=rfl
  refine aA rfl (aC (Γ:=bC [(11,.heap byH)]) [1,2] (aH fLs aO) rfl rfl rfl (fun K hK=>?_))
  simp(disch:=omega) only[Tryz.f6,go_sem,↓reduceIte,h97,fHy,hB,hids,fIx,fIy,fCz,U0,U1,J9,List.all_cons,List.all_nil,Option.isSome_some,Bool.and_self]
  refine hK _ ?_
  refine aB (yK (hp':=fun _=>none) (fun _ _ h=>by cases h) ?_)
  have e1:B0.length=19:=rfl
  have e2:MGd B0=True:=eq_true B0_g
  have e3:rwT (mgR B0)=.tup [.agg [.w16 7#16,.b false,.i 0,.b false,.b false,.b true,.b false,.i 0,.sl 1 (qsC [⟨[[97#8]],1#16,1#16⟩]),.sl 0 [],.sl 0 [],.sl 0 [],.b false,.w16 0#16,.b false],.i 0]:=by
   rw[fPa];rfl
  have e4:MGd []=True:=eq_true N0_g
  have e5:rwT (mgR [])=.tup [msZ,.i 60]:=rfl
  have e6:fHq []=some []:=rfl
  have e7:idV B0=.tup [.w16 7#16,.b true]:=rfl
  refine aA rfl (aC (Γ:=bC [(7,.pure false rwG)]) [1,2,3,4] (aH fOn aO) rfl rfl rfl (fun K hK=>?_))
  simp(disch:=omega) only[Tryz.f6,go_sem,↓reduceIte,e1,e2,e3]
  refine hK _ ?_
  refine aB (aA rfl (aC (Γ:=bC [(7,.pure false rwG)]) [1,2,3,4,6] (aH fOn aO) rfl rfl rfl (fun K hK=>?_)))
  simp(disch:=omega) only[Tryz.f6,go_sem,↓reduceIte,e4,e5,e6,msZ,List.length_nil,fV,dW]
  refine hK _ ?_
  refine aB (aA rfl (aC (Γ:=bC [(16,.pure true idG)]) [1,2,3,4,6,7,8] (aH fOr aO) rfl rfl rfl (fun K hK=>?_)))
  simp(disch:=omega) only[Tryz.f6,go_sem,↓reduceIte,e1,e7]
  refine hK _ ?_
  refine aB ?_
  have d19:decide (((19:Nat):Int)=19)=true:=rfl
  have d1:decide (((1:Nat):Int)=1)=true:=rfl
  refine aA rfl (aW [0] rfl rfl rfl fun K hK=>?_)
  simp(disch:=omega) only[Tryz.f6,go_sem,↓reduceIte,d19,d1,J8,J7,J9]
  refine hK _ ?_
  refine aB (aS rfl ?_)
  simp(disch:=omega) only[fHo,bV,bK,bQ,Tryz.f6,go_sem,↓reduceIte]
 cases hg
theorem okw5:bX Tryz.prog GLh 6 (.pure true eNl):=⟨⟨_,Tryz.func6,rfl,rfl⟩,eBb⟩
end Go.AX

namespace Go.AX
open Go Go.Proofs
set_option maxRecDepth 8000
def fPe (b:List B8) (s:NS) (a:Nat):Nat:=
 if b.length≤s.pl then s.en.getD a
 else if(b.getD s.pl 0#8).toNat=0 then s.en.getD a
 else if 192≤(b.getD s.pl 0#8).toNat then
  if b.length≤s.pl+1 then s.en.getD a else s.en.getD (s.pl+2)
 else s.en.getD a
def fPh (b:List B8) (a:Nat):Nat→NS→Nat
 |0,_=>a
 |f+1,s=>match fHj b s with
  | .no=>fPe b s a
  | .done _ e=>e
  | .go t=>fPh b a f t
theorem fPp {b:List B8} {a f:Nat} {s:NS} (h:fHj b s=.no):fPh b a (f+1) s=fPe b s a:=by rw[fPh,h]
theorem fPk {b:List B8} {a f:Nat} {s t:NS} (h:fHj b s=.go t):fPh b a (f+1) s=fPh b a f t:=by rw[fPh,h]
def nI (b:List B8) (a:Nat):Nat:=fPh b a (nMu b (ns0 a)+1) (ns0 a)
end Go.AX

namespace Go.AX
open Go Go.Proofs
set_option maxRecDepth 8000
def bBg:List AV→Option AV
 |[.sl n xs]=>aK (fHq xs) fun l=>aN (l.length=n∧n≤100000) (some (.w32 (eK l)))
 |_=>none
theorem bZv (n:Nat) (xs:List AV):bBg [.sl n xs]=aK (fHq xs) fun l=>aN (l.length=n∧n≤100000) (some (.w32 (eK l))):=(rfl)
attribute [go_sem] bZv
set_option maxHeartbeats 2000000 in
theorem cOi:fHn Tryz.prog GLh 40 bBg:=by
 refine zK Tryz.func40 (aT rfl) ?_
 intro args r hg
 unfold bBg at hg
 split at hg
 ·rename_i n xs
  replace hg:=aJ hg;obtain⟨l,hl,hg⟩:=hg
  replace hg:=aP hg;obtain⟨⟨rfl,hn⟩,hg⟩:=hg
  obtain rfl:=J0 hg
  have:=bW hl;subst this
  refine⟨J1 rfl,fun nx=>?_⟩
  clear hl hg
  refine aA rfl (aW [0] rfl rfl rfl fun K hK=>?_)
  simp(disch:=omega) only[Tryz.f40,go_sem,↓reduceIte]
  refine hK _ ?_
  refine aB (aA rfl (aW [0,3] rfl rfl rfl fun K hK=>?_))
  simp(disch:=omega) only[Tryz.f40,go_sem,↓reduceIte]
  refine hK _ ?_
  refine aB (aA rfl (aA rfl (aW [0,3,4] rfl rfl rfl fun K hK=>?_)))
  simp(disch:=omega) only[Tryz.f40,go_sem,↓reduceIte]
  refine hK _ ?_
  refine aB (aR 0 rfl rfl (bR (fun p:KC5=> {fr:=[(0,.sl l.length (c8 l)),(3,.w32 (eK (l.take p.k))),(4,.i (p.k:Int))],hp:=fun _=>none,nx:=0,cx:=p.c}) (fun p=>p.k≤l.length) (fun p=>l.length-p.k) rfl ⟨⟨0,_⟩,Nat.zero_le _,bD rfl rfl (U3 _)⟩ ?_))
  rintro⟨i,c⟩ hi n0
  simp only at hi⊢
  refine aA rfl (aA rfl (aW [8,0,3,4] rfl rfl rfl fun K hK=>?_))
  simp(disch:=omega) only[Tryz.f40,go_sem,↓reduceIte]
  refine hK _ ?_
  refine aB (bA (.tmp 8) rfl rfl rfl (fun h=>?_) (fun h=>?_))
  ·refine aI rfl ?_
   have hil:i<l.length:=by omega
   have hix:=fQy l i hil
   have hst:=eOi l i hil
   refine aQ rfl (aB (aA rfl (aR 1 rfl rfl (aW [0,3,4] rfl rfl rfl fun K hK=>?_))))
   simp(disch:=omega) only[Tryz.f40,go_sem,↓reduceIte]
   refine hK _ ?_
   refine bU (aB (aW [0,3,4] rfl rfl rfl fun K hK=>?_))
   simp(disch:=omega) only[Tryz.f40,go_sem,↓reduceIte]
   refine hK _ ?_
   refine bT ?_
   refine⟨⟨i+1,_⟩,by simp only;omega,by simp only;omega,bD ?_ rfl (U3 _)⟩
   simp only[hst,Int.natCast_add,Int.natCast_one]
  refine aI rfl ?_
  obtain rfl:i=l.length:=by omega
  have e1:l.take l.length=l:=List.take_length
  refine bF 0 rfl rfl (aY (aZ (bE (aB (aA rfl (aW [2] rfl rfl rfl fun K hK=>?_))))))
  simp(disch:=omega) only[Tryz.f40,go_sem,↓reduceIte,e1]
  refine hK _ ?_
  refine aB (aS rfl ?_)
  simp(disch:=omega) only[fHo,bV,bK,bQ,Tryz.f40,go_sem,↓reduceIte]
 cases hg
theorem fRg:bX Tryz.prog GLh 40 (.pure true bBg):=⟨⟨_,Tryz.func40,rfl,rfl⟩,cOi⟩
def rnR (b:List B8) (k a:Nat) (bad:Bool):AV×List AV:=
 if bad=true∨b.length-a<k then(.w32 0#32,[.sl b.length (c8 b),.i (a:Int),.b true])
 else(.w32 (eK ((b.drop a).take k)),[.sl b.length (c8 b),.i ((a+k:Nat):Int),.b false])
theorem fQa (b:List B8) (k a:Nat):rnR b k a true=(.w32 0#32,[.sl b.length (c8 b),.i (a:Int),.b true]):=J4 (.inl rfl)
theorem fQg {b:List B8} {k a:Nat} (h:b.length-a<k):rnR b k a false=(.w32 0#32,[.sl b.length (c8 b),.i (a:Int),.b true]):=J4 (.inr h)
theorem fPn {b:List B8} {k a:Nat} (h: ¬b.length-a<k):rnR b k a false=(.w32 (eK ((b.drop a).take k)),[.sl b.length (c8 b),.i ((a+k:Nat):Int),.b false]):=J3 (by simp[h])
def rnG:List AV→List AV→Option (Option (AV×List AV))
 |[.op _ 0,.i k],[.sl n xs,.i a,.b bad]=>aK (fHq xs) fun b=>aN (b.length=n∧0≤k∧k≤4∧0≤a∧a≤n∧n≤100000) (some (some (rnR b k.toNat a.toNat bad)))
 |_,_=>none
theorem fQv (id n:Nat) (k a:Int) (xs:List AV) (bad:Bool):rnG [.op id 0,.i k] [.sl n xs,.i a,.b bad]=aK (fHq xs) fun b=>aN (b.length=n∧0≤k∧k≤4∧0≤a∧a≤n∧n≤100000) (some (some (rnR b k.toNat a.toNat bad))):=(rfl)
attribute [go_sem] fQv
theorem fPi (n:Nat) (l:List B8) (a:Int) (bad:Bool):AV.ids.idsL [.sl n (c8 l),.i a,.b bad]=0:=by
 show max (AV.ids (.sl n (c8 l))) (max 0 (max 0 0))=0
 rw[eLf];rfl
set_option maxHeartbeats 4000000 in
theorem fQp:fHs Tryz.prog GLh 19 (rdH rnG)∧dE Tryz.prog GLh 19 chM (rdP rnG):=by
 refine dT Tryz.func19 (aT rfl) ?_
 intro id off rest nx xs o hg
 unfold rnG at hg
 split at hg
 ·rename_i id2 k0 n xs2 a0 bad heq
  simp only[List.cons.injEq,AV.op.injEq]at heq
  obtain⟨⟨rfl,rfl⟩,rfl⟩:=heq
  replace hg:=aJ hg;obtain⟨b,hl,hg⟩:=hg
  replace hg:=aP hg;obtain⟨⟨rfl,hk,hkb,ha,han,hnb⟩,hg⟩:=hg
  obtain rfl:=J0 hg
  have:=bW hl;subst this
  obtain⟨k,rfl⟩:=Int.eq_ofNat_of_zero_le hk
  obtain⟨a,rfl⟩:=Int.eq_ofNat_of_zero_le ha
  simp only[U2]at*
  refine⟨J1 rfl,fun hid=>?_⟩
  clear hl hg
  refine aA rfl (aW [0,1] rfl rfl rfl fun K hK=>?_)
  simp(disch:=omega) only[Tryz.f19,go_sem,↓reduceIte]
  refine hK _ ?_
  refine aB ?_
  rcases bad with _|_
  ·by_cases hka:b.length-a<k
   ·rw[fQg hka]
    have hd:decide ((b.length:Int)-(a:Int)<(k:Int))=true:=J5 (by omega)
    refine aA rfl (aA rfl (bB (Γ:=aL) (fun k=>if k=3 then 0 else 2) [22,0,1] bZ (aD _ _) rfl rfl rfl (by kernel_rfl) (fun K hK=>?_)))
    simp(disch:=omega) only[Tryz.f19,go_sem,↓reduceIte,hd]
    refine hK _ ?_
    refine aB (eC (.tmp 22) rfl rfl rfl (fun h=>?_) (fun h=>?_))
    ·refine aI rfl ?_
     clear h
     refine aA rfl (aW [] rfl rfl rfl fun K hK=>?_)
     simp(disch:=omega) only[Tryz.f19,go_sem,↓reduceIte]
     refine hK _ ?_
     refine aB (aA rfl (aW [4] rfl rfl rfl fun K hK=>?_))
     simp(disch:=omega) only[Tryz.f19,go_sem,↓reduceIte]
     refine hK _ ?_
     refine aB (aS rfl (bI (⟨by simp(disch:=omega) only[bV,bK,bQ,Tryz.f19,go_sem,eq_self,↓reduceIte],by simp(disch:=omega) only[aV,↓reduceIte,eq_self],?_,?_⟩)))
     ·rfl
     exact fPi _ _ _ _
    refine aI rfl ?_
    cases h
   rw[fPn hka]
   have hd:decide ((b.length:Int)-(a:Int)<(k:Int))=false:=J6 (by omega)
   refine aA rfl (aA rfl (bB (Γ:=aL) (fun k=>if k=3 then 0 else 2) [22,0,1] bZ (aD _ _) rfl rfl rfl (by kernel_rfl) (fun K hK=>?_)))
   simp(disch:=omega) only[Tryz.f19,go_sem,↓reduceIte,hd]
   refine hK _ ?_
   refine aB (eC (.tmp 22) rfl rfl rfl (fun h=>?_) (fun h=>?_))
   ·refine aI rfl ?_
    cases h
   refine aI rfl ?_
   clear h
   refine aQ rfl (aB (aA rfl ?_))
   have ea:(a:Int)+(k:Int)=((a+k:Nat):Int):=rfl
   refine aW [0,1] rfl rfl rfl fun K hK=>?_
   simp(disch:=omega) only[Tryz.f19,go_sem,↓reduceIte,ea]
   refine hK _ ?_
   refine aB ?_
   have es:((a+k:Nat):Int)-(k:Int)=(a:Int):=by omega
   have e2:a+k-a=k:=by omega
   have e3:((b.drop a).take k).length=k:=by rw[List.length_take,List.length_drop];omega
   refine aA rfl (bB (Γ:=bC [(40,.pure true bBg)]) (fun k=>if k=15 then 0 else 2) [4] bZ (aH fRg aO) rfl rfl rfl (by kernel_rfl) (fun K hK=>?_))
   simp(disch:=omega) only[Tryz.f19,go_sem,↓reduceIte,es,e2,e3,U2]
   refine hK _ ?_
   refine aB (aS rfl (⟨by simp(disch:=omega) only[bV,bK,bQ,Tryz.f19,go_sem,eq_self,↓reduceIte],by simp(disch:=omega) only[aV,↓reduceIte,eq_self],?_,?_⟩))
   ·rfl
   exact fPi _ _ _ _
  rw[fQa]
  refine aA rfl (aA rfl (bB (Γ:=aL) (fun k=>if k=3 then 0 else 2) [22,0,1] bZ (aD _ _) rfl rfl rfl (by kernel_rfl) (fun K hK=>?_)))
  simp(disch:=omega) only[Tryz.f19,go_sem,↓reduceIte]
  refine hK _ ?_
  refine aB (eC (.tmp 22) rfl rfl rfl (fun h=>?_) (fun h=>?_))
  ·refine aI rfl ?_
   clear h
   refine aA rfl (aW [] rfl rfl rfl fun K hK=>?_)
   simp(disch:=omega) only[Tryz.f19,go_sem,↓reduceIte]
   refine hK _ ?_
   refine aB (aA rfl (aW [4] rfl rfl rfl fun K hK=>?_))
   simp(disch:=omega) only[Tryz.f19,go_sem,↓reduceIte]
   refine hK _ ?_
   refine aB (aS rfl (bI (⟨by simp(disch:=omega) only[bV,bK,bQ,Tryz.f19,go_sem,eq_self,↓reduceIte],by simp(disch:=omega) only[aV,↓reduceIte,eq_self],?_,?_⟩)))
   ·rfl
   exact fPi _ _ _ _
  refine aI rfl ?_
  cases h
 cases hg
theorem fPw:bX Tryz.prog GLh 19 (.heap (rdH rnG)):=⟨⟨_,Tryz.func19,rfl,rfl⟩,fQp.1⟩
end Go.AX

namespace Go.AX
open Go Go.Proofs
set_option maxRecDepth 8000
theorem fQq {k:Nat} (h1:192≤k) (h2:k<256):cYz (k:Int) 63=((k-192:Nat):Int):=by
 have h: ∀j:Fin 64,cYz ((192+j.val:Nat):Int) 63=(j.val:Int):=by decide
 have:=h ⟨k-192,by omega⟩
 simp only at this
 rw[show 192+(k-192)=k by omega]at this
 exact this
def fPv (b:List B8) (a:Nat) (bad:Bool):AV×List AV:=
 if bad=true then(.sl 0 [],[.sl b.length (c8 b),.i (a:Int),.b true])
 else match fJj b a with
  |none=>(.sl 0 [],[.sl b.length (c8 b),.i (nI b a:Int),.b true])
  |some (n,e)=>(.sl n.length (cS n),[.sl b.length (c8 b),.i (e:Int),.b false])
theorem fQf {b:List B8} {a:Nat} (h:fJj b a=none):fPv b a false=(.sl 0 [],[.sl b.length (c8 b),.i (nI b a:Int),.b true]):=by unfold fPv;rw[J3 (by simp),h]
theorem fPq {b:List B8} {a:Nat} {n:Nm} {e:Nat} (h:fJj b a=some (n,e)):fPv b a false=(.sl n.length (cS n),[.sl b.length (c8 b),.i (e:Int),.b false]):=by unfold fPv;rw[J3 (by simp),h]
def fQd:List AV→List AV→Option (Option (AV×List AV))
 |[.op _ 0],[.sl n xs,.i a,.b bad]=>aK (fHq xs) fun b=>aN (b.length=n∧0≤a∧a≤n∧n≤100000) (some (some (fPv b a.toNat bad)))
 |_,_=>none
theorem fQo (id n:Nat) (a:Int) (xs:List AV) (bad:Bool):fQd [.op id 0] [.sl n xs,.i a,.b bad]=aK (fHq xs) fun b=>aN (b.length=n∧0≤a∧a≤n∧n≤100000) (some (some (fPv b a.toNat bad))):=(rfl)
attribute [go_sem] fQo
theorem fPu {g:H} {a b:Nat} {x y:AO} (h1:g a=some x) (h2:g b=some y): ∀j o,upd (upd (fun _=>none) a x) b y j=some o→g j=some o:=by
 intro j o h
 simp only[bJ]at h
 split at h
 ·rename_i e;rw[e,h2];exact h
 split at h
 ·rename_i e;rw[e,h1];exact h
 cases h
structure NMJ where
 s:NS
 f:Nat
 q:Nat
 c:Nat
 bad:Bool
 ri:Nat
structure RJ (b:List B8) (a:Nat) (R:Option (Nm×Nat)) (ai:Nat) (s:NS) (f:Nat) (bad:Bool) (ri:Nat):Prop where
 go:bad=false→NI b s∧fIv b f s=R∧fPh b a f s=ai∧nMu b s<f∧ri=s.en.getD a
 no:bad=true→R=none∧ri=ai
theorem RJ.bad {b:List B8} {a:Nat} {R:Option (Nm×Nat)} {ai:Nat} {s s2:NS} {f ri:Nat} (h1:fIv b (f+1) s=R) (h2:fPh b a (f+1) s=ai) (hs:fHj b s=.no) (hr:ri=fPe b s a):RJ b a R ai s2 f true ri:=
 ⟨(fun h=>by cases h),fun _=>⟨by rw[←h1,fHz hs],by rw[←h2,fPp hs,hr]⟩⟩
theorem fQi {b:List B8} {s:NS} {a:Nat} (hI:NI b s) (ha:a≤b.length):fPe b s a≤b.length:=by
 have h1:s.en.getD a≤b.length:=by
  rcases h:s.en with _|e
  ·exact ha
  exact hI.en e h
 unfold fPe
 split
 ·exact h1
 split
 ·exact h1
 split
 ·split
  ·exact h1
  rcases h:s.en with _|e
  ·show s.pl+2≤b.length;omega
  exact hI.en e h
 exact h1
theorem fPx {b:List B8} {a:Nat} (ha:a≤b.length): ∀ {f:Nat} {s:NS},NI b s→fPh b a f s≤b.length
 |0,_,_=>ha
 |f+1,s,hI=>by
  rcases hs:fHj b s with _|⟨n2,e2⟩|t
  ·rw[fPp hs];exact fQi hI ha
  ·rw[fPh,hs];exact(hI.done hs).2.2
  rw[fPk hs];exact fPx ha (hI.step hs)
theorem fQj {b:List B8} {a:Nat} (ha:a≤b.length):nI b a≤b.length:=fPx ha (NI.start b a)
set_option maxHeartbeats 8000000 in
theorem fPy:fHs Tryz.prog GLh 20 (rdH fQd)∧dE Tryz.prog GLh 20 chM (rdP fQd):=by
 refine dT Tryz.func20 (aT rfl) ?_
 intro id off rest nx xs o hg
 unfold fQd at hg
 split at hg
 ·rename_i id2 n xs2 a0 bad heq
  simp only[List.cons.injEq,AV.op.injEq]at heq
  obtain⟨⟨rfl,rfl⟩,rfl⟩:=heq
  replace hg:=aJ hg;obtain⟨b,hl,hg⟩:=hg
  replace hg:=aP hg;obtain⟨⟨rfl,ha,han,hnb⟩,hg⟩:=hg
  obtain rfl:=J0 hg
  have:=bW hl;subst this
  obtain⟨a,rfl⟩:=Int.eq_ofNat_of_zero_le ha
  simp only[U2]at*
  refine⟨J1 rfl,fun hid=>?_⟩
  clear hl hg
  obtain⟨R,ai,ans,hst,hans⟩: ∃R ai ans,RJ b a R ai (ns0 a) (nMu b (ns0 a)+1) bad a∧(fPv b a bad=ans∧(R=none→ans=(.sl 0 [],[.sl b.length (c8 b),.i (ai:Int),.b true]))∧∀n e,R=some (n,e)→ans=(.sl n.length (cS n),[.sl b.length (c8 b),.i (e:Int),.b false])):=by
   rcases bad with _|_
   ·refine⟨fJj b a,nI b a,_,⟨fun _=>⟨NI.start b a,rfl,rfl,Nat.lt_succ_self _,rfl⟩,(fun h=>by cases h)⟩,rfl,fun h=>fQf h,fun n e h=>fPq h⟩
   exact⟨none,a,_,⟨(fun h=>by cases h),fun _=>⟨rfl,rfl⟩⟩,rfl,fun _=>rfl,fun n e h=>by cases h⟩
  obtain⟨ha1,ha2,ha3⟩:=hans
  rw[ha1]
  refine aA rfl (aW [0] rfl rfl rfl fun K hK=>?_)
  simp(disch:=omega) only[Tryz.f20,go_sem,↓reduceIte]
  refine hK _ ?_
  refine aB (aA rfl (aW [0,3] rfl rfl rfl fun K hK=>?_))
  simp(disch:=omega) only[Tryz.f20,go_sem,↓reduceIte]
  refine hK _ ?_
  refine aB (aA rfl (bB (Γ:=aL) (fun _=>2) [0,3,4,5,6] bZ (aD _ _) rfl rfl rfl (by kernel_rfl) (fun K hK=>?_)))
  simp(disch:=omega) only[Tryz.f20,go_sem,↓reduceIte]
  refine hK _ ?_
  refine aB (aA rfl (aW [0,3,4,5,6,7] rfl rfl rfl fun K hK=>?_))
  simp(disch:=omega) only[Tryz.f20,go_sem,↓reduceIte]
  refine hK _ ?_
  refine aB (iE 3 1 rfl (fPg [0,3,4,5,6,7] ?_))
  simp only[iB,fU,eW,↓reduceIte,Nat.reduceEqDiff]
  refine aA rfl (aR 0 rfl rfl ?_)
  refine bR (fun p:NMJ=> {fr:=[(0,.op id 0),(3,.os p.q 0 p.s.acc.length 1 true),(4,.i (p.s.pl:Int)),(5,.i (p.s.bg:Int)),(6,.i (p.s.tot:Int)),(7,.b p.s.en.isSome)],hp:=upd (upd (fun _=>none) id (.cells [.sl b.length (c8 b),.i (p.ri:Int),.b p.bad] true)) p.q (.cells (cS p.s.acc) true),nx:=0,cx:=p.c}) (fun p=>RJ b a R ai p.s p.f p.bad p.ri∧id<p.q∧p.q<p.c) (fun p=>if p.bad=true then 0 else nMu b p.s+1) rfl ⟨⟨ns0 a,nMu b (ns0 a)+1,_,_,bad,a⟩,⟨hst,by simp only;omega,by simp only;omega⟩,bD rfl rfl (U3 _)⟩ ?_
  rintro⟨⟨bg,pl,en,tot,acc⟩,f,q,c,bd,ri⟩ ⟨hJ,hq,hqc⟩ n0
  simp only at hJ hq hqc⊢
  rcases bd with _|_
  ·obtain⟨hI,hrun,hruni,hmu,hri⟩:=hJ.go rfl
   simp only at hri
   obtain⟨g,rfl⟩: ∃g,f=g+1:=⟨f-1,by omega⟩
   have hile:b.length≤100000:=hnb
   have htl:tot≤255:=hI.le
   have hcl:List.length acc≤255:=hI.cnt
   refine aA rfl (aA rfl (aW [22,0,3,4,5,6,7] rfl rfl rfl fun K hK=>?_))
   simp(disch:=omega) only[Tryz.f20,go_sem,↓reduceIte]
   refine hK _ ?_
   refine aB (eC (.tmp 22) rfl rfl rfl (fun h=>?_) (fun h=>?_))
   ·refine aI rfl ?_
    clear h
    by_cases hil:pl<b.length
    ·have d0:decide ((b.length:Int)≤(pl:Int))=false:=J6 (by omega)
     obtain⟨k,hk⟩: ∃k,b.getD pl 0#8=k:=⟨_,rfl⟩
     have hkl:=k.isLt
     refine aQ rfl (aB (aR 1 rfl rfl (aA rfl (aA rfl (aW [29,0,3,4,5,6,7] rfl rfl rfl fun K hK=>?_)))))
     simp(disch:=omega) only[Tryz.f20,go_sem,↓reduceIte,d0]
     refine hK _ ?_
     refine aB (eC (.tmp 29) rfl rfl rfl (fun h=>?_) (fun h=>?_))
     ·refine aI rfl ?_
      cases h
     refine aI rfl ?_
     clear h
     refine aQ rfl (aB (aA rfl (aW [0,3,4,5,6,7,8] rfl rfl rfl fun K hK=>?_)))
     simp(disch:=omega) only[Tryz.f20,go_sem,↓reduceIte,hk]
     refine hK _ ?_
     refine aB ?_
     by_cases hk0:k.toNat=0
     ·have d1:decide ((k.toNat:Int)=0)=true:=J5 (by omega)
      have hs:fHj b ⟨bg,pl,en,tot,acc⟩=.done acc (en.getD (pl+1)):=by
       unfold fHj;simp only;rw[J3 (by omega),hk,J4 hk0]
      rw[fJi hs]at hrun
      have hz:=ha3 _ _ hrun.symm
      refine aR 2 rfl rfl (aA rfl (aW [69,0,3,4,5,6,7,8] rfl rfl rfl fun K hK=>?_))
      simp(disch:=omega) only[Tryz.f20,go_sem,↓reduceIte,d1]
      refine hK _ ?_
      refine aB (eC (.tmp 69) rfl rfl rfl (fun h=>?_) (fun h=>?_))
      ·refine aI rfl ?_
       clear h
       rcases en with _|e
       ·rw[show Option.isSome (none:Option Nat)=false from rfl]
        refine aA rfl (aA rfl (aW [73,0,3,4] rfl rfl rfl fun K hK=>?_))
        simp(disch:=omega) only[Tryz.f20,go_sem,↓reduceIte]
        refine hK _ ?_
        refine aB (eC (.tmp 73) rfl rfl rfl (fun h=>?_) (fun h=>?_))
        ·refine aI rfl ?_
         clear h
         have ea:(pl:Int)+1=((pl+1:Nat):Int):=rfl
         refine aW [3] rfl rfl rfl fun K hK=>?_
         simp(disch:=omega) only[Tryz.f20,go_sem,↓reduceIte,ea]
         refine hK _ ?_
         refine aB (aA rfl (aW [2] rfl rfl rfl fun K hK=>?_))
         simp(disch:=omega) only[Tryz.f20,go_sem,↓reduceIte]
         refine hK _ ?_
         refine aB ?_
         rw[hz,Option.getD_none]
         refine aS rfl (bN (bN (dF (bN (bI (⟨by simp(disch:=omega) only[bV,bK,bQ,Tryz.f20,go_sem,aV,kE,bY,eq_self,↓reduceIte,bPf],by simp(disch:=omega) only[aV,↓reduceIte,eq_self],?_,?_⟩))))))
         ·exact eKy _ _
         exact fPi _ _ _ _
        refine aI rfl ?_
        cases h
       rw[show Option.isSome (some e)=true from rfl]
       refine aA rfl (aA rfl (aW [73,0,3,4] rfl rfl rfl fun K hK=>?_))
       simp(disch:=omega) only[Tryz.f20,go_sem,↓reduceIte]
       refine hK _ ?_
       refine aB (eC (.tmp 73) rfl rfl rfl (fun h=>?_) (fun h=>?_))
       ·refine aI rfl ?_
        cases h
       refine aI rfl ?_
       clear h
       refine aQ rfl (aB (aA rfl (aW [2] rfl rfl rfl fun K hK=>?_)))
       simp(disch:=omega) only[Tryz.f20,go_sem,↓reduceIte]
       refine hK _ ?_
       refine aB ?_
       rw[hz,Option.getD_some]
       obtain rfl:ri=e:=hri
       refine aS rfl (bN (bN (dF (bN (bI (⟨by simp(disch:=omega) only[bV,bK,bQ,Tryz.f20,go_sem,aV,kE,bY,eq_self,↓reduceIte,bPf],by simp(disch:=omega) only[aV,bY,↓reduceIte,eq_self],?_,?_⟩))))))
       ·exact eKy _ _
       exact fPi _ _ _ _
      refine aI rfl ?_
      cases h
     have d1:decide ((k.toNat:Int)=0)=false:=J6 (by omega)
     refine aR 2 rfl rfl (aA rfl (aW [69,0,3,4,5,6,7,8] rfl rfl rfl fun K hK=>?_))
     simp(disch:=omega) only[Tryz.f20,go_sem,↓reduceIte,d1]
     refine hK _ ?_
     refine aB (eC (.tmp 69) rfl rfl rfl (fun h=>?_) (fun h=>?_))
     ·refine aI rfl ?_
      cases h
     refine aI rfl ?_
     clear h
     by_cases hk1:192≤k.toNat
     ·have d2:decide ((192:Int)≤(k.toNat:Int))=true:=J5 (by omega)
      refine aA rfl (aW [80,0,3,4,5,6,7,8] rfl rfl rfl fun K hK=>?_)
      simp(disch:=omega) only[Tryz.f20,go_sem,↓reduceIte,d2]
      refine hK _ ?_
      refine aB (eC (.tmp 80) rfl rfl rfl (fun h=>?_) (fun h=>?_))
      ·refine aI rfl ?_
       clear h
       by_cases hp1:pl+1<b.length
       ·have d3:decide ((b.length:Int)<(pl:Int)+2)=false:=J6 (by omega)
        obtain⟨k2,hk2⟩: ∃k,b.getD (pl+1) 0#8=k:=⟨_,rfl⟩
        have hk2l:=k2.isLt
        obtain⟨to,hto⟩: ∃t,(k.toNat-192)*256+k2.toNat=t:=⟨_,rfl⟩
        have h63:=fQq hk1 hkl
        have hW:W (((k.toNat-192:Nat):Int)*2^min 8 64)=(((k.toNat-192)*256:Nat):Int):=by
         rw[show((2:Int)^min 8 64)=256 from rfl]
         exact(eKg (by omega) (by omega)).trans (by omega)
        have hio:ior (((k.toNat-192)*256:Nat):Int) (k2.toNat:Int)=(to:Int):=by rw[fOv (by omega) hk2l,hto]
        have e1:((pl:Int)+1).toNat=pl+1:=by omega
        refine aA rfl (aA rfl (aW [90,0,3,4,5,6,7,8] rfl rfl rfl fun K hK=>?_))
        simp(disch:=omega) only[Tryz.f20,go_sem,↓reduceIte,d3]
        refine hK _ ?_
        refine aB (eC (.tmp 90) rfl rfl rfl (fun h=>?_) (fun h=>?_))
        ·refine aI rfl ?_
         cases h
        refine aI rfl ?_
        clear h
        refine aQ rfl (aB (aA rfl (aW [0,3,4,5,6,7,9] rfl rfl rfl fun K hK=>?_)))
        simp(disch:=omega) only[Tryz.f20,go_sem,↓reduceIte,e1,hk2,h63,hW,hio]
        refine hK _ ?_
        refine aB ?_
        rcases en with _|e
        ·rw[show Option.isSome (none:Option Nat)=false from rfl]
         refine aA rfl (aA rfl (aW [108,0,3,4,5,6,7,9] rfl rfl rfl fun K hK=>?_))
         simp(disch:=omega) only[Tryz.f20,go_sem,↓reduceIte]
         refine hK _ ?_
         refine aB (eC (.tmp 108) rfl rfl rfl (fun h=>?_) (fun h=>?_))
         ·refine aI rfl ?_
          clear h
          have ea:(pl:Int)+2=((pl+2:Nat):Int):=rfl
          refine aW [0,3,4,5,6,7,9] rfl rfl rfl fun K hK=>?_
          simp(disch:=omega) only[Tryz.f20,go_sem,↓reduceIte,ea]
          refine hK _ ?_
          refine aB ?_
          by_cases hbg:to<bg
          ·have d5:decide ((bg:Int)≤(to:Int))=false:=J6 (by omega)
           have hs:fHj b ⟨bg,pl,none,tot,acc⟩=.go ⟨to,to,some (pl+2),tot,acc⟩:=by
            unfold fHj;simp only;rw[J3 (by omega),hk,J3 hk0,J4 hk1,J3 (by omega),hk2,hto,J3 (by omega)];rfl
           rw[fIo hs]at hrun
           rw[fPk hs]at hruni
           have hmu2:=fIu hs
           refine aA rfl (aA rfl (aW [116,0,3,4,5,6,7,9] rfl rfl rfl fun K hK=>?_))
           simp(disch:=omega) only[Tryz.f20,go_sem,↓reduceIte,d5]
           refine hK _ ?_
           refine aB (eC (.tmp 116) rfl rfl rfl (fun h=>?_) (fun h=>?_))
           ·refine aI rfl ?_
            cases h
           refine aI rfl ?_
           clear h
           refine aQ rfl (aB (aA rfl (aW [0,3,6,7,9] rfl rfl rfl fun K hK=>?_)))
           simp(disch:=omega) only[Tryz.f20,go_sem,↓reduceIte]
           refine hK _ ?_
           refine aB (aW [0,3,4,5,6,7] rfl rfl rfl fun K hK=>?_)
           simp(disch:=omega) only[Tryz.f20,go_sem,↓reduceIte]
           refine hK _ ?_
           refine bU (bU (bT ?_))
           refine⟨⟨⟨to,to,some (pl+2),tot,acc⟩,g,q,_,false,pl+2⟩,⟨⟨fun _=>⟨hI.step hs,hrun,hruni,by simp only;omega,rfl⟩,(fun h=>by cases h)⟩,hq,by simp only;omega⟩,by simp only[Bool.false_eq_true,if_false];omega,⟨fun _=> .inr ?_,fun j o hj=>fPu (by simp(disch:=omega) only[aV,↓reduceIte]) (by simp(disch:=omega) only[aV,bY,↓reduceIte]) j o hj,U3 _⟩⟩
           simp only[Option.isSome_some]
          have d5:decide ((bg:Int)≤(to:Int))=true:=J5 (by omega)
          have hs:fHj b ⟨bg,pl,none,tot,acc⟩=.no:=by
           unfold fHj;simp only;rw[J3 (by omega),hk,J3 hk0,J4 hk1,J3 (by omega),hk2,hto,J4 (by omega)]
          have hsp:pl+2=fPe b ⟨bg,pl,none,tot,acc⟩ a:=by
           unfold fPe;simp only;rw[J3 (by omega),hk,J3 hk0,J4 hk1,J3 (by omega)];rfl
          have hB: ∀s2,RJ b a R ai s2 g true (pl+2):=fun s2=>RJ.bad hrun hruni hs hsp
          refine aA rfl (aA rfl (aW [116,0,3,4,5,6,7,9] rfl rfl rfl fun K hK=>?_))
          simp(disch:=omega) only[Tryz.f20,go_sem,↓reduceIte,d5]
          refine hK _ ?_
          refine aB (eC (.tmp 116) rfl rfl rfl (fun h=>?_) (fun h=>?_))
          ·refine aI rfl ?_
           clear h
           refine aA rfl (aW [0,3,4,5,6,7] rfl rfl rfl fun K hK=>?_)
           simp(disch:=omega) only[Tryz.f20,go_sem,↓reduceIte]
           refine hK _ ?_
           refine aB (bF 2 rfl rfl (aY (bE (bU (bT ?_)))))
           refine⟨⟨⟨bg,pl,none,tot,acc⟩,g,q,_,true,pl+2⟩,⟨hB _,hq,by simp only;omega⟩,by simp only[Bool.false_eq_true,if_false,if_true];omega,⟨fun _=> .inr ?_,fun j o hj=>fPu (by simp(disch:=omega) only[aV,↓reduceIte]) (by simp(disch:=omega) only[aV,bY,↓reduceIte]) j o hj,U3 _⟩⟩
           simp only[Option.isSome_none]
          refine aI rfl ?_
          cases h
         refine aI rfl ?_
         cases h
        rw[show Option.isSome (some e)=true from rfl]
        obtain rfl:ri=e:=hri
        refine aA rfl (aA rfl (aW [108,0,3,4,5,6,7,9] rfl rfl rfl fun K hK=>?_))
        simp(disch:=omega) only[Tryz.f20,go_sem,↓reduceIte]
        refine hK _ ?_
        refine aB (eC (.tmp 108) rfl rfl rfl (fun h=>?_) (fun h=>?_))
        ·refine aI rfl ?_
         cases h
        refine aI rfl ?_
        clear h
        refine aQ rfl (aB (aA rfl (aA rfl ?_)))
        by_cases hbg:to<bg
        ·have d5:decide ((bg:Int)≤(to:Int))=false:=J6 (by omega)
         have hs:fHj b ⟨bg,pl,some ri,tot,acc⟩=.go ⟨to,to,some ri,tot,acc⟩:=by
          unfold fHj;simp only;rw[J3 (by omega),hk,J3 hk0,J4 hk1,J3 (by omega),hk2,hto,J3 (by omega)];rfl
         rw[fIo hs]at hrun
         rw[fPk hs]at hruni
         have hmu2:=fIu hs
         refine aW [116,0,3,4,5,6,7,9] rfl rfl rfl fun K hK=>?_
         simp(disch:=omega) only[Tryz.f20,go_sem,↓reduceIte,d5]
         refine hK _ ?_
         refine aB (eC (.tmp 116) rfl rfl rfl (fun h=>?_) (fun h=>?_))
         ·refine aI rfl ?_
          cases h
         refine aI rfl ?_
         clear h
         refine aQ rfl (aB (aA rfl (aW [0,3,6,7,9] rfl rfl rfl fun K hK=>?_)))
         simp(disch:=omega) only[Tryz.f20,go_sem,↓reduceIte]
         refine hK _ ?_
         refine aB (aW [0,3,4,5,6,7] rfl rfl rfl fun K hK=>?_)
         simp(disch:=omega) only[Tryz.f20,go_sem,↓reduceIte]
         refine hK _ ?_
         refine bU (bU (bT ?_))
         refine⟨⟨⟨to,to,some ri,tot,acc⟩,g,q,_,false,ri⟩,⟨⟨fun _=>⟨hI.step hs,hrun,hruni,by simp only;omega,rfl⟩,(fun h=>by cases h)⟩,hq,by simp only;omega⟩,by simp only[Bool.false_eq_true,if_false];omega,bD ?_ rfl (U3 _)⟩
         simp only[Option.isSome_some]
        have d5:decide ((bg:Int)≤(to:Int))=true:=J5 (by omega)
        have hs:fHj b ⟨bg,pl,some ri,tot,acc⟩=.no:=by
         unfold fHj;simp only;rw[J3 (by omega),hk,J3 hk0,J4 hk1,J3 (by omega),hk2,hto,J4 (by omega)]
        have hsp:ri=fPe b ⟨bg,pl,some ri,tot,acc⟩ a:=by
         unfold fPe;simp only;rw[J3 (by omega),hk,J3 hk0,J4 hk1,J3 (by omega)];rfl
        have hB: ∀s2,RJ b a R ai s2 g true ri:=fun s2=>RJ.bad hrun hruni hs hsp
        refine aW [116,0,3,4,5,6,7,9] rfl rfl rfl fun K hK=>?_
        simp(disch:=omega) only[Tryz.f20,go_sem,↓reduceIte,d5]
        refine hK _ ?_
        refine aB (eC (.tmp 116) rfl rfl rfl (fun h=>?_) (fun h=>?_))
        ·refine aI rfl ?_
         clear h
         refine aA rfl (aW [0,3,4,5,6,7] rfl rfl rfl fun K hK=>?_)
         simp(disch:=omega) only[Tryz.f20,go_sem,↓reduceIte]
         refine hK _ ?_
         refine aB (bF 2 rfl rfl (aY (bE (bU (bT ?_)))))
         refine⟨⟨⟨bg,pl,some ri,tot,acc⟩,g,q,_,true,ri⟩,⟨hB _,hq,by simp only;omega⟩,by simp only[Bool.false_eq_true,if_false,if_true];omega,⟨fun _=> .inr ?_,fun j o hj=>fPu (by simp(disch:=omega) only[aV,↓reduceIte]) (by simp(disch:=omega) only[aV,bY,↓reduceIte]) j o hj,U3 _⟩⟩
         simp only[Option.isSome_some]
        refine aI rfl ?_
        cases h
       have d3:decide ((b.length:Int)<(pl:Int)+2)=true:=J5 (by omega)
       have hs:fHj b ⟨bg,pl,en,tot,acc⟩=.no:=by
        unfold fHj;simp only;rw[J3 (by omega),hk,J3 hk0,J4 hk1,J4 (by omega)]
       have hsp:ri=fPe b ⟨bg,pl,en,tot,acc⟩ a:=by
        unfold fPe;simp only;rw[J3 (by omega),hk,J3 hk0,J4 hk1,J4 (by omega)];exact hri
       have hB: ∀s2,RJ b a R ai s2 g true ri:=fun s2=>RJ.bad hrun hruni hs hsp
       refine aA rfl (aA rfl (aW [90,0,3,4,5,6,7,8] rfl rfl rfl fun K hK=>?_))
       simp(disch:=omega) only[Tryz.f20,go_sem,↓reduceIte,d3]
       refine hK _ ?_
       refine aB (eC (.tmp 90) rfl rfl rfl (fun h=>?_) (fun h=>?_))
       ·refine aI rfl ?_
        clear h
        refine aA rfl (aW [0,3,4,5,6,7] rfl rfl rfl fun K hK=>?_)
        simp(disch:=omega) only[Tryz.f20,go_sem,↓reduceIte]
        refine hK _ ?_
        refine aB (bF 2 rfl rfl (aY (bE (bU (bT ?_)))))
        refine⟨⟨⟨bg,pl,en,tot,acc⟩,g,q,_,true,ri⟩,⟨hB _,hq,by simp only;omega⟩,by simp only[Bool.false_eq_true,if_false,if_true];omega,⟨fun _=> .inr ?_,fun j o hj=>fPu (by simp(disch:=omega) only[aV,↓reduceIte]) (by simp(disch:=omega) only[aV,bY,↓reduceIte]) j o hj,U3 _⟩⟩
        rfl
       refine aI rfl ?_
       cases h
      refine aI rfl ?_
      cases h
     have d2:decide ((192:Int)≤(k.toNat:Int))=false:=J6 (by omega)
     refine aA rfl (aW [80,0,3,4,5,6,7,8] rfl rfl rfl fun K hK=>?_)
     simp(disch:=omega) only[Tryz.f20,go_sem,↓reduceIte,d2]
     refine hK _ ?_
     refine aB (eC (.tmp 80) rfl rfl rfl (fun h=>?_) (fun h=>?_))
     ·refine aI rfl ?_
      cases h
     refine aI rfl ?_
     clear h
     by_cases hlab:k.toNat≤63∧k.toNat≤b.length-(pl+1)
     ·have d3:decide ((63:Int)<(k.toNat:Int))=false:=J6 (by omega)
      have d4:decide ((b.length:Int)-(pl:Int)-1<(k.toNat:Int))=false:=J6 (by omega)
      refine aA rfl (aW [122,0,3,4,5,6,7,8] rfl rfl rfl fun K hK=>?_)
      simp(disch:=omega) only[Tryz.f20,go_sem,↓reduceIte,d3,d4]
      refine hK _ ?_
      refine aB (eC (.tmp 122) rfl rfl rfl (fun h=>?_) (fun h=>?_))
      ·refine aI rfl ?_
       cases h
      refine aI rfl ?_
      clear h
      obtain⟨d,hd⟩: ∃d,(b.drop (pl+1)).take k.toNat=d:=⟨_,rfl⟩
      have hdl:d.length=k.toNat:=by rw[←hd,List.length_take,List.length_drop];omega
      have e1:((pl:Int)+1).toNat=pl+1:=by omega
      have e2:((pl:Int)+1+(k.toNat:Int)).toNat=pl+1+k.toNat:=by omega
      have e3:pl+1+k.toNat-(pl+1)=k.toNat:=by omega
      have hsn:cS acc++[AV.s d]=cS (acc++[d]):=cQq acc [d]
      have et:(tot:Int)+((k.toNat:Int)+1)=((tot+(1+k.toNat):Nat):Int):=by omega
      have ep:(pl:Int)+(1+(k.toNat:Int))=((pl+1+k.toNat:Nat):Int):=by omega
      refine aA rfl (aW [0,3,4,5,6,7,8] rfl rfl rfl fun K hK=>?_)
      simp(disch:=omega) only[Tryz.f20,go_sem,↓reduceIte,e1,e2,e3,hd,hdl]
      refine hK _ ?_
      refine aB (aA rfl (aW [0,3,4,5,6,7,8] rfl rfl rfl fun K hK=>?_))
      simp(disch:=omega) only[Tryz.f20,go_sem,↓reduceIte,et]
      refine hK _ ?_
      refine aB ?_
      by_cases ht:255<tot+(1+k.toNat)
      ·have d5:decide ((255:Int)<((tot+(1+k.toNat):Nat):Int))=true:=J5 (by omega)
       have hs:fHj b ⟨bg,pl,en,tot,acc⟩=.no:=by
        unfold fHj;simp only;rw[J3 (by omega),hk,J3 hk0,J3 hk1,J3 (by omega),J4 ht]
       have hsp:ri=fPe b ⟨bg,pl,en,tot,acc⟩ a:=by
        unfold fPe;simp only;rw[J3 (by omega),hk,J3 hk0,J3 hk1];exact hri
       have hB: ∀s2,RJ b a R ai s2 g true ri:=fun s2=>RJ.bad hrun hruni hs hsp
       refine aA rfl (aA rfl (aW [61,0,3,4,5,6,7,8] rfl rfl rfl fun K hK=>?_))
       simp(disch:=omega) only[Tryz.f20,go_sem,↓reduceIte,d5]
       refine hK _ ?_
       refine aB (eC (.tmp 61) rfl rfl rfl (fun h=>?_) (fun h=>?_))
       ·refine aI rfl ?_
        clear h
        refine aW [0,3,4,5,6,7,8] rfl rfl rfl fun K hK=>?_
        simp(disch:=omega) only[Tryz.f20,go_sem,↓reduceIte]
        refine hK _ ?_
        refine aB (aW [0,3,4,5,6,7] rfl rfl rfl fun K hK=>?_)
        simp(disch:=omega) only[Tryz.f20,go_sem,↓reduceIte,ep]
        refine hK _ ?_
        refine bU (bU (bT ?_))
        refine⟨⟨⟨bg,pl+1+k.toNat,en,tot+(1+k.toNat),acc++[d]⟩,g,c+5+7+9+3+3+15+14,_,true,ri⟩,⟨hB _,by simp only;omega,by simp only;omega⟩,by simp only[Bool.false_eq_true,if_false,if_true];omega,⟨fun _=> .inr ?_,fun j o hj=>fPu (by simp(disch:=omega) only[aV,↓reduceIte,hsn]) (by simp(disch:=omega) only[aV,bY,↓reduceIte,hsn]) j o hj,U3 _⟩⟩
        simp only[List.length_append,List.length_singleton]
       refine aI rfl ?_
       cases h
      have d5:decide ((255:Int)<((tot+(1+k.toNat):Nat):Int))=false:=J6 (by omega)
      have hs:fHj b ⟨bg,pl,en,tot,acc⟩=.go ⟨bg,pl+1+k.toNat,en,tot+(1+k.toNat),acc++[d]⟩:=by
       unfold fHj;simp only;rw[J3 (by omega),hk,J3 hk0,J3 hk1,J3 (by omega),J3 ht,hd]
      rw[fIo hs]at hrun
      rw[fPk hs]at hruni
      have hmu2:=fIu hs
      refine aA rfl (aA rfl (aW [61,0,3,4,5,6,7,8] rfl rfl rfl fun K hK=>?_))
      simp(disch:=omega) only[Tryz.f20,go_sem,↓reduceIte,d5]
      refine hK _ ?_
      refine aB (eC (.tmp 61) rfl rfl rfl (fun h=>?_) (fun h=>?_))
      ·refine aI rfl ?_
       cases h
      refine aI rfl ?_
      clear h
      refine aQ rfl (aB (aW [0,3,4,5,6,7] rfl rfl rfl fun K hK=>?_))
      simp(disch:=omega) only[Tryz.f20,go_sem,↓reduceIte,ep]
      refine hK _ ?_
      refine bU (bU (bT ?_))
      refine⟨⟨⟨bg,pl+1+k.toNat,en,tot+(1+k.toNat),acc++[d]⟩,g,c+5+7+9+3+3+15+14,_,false,ri⟩,⟨⟨fun _=>⟨hI.step hs,hrun,hruni,by simp only;omega,hri⟩,(fun h=>by cases h)⟩,by simp only;omega,by simp only;omega⟩,by simp only[Bool.false_eq_true,if_false];omega,⟨fun _=> .inr ?_,fun j o hj=>fPu (by simp(disch:=omega) only[aV,kE,bY,↓reduceIte,hsn]) (by simp(disch:=omega) only[aV,↓reduceIte,hsn]) j o hj,U3 _⟩⟩
      simp only[List.length_append,List.length_singleton]
     have hs:fHj b ⟨bg,pl,en,tot,acc⟩=.no:=by
      unfold fHj;simp only;rw[J3 (by omega),hk,J3 hk0,J3 hk1,J4 (by omega)]
     have hsp:ri=fPe b ⟨bg,pl,en,tot,acc⟩ a:=by
      unfold fPe;simp only;rw[J3 (by omega),hk,J3 hk0,J3 hk1];exact hri
     have hB: ∀s2,RJ b a R ai s2 g true ri:=fun s2=>RJ.bad hrun hruni hs hsp
     by_cases h63:k.toNat≤63
     ·have d3:decide ((63:Int)<(k.toNat:Int))=false:=J6 (by omega)
      have d4:decide ((b.length:Int)-(pl:Int)-1<(k.toNat:Int))=true:=J5 (by omega)
      refine aA rfl (aW [122,0,3,4,5,6,7,8] rfl rfl rfl fun K hK=>?_)
      simp(disch:=omega) only[Tryz.f20,go_sem,↓reduceIte,d3,d4]
      refine hK _ ?_
      refine aB (eC (.tmp 122) rfl rfl rfl (fun h=>?_) (fun h=>?_))
      ·refine aI rfl ?_
       clear h
       refine aW [0,3,4,5,6,7] rfl rfl rfl fun K hK=>?_
       simp(disch:=omega) only[Tryz.f20,go_sem,↓reduceIte]
       refine hK _ ?_
       refine bU (bU (bT ?_))
       refine⟨⟨⟨bg,pl,en,tot,acc⟩,g,q,_,true,ri⟩,⟨hB _,hq,by simp only;omega⟩,by simp only[Bool.false_eq_true,if_false,if_true];omega,⟨fun _=> .inr ?_,fun j o hj=>fPu (by simp(disch:=omega) only[aV,↓reduceIte]) (by simp(disch:=omega) only[aV,bY,↓reduceIte]) j o hj,U3 _⟩⟩
       rfl
      refine aI rfl ?_
      cases h
     have d3:decide ((63:Int)<(k.toNat:Int))=true:=J5 (by omega)
     refine aA rfl (aW [122,0,3,4,5,6,7,8] rfl rfl rfl fun K hK=>?_)
     simp(disch:=omega) only[Tryz.f20,go_sem,↓reduceIte,d3]
     refine hK _ ?_
     refine aB (eC (.tmp 122) rfl rfl rfl (fun h=>?_) (fun h=>?_))
     ·refine aI rfl ?_
      clear h
      refine aW [0,3,4,5,6,7] rfl rfl rfl fun K hK=>?_
      simp(disch:=omega) only[Tryz.f20,go_sem,↓reduceIte]
      refine hK _ ?_
      refine bU (bU (bT ?_))
      refine⟨⟨⟨bg,pl,en,tot,acc⟩,g,q,_,true,ri⟩,⟨hB _,hq,by simp only;omega⟩,by simp only[Bool.false_eq_true,if_false,if_true];omega,⟨fun _=> .inr ?_,fun j o hj=>fPu (by simp(disch:=omega) only[aV,↓reduceIte]) (by simp(disch:=omega) only[aV,bY,↓reduceIte]) j o hj,U3 _⟩⟩
      rfl
     refine aI rfl ?_
     cases h
    have d0:decide ((b.length:Int)≤(pl:Int))=true:=J5 (by omega)
    have hs:fHj b ⟨bg,pl,en,tot,acc⟩=.no:=by
     unfold fHj;simp only;rw[J4 (by omega)]
    have hsp:ri=fPe b ⟨bg,pl,en,tot,acc⟩ a:=by
     unfold fPe;simp only;rw[J4 (by omega)];exact hri
    have hz:=ha2 (by rw[←hrun,fHz hs])
    rw[fPp hs,←hsp]at hruni
    refine aQ rfl (aB (aR 1 rfl rfl (aA rfl (aA rfl (aW [29,0,3,4,5,6,7] rfl rfl rfl fun K hK=>?_)))))
    simp(disch:=omega) only[Tryz.f20,go_sem,↓reduceIte,d0]
    refine hK _ ?_
    refine aB (eC (.tmp 29) rfl rfl rfl (fun h=>?_) (fun h=>?_))
    ·refine aI rfl ?_
     clear h
     refine aA rfl (aW [] rfl rfl rfl fun K hK=>?_)
     simp(disch:=omega) only[Tryz.f20,go_sem,↓reduceIte]
     refine hK _ ?_
     refine aB (bF 0 rfl rfl (aY (mW (aZ (bE ?_)) rfl)))
     refine aB (aA rfl (aW [2] rfl rfl rfl fun K hK=>?_))
     simp(disch:=omega) only[Tryz.f20,go_sem,↓reduceIte]
     refine hK _ ?_
     refine aB ?_
     rw[hz,←hruni]
     refine aS rfl (⟨by simp(disch:=omega) only[bV,bK,bQ,Tryz.f20,go_sem,eq_self,↓reduceIte],by simp(disch:=omega) only[aV,↓reduceIte,eq_self],?_,?_⟩)
     ·rfl
     exact fPi _ _ _ _
    refine aI rfl ?_
    cases h
   refine aI rfl ?_
   cases h
  obtain⟨hR,rfl⟩:=hJ.no rfl
  have hz:=ha2 hR
  refine aA rfl (aA rfl (aW [22,0,3,4,5,6,7] rfl rfl rfl fun K hK=>?_))
  simp(disch:=omega) only[Tryz.f20,go_sem,↓reduceIte]
  refine hK _ ?_
  refine aB (eC (.tmp 22) rfl rfl rfl (fun h=>?_) (fun h=>?_))
  ·refine aI rfl ?_
   cases h
  refine aI rfl ?_
  clear h
  refine bF 0 rfl rfl (aY (aZ (bE (aB (aA rfl (aW [2] rfl rfl rfl fun K hK=>?_))))))
  simp(disch:=omega) only[Tryz.f20,go_sem,↓reduceIte]
  refine hK _ ?_
  refine aB ?_
  rw[hz]
  refine aS rfl (⟨by simp(disch:=omega) only[bV,bK,bQ,Tryz.f20,go_sem,eq_self,↓reduceIte],by simp(disch:=omega) only[aV,bY,↓reduceIte,eq_self],?_,?_⟩)
  ·rfl
  exact fPi _ _ _ _
 cases hg
theorem fRi:bX Tryz.prog GLh 20 (.heap (rdH fQd)):=⟨⟨_,Tryz.func20,rfl,rfl⟩,fPy.1⟩
end Go.AX

namespace Go.AX
open Go Go.Proofs
set_option maxRecDepth 8000
def eNi:List AV→Option AV
 |[.sl n xs,.sl m ys]=>aK (unS xs) fun p=>aK (unS ys) fun q=>aN (p.length=n∧q.length=m∧n≤9223372036854775807∧m≤9223372036854775807) (some (.b (decide (p=q))))
 |_=>none
theorem eSz (n m:Nat) (xs ys:List AV):eNi [.sl n xs,.sl m ys]=aK (unS xs) fun p=>aK (unS ys) fun q=>aN (p.length=n∧q.length=m∧n≤9223372036854775807∧m≤9223372036854775807) (some (.b (decide (p=q)))):=(rfl)
attribute [go_sem] eSz
theorem eQl {a b:Nm} {k:Nat} (ha:k<a.length) (hb:k<b.length) (h:a.take k=b.take k) (e:a.getD k []=b.getD k []):a.take (k+1)=b.take (k+1):=by
 rw[List.take_succ_eq_append_getElem ha,List.take_succ_eq_append_getElem hb,h]
 rw[List.getD_eq_getElem?_getD,List.getD_eq_getElem?_getD,List.getElem?_eq_getElem ha,List.getElem?_eq_getElem hb]at e
 simp only[Option.getD_some]at e
 rw[e]
set_option maxHeartbeats 4000000 in
theorem eVs:fHn Tryz.prog GLh 15 eNi:=by
 refine zK Tryz.func15 (aT rfl) ?_
 intro args r hg
 unfold eNi at hg
 split at hg
 ·rename_i n xs m ys
  replace hg:=aJ hg;obtain⟨a,ha,hg⟩:=hg
  replace hg:=aJ hg;obtain⟨b,hb,hg⟩:=hg
  replace hg:=aP hg;obtain⟨⟨rfl,rfl,hn,hm⟩,hg⟩:=hg
  obtain rfl:=J0 hg
  have:=gT ha;subst this
  have:=gT hb;subst this
  refine⟨J1 rfl,fun nx=>?_⟩
  clear ha hb hg
  refine aA rfl (aW [0,1] rfl rfl rfl fun K hK=>?_)
  simp(disch:=omega) only[Tryz.f15,go_sem,↓reduceIte]
  refine hK _ ?_
  refine aB (aA rfl (aA rfl (aW [10,0,1] rfl rfl rfl fun K hK=>?_)))
  simp(disch:=omega) only[Tryz.f15,go_sem,↓reduceIte]
  refine hK _ ?_
  refine aB (eGn (.tmp 10) rfl rfl rfl (fun h=>?_) (fun h=>?_))
  ·refine aI rfl ?_
   rw[J6 (fun q=>by rw[q]at h;exact h rfl)]
   refine aA rfl (aW [4] rfl rfl rfl fun K hK=>?_)
   simp(disch:=omega) only[Tryz.f15,go_sem,↓reduceIte]
   refine hK _ ?_
   refine aB (aS rfl (bI ?_))
   simp(disch:=omega) only[fHo,bV,bK,bQ,Tryz.f15,go_sem,↓reduceIte]
  refine aI rfl ?_
  have hab:a.length=b.length:=by omega
  refine aQ rfl (aB (aA rfl (aA rfl (aW [0,1,5] rfl rfl rfl fun K hK=>?_))))
  simp(disch:=omega) only[Tryz.f15,go_sem,↓reduceIte]
  refine hK _ ?_
  refine aB (aR 0 rfl rfl (bR (fun p:KC5=> {fr:=[(0,.sl a.length (cS a)),(1,.sl b.length (cS b)),(5,.i (p.k:Int))],hp:=fun _=>none,nx:=0,cx:=p.c}) (fun p=>p.k≤a.length∧a.take p.k=b.take p.k) (fun p=>a.length-p.k) rfl ⟨⟨0,_⟩,⟨Nat.zero_le _,rfl⟩,bD rfl rfl (U3 _)⟩ ?_))
  rintro⟨k,c⟩ ⟨hk,he⟩ n0
  simp only at hk he⊢
  refine aA rfl (aA rfl (aW [14,0,1,5] rfl rfl rfl fun K hK=>?_))
  simp(disch:=omega) only[Tryz.f15,go_sem,↓reduceIte]
  refine hK _ ?_
  refine aB (bA (.tmp 14) rfl rfl rfl (fun h=>?_) (fun h=>?_))
  ·refine aI rfl ?_
   have hka:k<a.length:=by omega
   have hkb:k<b.length:=by omega
   have hnx:=eQl hka hkb he
   obtain⟨x,hx⟩: ∃x,a.getD k []=x:=⟨_,rfl⟩
   obtain⟨y,hy⟩: ∃y,b.getD k []=y:=⟨_,rfl⟩
   rw[hx,hy]at hnx
   refine aQ rfl (aB (aA rfl (aR 1 rfl rfl (aA rfl (bB (Γ:=aL) (fun _=>2) [25,0,1,5] bZ (aD _ _) rfl rfl rfl (by kernel_rfl) (fun K hK=>?_))))))
   simp(disch:=omega) only[Tryz.f15,go_sem,↓reduceIte,hx,hy]
   refine hK _ ?_
   refine aB (eGn (.tmp 25) rfl rfl rfl (fun h=>?_) (fun h=>?_))
   ·refine aI rfl ?_
    rw[J6 (fun q=>h (by rw[←hx,←hy,q]))]
    refine aA rfl (aW [4] rfl rfl rfl fun K hK=>?_)
    simp(disch:=omega) only[Tryz.f15,go_sem,↓reduceIte]
    refine hK _ ?_
    refine aB (aS rfl (bN (bI (dF (bN (bI ?_))))))
    simp(disch:=omega) only[fHo,bV,bK,bQ,Tryz.f15,go_sem,↓reduceIte]
   refine aI rfl (aQ rfl (bU (aB (aW [0,1,5] rfl rfl rfl fun K hK=>?_))))
   simp(disch:=omega) only[Tryz.f15,go_sem,↓reduceIte]
   refine hK _ ?_
   refine bT ?_
   refine⟨⟨k+1,_⟩,⟨by simp only;omega,hnx (by first|exact h|exact Decidable.not_not.1 h)⟩,by simp only;omega,bD ?_ rfl (U3 _)⟩
   simp only[Int.natCast_add,Int.natCast_one]
  refine aI rfl (bF 0 rfl rfl (aY (aZ (bE (aB (aA rfl ?_))))))
  obtain rfl:k=a.length:=by omega
  rw[List.take_length,hab,List.take_length]at he
  rw[J5 he]
  refine aW [4] rfl rfl rfl fun K hK=>?_
  simp(disch:=omega) only[Tryz.f15,go_sem,↓reduceIte]
  refine hK _ ?_
  refine aB (aS rfl ?_)
  simp(disch:=omega) only[fHo,bV,bK,bQ,Tryz.f15,go_sem,↓reduceIte]
 cases hg
theorem fRj:bX Tryz.prog GLh 15 (.pure true eNi):=⟨⟨_,Tryz.func15,rfl,rfl⟩,eVs⟩
def fPo:List AV→Option AV
 |[.sl 0 [],.sl 0 []]=>some (.b true)
 |_=>none
theorem fQe:fPo [.sl 0 [],.sl 0 []]=some (.b true):=(rfl)
attribute [go_sem] fQe
set_option maxHeartbeats 4000000 in
theorem fQh:fHn Tryz.prog GLh 22 fPo:=by
 refine zK Tryz.func22 (aT rfl) ?_
 intro args r hg
 unfold fPo at hg
 split at hg
 ·obtain rfl:=J0 hg
  refine⟨J1 rfl,fun nx=>?_⟩
  clear hg
  refine aA rfl (aW [0,1] rfl rfl rfl fun K hK=>?_)
  simp(disch:=omega) only[Tryz.f22,go_sem,↓reduceIte]
  refine hK _ ?_
  refine aB (aA rfl (aA rfl (aW [10,0,1] rfl rfl rfl fun K hK=>?_)))
  simp(disch:=omega) only[Tryz.f22,go_sem,↓reduceIte]
  refine hK _ ?_
  refine aB (eC (.tmp 10) rfl rfl rfl (fun h=>?_) (fun h=>?_))
  ·refine aI rfl ?_
   cases h
  refine aI rfl ?_
  clear h
  refine aQ rfl (aB (aA rfl (aA rfl (aW [0,1,5] rfl rfl rfl fun K hK=>?_))))
  simp(disch:=omega) only[Tryz.f22,go_sem,↓reduceIte]
  refine hK _ ?_
  refine aB (aR 0 rfl rfl (bR (fun p:C1=> {fr:=[(0,.sl 0 []),(1,.sl 0 []),(5,.i 0)],hp:=fun _=>none,nx:=0,cx:=p.c}) (fun p=>True) (fun p=>0) rfl ⟨⟨_⟩,trivial,bD rfl rfl (U3 _)⟩ ?_))
  rintro⟨c⟩ _ n0
  simp only at⊢
  refine aA rfl (aA rfl (aW [14,0,1,5] rfl rfl rfl fun K hK=>?_))
  simp(disch:=omega) only[Tryz.f22,go_sem,↓reduceIte]
  refine hK _ ?_
  refine aB (eC (.tmp 14) rfl rfl rfl (fun h=>?_) (fun h=>?_))
  ·refine aI rfl ?_
   cases h
  refine aI rfl ?_
  clear h
  refine bF 0 rfl rfl (aY (aZ (bE (aB (aA rfl (aW [4] rfl rfl rfl fun K hK=>?_))))))
  simp(disch:=omega) only[Tryz.f22,go_sem,↓reduceIte]
  refine hK _ ?_
  refine aB (aS rfl ?_)
  simp(disch:=omega) only[fHo,bV,bK,bQ,Tryz.f22,go_sem,↓reduceIte]
 cases hg
theorem fRh:bX Tryz.prog GLh 22 (.pure true fPo):=⟨⟨_,Tryz.func22,rfl,rfl⟩,fQh⟩
instance:DecidableEq QN:=fun a b=>if h:a.n=b.n∧a.t=b.t∧a.c=b.c then .isTrue (by cases a;cases b;simp at h;obtain⟨rfl,rfl,rfl⟩:=h;rfl)else .isFalse (fun e=>h (by subst e;exact⟨rfl,rfl,rfl⟩))
def meG:List AV→Option AV
 |[.agg [.w16 a1,.b a2,.i a3,.b a4,.b a5,.b a6,.b a7,.i a8,.sl n qsa,.sl 0 [],.sl 0 [],.sl 0 [],.b a9,.w16 a10,.b a11],.agg [.w16 b1,.b b2,.i b3,.b b4,.b b5,.b b6,.b b7,.i b8,.sl m qsb,.sl 0 [],.sl 0 [],.sl 0 [],.b b9,.w16 b10,.b b11]]=>aK (unQ qsa) fun l=>aK (unQ qsb) fun k=>aN (n=l.length∧m=k.length∧n≤100000∧a1=b1∧a2=b2∧a3=b3∧a4=b4∧a5=b5∧a6=b6∧a7=b7∧a8=b8∧a9=b9∧a10=b10∧a11=b11∧l=k∧∀q∈l,q.n.length≤100000) (some (.b true))
 |_=>none
theorem fQx (a1 b1:BitVec 16) (a2 b2:Bool) (a3 b3:Int) (a4 b4:Bool) (a5 b5:Bool) (a6 b6:Bool) (a7 b7:Bool) (a8 b8:Int) (a9 b9:Bool) (a10 b10:BitVec 16) (a11 b11:Bool) (n m:Nat) (qsa qsb:List AV):meG [.agg [.w16 a1,.b a2,.i a3,.b a4,.b a5,.b a6,.b a7,.i a8,.sl n qsa,.sl 0 [],.sl 0 [],.sl 0 [],.b a9,.w16 a10,.b a11],.agg [.w16 b1,.b b2,.i b3,.b b4,.b b5,.b b6,.b b7,.i b8,.sl m qsb,.sl 0 [],.sl 0 [],.sl 0 [],.b b9,.w16 b10,.b b11]]=aK (unQ qsa) fun l=>aK (unQ qsb) fun k=>aN (n=l.length∧m=k.length∧n≤100000∧a1=b1∧a2=b2∧a3=b3∧a4=b4∧a5=b5∧a6=b6∧a7=b7∧a8=b8∧a9=b9∧a10=b10∧a11=b11∧l=k∧∀q∈l,q.n.length≤100000) (some (.b true)):=(rfl)
attribute [go_sem] fQx
theorem apc {α:Type} (a:α) (l m:List α):List.append (a::l) m=a::List.append l m:=(rfl)
theorem apn {α:Type} (m:List α):List.append [] m=m:=(rfl)
theorem ibt4:pE Tryz.prog 4=true:=by kernel_rfl
attribute [go_sem] ibt4
structure MEI where
 k:Nat
 c:Nat
set_option maxHeartbeats 8000000 in
theorem fRl:fHn Tryz.prog GLh 9 meG:=by
 refine zK Tryz.func9 (aT rfl) ?_
 intro args r hg
 unfold meG at hg
 split at hg
 ·rename_i a1 a2 a3 a4 a5 a6 a7 a8 n qsa a9 a10 a11 b1 b2 b3 b4 b5 b6 b7 b8 m qsb b9 b10 b11
  replace hg:=aJ hg;obtain⟨l,hl1,hg⟩:=hg
  replace hg:=aJ hg;obtain⟨k,hl2,hg⟩:=hg
  replace hg:=aP hg;obtain⟨⟨rfl,rfl,hn,rfl,rfl,rfl,rfl,rfl,rfl,rfl,rfl,rfl,rfl,rfl,rfl,hqn⟩,hg⟩:=hg
  obtain rfl:=J0 hg
  have:=fMm hl1;subst this
  have:=fMm hl2;subst this
  refine⟨J1 rfl,fun nx=>?_⟩
  clear hl1 hl2 hg
  refine aA rfl (aW [2,3] rfl rfl rfl fun K hK=>?_)
  simp(disch:=omega) only[Tryz.f9,go_sem,↓reduceIte]
  refine hK _ ?_
  refine aB ?_
  refine lW 2 nx 0 rfl (by simp(disch:=omega) only[aV,bY,↓reduceIte]<;>rfl) ?_
  refine lW 3 (nx+1) 0 rfl (by simp(disch:=omega) only[aV,bY,↓reduceIte]<;>rfl) ?_
  refine yK (hp':=fun _=>none) (fun _ _ h=>by cases h) (aA rfl (aA rfl (aW [91,2,3] rfl rfl rfl fun K hK=>?_)))
  simp(maxSteps:=400000) (disch:=omega) only[Tryz.f9,go_sem,↓reduceIte,apc,apn,decide_true,eq_self,Bool.not_true,beq_self_eq_true]
  refine hK _ ?_
  refine aB (eC (.tmp 91) rfl rfl rfl (fun h=>?_) (fun h=>?_))
  ·refine aI rfl ?_
   cases h
  refine aI rfl ?_
  clear h
  refine aQ rfl (aB (aA rfl (aA rfl (aW [2,3,5] rfl rfl rfl fun K hK=>?_))))
  simp(disch:=omega) only[Tryz.f9,go_sem,↓reduceIte]
  refine hK _ ?_
  refine aB (aR 0 rfl rfl (bR (fun p:MEI=> {fr:=[(2,.rp [AV.w16 a1,AV.b a2,AV.i a3,AV.b a4,AV.b a5,AV.b a6,AV.b a7,AV.i a8,AV.sl l.length (qsC l),AV.sl 0 [],AV.sl 0 [],AV.sl 0 [],AV.b a9,AV.w16 a10,AV.b a11]),(3,.rp [AV.w16 a1,AV.b a2,AV.i a3,AV.b a4,AV.b a5,AV.b a6,AV.b a7,AV.i a8,AV.sl l.length (qsC l),AV.sl 0 [],AV.sl 0 [],AV.sl 0 [],AV.b a9,AV.w16 a10,AV.b a11]),(5,.i (p.k:Int))],hp:=fun _=>none,nx:=0,cx:=p.c}) (fun p=>p.k≤l.length) (fun p=>l.length-p.k) rfl ⟨⟨0,_⟩,Nat.zero_le _,bD rfl rfl (U3 _)⟩ ?_))
  rintro⟨k,c⟩ hk n0
  simp only at hk⊢
  refine aA rfl (aA rfl (aW [96,2,3,5] rfl rfl rfl fun K hK=>?_))
  simp(disch:=omega) only[Tryz.f9,go_sem,↓reduceIte]
  refine hK _ ?_
  refine aB (bA (.tmp 96) rfl rfl rfl (fun h=>?_) (fun h=>?_))
  ·refine aI rfl ?_
   have hkl:k<l.length:=by omega
   have hcl:=fIi l
   obtain⟨q,hq⟩: ∃q,l[k]=q:=⟨_,rfl⟩
   have hdr:(qsC l).drop (3*k)=[.sl q.n.length (cS q.n),.w16 q.t,.w16 q.c]++qsC (l.drop (k+1)):=by
    rw[fIs,List.drop_eq_getElem_cons hkl,hq];rfl
   have hdr2:(qsC l).drop (k*3)=[.sl q.n.length (cS q.n),.w16 q.t,.w16 q.c]++qsC (l.drop (k+1)):=by rw[Nat.mul_comm];exact hdr
   have hqm:=hqn q (hq▸List.getElem_mem hkl)
   clear h
   refine aQ rfl (aB (aA rfl (aR 1 rfl rfl (aA rfl (bB (Γ:=aL) (fun k=>if k=6 then 1 else if k=9 then 1 else 2) [2,3,5,6,7] bZ (aD _ _) rfl rfl rfl (by kernel_rfl) (fun K hK=>?_))))))
   simp(disch:=omega) only[Tryz.f9,go_sem,↓reduceIte,hdr2,List.cons_append,List.nil_append]
   refine hK _ ?_
   refine aB (aA rfl (aC (Γ:=bC [(15,.pure true eNi)]) [128,2,3,5] (aH fRj aO) rfl rfl rfl (fun K hK=>?_)))
   simp(maxSteps:=400000) (disch:=omega) only[Tryz.f9,go_sem,↓reduceIte,decide_true,eq_self,Bool.not_true,beq_self_eq_true]
   refine hK _ ?_
   refine aB (eC (.tmp 128) rfl rfl rfl (fun h=>?_) (fun h=>?_))
   ·refine aI rfl ?_
    cases h
   refine aI rfl ?_
   clear h
   refine aQ rfl (bU (aB (aW [2,3,5] rfl rfl rfl fun K hK=>?_)))
   simp(disch:=omega) only[Tryz.f9,go_sem,↓reduceIte]
   refine hK _ ?_
   refine bT ?_
   refine⟨⟨k+1,_⟩,by simp only;omega,by simp only;omega,⟨fun _=> .inr ?_,fun j o hj=>(by cases hj),U3 _⟩⟩
   simp only[Int.natCast_add,Int.natCast_one]
  refine aI rfl ?_
  clear h
  refine bF 0 rfl rfl (aY (aZ (bE (aB (aA rfl (aC (Γ:=bC [(22,.pure true fPo)]) [4] (aH fRh aO) rfl rfl rfl (fun K hK=>?_)))))))
  simp(disch:=omega) only[Tryz.f9,go_sem,↓reduceIte]
  refine hK _ ?_
  refine aB (aS rfl ?_)
  simp(disch:=omega) only[fHo,bV,bK,bQ,Tryz.f9,go_sem,↓reduceIte]
 cases hg
theorem fRe:bX Tryz.prog GLh 9 (.pure true meG):=⟨⟨_,Tryz.func9,rfl,rfl⟩,fRl⟩
end Go.AX

namespace Go.AX
open Go Go.Proofs
set_option maxRecDepth 8000
def two (x y:B8):W32:=((((0#32 <<<8)|||x.setWidth 32) <<<8)|||y.setWidth 32)
theorem fPf (x y:B8):(two x y).toNat=x.toNat*256+y.toNat:=by
 unfold two
 have h1:=x.isLt
 have h2:=y.isLt
 have e0:((0#32 <<<8)|||x.setWidth 32)=x.setWidth 32:=by rw[show(0#32 <<<8)=0#32 from rfl,BitVec.zero_or]
 rw[e0,BitVec.toNat_or]
 have e1:((x.setWidth 32:W32) <<<8).toNat=x.toNat <<<8:=by
  rw[BitVec.toNat_shiftLeft,BitVec.toNat_setWidth,Nat.shiftLeft_eq,Nat.shiftLeft_eq];omega
 have e2:(y.setWidth 32:W32).toNat=y.toNat:=by rw[BitVec.toNat_setWidth];omega
 rw[e1,e2,←Nat.shiftLeft_add_eq_or_of_lt h2,Nat.shiftLeft_eq]
def one (x:B8):W32:=(0#32 <<<8)|||x.setWidth 32
theorem fQn (f:W32) (k:Nat):(f>>>k&&&1#32).toNat=f.toNat/2^k%2:=by
 rw[BitVec.toNat_and,BitVec.toNat_ushiftRight,Nat.shiftRight_eq_div_pow]
 exact Nat.and_one_is_mod _
theorem fQr (f:W32) (k:Nat):decide (f>>>k&&&1#32=1#32)=decide (f.toNat/2^k%2=1):=by
 rw[←fQn]
 refine decide_eq_decide.2 ⟨fun h=>by rw[h];rfl,fun h=>BitVec.eq_of_toNat_eq h⟩
theorem o7: ∀x:B8,(!decide (one x&&&128#32=0#32))=decide (x.toNat/128%2=1):=by decide
theorem o2: ∀x:B8,(!decide (one x&&&4#32=0#32))=decide (x.toNat/4%2=1):=by decide
theorem o1: ∀x:B8,(!decide (one x&&&2#32=0#32))=decide (x.toNat/2%2=1):=by decide
theorem o0: ∀x:B8,(!decide (one x&&&1#32=0#32))=decide (x.toNat%2=1):=by decide
theorem o3: ∀x:B8,(one x>>>3&&&15#32).toNat=x.toNat/8%16:=by decide
theorem o15: ∀x:B8,(one x&&&15#32).toNat=x.toNat%16:=by decide
theorem fQs (f:W32):(f&&&15#32).toNat=f.toNat%16:=by
 rw[BitVec.toNat_and]
 exact Nat.and_two_pow_sub_one_eq_mod f.toNat 4
theorem fRn (x y:B8):(two x y>>>11&&&15#32).toNat=(one x>>>3&&&15#32).toNat:=by
 have:=y.isLt
 rw[fQs,o3,BitVec.toNat_ushiftRight,Nat.shiftRight_eq_div_pow,fPf]
 have e:(2:Nat)^11=2048:=rfl
 rw[e];omega
theorem fRm (x y:B8):(two x y&&&15#32).toNat=(one y&&&15#32).toNat:=by
 rw[fQs,o15,fPf];omega
theorem fRo (x y:B8):decide (two x y>>>15=1#32)= !decide (one x&&&128#32=0#32):=by
 have h1:=x.isLt
 have h2:=y.isLt
 rw[o7]
 refine decide_eq_decide.2 ⟨fun h=>?_,fun h=>BitVec.eq_of_toNat_eq ?_⟩
 ·have h:=congrArg BitVec.toNat h
  rw[BitVec.toNat_ushiftRight,Nat.shiftRight_eq_div_pow,fPf]at h
  have e:(2:Nat)^15=32768:=rfl
  have e1:(1#32:W32).toNat=1:=rfl
  rw[e,e1]at h;omega
 rw[BitVec.toNat_ushiftRight,Nat.shiftRight_eq_div_pow,fPf]
 have e:(2:Nat)^15=32768:=rfl
 have e1:(1#32:W32).toNat=1:=rfl
 rw[e,e1];omega
theorem fRp (x y:B8):decide (two x y>>>10&&&1#32=1#32)= !decide (one x&&&4#32=0#32):=by
 have h2:=y.isLt
 rw[o2,fQr,fPf]
 have e:(2:Nat)^10=1024:=rfl
 rw[e];exact decide_eq_decide.2 ⟨fun h=>by omega,fun h=>by omega⟩
theorem fl_9 (x y:B8):decide (two x y>>>9&&&1#32=1#32)= !decide (one x&&&2#32=0#32):=by
 have h2:=y.isLt
 rw[o1,fQr,fPf]
 have e:(2:Nat)^9=512:=rfl
 rw[e];exact decide_eq_decide.2 ⟨fun h=>by omega,fun h=>by omega⟩
theorem fl_8 (x y:B8):decide (two x y>>>8&&&1#32=1#32)= !decide (one x&&&1#32=0#32):=by
 have h2:=y.isLt
 rw[o0,fQr,fPf]
 have e:(2:Nat)^8=256:=rfl
 rw[e];exact decide_eq_decide.2 ⟨fun h=>by omega,fun h=>by omega⟩
theorem fl_7 (x y:B8):decide (two x y>>>7&&&1#32=1#32)= !decide (one y&&&128#32=0#32):=by
 have h2:=y.isLt
 rw[o7,fQr,fPf]
 have e:(2:Nat)^7=128:=rfl
 rw[e];exact decide_eq_decide.2 ⟨fun h=>by omega,fun h=>by omega⟩
theorem fQt {b:List B8} (h:4≤b.length): ∃x y,eK ((b.drop 2).take 2)=two x y∧b1 b 2=one x∧b1 b 3=one y:=by
 match b,h with
 |_::_::x::y::r,_=>exact⟨x,y,rfl,rfl,rfl⟩
theorem fRd {b:List B8} {e:Nat} (he:e≤b.length): ∃(n1:Nm) (e1:Nat) (b1:Bool) (v2:W32) (e2:Nat) (b2:Bool) (v3:W32) (e3:Nat) (b3:Bool),
  fPv b e false=(.sl n1.length (cS n1),[.sl b.length (c8 b),.i (e1:Int),.b b1])∧rnR b 2 e1 b1=(.w32 v2,[.sl b.length (c8 b),.i (e2:Int),.b b2])∧rnR b 2 e2 b2=(.w32 v3,[.sl b.length (c8 b),.i (e3:Int),.b b3])∧
  e1≤b.length∧e2≤b.length∧e3≤b.length∧((b3=false∧qnR b e=some (⟨n1,v2.setWidth 16,v3.setWidth 16⟩,e3))∨(b3=true∧qnR b e=none)):=by
 rcases hn:fJj b e with _|⟨n,e1⟩
 ·have hq:qnR b e=none:=by unfold qnR;rw[hn]
  exact⟨[],nI b e,true,0,nI b e,true,0,nI b e,true,fQf hn,fQa _ _ _,fQa _ _ _,fQj he,fQj he,fQj he,.inr ⟨rfl,hq⟩⟩
 ·obtain⟨h1,_,_⟩:=fLw hn
  by_cases h2:b.length-e1<2
  ·have hq:qnR b e=none:=by unfold qnR;rw[hn];simp only;rw[J3 (by omega)]
   exact⟨n,e1,false,0,e1,true,0,e1,true,fPq hn,fQg h2,fQa _ _ _,h1,h1,h1,.inr ⟨rfl,hq⟩⟩
  ·by_cases h4:b.length-(e1+2)<2
   ·have hq:qnR b e=none:=by unfold qnR;rw[hn];simp only;rw[J3 (by omega)]
    exact⟨n,e1,false,_,e1+2,false,0,e1+2,true,fPq hn,fPn h2,fQg h4,h1,by omega,by omega,.inr ⟨rfl,hq⟩⟩
   ·have hq:qnR b e=some (⟨n,n16 b e1,n16 b (e1+2)⟩,e1+2+2):=by unfold qnR;rw[hn];simp only;rw[J4 (by omega)]
    exact⟨n,e1,false,_,e1+2,false,_,e1+2+2,false,fPq hn,fPn h2,fPn h4,h1,by omega,by omega,.inl ⟨rfl,hq⟩⟩
end Go.AX

namespace Go.AX
open Go Go.Proofs
set_option maxRecDepth 20000
def NoR (b:List B8):Prop:=12≤b.length∧c16 b 6=0∧c16 b 8=0∧c16 b 10=0
instance (b:List B8):Decidable (NoR b):=by unfold NoR;infer_instance
theorem NoR.md {b:List B8} (h:NoR b):MGd b:=.inr h
def rrG:List AV→Option AV
 |[.sl n xs]=>aK (fHq xs) fun b=>aN (b.length=n∧n≤65535∧NoR b) (some (rwT (mgR b)))
 |_=>none
theorem fQu (n:Nat) (xs:List AV):rrG [.sl n xs]=aK (fHq xs) fun b=>aN (b.length=n∧n≤65535∧NoR b) (some (rwT (mgR b))):=(rfl)
attribute [go_sem] fQu
structure RRJ where
 k:Nat
 e:Nat
 bad:Bool
 l:List QN
 q:Nat
 c:Nat
structure RRK where
 e:Nat
 bad:Bool
 l:List QN
 q:Nat
 c:Nat
theorem fPl (r:List (Nat×AV)) (k:Nat): ∀l:List (Nat×AV),dG l k=.junk∨dG l k=dG (l++r) k
 |[]=> .inl rfl
 |(i,x)::l=>by
  rw[List.cons_append,eW,eW]
  split
  ·exact .inr rfl
  exact fPl r k l
set_option maxHeartbeats 16000000 in
theorem fRc:fHn Tryz.prog GLh 8 rrG:=by
 refine zK Tryz.func8 (aT rfl) ?_
 intro args r hg
 unfold rrG at hg
 split at hg
 ·rename_i n xs
  replace hg:=aJ hg;obtain⟨b,hl,hg⟩:=hg
  replace hg:=aP hg;obtain⟨⟨rfl,hnb,h12,z1,z2,z3⟩,hg⟩:=hg
  obtain rfl:=J0 hg
  have:=bW hl;subst this
  refine⟨J1 rfl,fun nx=>?_⟩
  clear hl hg
  have d0:decide ((65535:Int)<(b.length:Int))=false:=J6 (by omega)
  have n0:rnR b 2 0 false=(.w32 (eK (b.take 2)),[.sl b.length (c8 b),.i ((0+2:Nat):Int),.b false]):=fPn (by omega)
  have n2:=fPn (b:=b) (k:=2) (a:=2) (by omega)
  obtain⟨x,y,hf,hx,hy⟩:=fQt (b:=b) (by omega)
  have g15:=fRo x y
  have g10:=fRp x y
  have g9:=fl_9 x y
  have g8:=fl_8 x y
  have g7:=fl_7 x y
  have gop:=fRn x y
  have grc:=fRm x y
  rw[hf]at n2
  rw[←hx]at g15 g10 g9 g8 gop
  rw[←hy]at g7 grc
  obtain⟨F,hF⟩: ∃F,two x y=F:=⟨_,rfl⟩
  rw[hF]at n2 g15 g10 g9 g8 g7 gop grc
  refine aA rfl (aW [0,2] rfl rfl rfl fun K hK=>?_)
  simp(disch:=omega) only[Tryz.f8,go_sem,↓reduceIte]
  refine hK _ ?_
  refine aB (aA rfl (aA rfl (aW [16,0,2] rfl rfl rfl fun K hK=>?_)))
  simp(disch:=omega) only[Tryz.f8,go_sem,↓reduceIte,d0]
  refine hK _ ?_
  refine aB (eC (.tmp 16) rfl rfl rfl (fun h=>?_) (fun h=>?_))
  ·refine aI rfl ?_
   cases h
  refine aI rfl ?_
  clear h
  refine aQ rfl (aB (aA rfl (aW [0,2,4] rfl rfl rfl fun K hK=>?_)))
  simp(disch:=omega) only[Tryz.f8,go_sem,↓reduceIte]
  refine hK _ ?_
  refine aB (aA rfl (aW [0,2,4,5] rfl rfl rfl fun K hK=>?_))
  simp(disch:=omega) only[Tryz.f8,go_sem,↓reduceIte]
  refine hK _ ?_
  refine aB (aA rfl (aC (Γ:=bC [(19,.heap (rdH rnG))]) [0,2,4,5] (aH fPw aO) rfl rfl rfl (fun K hK=>?_)))
  simp(disch:=omega) only[Tryz.f8,go_sem,↓reduceIte,n0]
  refine hK _ ?_
  refine aB (aA rfl (aC (Γ:=bC [(19,.heap (rdH rnG))]) [0,2,4,5,6] (aH fPw aO) rfl rfl rfl (fun K hK=>?_)))
  simp(disch:=omega) only[Tryz.f8,go_sem,↓reduceIte,n2,U2]
  refine hK _ ?_
  refine aB (aA rfl (aW [0,2,4,5] rfl rfl rfl fun K hK=>?_))
  simp(maxSteps:=400000) (disch:=omega) only[Tryz.f8,go_sem,↓reduceIte,g15,g10,g9,g8,g7,gop,grc]
  refine hK _ ?_
  refine aB (aA rfl (aW [0,2,4,5,7] rfl rfl rfl fun K hK=>?_))
  simp(disch:=omega) only[Tryz.f8,go_sem,↓reduceIte]
  refine hK _ ?_
  refine aB (yK (fMn (a:=nx+2+3+2) (b:=nx) (c:=nx+9) (d:=nx+58) (x:=.cells [.sl b.length (c8 b),.i ((4:Nat):Int),.b false] true) (y:=.cells z15 true) (z:=.cells (ms0 b (.v (.slice none 0 0))) true) (w:=.cells (fKi b 0) true) ?_ ?_ ?_ ?_) ?_)
  ·simp(disch:=omega) only[aV,bY,↓reduceIte]
  ·simp(disch:=omega) only[aV,bY,↓reduceIte,z15]
  ·simp(disch:=omega) only[aV,bY,↓reduceIte]
   rfl
  ·simp(disch:=omega) only[aV,↓reduceIte,fOa]
  clear g15 g10 g9 g8 g7 gop grc n2 n0 hF hf hx hy x y
  obtain⟨di,hdi⟩: ∃y,nx+2+3+2=y:=⟨_,rfl⟩
  obtain⟨mi,hmi⟩: ∃y,nx+9=y:=⟨_,rfl⟩
  obtain⟨ci,hci⟩: ∃y,nx+58=y:=⟨_,rfl⟩
  rw[hdi,hmi,hci]
  refine aA rfl (aA rfl (aW [0,2,4,5,7,8] rfl rfl rfl fun K hK=>?_))
  simp(disch:=omega) only[Tryz.f8,go_sem,↓reduceIte]
  refine hK _ ?_
  refine aB (aR 0 rfl rfl ?_)
  refine bR (fun p:MGI=> {fr:=[(0,.sl b.length (c8 b)),(2,.op nx 0),(4,.op di 0),(5,.op mi 0),(7,.op ci 0),(8,.i (p.k:Int))],hp:=upd (upd (upd (upd (fun _=>none) di (.cells [.sl b.length (c8 b),.i ((4+2*p.k:Nat):Int),.b false] true)) nx (.cells z15 true)) mi (.cells (ms0 b (.v (.slice none 0 0))) true)) ci (.cells (fKi b p.k) true),nx:=0,cx:=p.c}) (fun p=>p.k≤4∧ci<p.c) (fun p=>4-p.k) rfl ⟨⟨0,_⟩,⟨Nat.zero_le _,by simp only;omega⟩,bD rfl rfl (U3 _)⟩ ?_
  rintro⟨k,c⟩ ⟨hk,hcc⟩ n0
  simp only at hk hcc⊢
  refine aA rfl (aA rfl (aW [61,0,2,4,5,7,8] rfl rfl rfl fun K hK=>?_))
  simp(disch:=omega) only[Tryz.f8,go_sem,↓reduceIte]
  refine hK _ ?_
  refine aB (bA (.tmp 61) rfl rfl rfl (fun h=>?_) (fun h=>?_))
  ·refine aI rfl ?_
   have hk4:k<4:=by omega
   have nk:=fPn (b:=b) (k:=2) (a:=4+2*k) (by omega)
   have hset:=fMf b hk4
   have hcv:(eK (List.take 2 (List.drop (4+2*k) b))).toNat=c16 b (4+2*k):=rfl
   clear h
   refine aQ rfl (aB (aA rfl (aR 1 rfl rfl (aC (Γ:=bC [(19,.heap (rdH rnG))]) [0,2,4,5,7,8] (aH fPw aO) rfl rfl rfl (fun K hK=>?_)))))
   simp(disch:=omega) only[Tryz.f8,go_sem,↓reduceIte,nk,fMg,hcv,hset,U2]
   refine hK _ ?_
   refine bU (aB (aW [0,2,4,5,7,8] rfl rfl rfl fun K hK=>?_))
   simp(disch:=omega) only[Tryz.f8,go_sem,↓reduceIte]
   refine hK _ ?_
   refine bT ?_
   refine⟨⟨k+1,_⟩,⟨by simp only;omega,by simp only;omega⟩,by simp only;omega,⟨fun _=> .inr ?_,fun j o hj=>?_,U3 _⟩⟩
   ·simp only[Int.natCast_add,Int.natCast_one]
   simp only at hj
   rw[show 4+2*(k+1)=4+2*k+2 by omega]at hj
   exact fMn (by simp(disch:=omega) only[aV,bY,↓reduceIte]) (by simp(disch:=omega) only[aV,bY,↓reduceIte]) (by simp(disch:=omega) only[aV,bY,↓reduceIte]) (by simp(disch:=omega) only[aV,↓reduceIte]) j o hj
  refine aI rfl ?_
  obtain rfl:k=4:=by omega
  clear h
  refine bF 0 rfl rfl (aY (aZ (bE (aB ?_))))
  rw[fNz,z1,z2,z3]
  refine aDn mi 3 (fKg b) fKf true (by simp(disch:=omega) only[aV,bY,↓reduceIte];rfl) (by omega) ?_
  obtain⟨ans,hqs⟩: ∃a,fJv b (c16 b 4) 12 []=a:=⟨_,rfl⟩
  have hans:mgR b=mgX b ans:=by unfold mgR;rw[J3 (by omega),hqs]
  rw[hans]
  obtain⟨N,hN⟩: ∃N,c16 b 4=N:=⟨_,rfl⟩
  rw[hN]at hqs⊢
  have hNl:N<65536:=by rw[←hN];exact fOe b 4
  refine aA rfl (dWd (fun p:RRK=> {fr:=[(0,.sl b.length (c8 b)),(2,.op nx 0),(4,.op di 0),(5,.op mi 0),(7,.op ci 0)],hp:=upd (upd (upd (upd (upd (fun _=>none) di (.cells [.sl b.length (c8 b),.i (p.e:Int),.b p.bad] true)) nx (.cells z15 true)) ci (.cells [.i (N:Int),.i 0,.i 0,.i 0] true)) p.q (.cells (qsC p.l) true)) mi (.cells (fKg b++ .os p.q 0 p.l.length 3 true::fKf) true),nx:=0,cx:=p.c}) (fun p=>p.e≤b.length∧ci<p.q∧p.q<p.c∧(p.bad=false→ans=some (p.l,p.e))∧(p.bad=true→ans=none)) ?_ ?_)
  ·refine aA rfl (aW [0,2,4,5,7,9] rfl rfl rfl fun K hK=>?_)
   simp(disch:=omega) only[Tryz.f8,go_sem,↓reduceIte]
   refine hK _ ?_
   refine aB (aR 2 rfl rfl ?_)
   refine bR (fun p:RRJ=> {fr:=[(0,.sl b.length (c8 b)),(2,.op nx 0),(4,.op di 0),(5,.op mi 0),(7,.op ci 0),(9,.i (p.k:Int))],hp:=upd (upd (upd (upd (upd (fun _=>none) di (.cells [.sl b.length (c8 b),.i (p.e:Int),.b p.bad] true)) nx (.cells z15 true)) ci (.cells [.i (N:Int),.i 0,.i 0,.i 0] true)) p.q (.cells (qsC p.l) true)) mi (.cells (fKg b++ .os p.q 0 p.l.length 3 true::fKf) true),nx:=0,cx:=p.c}) (fun p=>p.e≤b.length∧ci<p.q∧p.q<p.c∧(p.bad=false→p.k≤N∧p.l.length=p.k∧fJv b (N-p.k) p.e p.l=ans)∧(p.bad=true→ans=none)) (fun p=>if p.bad=true then 0 else N-p.k+1) rfl ⟨⟨0,12,false,[],c+2,_⟩,⟨h12,by simp only;omega,by simp only;omega,(fun _=>⟨Nat.zero_le _,rfl,hqs⟩),(fun h=>by cases h)⟩,⟨fun _=> .inr rfl,fun j o hj=>fNi (by simp(disch:=omega) only[aV,bY,↓reduceIte]<;>rfl) (by simp(disch:=omega) only[aV,bY,↓reduceIte]<;>rfl) (by simp(disch:=omega) only[aV,bY,↓reduceIte]<;>rfl) (by simp(disch:=omega) only[aV,bY,↓reduceIte]<;>rfl) (by simp(disch:=omega) only[aV,↓reduceIte]<;>rfl) j o hj,U3 _⟩⟩ ?_
   rintro⟨k,e,bd,l,q,c⟩ ⟨he,hq1,hq2,hg1,hg2⟩ n0
   simp only at he hq1 hq2 hg1 hg2⊢
   rcases bd with _|_
   ·obtain⟨hk,hll,hrun⟩:=hg1 rfl
    by_cases hkN:k<N
    ·have dk:decide ((k:Int)<(N:Int))=true:=J5 (by omega)
     refine aA rfl (aA rfl (aW [79,0,2,4,5,7,9] rfl rfl rfl fun K hK=>?_))
     simp(disch:=omega) only[Tryz.f8,go_sem,↓reduceIte,dk,J8,J7,J9]
     refine hK _ ?_
     refine aB (eC (.tmp 79) rfl rfl rfl (fun h=>?_) (fun h=>?_))
     ·refine aI rfl ?_
      clear h
      obtain⟨j,hj⟩: ∃j,N-k=j+1:=⟨N-k-1,by omega⟩
      rw[hj,fJv]at hrun
      obtain⟨n1,e1,f1,v2,e2,f2,v3,e3,f3,r1,r2,r3,l1,l2,l3,hcase⟩:=fRd he
      have hd8: ∀y:AV,(List.drop 8 (fKg b++y::fKf)).head? =some y:=fun y=>rfl
      have hs8: ∀y z:AV,(fKg b++y::fKf).set 8 z=fKg b++z::fKf:=fun y z=>rfl
      have hl8: ∀y:AV,(fKg b++y::fKf).length=15:=fun y=>rfl
      have hcl:=fIi l
      refine aQ rfl (aB (aA rfl (aR 3 rfl rfl (aA rfl (aC (Γ:=bC [(20,.heap (rdH fQd))]) [0,2,4,5,7,9,10] (aH fRi aO) rfl rfl rfl (fun K hK=>?_))))))
      simp(disch:=omega) only[Tryz.f8,go_sem,↓reduceIte,r1,U2]
      refine hK _ ?_
      refine aB (aA rfl (aC (Γ:=bC [(19,.heap (rdH rnG))]) [0,2,4,5,7,9,10] (aH fPw aO) rfl rfl rfl (fun K hK=>?_)))
      simp(disch:=omega) only[Tryz.f8,go_sem,↓reduceIte,r2,U2]
      refine hK _ ?_
      refine aB (aA rfl (aC (Γ:=bC [(19,.heap (rdH rnG))]) [0,2,4,5,7,9,10] (aH fPw aO) rfl rfl rfl (fun K hK=>?_)))
      simp(disch:=omega) only[Tryz.f8,go_sem,↓reduceIte,r3,U2]
      refine hK _ ?_
      refine aB ?_
      have hsn:qsC l++[.sl n1.length (cS n1),.w16 (v2.setWidth 16),.w16 (v3.setWidth 16)]=qsC (l++[⟨n1,v2.setWidth 16,v3.setWidth 16⟩]):=by rw[fKl];rfl
      refine aW [0,2,4,5,7,9] rfl rfl rfl fun K hK=>?_
      simp(disch:=omega) only[Tryz.f8,go_sem,↓reduceIte,hd8,hs8,hl8,hcl,hsn,U0,U1,J9]
      refine hK _ ?_
      refine bU (aB (aW [0,2,4,5,7,9] rfl rfl rfl fun K hK=>?_))
      simp(disch:=omega) only[Tryz.f8,go_sem,↓reduceIte]
      refine hK _ ?_
      refine bT ?_
      have hl1:(l++[(⟨n1,v2.setWidth 16,v3.setWidth 16⟩:QN)]).length=l.length+1:=by simp
      rcases hcase with⟨rfl,hx⟩|⟨rfl,hx⟩
      ·rw[hx]at hrun
       simp only at hrun
       refine⟨⟨k+1,e3,false,l++[⟨n1,v2.setWidth 16,v3.setWidth 16⟩],c+11+5+5+5+4,_⟩,⟨l3,by simp only;omega,by simp only;omega,(fun _=>⟨by simp only;omega,hl1.trans (by rw[hll]),by rw[show N-(k+1)=j by omega];exact hrun⟩),(fun h=>by cases h)⟩,by simp only[Bool.false_eq_true,if_false];omega,⟨fun _=> .inr ?_,fun i o hi=>?_,U3 _⟩⟩
       ·simp only[Int.natCast_add,Int.natCast_one]
       simp only at hi
       exact fNi (by simp(disch:=omega) only[aV,kE,bY,↓reduceIte]<;>rfl) (by simp(disch:=omega) only[aV,kE,bY,↓reduceIte]<;>rfl) (by simp(disch:=omega) only[aV,kE,bY,↓reduceIte]<;>rfl) (by simp(disch:=omega) only[aV,bY,↓reduceIte]<;>rfl) (by simp(disch:=omega) only[aV,↓reduceIte,hl1]<;>rfl) i o hi
      rw[hx]at hrun
      refine⟨⟨k+1,e3,true,l++[⟨n1,v2.setWidth 16,v3.setWidth 16⟩],c+11+5+5+5+4,_⟩,⟨l3,by simp only;omega,by simp only;omega,(fun h=>by cases h),(fun _=>hrun.symm)⟩,by simp only[Bool.false_eq_true,if_false,if_true];omega,⟨fun _=> .inr ?_,fun i o hi=>?_,U3 _⟩⟩
      ·simp only[Int.natCast_add,Int.natCast_one]
      simp only at hi
      exact fNi (by simp(disch:=omega) only[aV,kE,bY,↓reduceIte]<;>rfl) (by simp(disch:=omega) only[aV,kE,bY,↓reduceIte]<;>rfl) (by simp(disch:=omega) only[aV,kE,bY,↓reduceIte]<;>rfl) (by simp(disch:=omega) only[aV,bY,↓reduceIte]<;>rfl) (by simp(disch:=omega) only[aV,↓reduceIte,hl1]<;>rfl) i o hi
     refine aI rfl ?_
     cases h
    have dk:decide ((k:Int)<(N:Int))=false:=J6 (by omega)
    refine aA rfl (aA rfl (aW [79,0,2,4,5,7,9] rfl rfl rfl fun K hK=>?_))
    simp(disch:=omega) only[Tryz.f8,go_sem,↓reduceIte,dk,J8,J9]
    refine hK _ ?_
    refine aB (eC (.tmp 79) rfl rfl rfl (fun h=>?_) (fun h=>?_))
    ·refine aI rfl ?_
     cases h
    refine aI rfl ?_
    clear h
    refine bF 2 rfl rfl (aY (aZ (bE (dWa ?_))))
    have hkN2:N-k=0:=by omega
    rw[hkN2,fJv]at hrun
    refine⟨⟨e,false,l,q,_⟩,⟨he,hq1,by simp only;omega,(fun _=>hrun.symm),(fun h=>by cases h)⟩,⟨fun t=>fPl [(9,_)] t _,fun _ _ h=>h,U3 _⟩⟩
   have hn:=hg2 rfl
   by_cases hkN:k<N
   ·have dk:decide ((k:Int)<(N:Int))=true:=J5 (by omega)
    refine aA rfl (aA rfl (aW [79,0,2,4,5,7,9] rfl rfl rfl fun K hK=>?_))
    simp(disch:=omega) only[Tryz.f8,go_sem,↓reduceIte,dk,J8,J7,J9]
    refine hK _ ?_
    refine aB (eC (.tmp 79) rfl rfl rfl (fun h=>?_) (fun h=>?_))
    ·refine aI rfl ?_
     cases h
    refine aI rfl ?_
    clear h
    refine bF 2 rfl rfl (aY (aZ (bE (dWa ?_))))
    refine⟨⟨e,true,l,q,_⟩,⟨he,hq1,by simp only;omega,(fun h=>by cases h),(fun _=>hn)⟩,⟨fun t=>fPl [(9,_)] t _,fun _ _ h=>h,U3 _⟩⟩
   have dk:decide ((k:Int)<(N:Int))=false:=J6 (by omega)
   refine aA rfl (aA rfl (aW [79,0,2,4,5,7,9] rfl rfl rfl fun K hK=>?_))
   simp(disch:=omega) only[Tryz.f8,go_sem,↓reduceIte,dk,J8,J9]
   refine hK _ ?_
   refine aB (eC (.tmp 79) rfl rfl rfl (fun h=>?_) (fun h=>?_))
   ·refine aI rfl ?_
    cases h
   refine aI rfl ?_
   clear h
   refine bF 2 rfl rfl (aY (aZ (bE (dWa ?_))))
   refine⟨⟨e,true,l,q,_⟩,⟨he,hq1,by simp only;omega,(fun h=>by cases h),(fun _=>hn)⟩,⟨fun t=>fPl [(9,_)] t _,fun _ _ h=>h,U3 _⟩⟩
  rintro⟨e,bad,l,q,c⟩ ⟨he,hq1,hq2,ha1,ha2⟩ n0
  simp only at he hq1 hq2 ha1 ha2⊢
  refine aA rfl (aA rfl (aW [0,2,4,5,7,11] rfl rfl rfl fun K hK=>?_))
  simp(disch:=omega) only[Tryz.f8,go_sem,↓reduceIte]
  refine hK _ ?_
  refine aB (aR 4 rfl rfl ?_)
  refine bR (fun p:MGI=> {fr:=[(0,.sl b.length (c8 b)),(2,.op nx 0),(4,.op di 0),(5,.op mi 0),(7,.op ci 0),(11,.i (p.k:Int))],hp:=upd (upd (upd (upd (upd (fun _=>none) di (.cells [.sl b.length (c8 b),.i (e:Int),.b bad] true)) nx (.cells z15 true)) ci (.cells [.i (N:Int),.i 0,.i 0,.i 0] true)) q (.cells (qsC l) true)) mi (.cells (fKg b++ .os q 0 l.length 3 true::fKf) true),nx:=0,cx:=p.c}) (fun p=>1≤p.k∧p.k≤4∧q<p.c) (fun p=>4-p.k) rfl ⟨⟨1,_⟩,⟨U3 _,by simp only;omega,by simp only;omega⟩,bD rfl rfl (U3 _)⟩ ?_
  rintro⟨k,c⟩ ⟨hk1,hk4,hqc⟩ n0
  simp only at hk1 hk4 hqc⊢
  refine aA rfl (aA rfl (aW [100,0,2,4,5,7,11] rfl rfl rfl fun K hK=>?_))
  simp(disch:=omega) only[Tryz.f8,go_sem,↓reduceIte]
  refine hK _ ?_
  refine aB (bA (.tmp 100) rfl rfl rfl (fun h=>?_) (fun h=>?_))
  ·refine aI rfl ?_
   have hcd:(List.drop k [AV.i (N:Int),AV.i 0,AV.i 0,AV.i 0]).head? =some (.i 0):=by
    rcases(by omega:k=1∨k=2∨k=3)with rfl|rfl|rfl<;>rfl
   have hk3:k<4:=by omega
   clear h
   refine aQ rfl (aB (aA rfl (aR 5 rfl rfl (aA rfl (aW [0,2,4,5,7,11,12] rfl rfl rfl fun K hK=>?_)))))
   simp(disch:=omega) only[Tryz.f8,go_sem,↓reduceIte]
   refine hK _ ?_
   refine aB (aR 6 rfl rfl ?_)
   refine bR (fun p:C1=> {fr:=[(0,.sl b.length (c8 b)),(2,.op nx 0),(4,.op di 0),(5,.op mi 0),(7,.op ci 0),(11,.i (k:Int)),(12,.i 0)],hp:=upd (upd (upd (upd (upd (fun _=>none) di (.cells [.sl b.length (c8 b),.i (e:Int),.b bad] true)) nx (.cells z15 true)) ci (.cells [.i (N:Int),.i 0,.i 0,.i 0] true)) q (.cells (qsC l) true)) mi (.cells (fKg b++ .os q 0 l.length 3 true::fKf) true),nx:=0,cx:=p.c}) (fun p=>q<p.c) (fun p=>0) rfl ⟨⟨_⟩,by simp only;omega,bD rfl rfl (U3 _)⟩ ?_
   rintro⟨c2⟩ hc2 n0
   simp only at hc2⊢
   refine aA rfl (aA rfl (aW [114,0,2,4,5,7,11,12] rfl rfl rfl fun K hK=>?_))
   simp(disch:=omega) only[Tryz.f8,go_sem,↓reduceIte,hcd,U2,List.length_cons,List.length_nil]
   refine hK _ ?_
   refine aB (eC (.tmp 114) rfl rfl rfl (fun h=>?_) (fun h=>?_))
   ·refine aI rfl ?_
    cases h
   refine aI rfl ?_
   clear h
   refine bF 6 rfl rfl (aY (aZ (bE (bU (aB (aW [0,2,4,5,7,11] rfl rfl rfl fun K hK=>?_))))))
   simp(disch:=omega) only[Tryz.f8,go_sem,↓reduceIte]
   refine hK _ ?_
   refine bT ?_
   refine⟨⟨k+1,_⟩,⟨by simp only;omega,by simp only;omega,by simp only;omega⟩,by simp only;omega,bD ?_ rfl (U3 _)⟩
   simp only[Int.natCast_add,Int.natCast_one]
  refine aI rfl ?_
  clear h
  refine bF 4 rfl rfl (aY (aZ (bE (aB ?_))))
  have hcl:=fIi l
  have hno:=fLq l
  rcases bad with _|_
  ·have hA:=ha1 rfl
   subst hA
   by_cases hee:e=b.length
   ·have de:decide ((e:Int)=(b.length:Int))=true:=J5 (by omega)
    have hX:mgX b (some (l,e))=some (msA b l,[.sl b.length (c8 b),.i (e:Int)]):=J4 hee
    rw[hX]
    refine aA rfl (aA rfl (aW [200,2,5] rfl rfl rfl fun K hK=>?_))
    simp(disch:=omega) only[Tryz.f8,go_sem,↓reduceIte,de,Bool.not_true]
    refine hK _ ?_
    refine aB (eC (.tmp 200) rfl rfl rfl (fun h=>?_) (fun h=>?_))
    ·refine aI rfl ?_
     cases h
    refine aI rfl ?_
    clear h
    refine aQ rfl (aB (aA rfl (aW [2,3] rfl rfl rfl fun K hK=>?_)))
    simp(disch:=omega) only[Tryz.f8,go_sem,↓reduceIte,fKg,fKf,z15,List.cons_append,List.nil_append,U0,U1,J9]
    refine hK _ ?_
    refine aB (aS rfl ?_)
    simp(disch:=omega) only[fHo,bV,bK,bQ,Tryz.f8,go_sem,↓reduceIte,hcl,hno,rwT,msA,msC,msT,List.cons_append,List.nil_append,U0,U1,J9]
   have de:decide ((e:Int)=(b.length:Int))=false:=J6 (by omega)
   have hX:mgX b (some (l,e))=none:=J3 hee
   rw[hX]
   refine aA rfl (aA rfl (aW [200,2,5] rfl rfl rfl fun K hK=>?_))
   simp(disch:=omega) only[Tryz.f8,go_sem,↓reduceIte,de,Bool.not_false]
   refine hK _ ?_
   refine aB (eC (.tmp 200) rfl rfl rfl (fun h=>?_) (fun h=>?_))
   ·refine aI rfl ?_
    clear h
    refine aA rfl (aW [2,3] rfl rfl rfl fun K hK=>?_)
    simp(disch:=omega) only[Tryz.f8,go_sem,↓reduceIte,z15]
    refine hK _ ?_
    refine aB (aS rfl (bI ?_))
    simp(disch:=omega) only[fHo,bV,bK,bQ,Tryz.f8,go_sem,↓reduceIte,rwT,msZ]
   refine aI rfl ?_
   cases h
  have hA:=ha2 rfl
  subst hA
  have hX:mgX b none=none:=rfl
  rw[hX]
  refine aA rfl (aA rfl (aW [200,2,5] rfl rfl rfl fun K hK=>?_))
  simp(disch:=omega) only[Tryz.f8,go_sem,↓reduceIte]
  refine hK _ ?_
  refine aB (eC (.tmp 200) rfl rfl rfl (fun h=>?_) (fun h=>?_))
  ·refine aI rfl ?_
   clear h
   refine aA rfl (aW [2,3] rfl rfl rfl fun K hK=>?_)
   simp(disch:=omega) only[Tryz.f8,go_sem,↓reduceIte,z15]
   refine hK _ ?_
   refine aB (aS rfl (bI ?_))
   simp(disch:=omega) only[fHo,bV,bK,bQ,Tryz.f8,go_sem,↓reduceIte,rwT,msZ]
  refine aI rfl ?_
  cases h
 cases hg
theorem fRf:bX Tryz.prog GLh 8 (.pure false rrG):=⟨⟨_,Tryz.func8,rfl,rfl⟩,fRc⟩
end Go.AX

namespace Go.AX
open Go Go.Proofs
set_option maxRecDepth 20000
def wpG:List AV→Option AV
 |[.sl n xs,.w8 _]=>aK (fHq xs) fun l=>aN (l.length=n∧n≤9223372036854775807) (some (.b true))
 |_=>none
def hdP (x:B8):List B8:=[0,1,0,0,0,x,0,0,0,0,0,0]
theorem fQb {b:List B8}: ∀ {k a:Nat} {l L:List QN} {E:Nat},fJv b k a l=some (L,E)→(∀q∈l,q.n.length≤255)→L.length=l.length+k∧∀q∈L,q.n.length≤255
 |0,a,l,L,E,h,hl=>by
  rw[fJv]at h
  simp only[Option.some.injEq,Prod.mk.injEq]at h
  obtain⟨rfl,_⟩:=h
  exact⟨rfl,hl⟩
 |k+1,a,l,L,E,h,hl=>by
  rw[fJv]at h
  rcases hx:qnR b a with _|⟨q,e⟩
  ·rw[hx]at h;cases h
  rw[hx]at h
  simp only at h
  have hq:q.n.length≤255:=by
   unfold qnR at hx
   rcases hn:fJj b a with _|⟨n,e1⟩
   ·rw[hn]at hx;cases hx
   rw[hn]at hx
   simp only at hx
   split at hx
   ·simp only[Option.some.injEq,Prod.mk.injEq]at hx
    obtain⟨rfl,_⟩:=hx
    have:=(fLw hn).2.2
    have:=fKp n
    simp only;omega
   cases hx
  obtain⟨h1,h2⟩:=fQb h (fun q' hq'=>by
   rcases List.mem_append.1 hq' with h3|h3
   ·exact hl q' h3
   rw[List.mem_singleton]at h3;subst h3;exact hq)
  refine⟨?_,h2⟩
  rw[h1,List.length_append,List.length_singleton];omega
theorem fQw (b:List B8):mgR b=none∨∃l e,mgR b=some (msA b l,[.sl b.length (c8 b),.i (e:Int)])∧l.length≤65535∧∀q∈l,q.n.length≤100000:=by
 unfold mgR
 split
 ·exact .inl rfl
 rcases h:fJv b (c16 b 4) 12 []with _|⟨l,e⟩
 ·exact .inl rfl
 obtain⟨h1,h2⟩:=fQb h (fun q hq=>by cases hq)
 have:=fOe b 4
 simp only[List.length_nil,Nat.zero_add]at h1
 unfold mgX
 simp only
 split
 ·exact .inr ⟨l,e,rfl,by omega,fun q hq=>by have:=h2 q hq;omega⟩
 exact .inl rfl
theorem rep8 (x:AV):rep 8 [x]=[x,x,x,x,x,x,x,x]:=(rfl)
theorem sub1 {g:H} {a:Nat} {x:AO} (h1:g a=some x): ∀j o,upd (fun _=>none) a x j=some o→g j=some o:=by
 intro j o h
 rw[bJ]at h
 split at h
 ·rename_i e;rw[e,h1];exact h
 cases h
theorem fQm:unQ []=some []:=(rfl)
theorem fQz {x:B8} (y:List B8):NoR (hdP x++y):=⟨by rw[List.length_append];exact Nat.le_add_right _ _,rfl,rfl,rfl⟩
structure WPI where
 k:Nat
 y:List B8
 q:Nat
 c:Nat
set_option maxHeartbeats 8000000 in
theorem fRb:fHn Tryz.prog GLh 3 wpG:=by
 refine zK Tryz.func3 (aT rfl) ?_
 intro args r hg
 unfold wpG at hg
 split at hg
 ·rename_i n xs a
  replace hg:=aJ hg;obtain⟨l,hl,hg⟩:=hg
  replace hg:=aP hg;obtain⟨⟨rfl,hnb⟩,hg⟩:=hg
  obtain rfl:=J0 hg
  have:=bW hl;subst this
  refine⟨J1 rfl,fun nx=>?_⟩
  clear hl hg
  refine aA rfl (aW [0] rfl rfl rfl fun K hK=>?_)
  simp(disch:=omega) only[Tryz.f3,go_sem,↓reduceIte]
  refine hK _ ?_
  refine aB (aA rfl (aA rfl (aC (Γ:=bC [(6,.pure true eNl)]) [13,0] (aH okw5 aO) rfl rfl rfl (fun K hK=>?_))))
  simp(disch:=omega) only[Tryz.f3,go_sem,↓reduceIte]
  refine hK _ ?_
  refine aB (eC (.tmp 13) rfl rfl rfl (fun h=>?_) (fun h=>?_))
  ·refine aI rfl ?_
   cases h
  refine aI rfl ?_
  clear h
  refine aQ rfl (aB (aA rfl (aA rfl (aW [16,0] rfl rfl rfl fun K hK=>?_))))
  simp(disch:=omega) only[Tryz.f3,go_sem,↓reduceIte]
  refine hK _ ?_
  refine aB (bA (.tmp 16) rfl rfl rfl (fun h=>?_) (fun h=>?_))
  ·refine aI rfl (aA rfl (aW [4] rfl rfl rfl fun K hK=>?_))
   simp(disch:=omega) only[Tryz.f3,go_sem,↓reduceIte]
   refine hK _ ?_
   refine aB (aS rfl (bI ?_))
   simp(disch:=omega) only[fHo,bV,bK,bQ,Tryz.f3,go_sem,↓reduceIte]
  refine aI rfl ?_
  have hl30:l.length≤30:=by omega
  clear h
  refine aQ rfl (aB (aA rfl (aW [0,5] rfl rfl rfl fun K hK=>?_)))
  simp(disch:=omega) only[Tryz.f3,go_sem,↓reduceIte]
  refine hK _ ?_
  refine aB (aA rfl (aA rfl (aW [0,5,6] rfl rfl rfl fun K hK=>?_)))
  simp(disch:=omega) only[Tryz.f3,go_sem,↓reduceIte]
  refine hK _ ?_
  refine aB ?_
  obtain⟨x,hx⟩: ∃x,BitVec.ofInt 8 (l.length:Int)=x:=⟨_,rfl⟩
  rw[hx]
  refine yK (hp':=upd (fun _=>none) (nx+1+2+3+3) (.cells (c8 (hdP x++[])) true)) (fun i o h=>?_) ?_
  ·rw[bJ]at h⊢
   split at h
   ·rename_i e;rw[J4 e,←h];simp[yC,rep,hdP,c8]
   cases h
  refine aR 0 rfl rfl ?_
  refine bR (fun p:WPI=> {fr:=[(0,.sl l.length (c8 l)),(5,.os p.q 0 (12+8*p.k) 1 true),(6,.i (p.k:Int))],hp:=upd (fun _=>none) p.q (.cells (c8 (hdP x++p.y)) true),nx:=0,cx:=p.c}) (fun p=>p.k≤l.length∧p.y.length=8*p.k∧p.q<p.c) (fun p=>l.length-p.k) rfl ⟨⟨0,[],_,_⟩,⟨Nat.zero_le _,rfl,by simp only;omega⟩,bD rfl rfl (U3 _)⟩ ?_
  rintro⟨k,y,q,c⟩ ⟨hk,hy,hq⟩ n0
  simp only at hk hy hq⊢
  have hlen:(hdP x++y).length=12+8*k:=by rw[List.length_append,hy];rfl
  refine aA rfl (aA rfl (aW [24,0,5,6] rfl rfl rfl fun K hK=>?_))
  simp(disch:=omega) only[Tryz.f3,go_sem,↓reduceIte]
  refine hK _ ?_
  refine aB (bA (.tmp 24) rfl rfl rfl (fun h=>?_) (fun h=>?_))
  ·refine aI rfl ?_
   have hil:k<l.length:=by omega
   have hix:=fQy l k hil
   have hne:(((12+8*k:Nat):Int)-12+4=0)=False:=eq_false (by omega)
   obtain⟨v,hv⟩: ∃v,((l.getD k 0#8).toNat:Int).tmod (((12+8*k:Nat):Int)-12+4)=v:=⟨_,rfl⟩
   clear h
   refine aQ rfl (aB (aA rfl (aR 1 rfl rfl (aA rfl (aW [0,5,6,7] rfl rfl rfl fun K hK=>?_)))))
   simp(disch:=omega) only[Tryz.f3,go_sem,↓reduceIte,hne,hv]
   refine hK _ ?_
   refine aB ?_
   have hap:c8 (hdP x++y)++[.w8 1#8,.w8 (97#8+BitVec.ofInt 8 ((k:Int).tmod 20)),.w8 192#8,.w8 (BitVec.ofInt 8 (W (12+v))),.w8 0#8,.w8 1#8,.w8 0#8,.w8 1#8]=c8 (hdP x++(y++[1#8,97#8+BitVec.ofInt 8 ((k:Int).tmod 20),192#8,BitVec.ofInt 8 (W (12+v)),0#8,1#8,0#8,1#8])):=by
    rw[←List.append_assoc];simp[c8]
   have hcl:(c8 (hdP x++y)).length=12+8*k:=by rw[iM,hlen]
   refine aW [0,5,6] rfl rfl rfl fun K hK=>?_
   simp(disch:=omega) only[Tryz.f3,go_sem,↓reduceIte,rep8,yC,List.nil_append,List.cons_append,U0,U1,J7,J9,List.length_cons,List.length_nil,hap,hcl]
   refine hK _ ?_
   refine bU (aB (aW [0,5,6] rfl rfl rfl fun K hK=>?_))
   simp(disch:=omega) only[Tryz.f3,go_sem,↓reduceIte]
   refine hK _ ?_
   refine bT ?_
   refine⟨⟨k+1,y++[1#8,97#8+BitVec.ofInt 8 ((k:Int).tmod 20),192#8,BitVec.ofInt 8 (W (12+v)),0#8,1#8,0#8,1#8],c+4+12+8,_⟩,⟨by simp only;omega,by simp only[List.length_append,hy,List.length_cons,List.length_nil];omega,by simp only;omega⟩,by simp only;omega,⟨fun _=> .inr ?_,fun i o hi=>sub1 (by simp(disch:=omega) only[aV,↓reduceIte]) i o hi,U3 _⟩⟩
   simp only[Int.natCast_add,Int.natCast_one,show 12+8*(k+1)=12+8*k+8 by omega]
  refine aI rfl ?_
  clear h
  refine bF 0 rfl rfl (aY (aZ (bE (aB ?_))))
  refine pS 5 q 0 (12+8*k) 1 rfl (by simp(disch:=omega) only[aV,↓reduceIte];rfl) (by simp only[iM,hlen];omega) ?_
  rw[J9,List.take_of_length_le (by rw[iM,hlen];omega)]
  refine yK (hp':=fun _=>none) (fun _ _ h=>by cases h) (fPg [5] ?_)
  simp only[iB,fU,eW,↓reduceIte]
  have hN:=fQz (x:=x) y
  rw[←hlen]
  obtain⟨B,hB⟩: ∃B,hdP x++y=B:=⟨_,rfl⟩
  rw[hB]at hN hlen⊢
  have hMG:MGd B=True:=eq_true hN.md
  have hNR:NoR B=True:=eq_true hN
  rcases fQw B with e2|⟨L,e,e2,hL1,hL2⟩
  ·refine aA rfl (aC (Γ:=bC [(7,.pure false rwG)]) [5,8,9] (aH fOn aO) rfl rfl rfl (fun K hK=>?_))
   simp(disch:=omega) only[Tryz.f3,go_sem,↓reduceIte,hMG,e2,rwT,msZ]
   refine hK _ ?_
   refine aB (aA rfl (aC (Γ:=bC [(8,.pure false rrG)]) [8,9,10,11] (aH fRf aO) rfl rfl rfl (fun K hK=>?_)))
   simp(disch:=omega) only[Tryz.f3,go_sem,↓reduceIte,hNR,e2,rwT,msZ]
   refine hK _ ?_
   refine aB (aA rfl (aC (Γ:=bC [(9,.pure true meG)]) [4] (aH fRe aO) rfl rfl rfl (fun K hK=>?_)))
   simp(disch:=omega) only[Tryz.f3,go_sem,↓reduceIte,fQm]
   refine hK _ ?_
   refine aB (aS rfl ?_)
   simp(disch:=omega) only[fHo,bV,bK,bQ,Tryz.f3,go_sem,↓reduceIte]
  have hLL:(∀q∈L,q.n.length≤100000)=True:=eq_true hL2
  refine aA rfl (aC (Γ:=bC [(7,.pure false rwG)]) [5,8,9] (aH fOn aO) rfl rfl rfl (fun K hK=>?_))
  simp(disch:=omega) only[Tryz.f3,go_sem,↓reduceIte,hMG,e2,rwT,msA,msC,msT,List.cons_append,List.nil_append]
  refine hK _ ?_
  refine aB (aA rfl (aC (Γ:=bC [(8,.pure false rrG)]) [8,9,10,11] (aH fRf aO) rfl rfl rfl (fun K hK=>?_)))
  simp(disch:=omega) only[Tryz.f3,go_sem,↓reduceIte,hNR,e2,rwT,msA,msC,msT,List.cons_append,List.nil_append]
  refine hK _ ?_
  refine aB (aA rfl (aC (Γ:=bC [(9,.pure true meG)]) [4] (aH fRe aO) rfl rfl rfl (fun K hK=>?_)))
  simp(disch:=omega) only[Tryz.f3,go_sem,↓reduceIte,fNb,hLL]
  refine hK _ ?_
  refine aB (aS rfl ?_)
  simp(disch:=omega) only[fHo,bV,bK,bQ,Tryz.f3,go_sem,↓reduceIte]
 cases hg
end Go.AX

namespace Go.AX
open Go Go.Proofs Go.RowKit Go.WideShapes Go.ChangeShapes
section
variable {H : Type} {enc : TypeId × Value → H} {P : Program}
theorem uC (hl:laidOutB P=true) {W W':World} {sp:Nat→Bool}: ∀ {ts:List TypeId} {vs:List Value} {ds:List (DataW H)} {ps:List MemPlace},(ts.all fun t=>P.readableRec t&&decide (t<P.types.size))=true→
  DataW.TrodAll enc P W 0 (fun _=>true) true ts vs ds ps→(∀p∈ps,W.sameAt W' p)→(∀p∈ps,sp p.block=true)→DataW.TrodAll enc P W' 0 sp true ts vs ds ps
 |[],[],[],_,_,h,_,_=>h
 |t::ts,v::vs,d::ds,ps,ha,h,hs,hp=>by
  obtain⟨p,q,h1,h2,e⟩:=h
  simp only[List.all_cons,Bool.and_eq_true,decide_eq_true_eq]at ha
  refine⟨p,q,WideElems.Trod_stays hl ha.1.1 ha.1.2 h1 (fun x hx=>hs x (by rw[e];exact List.mem_append_left _ hx)) (fun x hx=>hp x (by rw[e];exact List.mem_append_left _ hx)),?_,e⟩
  exact uC hl (by simpa using ha.2) h2 (fun x hx=>hs x (by rw[e];exact List.mem_append_right _ hx)) (fun x hx=>hp x (by rw[e];exact List.mem_append_right _ hx))
 |[],_::_,_,_,_,h,_,_=>h.elim
 |[],[],_::_,_,_,h,_,_=>h.elim
 |_::_,[],_,_,_,h,_,_=>h.elim
 |_::_,_::_,[],_,_,h,_,_=>h.elim
theorem aZq {f:Func} {s:ChangeSpec} {apart fresh handsOn again:Bool} {W W':World} {args:Array Value} {ds gs:List (DataW H)} {before:List MemPlace} {tb:TypeId}
  (hl:laidOutB P=true) (hro:(f.params.toList.all fun t=>P.readableRec t&&decide (t<P.types.size))=true) (hrt:f.resultTypes= #[tb]) (htb:P.underlying tb=some .bool) (hvs:s.vars=[])
  (hfn:s.fn H (ds++gs)= {results:=[.lit (.bool true)],args:=ds})
  (hW:DataW.Whole enc P f.params.toList s.vars apart W args.toList ds gs before) (hb:Below W.heap.size W W'):
  s.post enc P f apart fresh handsOn again W args (.bool true) W':=by
 have hlt: ∀p∈before,p.block<W.heap.size:=fun p hp=>hW.lt p hp
 have hW':=hW
 obtain⟨p,q,hA,hV,hpq,hz,hn⟩:=hW
 have hq:q=[]∧gs=[]:=by
  rw[hvs]at hV
  cases gs with
  |nil=>exact⟨hV,rfl⟩
  |cons g r=>exact hV.elim
 obtain⟨rfl,rfl⟩:=hq
 rw[List.append_nil]at hpq
 subst hpq
 have hargs: ∀sp:Nat→Bool,(∀p∈before,sp p.block=true)→DataW.TrodAll enc P W' 0 sp true f.params.toList args.toList (s.fn H (ds++[])).args before:=by
  intro sp hsp
  rw[hfn]
  exact uC hl hro hA (fun x hx=>hb.same (hlt x hx)) hsp
 have hres: ∀(b:Nat) (sp:Nat→Bool) (hd:Bool),DataW.TrodAll enc P W' b sp hd f.resultTypes.toList ((Value.bool true).resultList f.resultTypes.size) (s.fn H (ds++[])).results []:=by
  intro b sp hd
  rw[hfn,hrt]
  exact trodAll_mk1 (shut_bool htb true)
 have hvars: ∀sp:Nat→Bool,(∀p∈before,sp p.block=true)→DataW.TrodVars enc P W' sp s.vars (s.fn H (ds++[])).vars []:=by
  intro sp _
  rw[hfn,hvs];rfl
 have hold: ∀p∈before,(fun b=>decide (b<W.heap.size)) p.block=true:=fun p hp=>by simpa using hlt p hp
 refine⟨ds,[],before,[],before,[],hW',hres _ _ _,hargs _ hold,hvars _ hold,World.keptBut_mono (fun p hp=>⟨hp,?_⟩) (hb.frame (· ∈before)),fun _=>?_⟩
 ·exact Or.inr (by simpa using hp)
 ·refine⟨ok_one hrt rfl (okWide_bool_mk htb true),_,_,([]++before)++[],⟨[]++before,[],trodAll_append (hargs _ (fun _ _=>rfl)) (hres _ _ _),hvars _ (fun _ _=>rfl),rfl,?_,?_⟩,?_⟩
  ·intro b off hp
   have hin:MemPlace.cell b off∈before:=by simpa using hp
   rw[hb.frozen (hlt _ hin)]
   exact hz b off hin
  ·intro ha
   have:=hn ha
   simpa using this
  ·intro p hp _
   simpa using hp
end
section
variable {H : Type} {enc : TypeId × Value → H} {P : Program} {W : World} {σ : Nat → Loc}
def nQ (enc:TypeId×Value→H) (P:Program) (W:World) (σ:Nat→Loc) (t:TypeId) (Q:AV→Prop):Prop:=
 ∀(m:Nat) (cs:List Value) (x:DataW H×List MemPlace),DataW.trod enc P W 0 (fun _=>true) true m t cs=some x→∃v y,cs=[v]∧Q y∧y.isCell=true∧Rel σ (fun k=>k<W.heap.size) W y v
theorem uZ {k:IntKind} {n:Int} (h:(Lit.int k n).wf=true):k.min≤n∧n≤k.max:=by
 simpa [Lit.wf]using h
theorem vX {t:TypeId} (ht:P.underlying t=some (.int .u8)):nQ enc P W σ t (fun y=> ∃b:B8,y=.w8 b):=by
 intro m cs x h
 obtain⟨n,rfl,_,hw⟩:=DataW.trod_int ht h
 have hb:=uZ hw
 have e1:IntKind.min .u8=0:=by decide
 have e2:IntKind.max .u8=255:=by decide
 rw[e1,e2]at hb
 refine⟨_,.w8 (BitVec.ofInt 8 n),rfl,⟨_,rfl⟩,rfl,?_⟩
 have e:((BitVec.ofInt 8 n).toNat:Int)=n:=by simp[BitVec.toNat_ofInt];omega
 have:=Rel.w8 (σ:=σ) (I:=fun k=>k<W.heap.size) (w:=W) (BitVec.ofInt 8 n)
 rwa [e]at this
theorem bOq {base:Nat} {a:Addr} {l:List Value} (h:W.cells? base a 1=some l): ∃v,l=[v]∧W.cell? a=some v:=by
 unfold World.cells? at h
 split at h
 ·simp only[List.range_one,List.mapM_cons,List.mapM_nil,bind,Option.bind_eq_some_iff,pure,Option.some.injEq]at h
  obtain⟨v,hv,l',rfl,rfl⟩:=h
  exact⟨v,rfl,by simpa [Addr.add]using hv⟩
 cases h
theorem ePq {t e:TypeId} {Q:AV→Prop} (ht:P.underlying t=some (.slice e)) (hc:P.cellsOf e=1) (he:nQ enc P W σ e Q):
  nQ enc P W σ t (fun y=> ∃xs:List AV,y=.sl xs.length xs∧(∀z∈xs,Q z)∧xs.length≤9223372036854775807):=by
 intro m cs x h
 rcases DataW.trod_slice ht h with⟨rfl,_⟩|⟨a,len,cap,elems,rest,n,rfl,rfl,rfl,hb,hl,hm,hlen,hel,hsp,_⟩
 ·exact⟨_,.sl 0 [],rfl,⟨[],rfl,by simp,by simp⟩,rfl,.slnil⟩
 ·have hmax:len≤9223372036854775807:=by unfold maxLen at hm;omega
  have get: ∀i,i<len→∃v y,W.cell? (a.add i)=some v∧Q y∧y.isCell=true∧Rel σ (fun k=>k<W.heap.size) W y v:=by
   intro i hi
   have h1:=hel i hi
   rw[hc,Nat.mul_one]at h1
   rw[List.getElem?_eq_getElem (by omega:i<elems.length)]at h1
   obtain⟨l,hl1,hl2⟩:=Option.bind_eq_some_iff.1 h1
   obtain⟨v,rfl,hv⟩:=bOq hl1
   obtain⟨v',y,e1,hq,hcell,hr⟩:=he _ _ _ hl2
   obtain rfl:v=v':=by simpa using e1
   exact⟨v,y,hv,hq,hcell,hr⟩
  by_cases h0:len=0
  ·subst h0
   by_cases hcap:cap=0
   ·subst hcap
    exact⟨_,.sl 0 [],rfl,⟨[],rfl,by simp,by simp⟩,rfl,.slzero a⟩
   ·obtain⟨hr1,hr2⟩:=hsp rfl
    have h1:=hr2 0 (by omega)
    rw[hc,List.getElem?_eq_getElem (by omega:0<rest.length)]at h1
    obtain⟨l,hl1,_⟩:=Option.bind_eq_some_iff.1 h1
    obtain⟨v,rfl,hv⟩:=bOq hl1
    have hspot:a.spot=none:=by
     have:=World.cell?_spot hv
     simpa [Addr.add]using this
    have hblk:a.block<W.heap.size:=by
     simp only[World.cell?,Addr.add]at hv
     split at hv
     ·rename_i hh;exact(Array.getElem?_eq_some_iff.1 hh).1
     ·cases hv
    obtain⟨blk,off,spot⟩:=a
    subst hspot
    exact⟨_,.sl 0 [],rfl,⟨[],rfl,by simp,by simp⟩,rfl,.sl 0 [] blk off cap (fun _=>undef) hblk (by omega) (fun i hi=>by simp at hi) (fun i hi=>by simp at hi) (fun i hi=>by simp at hi)⟩
  ·have hex: ∀i:Fin len,∃p:Value×AV,W.cell? (a.add i.1)=some p.1∧Q p.2∧p.2.isCell=true∧Rel σ (fun k=>k<W.heap.size) W p.2 p.1:=by
    intro i
    obtain⟨v,y,h⟩:=get i.1 i.2
    exact⟨(v,y),h⟩
   obtain⟨F,hF⟩:=Classical.axiomOfChoice hex
   have hv0:=(hF ⟨0,by omega⟩).1
   simp only[Addr.add,if_true]at hv0
   have hspot:a.spot=none:=World.cell?_spot hv0
   have hblk:a.block<W.heap.size:=by
    simp only[World.cell?]at hv0
    split at hv0
    ·rename_i hh;exact(Array.getElem?_eq_some_iff.1 hh).1
    ·cases hv0
   obtain⟨blk,off,spot⟩:=a
   subst hspot
   have hlx:(List.ofFn fun i=>(F i).2).length=len:=List.length_ofFn
   refine⟨_,.sl len (List.ofFn fun i=>(F i).2),rfl,⟨_,by rw[hlx],?_,by rw[hlx];exact hmax⟩,rfl,?_⟩
   ·intro z hz
    rw[List.mem_ofFn]at hz
    obtain⟨i,rfl⟩:=hz
    exact(hF i).2.1
   ·refine .sl len _ blk off cap (fun i=>if h:i<len then(F ⟨i,h⟩).1 else undef) hblk hl (fun i hi=>?_) (fun i hi=>?_) (fun i hi=>?_)
    ·rw[hlx]at hi
     rw[dif_pos hi];have:=(hF ⟨i,hi⟩).1;rwa [eE]at this
    ·rw[hlx]at hi
     rw[List.getElem_ofFn];exact(hF ⟨i,hi⟩).2.2.1
    ·rw[hlx]at hi
     rw[dif_pos hi,List.getElem_ofFn];exact(hF ⟨i,hi⟩).2.2.2
theorem bRz: ∀ {xs:List AV},(∀z∈xs,∃b:B8,z=.w8 b)→∃l:List B8,xs=c8 l
 |[],_=>⟨[],rfl⟩
 |x::r,h=>by
  obtain⟨b,rfl⟩:=h x (by simp)
  obtain⟨l,hl⟩:=bRz (xs:=r) (fun z hz=>h z (by simp[hz]))
  exact⟨b::l,by rw[hl];rfl⟩
theorem iC {t e:TypeId} (ht:P.underlying t=some (.slice e)) (hc:P.cellsOf e=1) (he:P.underlying e=some (.int .u8)):
  nQ enc P W σ t (fun y=> ∃l:List B8,y=.sl l.length (c8 l)∧l.length≤9223372036854775807):=by
 intro m cs x h
 obtain⟨v,y,e1,⟨xs,rfl,hq,hlen⟩,h2,h3⟩:=ePq ht hc (vX he) m cs x h
 obtain⟨l,rfl⟩:=bRz hq
 rw[iM]at hlen h3
 exact⟨v,_,e1,⟨l,rfl,hlen⟩,rfl,h3⟩
end
end Go.AX

namespace Go.AX
open Go Go.Proofs Go.RowKit Go.WideShapes Go.ChangeShapes Go.Proofs.YtbhlbggocbhecaaGreat
theorem bLx:laidOutB Tryz.prog=true:=by kernel_rfl
theorem ownT:ownKnob Tryz.prog.godebug=none:=by kernel_rfl
theorem c5:Tryz.prog.cellsOf 5=1:=by kernel_rfl
theorem bAx {f:Nat} {g:List AV→Option AV} (hf:fHn Tryz.prog GLh f g) {W:World} {args:List AV} {vals:Array Value} (hs:vals.size=args.length)
  (hr: ∀i (_h:i<args.length),Rel (fun _=> .unset) (fun k=>k<W.heap.size) W args[i] (vals.getD i undef)) (hg:g args=some (.b true)):
  Calls Tryz.prog f vals W fun e W'=>e=.returned (.bool true)∧Below W.heap.size W W':=by
 refine(hf (fun _=> .unset) (fun k=>k<W.heap.size) W 0 args vals _ (fun _ _=>rfl) (fun _ h=>h) (fun g xs h=>by cases h) hs hr hg).mono ?_
 rintro e w' ⟨v,σ',I',rfl,a1,a2,a3,a4,a5,_,_,_,a9⟩
 cases a9
 exact⟨rfl,a1,a2,a3,a4,a5⟩
theorem aTx {H:Type} {enc:TypeId×Value→H} {P:Program} {W:World} {σ:Nat→Loc} {t:TypeId} {Q:AV→Prop} {v:Value} {d:DataW H} {ps:List MemPlace} (ho:nQ enc P W σ t Q) (hv:v.cells.toList=[v]) (h:DataW.Trod enc P W 0 (fun _=>true) true t v d ps):
  ∃y,Q y∧Rel σ (fun k=>k<W.heap.size) W y v:=by
 obtain⟨m,h⟩:=h
 obtain⟨v',y,e,hq,_,hr⟩:=ho m _ _ h
 rw[hv]at e
 obtain rfl:v=v':=by simpa using e
 exact⟨y,hq,hr⟩
theorem bEs {H:Type} {enc:TypeId×Value→H} {P:Program} {W W2:World} {σ:Nat→Loc} {t e:TypeId} {Q:AV→Prop} {v:Value} {d:DataW H} {ps:List MemPlace} {r:Reach} {b:Nat} (ht:P.underlying t=some (.slice e)) (hval:Value.okWide P W2 r b t v) (ho:nQ enc P W σ t Q) (h:DataW.Trod enc P W 0 (fun _=>true) true t v d ps):
  ∃y,Q y∧Rel σ (fun k=>k<W.heap.size) W y v:=by
 obtain⟨a,len,cap,rfl⟩:=okWide_slice ht hval
 exact aTx ho rfl h
theorem cDy {H:Type} {enc:TypeId×Value→H} {P:Program} {W W2:World} {σ:Nat→Loc} {t:TypeId} {k:IntKind} {Q:AV→Prop} {v:Value} {d:DataW H} {ps:List MemPlace} {r:Reach} {b:Nat} (ht:P.underlying t=some (.int k)) (hval:Value.okWide P W2 r b t v) (ho:nQ enc P W σ t Q) (h:DataW.Trod enc P W 0 (fun _=>true) true t v d ps):
  ∃y,Q y∧Rel σ (fun k=>k<W.heap.size) W y v:=by
 obtain⟨n,rfl⟩:=okWide_int ht hval
 exact aTx ho rfl h
end Go.AX
