/-
  Wire, part cO: a writer's names: what was written is written as a pointer. Wire, part cP: a writer's records. Wire, part cQ: messages as values; bits; which messages may be written. Wire, part cR: a message written. Wire, part cS: a plain function on own objects: all of them are frozen behind it, but messages under way. Wire, part cT: a message's number; the first of each statement. Wire, part cU: in plain words: an owner that was written is written as a pointer. Wire, part cV: the walk of WireSame. Data, part R2: from calls over abstract values to the given rows. Data, part T2: the lift of a statement's call to its row. Wire, part sU: names as the arguments of a statement.
-/
import Derived.Test.YtbhlbggocbhecaaBC
import Derived.Test.YtbhlbggocbhecaaRows
import Derived.ProofKit
import Derived.LaidMore
import Derived.OpenShut
import Derived.Stop.Joined
import Derived.WideKeyArgs
import Derived.SevenTiedAt
import Derived.Below
import Derived.ChangeSame
namespace Go.AX
open Go Go.Proofs
set_option maxRecDepth 8000
abbrev WF:=List (List B8×Nat)
def fJe (F:WF):List (AV×AV):=F.map fun p=>(.s p.1,.i p.2)
theorem fKc (k:List B8) (F:WF):aNp (.s k) (fJe F)=some ((iK k F).map fun n=> .i n):=aNo .s fNh (fun n:Nat=> .i n) k F
theorem fMa (k:List B8) (n:Nat) (F:WF):aEh (.s k) (.i n) (fJe F)=some (fJe (kT k n F)):=aNm .s fNh (fun n:Nat=> .i n) k n F
theorem fMb {F G:WF} (h:fJe F=fJe G):F=G:=by
 unfold fJe at h
 exact(List.map_inj_right (fun a b e=>by
  have e1:=(Prod.mk.injEq ..▸e:_∧_)
  obtain⟨e1,e2⟩:=e1
  cases a;cases b
  simp only[AV.s.injEq]at e1
  simp only[AV.i.injEq,Int.ofNat_inj]at e2
  rw[e1,e2])).1 h
structure W3 (hp:H) (w q m:Nat) (b:List B8) (F:WF):Prop where
 h:fIz hp w q b (.mp m)
 hm:hp m=some (.mapo (fJe F) true)
 n1:m≠w
 n2:m≠q
def fIb (w q m:Nat) (b:List B8) (F:WF) (hp:H):H:=fHw w q b (.mp m) (upd hp m (.mapo (fJe F) true))
structure W3T where
 q:Nat
 m:Nat
 b:List B8
 F:WF
theorem W3.uniq {hp:H} {w q q' m m':Nat} {b b':List B8} {F F':WF} (h:W3 hp w q m b F) (h':W3 hp w q' m' b' F'):q=q'∧m=m'∧b=b'∧F=F':=by
 obtain⟨rfl,rfl,e⟩:=h.h.uniq h'.h
 obtain rfl:=AV.mp.inj e
 exact⟨rfl,rfl,rfl,fMb (AO.mapo.inj (J0 (h.hm.symm.trans h'.hm))).1⟩
open Classical in
noncomputable def fJt (hp:H) (w:Nat):Option W3T:=if h: ∃t:W3T,W3 hp w t.q t.m t.b t.F then some (Classical.choose h)else none
theorem fIa {hp:H} {w q m:Nat} {b:List B8} {F:WF} (h:W3 hp w q m b F):fJt hp w=some ⟨q,m,b,F⟩:=by
 have hx: ∃t:W3T,W3 hp w t.q t.m t.b t.F:=⟨⟨q,m,b,F⟩,h⟩
 unfold fJt
 rw[dif_pos hx]
 have h2:=Classical.choose_spec hx
 obtain⟨e1,e2,e3,e4⟩:=h2.uniq h
 congr 1
 generalize Classical.choose hx=t at e1 e2 e3 e4
 cases t;simp only at e1 e2 e3 e4;rw[e1,e2,e3,e4]
theorem fJs {hp:H} {w:Nat} {t:W3T} (h:fJt hp w=some t):W3 hp w t.q t.m t.b t.F:=by
 unfold fJt at h
 split at h
 ·rename_i hx
  obtain rfl:=J0 h
  exact Classical.choose_spec hx
 cases h
theorem fKy {hp:H} {w q m:Nat} {b:List B8} {F:WF} (h:w≠q) (h1:m≠w) (h2:m≠q):W3 (fIb w q m b F hp) w q m b F:=
 ⟨fJh h,by unfold fIb;rw[fHv h1 h2,bJ,J4 rfl],h1,h2⟩
theorem fKz {hp:H} {w q m:Nat} {b:List B8} {F:WF} {k:Nat} (h1:k≠w) (h2:k≠q) (h3:k≠m):fIb w q m b F hp k=hp k:=by
 unfold fIb;rw[fHv h1 h2,bJ,J3 h3]
theorem fHx {hp g:H} {w q m:Nat} {b:List B8} {F:WF} (h:W3 g w q m b F) (hs: ∀j o,j≠w→j≠q→j≠m→hp j=some o→g j=some o): ∀j o,fIb w q m b F hp j=some o→g j=some o:=
 fJg h.h fun j o h1 h2 hj=>by
  rw[bJ]at hj
  split at hj
  ·rename_i e;rw[e,h.hm];exact hj
  exact hs j o h1 h2 (by assumption) hj
theorem W3.num {hp:H} {w q m q':Nat} {b b':List B8} {F:WF} (h:W3 hp w q m b F) (hw:w≠q') (hm:m≠q'):W3 (fHw w q' b' (.mp m) (del hp q)) w q' m b' F:=
 ⟨fJh hw,by rw[fHv h.n1 hm,eV,J3 h.n2];exact h.hm,h.n1,hm⟩
def wnS:Nm→List B8→WF→List B8×WF×Nat
 |[],b,F=>(b++[0#8],F,0)
 |l::r,b,F=>match iK (fHk (l::r)) F with
  |some a=>(b++beL (49152#32|||BitVec.ofInt 32 (a:Int)) 2 2,F,r.length+1)
  |none=>wnS r (b++ePy l) (if b.length<16384 then kT (fHk (l::r)) b.length F else F)
def wnQ (nx n k:Nat):Nat:=if k=0 then nx+2000*n+1006 else nx+2000*(n-k)+1043
def fJx:AV→Option Nm
 | .sl n xs=>aK (unS xs) fun ps=>aN (ps.length=n) (some ps)
 | .v (.slice none 0 0)=>some []
 |_=>none
theorem fMt (n:Nat) (xs:List AV):fJx (.sl n xs)=aK (unS xs) fun ps=>aN (ps.length=n) (some ps):=(rfl)
theorem fLv {x:AV} {ps:Nm} (h:fJx x=some ps):x=.sl ps.length (cS ps)∨(x=.v (.slice none 0 0)∧ps=[]):=by
 unfold fJx at h
 split at h
 ·replace h:=aJ h;obtain⟨qs,hq,h⟩:=h
  replace h:=aP h;obtain⟨rfl,h⟩:=h
  obtain rfl:=J0 h
  have:=gT hq;subst this
  exact .inl rfl
 ·obtain rfl:=J0 h
  exact .inr ⟨rfl,rfl⟩
 cases h
noncomputable def fIf:List AV→H→Nat→Option (AV×H×Nat)
 |[.op w 0,x],hp,nx=>aK (fJt hp w) fun t=>aK (fJx x) fun ps=>aN (ps.length≤255∧t.b.length+(eF ps).length≤900000)
   (some (.tup [],fIb w (wnQ nx ps.length (wnS ps t.b t.F).2.2) t.m (wnS ps t.b t.F).1 (wnS ps t.b t.F).2.1 (del hp t.q),nx+2000*(ps.length+1)))
 |_,_,_=>none
theorem fKs (w:Nat) (x:AV) (hp:H) (nx:Nat):fIf [.op w 0,x] hp nx=aK (fJt hp w) fun t=>aK (fJx x) fun ps=>aN (ps.length≤255∧t.b.length+(eF ps).length≤900000)
   (some (.tup [],fIb w (wnQ nx ps.length (wnS ps t.b t.F).2.2) t.m (wnS ps t.b t.F).1 (wnS ps t.b t.F).2.1 (del hp t.q),nx+2000*(ps.length+1))):=(rfl)
attribute [go_sem] fMt
attribute [go_sem] fKs
theorem fKu (ps:List (List B8)) (k:Nat) (h:k<ps.length):eF (ps.drop k)=ePy (ps.getD k [])++eF (ps.drop (k+1)):=by
 rw[List.drop_eq_getElem_cons h,eNx];simp[List.getD,List.getElem?_eq_getElem h]
theorem eTh (ps:Nm) (k:Nat) (h:k<ps.length):ps.drop k=ps.getD k []::ps.drop (k+1):=by
 rw[List.drop_eq_getElem_cons h];simp[List.getD,List.getElem?_eq_getElem h]
theorem kU {P:Program} {GL:Nat→Option (List AV)} {nt:Nat} {code:Code} {Q:Exit→S→Prop} {fr:List (Nat×AV)} {hp:H} {nx cx:Nat} (cx':Nat) (hc:cx≤cx')
  (h:Awp P GL nt code {fr:=fr,hp:=hp,nx:=nx,cx:=cx'} Q):Awp P GL nt code {fr:=fr,hp:=hp,nx:=nx,cx:=cx} Q:=tU h ⟨fun _=> .inr rfl,fun _ _ h=>h,hc⟩ rfl
theorem fId {hp:H} {q j:Nat} {o:AO} (h:del hp q j=some o):j≠q∧hp j=some o:=by
 rw[eV]at h
 split at h
 ·cases h
 exact⟨by assumption,h⟩
theorem W3.upM {hp:H} {w q m:Nat} {b:List B8} {F G:WF} (h:W3 hp w q m b F):W3 (upd hp m (.mapo (fJe G) true)) w q m b G:=
 ⟨⟨by rw[bJ,J3 (Ne.symm h.n1)];exact h.h.hw,by rw[bJ,J3 (Ne.symm h.n2)];exact h.h.hq,h.h.ne⟩,by rw[bJ,J4 rfl],h.n1,h.n2⟩
theorem fJq {l:List B8} {r:Nm} {b:List B8} {F:WF} {a:Nat} (h:iK (fHk (l::r)) F=some a):wnS (l::r) b F=(b++beL (49152#32|||BitVec.ofInt 32 (a:Int)) 2 2,F,r.length+1):=by
 rw[wnS,h]
theorem fIg {l:List B8} {r:Nm} {b:List B8} {F:WF} (h:iK (fHk (l::r)) F=none):wnS (l::r) b F=wnS r (b++ePy l) (if b.length<16384 then kT (fHk (l::r)) b.length F else F):=by
 rw[wnS,h]
structure WMI where
 k:Nat
 g:H
 q:Nat
 b:List B8
 F:WF
set_option maxHeartbeats 4000000 in
theorem fLm:fHs Try.prog GLh 14 fIf:=by
 refine gF Try.func14 (aT rfl) ?_
 intro args hp nx r hp' nx' hg
 unfold fIf at hg
 split at hg
 ·rename_i w x
  replace hg:=aJ hg;obtain⟨⟨q,m,b,F⟩,hW0,hg⟩:=hg
  have hW:=fJs hW0
  replace hg:=aJ hg;obtain⟨ps,hl,hg⟩:=hg
  replace hg:=aP hg;obtain⟨⟨hn,hbig⟩,hg⟩:=hg
  simp only[Option.some.injEq,Prod.mk.injEq]at hg hW hbig;obtain⟨rfl,rfl,rfl⟩:=hg
  refine⟨J1 rfl,by omega,fun hnone=>?_⟩
  have hlt: ∀k o,hp k=some o→k<nx:=fun k o hk=>lI hnone hk
  have hwl:=hlt _ _ hW.h.hw
  have hql:=hlt _ _ hW.h.hq
  have hml:=hlt _ _ hW.hm
  obtain⟨n1,n2⟩:=And.intro hW.n1 hW.n2
  rcases fLv hl with rfl|⟨rfl,rfl⟩
  ·refine aA rfl (aA rfl (aW [0,1,9,10] rfl rfl rfl fun K hK=>?_))
   simp(disch:=omega) only[Try.f14,go_sem,↓reduceIte]
   refine hK _ ?_
   refine aB (aR 0 rfl rfl ?_)
   refine bR (fun p:WMI=> {fr:=[(0,.op w 0),(1,.sl ps.length (cS ps)),(9,.i ps.length),(10,.i p.k)],hp:=p.g,nx:=0,cx:=nx+100+2000*p.k}) (fun p=>p.k≤ps.length∧wnS (ps.drop p.k) p.b p.F=wnS ps b F∧W3 p.g w p.q m p.b p.F∧(∀j o,j≠w→j≠q→j≠m→hp j=some o→p.g j=some o)∧(p.q=q∨nx≤p.q)∧p.q<nx+100+2000*p.k∧p.b.length+(eF (ps.drop p.k)).length=b.length+(eF ps).length) (fun p=>ps.length-p.k) rfl ⟨⟨0,hp,q,b,F⟩,⟨Nat.zero_le _,rfl,hW,fun j o _ _ _ h=>h,.inl rfl,by simp only;omega,rfl⟩,bD rfl rfl (by simp only;omega)⟩ ?_
   rintro⟨k,g,q1,b1,F1⟩ ⟨hk,hS,hW1,hsub,hq1,hqc,hlen⟩ n0
   simp only at hk hS hW1 hsub hq1 hqc hlen⊢
   refine aA rfl (aW [11,0,1,9,10] rfl rfl rfl fun K hK=>?_)
   simp(disch:=omega) only[Try.f14,go_sem,↓reduceIte]
   refine hK _ ?_
   refine aB (aA rfl (bA (.tmp 11) rfl rfl rfl (fun h=>?_) (fun h=>?_)))
   ·refine aI rfl ?_
    have hkl:k<ps.length:=by omega
    have hwd:=fKu ps k hkl
    have hpd:=eTh ps k hkl
    have hdl:(ps.drop k).length=ps.length-k:=List.length_drop
    have hwb:(eF (ps.drop k)).length≤900000:=by omega
    have hX: ∀X o,nx+100+2000*k<X→W3 (upd g X o) w q1 m b1 F1∧∀j o',j≠w→j≠q→j≠m→hp j=some o'→upd g X o j=some o':=by
     intro X o hXk
     refine⟨⟨⟨?_,?_,hW1.h.ne⟩,?_,hW1.n1,hW1.n2⟩,fun j o' j1 j2 j3 hj=>?_⟩
     ·rw[bJ,J3 (by omega)];exact hW1.h.hw
     ·rw[bJ,J3 (by omega)];exact hW1.h.hq
     ·rw[bJ,J3 (by omega)];exact hW1.hm
     have:=hlt j o' hj
     rw[bJ,J3 (by omega)];exact hsub j o' j1 j2 j3 hj
    clear h
    refine aQ rfl (aB (aA rfl (aR 1 rfl rfl (aA rfl (aW [0,1,4,9,10] rfl rfl rfl fun K hK=>?_)))))
    simp(disch:=omega) only[Try.f14,go_sem,↓reduceIte]
    refine hK _ ?_
    refine aB (aA rfl (aC (Γ:=bC [(19,.fresh true rG)]) [0,1,4,5,9,10] (aH eVk aO) rfl rfl rfl (fun K hK=>?_)))
    simp(disch:=omega) only[Try.f14,go_sem,↓reduceIte,hdl]
    refine hK _ ?_
    refine aB ?_
    obtain⟨hW2,hsub2⟩:=hX (nx+100+2000*k+1+2+3) (AO.cells (c8 (fHk (ps.drop k))) true) (by omega)
    obtain⟨g2,hg2⟩: ∃y,upd g (nx+100+2000*k+1+2+3) (AO.cells (c8 (fHk (ps.drop k))) true)=y:=⟨_,rfl⟩
    rw[hg2]at hW2 hsub2⊢
    clear hX hg2 hW1 hsub
    have h1:=hW2.h.hw
    have h2:=hW2.h.hq
    have h3:=hW2.hm
    have h4:=hW2.h.ne
    rcases hgk:iK (fHk (ps.drop k)) F1 with _|a
    ·refine aA rfl (aA rfl (aW [0,1,4,5,6,7,9,10] rfl rfl rfl fun K hK=>?_))
     simp(disch:=omega) only[Try.f14,go_sem,↓reduceIte,h1,h3,fKc,hgk,Option.map_none]
     refine hK _ ?_
     refine aB (aA rfl (aW [27,0,1,4,5,6,9,10] rfl rfl rfl fun K hK=>?_))
     simp(disch:=omega) only[Try.f14,go_sem,↓reduceIte]
     refine hK _ ?_
     refine aB (eC (.tmp 27) rfl rfl rfl (fun h=>?_) (fun h=>?_))
     ·refine aI rfl ?_
      cases h
     refine aI rfl ?_
     clear h
     refine aQ rfl (aB (aA rfl (aA rfl (aW [38,0,1,4,5,9,10] rfl rfl rfl fun K hK=>?_))))
     simp(disch:=omega) only[Try.f14,go_sem,↓reduceIte,h1]
     refine hK _ ?_
     refine aB (bA (.tmp 38) rfl rfl rfl (fun h=>?_) (fun h=>?_))
     ·refine aI rfl ?_
      have hb14:b1.length<16384:=by omega
      clear h
      refine bB (Γ:=aL) (fun _=>2) [0,1,4,9,10] bZ (aD _ _) rfl rfl rfl (by kernel_rfl) (fun K hK=>?_)
      simp(disch:=omega) only[Try.f14,go_sem,↓reduceIte,h1,h3,fMa]
      refine hK _ ?_
      refine aB ?_
      obtain⟨F2,g3,hS3,hW3,hsub3,hg3⟩: ∃F2 g3,wnS (ps.drop (k+1)) (b1++ePy (ps.getD k [])) F2=wnS ps b F∧W3 g3 w q1 m b1 F2∧(∀j o',j≠w→j≠q→j≠m→hp j=some o'→g3 j=some o')∧upd g2 m (AO.mapo (fJe (kT (fHk (List.drop k ps)) b1.length F1)) true)=g3:=
       ⟨kT (fHk (List.drop k ps)) b1.length F1,_,by rw[←hS,hpd,fIg (hpd▸hgk),J4 hb14,←hpd],hW2.upM,fun j o' j1 j2 j3 hj=>by rw[bJ,J3 j3];exact hsub2 j o' j1 j2 j3 hj,rfl⟩
      first|rw[hg3]|(obtain rfl:=hg3)
      clear hS hW2 hsub2 h1 h2 h3 hg3
      have h1:=hW3.h.hw
      have h2:=hW3.h.hq
      have hlab:b1.length+1+(ps.getD k []).length≤900000:=by
       have:=congrArg List.length hwd
       simp only[List.length_append,ePy,List.length_cons]at this
       omega
      refine kU (nx+2000*k+200) (by omega) ?_
      have e6:b1++[BitVec.ofInt 8 ((ps.getD k []).length:Int)]++ps.getD k []=b1++ePy (ps.getD k []):=by simp[ePy]
      have hbl3:(b1++ePy (ps.getD k [])).length=b1.length+1+(ps.getD k []).length:=by simp only[List.length_append,ePy,List.length_cons];omega
      have hlen3:(b1++ePy (ps.getD k [])).length+(eF (ps.drop (k+1))).length=b.length+(eF ps).length:=by
       rw[←hlen,hwd,List.length_append,List.length_append,Nat.add_assoc]
      refine aYa (Γ:=aL) (fun k=>if k=4 then true else if k=8 then true else if k=11 then true else if k=12 then true else if k=16 then true else false) [(4,8),(4,11),(4,16),(8,16),(11,16),(12,16)] (fun _=>2) [0,1,9,10] bZ (aD _ _) rfl rfl rfl (by kernel_rfl) (fun K hK=>?_)
      simp(maxSteps:=400000) (disch:=omega) only[Try.f14,go_sem,and_self,and_true,true_and,ne_eq,not_false_eq_true,↓reduceIte,h1,h2,e6]
      refine hK _ ?_
      refine bU (aB (aW [0,1,9,10] rfl rfl rfl fun K hK=>?_))
      simp(disch:=omega) only[Try.f14,go_sem,↓reduceIte]
      refine hK _ ?_
      refine bT ?_
      obtain⟨g',hg'⟩: ∃y,upd (upd (del (upd (del (upd g3 (nx+2000*k+200+11) (AO.cells [AV.w8 (BitVec.ofInt 8 ((ps.getD k []).length:Int))] true)) q1) (nx+2000*k+200+12) (AO.cells (c8 (b1++[BitVec.ofInt 8 ((ps.getD k []).length:Int)])) true)) (nx+2000*k+200+12)) (nx+2000*k+200+17) (AO.cells (c8 (b1++ePy (ps.getD k []))) true)) w (AO.cells [AV.os (nx+2000*k+200+17) 0 (b1.length+1+(ps.getD k []).length) 1 true,AV.mp m] true)=y:=⟨_,rfl⟩
      rw[hg']
      refine⟨⟨k+1,g',nx+2000*k+200+17,b1++ePy (ps.getD k []),F2⟩,⟨by simp only;omega,hS3,⟨⟨?_,?_,?_⟩,?_,hW3.n1,?_⟩,fun j o j1 j2 j3 hj=>?_,.inr (by simp only;omega),by simp only;omega,hlen3⟩,by simp only;omega,bD ?_ rfl (by simp only;omega)⟩
      ·simp only;rw[←hg',bJ,J4 rfl,hbl3]
      ·simp only;rw[←hg',bJ,J3 (by omega),bJ,J4 rfl]
      ·simp only;omega
      ·simp only;rw[←hg',bJ,J3 (by omega),bJ,J3 (by omega),eV,J3 (by omega),bJ,J3 (by omega),eV,J3 hW3.n2,bJ,J3 (by omega)];exact hW3.hm
      ·simp only;omega
      ·have:=hlt j o hj
       simp only;rw[←hg',bJ,J3 j1,bJ,J3 (by omega),eV,J3 (by omega),bJ,J3 (by omega),eV,J3 (by omega),bJ,J3 (by omega)];exact hsub3 j o j1 j2 j3 hj
      simp only[Int.natCast_add,Int.natCast_one]
     refine aI rfl ?_
     have hb14: ¬b1.length<16384:=by omega
     clear h
     refine aQ rfl (aB ?_)
     obtain⟨F2,g3,hS3,hW3,hsub3,hg3⟩: ∃F2 g3,wnS (ps.drop (k+1)) (b1++ePy (ps.getD k [])) F2=wnS ps b F∧W3 g3 w q1 m b1 F2∧(∀j o',j≠w→j≠q→j≠m→hp j=some o'→g3 j=some o')∧g2=g3:=
      ⟨F1,_,by rw[←hS,hpd,fIg (hpd▸hgk),J3 hb14],hW2,hsub2,rfl⟩
     first|rw[hg3]|(obtain rfl:=hg3)
     clear hS hW2 hsub2 h1 h2 h3 hg3
     have h1:=hW3.h.hw
     have h2:=hW3.h.hq
     have hlab:b1.length+1+(ps.getD k []).length≤900000:=by
      have:=congrArg List.length hwd
      simp only[List.length_append,ePy,List.length_cons]at this
      omega
     refine kU (nx+2000*k+200) (by omega) ?_
     have e6:b1++[BitVec.ofInt 8 ((ps.getD k []).length:Int)]++ps.getD k []=b1++ePy (ps.getD k []):=by simp[ePy]
     have hbl3:(b1++ePy (ps.getD k [])).length=b1.length+1+(ps.getD k []).length:=by simp only[List.length_append,ePy,List.length_cons];omega
     have hlen3:(b1++ePy (ps.getD k [])).length+(eF (ps.drop (k+1))).length=b.length+(eF ps).length:=by
      rw[←hlen,hwd,List.length_append,List.length_append,Nat.add_assoc]
     refine aYa (Γ:=aL) (fun k=>if k=4 then true else if k=8 then true else if k=11 then true else if k=12 then true else if k=16 then true else false) [(4,8),(4,11),(4,16),(8,16),(11,16),(12,16)] (fun _=>2) [0,1,9,10] bZ (aD _ _) rfl rfl rfl (by kernel_rfl) (fun K hK=>?_)
     simp(maxSteps:=400000) (disch:=omega) only[Try.f14,go_sem,and_self,and_true,true_and,ne_eq,not_false_eq_true,↓reduceIte,h1,h2,e6]
     refine hK _ ?_
     refine bU (aB (aW [0,1,9,10] rfl rfl rfl fun K hK=>?_))
     simp(disch:=omega) only[Try.f14,go_sem,↓reduceIte]
     refine hK _ ?_
     refine bT ?_
     obtain⟨g',hg'⟩: ∃y,upd (upd (del (upd (del (upd g3 (nx+2000*k+200+11) (AO.cells [AV.w8 (BitVec.ofInt 8 ((ps.getD k []).length:Int))] true)) q1) (nx+2000*k+200+12) (AO.cells (c8 (b1++[BitVec.ofInt 8 ((ps.getD k []).length:Int)])) true)) (nx+2000*k+200+12)) (nx+2000*k+200+17) (AO.cells (c8 (b1++ePy (ps.getD k []))) true)) w (AO.cells [AV.os (nx+2000*k+200+17) 0 (b1.length+1+(ps.getD k []).length) 1 true,AV.mp m] true)=y:=⟨_,rfl⟩
     rw[hg']
     refine⟨⟨k+1,g',nx+2000*k+200+17,b1++ePy (ps.getD k []),F2⟩,⟨by simp only;omega,hS3,⟨⟨?_,?_,?_⟩,?_,hW3.n1,?_⟩,fun j o j1 j2 j3 hj=>?_,.inr (by simp only;omega),by simp only;omega,hlen3⟩,by simp only;omega,bD ?_ rfl (by simp only;omega)⟩
     ·simp only;rw[←hg',bJ,J4 rfl,hbl3]
     ·simp only;rw[←hg',bJ,J3 (by omega),bJ,J4 rfl]
     ·simp only;omega
     ·simp only;rw[←hg',bJ,J3 (by omega),bJ,J3 (by omega),eV,J3 (by omega),bJ,J3 (by omega),eV,J3 hW3.n2,bJ,J3 (by omega)];exact hW3.hm
     ·simp only;omega
     ·have:=hlt j o hj
      simp only;rw[←hg',bJ,J3 j1,bJ,J3 (by omega),eV,J3 (by omega),bJ,J3 (by omega),eV,J3 (by omega),bJ,J3 (by omega)];exact hsub3 j o j1 j2 j3 hj
     simp only[Int.natCast_add,Int.natCast_one]
    refine aA rfl (aA rfl (aW [0,1,4,5,6,7,9,10] rfl rfl rfl fun K hK=>?_))
    simp(disch:=omega) only[Try.f14,go_sem,↓reduceIte,h1,h3,fKc,hgk,Option.map_none,Option.map_some]
    refine hK _ ?_
    refine aB (aA rfl (aW [27,0,1,4,5,6,9,10] rfl rfl rfl fun K hK=>?_))
    simp(disch:=omega) only[Try.f14,go_sem,↓reduceIte]
    refine hK _ ?_
    refine aB (eC (.tmp 27) rfl rfl rfl (fun h=>?_) (fun h=>?_))
    ·refine aI rfl ?_
     clear h
     refine kU (nx+2000*k+1000) (by omega) (aA rfl (aC (Γ:=bC [(12,.heap fHp)]) [] (aH fHt aO) rfl rfl rfl (fun K hK=>?_)))
     simp(disch:=omega) only[Try.f14,go_sem,↓reduceIte,yQ hW2.h]
     refine hK _ ?_
     refine aB (aS rfl (bI (bN (bI (dF (bN (bI ?_)))))))
     have hS2:wnS ps b F=(b1++beL (49152#32|||BitVec.ofInt 32 (a:Int)) 2 2,F1,(ps.drop (k+1)).length+1):=by rw[←hS,hpd,fJq (hpd▸hgk)]
     rw[hS2]
     have e:wnQ nx ps.length ((ps.drop (k+1)).length+1)=nx+2000*k+1000+5+17+21:=by
      rw[wnQ,J3 (by omega),List.length_drop];omega
     refine⟨rfl,?_,by simp only;omega⟩
     simp only[e,fHr,Nat.mul_one]
     refine fHx (hW2.num (by omega) (by omega)) fun j o j1 j2 j3 hj=>?_
     have hd:=fId hj
     have:=hlt j o hd.2
     rw[fHv j1 j2,eV,J3 (by omega)]
     exact hsub2 j o j1 hd.1 j3 hd.2
    refine aI rfl ?_
    cases h
   refine aI rfl ?_
   obtain rfl:k=ps.length:=by omega
   clear h
   refine bF 0 rfl rfl (aY (aZ (bE (aB ?_))))
   have h1:=hW1.h.hw
   have h2:=hW1.h.hq
   have h4:=hW1.h.ne
   have hb9:b1.length≤900000:=by omega
   refine kU (nx+2000*ps.length+1000) (by omega) (aW [] rfl rfl rfl fun K hK=>?_)
   simp(disch:=omega) only[Try.f14,go_sem,↓reduceIte,h1,h2]
   refine hK _ ?_
   have hS2:wnS ps b F=(b1++[0#8],F1,0):=by rw[←hS,List.drop_length];rfl
   have hbl:(b1++[0#8]).length=b1.length+1:=by simp
   rw[hS2]
   obtain⟨g',hg'⟩: ∃y,upd (upd (del (upd g (nx+2000*ps.length+1000+5) (AO.cells [AV.w8 0#8] true)) q1) (nx+2000*ps.length+1000+6) (AO.cells (c8 (b1++[0#8])) true)) w (AO.cells [AV.os (nx+2000*ps.length+1000+6) 0 (b1.length+1) 1 true,AV.mp m] true)=y:=⟨_,rfl⟩
   rw[hg']
   refine⟨rfl,?_,by simp only;omega⟩
   simp only[wnQ,if_true]
   refine fHx ⟨⟨?_,?_,by omega⟩,?_,n1,by omega⟩ fun j o j1 j2 j3 hj=>?_
   ·rw[←hg',bJ,J4 rfl,hbl]
   ·rw[←hg',bJ,J3 (by omega),bJ,J4 rfl]
   ·rw[←hg',bJ,J3 n1,bJ,J3 (by omega),eV,J3 hW1.n2,bJ,J3 (by omega)];exact hW1.hm
   have hd:=fId hj
   have:=hlt j o hd.2
   rw[←hg',bJ,J3 j1,bJ,J3 j2,eV,J3 (by omega),bJ,J3 (by omega)];exact hsub j o j1 hd.1 j3 hd.2
  refine aA rfl (aA rfl (aW [0,1,9,10] rfl rfl rfl fun K hK=>?_))
  simp(disch:=omega) only[Try.f14,go_sem,↓reduceIte]
  refine hK _ ?_
  refine aB (aR 0 rfl rfl (bR (fun k:Nat=> {fr:=[(0,.op w 0),(1,.v (.slice none 0 0)),(9,.i 0),(10,.i 0)],hp:=hp,nx:=0,cx:=nx+100}) (fun k=>k=0) (fun k=>k) rfl ⟨0,rfl,bD rfl rfl (by simp only;omega)⟩ ?_))
  rintro k hk0 n0
  simp only at hk0⊢
  refine aA rfl (aW [11,0,1,9,10] rfl rfl rfl fun K hK=>?_)
  simp(disch:=omega) only[Try.f14,go_sem,↓reduceIte]
  refine hK _ ?_
  refine aB (aA rfl (eC (.tmp 11) rfl rfl rfl (fun h=>?_) (fun h=>?_)))
  ·refine aI rfl ?_
   cases h
  refine aI rfl ?_
  clear h
  refine bF 0 rfl rfl (aY (aZ (bE (aB ?_))))
  obtain⟨q1,b1,F1,g,hW1,hS,hq1⟩: ∃q1 b1 F1 g,W3 g w q1 m b1 F1∧g=hp∧q1=q∧b1=b∧F1=F:=⟨q,b,F,hp,hW,rfl,rfl,rfl,rfl⟩
  subst hS
  obtain⟨rfl,rfl,rfl⟩:=hq1
  have hsub: ∀j o,j≠w→j≠q1→j≠m→g j=some o→g j=some o:=fun j o _ _ _ h=>h
  have h1:=hW1.h.hw
  have h2:=hW1.h.hq
  have h4:=hW1.h.ne
  have hb9:b1.length≤900000:=by omega
  refine kU (nx+1000) (by omega) (aW [] rfl rfl rfl fun K hK=>?_)
  simp(disch:=omega) only[Try.f14,go_sem,↓reduceIte,h1,h2]
  refine hK _ ?_
  have hS2:wnS [] b1 F1=(b1++[0#8],F1,0):=rfl
  have hbl:(b1++[0#8]).length=b1.length+1:=by simp
  rw[hS2]
  obtain⟨g',hg'⟩: ∃y,upd (upd (del (upd g (nx+1000+5) (AO.cells [AV.w8 0#8] true)) q1) (nx+1000+6) (AO.cells (c8 (b1++[0#8])) true)) w (AO.cells [AV.os (nx+1000+6) 0 (b1.length+1) 1 true,AV.mp m] true)=y:=⟨_,rfl⟩
  rw[hg']
  refine⟨rfl,?_,by simp only;omega⟩
  simp only[wnQ,if_true,List.length_nil,Nat.mul_zero,Nat.add_zero]
  refine fHx ⟨⟨?_,?_,by omega⟩,?_,n1,by omega⟩ fun j o j1 j2 j3 hj=>?_
  ·rw[←hg',bJ,J4 rfl,hbl]
  ·rw[←hg',bJ,J3 (by omega),bJ,J4 rfl]
  ·rw[←hg',bJ,J3 n1,bJ,J3 (by omega),eV,J3 hW1.n2,bJ,J3 (by omega)];exact hW1.hm
  have hd:=fId hj
  have:=hlt j o hd.2
  rw[←hg',bJ,J3 j1,bJ,J3 j2,eV,J3 (by omega),bJ,J3 (by omega)];exact hsub j o j1 hd.1 j3 hd.2
 cases hg
theorem fLu:bX Try.prog GLh 14 (.heap fIf):=⟨⟨_,Try.func14,rfl,rfl⟩,fLm⟩
end Go.AX

namespace Go.AX
open Go Go.Proofs
set_option maxRecDepth 8000
structure RC where
 nm:Nm
 ty:BitVec 16
 cl:BitVec 16
 ttl:W32
 d:List B8
def fMd:AV→Option (List B8)
 | .sl n xs=>aK (fHq xs) fun d=>aN (d.length=n) (some d)
 | .v (.slice none 0 0)=>some []
 |_=>none
theorem fMc {x:AV} {d:List B8} (h:fMd x=some d):x=.sl d.length (c8 d)∨(x=.v (.slice none 0 0)∧d=[]):=by
 unfold fMd at h
 split at h
 ·replace h:=aJ h;obtain⟨qs,hq,h⟩:=h
  replace h:=aP h;obtain⟨rfl,h⟩:=h
  obtain rfl:=J0 h
  have:=bW hq;subst this
  exact .inl rfl
 ·obtain rfl:=J0 h
  exact .inr ⟨rfl,rfl⟩
 cases h
def fLo (c:RC):List AV:=[.sl c.nm.length (cS c.nm),.w16 c.ty,.w16 c.cl,.w32 c.ttl,.sl c.d.length (c8 c.d)]
def fIq:List AV→Option RC
 |[x,.w16 t,.w16 c,.w32 l,y]=>aK (fJx x) fun ps=>aK (fMd y) fun d=>some ⟨ps,t,c,l,d⟩
 |_=>none
theorem fMp (c:RC):fIq (fLo c)=some c:=by
 obtain⟨nm,ty,cl,ttl,d⟩:=c
 simp only[fLo,fIq,fJx,fMd,aQr,iA,aX,aN,if_true]
theorem fLa {xs:List AV} {c:RC} (h:fIq xs=some c): ∃x y,xs=[x,.w16 c.ty,.w16 c.cl,.w32 c.ttl,y]∧fJx x=some c.nm∧fMd y=some c.d:=by
 unfold fIq at h
 split at h
 ·replace h:=aJ h;obtain⟨ps,hp,h⟩:=h
  replace h:=aJ h;obtain⟨d,hd,h⟩:=h
  obtain rfl:=J0 h
  exact⟨_,_,rfl,hp,hd⟩
 cases h
def wrS (c:RC) (b:List B8) (F:WF):List B8×WF:=
 ((wnS c.nm b F).1++beL (BitVec.setWidth 32 c.ty) 2 2++beL (BitVec.setWidth 32 c.cl) 2 2++beL c.ttl 4 4++beL (BitVec.ofInt 32 (c.d.length:Int)) 2 2++c.d,(wnS c.nm b F).2.1)
theorem fJk (n:Nm): ∀(b:List B8) (F:WF),(wnS n b F).1.length≤b.length+(eF n).length+2:=by
 induction n with
 |nil=>intro b F;simp[wnS,fJr]
 |cons l r ih=>
  intro b F
  rw[wnS,eNx]
  split
  ·simp[cZ]
  refine Nat.le_trans (ih _ _) ?_
  simp only[List.length_append];omega
structure WS (hp:H) (n w q0 m:Nat) (g:H) (q:Nat) (b:List B8) (F:WF):Prop where
 h:W3 g w q m b F
 sub: ∀j o,j≠w→j≠q0→j≠m→j<n→hp j=some o→g j=some o
 hq:q=q0∨n≤q
 wl:w<n
 ml:m<n
theorem WS.num {hp g:H} {n w q0 m q q':Nat} {b b':List B8} {F:WF} (h:WS hp n w q0 m g q b F) (hq:n≤q'):WS hp n w q0 m (fHw w q' b' (.mp m) (del g q)) q' b' F:=by
 have:=h.wl;have:=h.ml
 refine⟨h.h.num (by omega) (by omega),fun j o j1 j2 j3 j4 hj=>?_,.inr hq,h.wl,h.ml⟩
 have:=h.hq
 rw[fHv j1 (by omega),eV,J3 (by omega)]
 exact h.sub j o j1 j2 j3 j4 hj
theorem WS.name {hp g:H} {n w q0 m q q':Nat} {b b':List B8} {F F':WF} (h:WS hp n w q0 m g q b F) (hq:n≤q'):WS hp n w q0 m (fIb w q' m b' F' (del g q)) q' b' F':=by
 have:=h.wl;have:=h.ml
 refine⟨fKy (by omega) h.h.n1 (by omega),fun j o j1 j2 j3 j4 hj=>?_,.inr hq,h.wl,h.ml⟩
 have:=h.hq
 rw[fKz j1 (by omega) j3,eV,J3 (by omega)]
 exact h.sub j o j1 j2 j3 j4 hj
theorem fHl {P:Program} {GL:Nat→Option (List AV)} {nt:Nat} {code:Code} {Q:Exit→S→Prop} {fr:List (Nat×AV)} {hp g:H} {n w q0 m q q' nx cx:Nat} {b b':List B8} {F:WF} (h:WS hp n w q0 m g q b F) (hq:n≤q')
  (h2: ∀g2 b2,b2=b'→WS hp n w q0 m g2 q' b2 F→Awp P GL nt code {fr:=fr,hp:=g2,nx:=nx,cx:=cx} Q):Awp P GL nt code {fr:=fr,hp:=fHw w q' b' (.mp m) (del g q),nx:=nx,cx:=cx} Q:=h2 _ _ rfl (h.num hq)
theorem fIe {P:Program} {GL:Nat→Option (List AV)} {nt:Nat} {code:Code} {Q:Exit→S→Prop} {fr:List (Nat×AV)} {hp g:H} {n w q0 m q q' nx cx:Nat} {b b':List B8} {F F':WF} (h:WS hp n w q0 m g q b F) (hq:n≤q')
  (h2: ∀g2 b2 F2,b2=b'→F2=F'→WS hp n w q0 m g2 q' b2 F2→Awp P GL nt code {fr:=fr,hp:=g2,nx:=nx,cx:=cx} Q):Awp P GL nt code {fr:=fr,hp:=fIb w q' m b' F' (del g q),nx:=nx,cx:=cx} Q:=h2 _ _ _ rfl rfl (h.name hq)
theorem fKe (nx n k:Nat):nx≤wnQ nx n k:=by unfold wnQ;split<;>omega
noncomputable def fJf:List AV→H→Nat→Option (AV×H×Nat)
 |[.op w 0,.agg xs],hp,nx=>aK (fJt hp w) fun t=>aK (fIq xs) fun c=>aN (c.nm.length≤255∧t.b.length+(eF c.nm).length+c.d.length≤800000)
   (some (.tup [],fIb w (nx+2000*(c.nm.length+1)+2007) t.m (wrS c t.b t.F).1 (wrS c t.b t.F).2 (del hp t.q),nx+2000*(c.nm.length+3)))
 |_,_,_=>none
theorem fLj (w:Nat) (xs:List AV) (hp:H) (nx:Nat):fJf [.op w 0,.agg xs] hp nx=aK (fJt hp w) fun t=>aK (fIq xs) fun c=>aN (c.nm.length≤255∧t.b.length+(eF c.nm).length+c.d.length≤800000)
   (some (.tup [],fIb w (nx+2000*(c.nm.length+1)+2007) t.m (wrS c t.b t.F).1 (wrS c t.b t.F).2 (del hp t.q),nx+2000*(c.nm.length+3))):=(rfl)
attribute [go_sem] fLj
set_option maxHeartbeats 4000000 in
theorem fMj:fHs Try.prog GLh 15 fJf:=by
 refine gF Try.func15 (aT rfl) ?_
 intro args hp nx r hp' nx' hg
 unfold fJf at hg
 split at hg
 ·rename_i w xs
  replace hg:=aJ hg;obtain⟨⟨q,m,b,F⟩,hW0,hg⟩:=hg
  have hW:=fJs hW0
  replace hg:=aJ hg;obtain⟨c,hc,hg⟩:=hg
  obtain⟨x,y,rfl,hx,hy⟩:=fLa hc
  replace hg:=aP hg;obtain⟨⟨hn,hbig⟩,hg⟩:=hg
  simp only[Option.some.injEq,Prod.mk.injEq]at hg hW hbig;obtain⟨rfl,rfl,rfl⟩:=hg
  refine⟨J1 rfl,by omega,fun hnone=>?_⟩
  have hlt: ∀k o,hp k=some o→k<nx:=fun k o hk=>lI hnone hk
  have hwl:=hlt _ _ hW.h.hw
  have hql:=hlt _ _ hW.h.hq
  have hml:=hlt _ _ hW.hm
  obtain⟨n1,n2⟩:=And.intro hW.n1 hW.n2
  obtain⟨nm,ty,cl,ttl,d⟩:=c
  simp only at hn hbig
  have hwn:=fJk nm b F
  simp only at hx hy
  rcases fMc hy with rfl|⟨rfl,rfl⟩
  ·obtain⟨bx,hbx⟩: ∃o,AO.cells [x,AV.w16 ty,AV.w16 cl,AV.w32 ttl,AV.sl d.length (c8 d)] true=o:=⟨_,rfl⟩
   have h0:WS (upd hp nx bx) (nx+1) w q m (upd hp nx bx) q b F:=by
    refine⟨⟨⟨?_,?_,hW.h.ne⟩,?_,n1,n2⟩,fun j o _ _ _ _ hj=>hj,.inl rfl,by omega,by omega⟩
    ·rw[bJ,J3 (by omega)];exact hW.h.hw
    ·rw[bJ,J3 (by omega)];exact hW.h.hq
    rw[bJ,J3 (by omega)];exact hW.hm
   have hkeep: ∀ {g2 q2 b2 F2},WS (upd hp nx bx) (nx+1) w q m g2 q2 b2 F2→g2 nx=some (AO.cells [x,AV.w16 ty,AV.w16 cl,AV.w32 ttl,AV.sl d.length (c8 d)] true):=fun h=>
    h.sub nx _ (by omega) (by omega) (by omega) (by omega) (by rw[bJ,J4 rfl,hbx])
   refine aA rfl (aW [0,3] rfl rfl rfl fun K hK=>?_)
   simp(disch:=omega) only[Try.f15,go_sem,↓reduceIte]
   refine hK _ ?_
   refine aB ?_
   rw[hbx]
   refine aA rfl (aC (Γ:=bC [(14,.heap fIf)]) [0,3] (aH fLu aO) rfl rfl rfl (fun K hK=>?_))
   simp(disch:=omega) only[Try.f15,go_sem,↓reduceIte,hkeep h0,fIa h0.h,hx]
   refine hK _ ?_
   refine aB ?_
   have hQ:=fKe
   refine fIe h0 (Nat.le_trans (by omega) (hQ _ _ _)) fun g1 b1 F1 eb1 eF1 h1=>?_
   rw[←eb1]at hwn
   have hl1:b1.length≤800002+0:=by omega
   refine aA rfl (aC (Γ:=bC [(12,.heap fHp)]) [0,3] (aH fHt aO) rfl rfl rfl (fun K hK=>?_))
   simp(disch:=omega) only[Try.f15,go_sem,↓reduceIte,hkeep h1,yQ h1.h.h]
   refine hK _ ?_
   refine aB ?_
   simp only[fHr,Nat.mul_one]
   refine fHl h1 (by omega) fun g2 b2 eb2 h2=>?_
   have hl2:b2.length≤800002+4:=by rw[eb2,List.length_append,cZ];omega
   refine aA rfl (aC (Γ:=bC [(12,.heap fHp)]) [0,3] (aH fHt aO) rfl rfl rfl (fun K hK=>?_))
   simp(disch:=omega) only[Try.f15,go_sem,↓reduceIte,hkeep h2,yQ h2.h.h]
   refine hK _ ?_
   refine aB ?_
   simp only[fHr,Nat.mul_one]
   refine fHl h2 (by omega) fun g3 b3 eb3 h3=>?_
   have hl3:b3.length≤800002+8:=by rw[eb3,List.length_append,cZ];omega
   refine aA rfl (aC (Γ:=bC [(12,.heap fHp)]) [0,3] (aH fHt aO) rfl rfl rfl (fun K hK=>?_))
   simp(disch:=omega) only[Try.f15,go_sem,↓reduceIte,hkeep h3,yQ h3.h.h]
   refine hK _ ?_
   refine aB ?_
   simp only[fHr]
   refine fHl h3 (by omega) fun g4 b4 eb4 h4=>?_
   have hl4:b4.length≤800002+12:=by rw[eb4,List.length_append,cZ];omega
   refine aA rfl (aC (Γ:=bC [(12,.heap fHp)]) [0,3] (aH fHt aO) rfl rfl rfl (fun K hK=>?_))
   simp(disch:=omega) only[Try.f15,go_sem,↓reduceIte,hkeep h4,yQ h4.h.h]
   refine hK _ ?_
   refine aB ?_
   simp only[fHr,Nat.mul_one]
   refine fHl h4 (by omega) fun g5 b5 eb5 h5=>?_
   have hl5:b5.length≤800002+16:=by rw[eb5,List.length_append,cZ];omega
   refine kU (nx+2000*(nm.length+1)+2000) (by omega) ?_
   have ha:=h5.h.h.hw
   have hb:=h5.h.h.hq
   have hwq:=h5.h.h.ne
   refine aYa (Γ:=aL) (fun k=>if k=4 then true else if k=6 then true else false) [(4,6)] (fun _=>2) [] bZ (aD _ _) rfl rfl rfl (by kernel_rfl) (fun K hK=>?_)
   simp(maxSteps:=400000) (disch:=omega) only[Try.f15,go_sem,and_self,and_true,true_and,↓reduceIte,hkeep h5,ha,hb]
   refine hK _ ?_
   obtain⟨q5,hq5⟩: ∃x,nx+1+4+2000*(nm.length+1)+5+400+5+400+4+400+6+17+21=x:=⟨_,rfl⟩
   simp only[hq5]at h5 hwq⊢
   have e1:(wrS ⟨nm,ty,cl,ttl,d⟩ b F)=(b5++d,F1):=by
    simp only[wrS,eb5,eb4,eb3,eb2,eb1,eF1]
   have e2:(b5++d).length=b5.length+d.length:=List.length_append
   rw[e1]
   obtain⟨g',hg'⟩: ∃y,upd (upd (del g5 q5) (nx+2000*(nm.length+1)+2000+7) (AO.cells (c8 (b5++d)) true)) w (AO.cells [AV.os (nx+2000*(nm.length+1)+2000+7) 0 (b5.length+d.length) 1 true,AV.mp m] true)=y:=⟨_,rfl⟩
   rw[hg']
   refine⟨rfl,?_,by simp only;omega⟩
   simp only
   refine fHx ⟨⟨?_,?_,by omega⟩,?_,n1,by omega⟩ fun j o j1 j2 j3 hj=>?_
   ·rw[←hg',bJ,J4 rfl,e2]
   ·rw[←hg',bJ,J3 (by omega),bJ,J4 rfl]
   ·rw[←hg',bJ,J3 n1,bJ,J3 (by omega),eV,J3 h5.h.n2];exact h5.h.hm
   have hd:=fId hj
   have:=hlt j o hd.2
   have h6:=h5.sub j o j1 hd.1 j3 (by omega) (by rw[bJ,J3 (by omega)];exact hd.2)
   rw[←hg',bJ,J3 j1,bJ,J3 j2,eV,J3 (by omega)];exact h6
  obtain⟨bx,hbx⟩: ∃o,AO.cells [x,AV.w16 ty,AV.w16 cl,AV.w32 ttl,AV.v (Value.slice none 0 0)] true=o:=⟨_,rfl⟩
  have h0:WS (upd hp nx bx) (nx+1) w q m (upd hp nx bx) q b F:=by
   refine⟨⟨⟨?_,?_,hW.h.ne⟩,?_,n1,n2⟩,fun j o _ _ _ _ hj=>hj,.inl rfl,by omega,by omega⟩
   ·rw[bJ,J3 (by omega)];exact hW.h.hw
   ·rw[bJ,J3 (by omega)];exact hW.h.hq
   rw[bJ,J3 (by omega)];exact hW.hm
  have hkeep: ∀ {g2 q2 b2 F2},WS (upd hp nx bx) (nx+1) w q m g2 q2 b2 F2→g2 nx=some (AO.cells [x,AV.w16 ty,AV.w16 cl,AV.w32 ttl,AV.v (Value.slice none 0 0)] true):=fun h=>
   h.sub nx _ (by omega) (by omega) (by omega) (by omega) (by rw[bJ,J4 rfl,hbx])
  refine aA rfl (aW [0,3] rfl rfl rfl fun K hK=>?_)
  simp(disch:=omega) only[Try.f15,go_sem,↓reduceIte]
  refine hK _ ?_
  refine aB ?_
  rw[hbx]
  refine aA rfl (aC (Γ:=bC [(14,.heap fIf)]) [0,3] (aH fLu aO) rfl rfl rfl (fun K hK=>?_))
  simp(disch:=omega) only[Try.f15,go_sem,↓reduceIte,hkeep h0,fIa h0.h,hx]
  refine hK _ ?_
  refine aB ?_
  have hQ:=fKe
  refine fIe h0 (Nat.le_trans (by omega) (hQ _ _ _)) fun g1 b1 F1 eb1 eF1 h1=>?_
  rw[←eb1]at hwn
  have hl1:b1.length≤800002+0:=by omega
  refine aA rfl (aC (Γ:=bC [(12,.heap fHp)]) [0,3] (aH fHt aO) rfl rfl rfl (fun K hK=>?_))
  simp(disch:=omega) only[Try.f15,go_sem,↓reduceIte,hkeep h1,yQ h1.h.h]
  refine hK _ ?_
  refine aB ?_
  simp only[fHr,Nat.mul_one]
  refine fHl h1 (by omega) fun g2 b2 eb2 h2=>?_
  have hl2:b2.length≤800002+4:=by rw[eb2,List.length_append,cZ];omega
  refine aA rfl (aC (Γ:=bC [(12,.heap fHp)]) [0,3] (aH fHt aO) rfl rfl rfl (fun K hK=>?_))
  simp(disch:=omega) only[Try.f15,go_sem,↓reduceIte,hkeep h2,yQ h2.h.h]
  refine hK _ ?_
  refine aB ?_
  simp only[fHr,Nat.mul_one]
  refine fHl h2 (by omega) fun g3 b3 eb3 h3=>?_
  have hl3:b3.length≤800002+8:=by rw[eb3,List.length_append,cZ];omega
  refine aA rfl (aC (Γ:=bC [(12,.heap fHp)]) [0,3] (aH fHt aO) rfl rfl rfl (fun K hK=>?_))
  simp(disch:=omega) only[Try.f15,go_sem,↓reduceIte,hkeep h3,yQ h3.h.h]
  refine hK _ ?_
  refine aB ?_
  simp only[fHr]
  refine fHl h3 (by omega) fun g4 b4 eb4 h4=>?_
  have hl4:b4.length≤800002+12:=by rw[eb4,List.length_append,cZ];omega
  refine aA rfl (aC (Γ:=bC [(12,.heap fHp)]) [0,3] (aH fHt aO) rfl rfl rfl (fun K hK=>?_))
  simp(disch:=omega) only[Try.f15,go_sem,↓reduceIte,hkeep h4,yQ h4.h.h]
  refine hK _ ?_
  refine aB ?_
  simp only[fHr,Nat.mul_one]
  refine fHl h4 (by omega) fun g5 b5 eb5 h5=>?_
  have hl5:b5.length≤800002+16:=by rw[eb5,List.length_append,cZ];omega
  refine kU (nx+2000*(nm.length+1)+2000) (by omega) ?_
  have ha:=h5.h.h.hw
  have hb:=h5.h.h.hq
  have hwq:=h5.h.h.ne
  refine aYa (Γ:=aL) (fun k=>if k=4 then true else if k=6 then true else false) [(4,6)] (fun _=>2) [] bZ (aD _ _) rfl rfl rfl (by kernel_rfl) (fun K hK=>?_)
  simp(maxSteps:=400000) (disch:=omega) only[Try.f15,go_sem,and_self,and_true,true_and,↓reduceIte,hkeep h5,ha,hb]
  refine hK _ ?_
  obtain⟨q5,hq5⟩: ∃x,nx+1+4+2000*(nm.length+1)+5+400+5+400+4+400+6+17+21=x:=⟨_,rfl⟩
  simp only[hq5]at h5 hwq⊢
  have e1:(wrS ⟨nm,ty,cl,ttl,[]⟩ b F)=(b5,F1):=by
   simp only[wrS,eb5,eb4,eb3,eb2,eb1,eF1,List.append_nil,List.length_nil,Int.natCast_zero]
   rfl
  rw[e1]
  obtain⟨g',hg'⟩: ∃y,upd (upd (del g5 q5) (nx+2000*(nm.length+1)+2000+7) (AO.cells (c8 b5) true)) w (AO.cells [AV.os (nx+2000*(nm.length+1)+2000+7) 0 (b5.length) 1 true,AV.mp m] true)=y:=⟨_,rfl⟩
  rw[hg']
  refine⟨rfl,?_,by simp only;omega⟩
  simp only
  refine fHx ⟨⟨?_,?_,by omega⟩,?_,n1,by omega⟩ fun j o j1 j2 j3 hj=>?_
  ·rw[←hg',bJ,J4 rfl]
  ·rw[←hg',bJ,J3 (by omega),bJ,J4 rfl]
  ·rw[←hg',bJ,J3 n1,bJ,J3 (by omega),eV,J3 h5.h.n2];exact h5.h.hm
  have hd:=fId hj
  have:=hlt j o hd.2
  have h6:=h5.sub j o j1 hd.1 j3 (by omega) (by rw[bJ,J3 (by omega)];exact hd.2)
  rw[←hg',bJ,J3 j1,bJ,J3 j2,eV,J3 (by omega)];exact h6
 cases hg
theorem fNg:bX Try.prog GLh 15 (.heap fJf):=⟨⟨_,Try.func15,rfl,rfl⟩,fMj⟩
end Go.AX

namespace Go.AX
open Go Go.Proofs
set_option maxRecDepth 8000
section
variable {P : Program} {GL : Nat → Option (List AV)} {nt : Nat} {Q : Exit → S → Prop} {s t : S} {ι : Type} {st : ι → S} {inv : ι → Prop}
def dWp (st:ι→S) (inv:ι→Prop) (Q:Exit→S→Prop):Exit→S→Prop
 | .normal,t=> ∃i,inv i∧Sub (st i) t
 |e,t=>Q e t
theorem dWd (st:ι→S) (inv:ι→Prop) {x y:Code} (h:Awp P GL nt x s (dWp st inv Q)) (hb: ∀i,inv i→∀n,Awp P GL nt y {st i with nx:=n} Q):Awp P GL nt x s (oS P GL nt y Q):=
 dCq h fun e t hq=>by
  cases e with
  |normal=>
   obtain⟨i,hi,hs⟩:=hq
   exact tU (hb i hi t.nx) ⟨hs.fr,hs.hp,hs.cx⟩ rfl
  |_=>exact hq
theorem dWa (h: ∃i,inv i∧Sub (st i) t):dWp st inv Q .normal t:=h
end
def bCu:List AV→Option AV
 |[.b c,.w32 x]=>some (.w32 (if c=true then x else 0#32))
 |_=>none
theorem cCk (c:Bool) (x:W32):bCu [.b c,.w32 x]=some (.w32 (if c=true then x else 0#32)):=(rfl)
attribute [go_sem] cCk
theorem cRb:fHn Try.prog GLh 13 bCu:=by
 refine zK Try.func13 (aT rfl) ?_
 intro args r hg
 unfold bCu at hg
 split at hg
 ·rename_i c x
  obtain rfl:=J0 hg
  refine⟨J1 rfl,fun nx=>?_⟩
  refine aA rfl (aW [0,1] rfl rfl rfl fun K hK=>?_)
  simp(disch:=omega) only[Try.f13,go_sem,↓reduceIte]
  refine hK _ ?_
  refine aB (aA rfl (aA rfl (aW [5,1] rfl rfl rfl fun K hK=>?_)))
  simp(disch:=omega) only[Try.f13,go_sem,↓reduceIte]
  refine hK _ ?_
  refine aB (eC (.tmp 5) rfl rfl rfl (fun h=>?_) (fun h=>?_))
  ·refine aI rfl ?_
   subst h
   refine aA rfl (aW [4] rfl rfl rfl fun K hK=>?_)
   simp(disch:=omega) only[Try.f13,go_sem,↓reduceIte]
   refine hK _ ?_
   refine aB (aS rfl (bI ?_))
   simp(disch:=omega) only[fHo,bV,bK,bQ,Try.f13,go_sem,↓reduceIte]
  refine aI rfl ?_
  subst h
  refine aQ rfl (aB (aA rfl (aW [4] rfl rfl rfl fun K hK=>?_)))
  simp(disch:=omega) only[Try.f13,go_sem,↓reduceIte]
  refine hK _ ?_
  refine aB (aS rfl ?_)
  simp(disch:=omega) only[fHo,bV,bK,bQ,Try.f13,go_sem,↓reduceIte]
 cases hg
theorem fKn:bX Try.prog GLh 13 (.pure true bCu):=⟨⟨_,Try.func13,rfl,rfl⟩,cRb⟩
def rcC:List RC→List AV
 |[]=>[]
 |c::r=>fLo c++rcC r
theorem fIh: ∀l:List RC,(rcC l).length=5*l.length
 |[]=>rfl
 |c::r=>by simp only[rcC,fLo,List.length_append,List.length_cons,List.length_nil,fIh r];omega
theorem fKk: ∀l m:List RC,rcC (l++m)=rcC l++rcC m
 |[],_=>rfl
 |q::r,m=>by rw[List.cons_append,rcC,rcC,fKk r m,List.append_assoc]
theorem fLp: ∀l:List RC,dB (rcC l)=true
 |[]=>rfl
 |_::r=>fLp r
theorem fIr: ∀(l:List RC) (k:Nat),(rcC l).drop (5*k)=rcC (l.drop k)
 |l,0=>rfl
 |[],k+1=>by simp[rcC]
 |c::r,k+1=>by
  rw[rcC,Nat.mul_succ,Nat.add_comm,←List.drop_drop]
  show List.drop (5*k) (rcC r)=_
  rw[fIr r k];rfl
theorem fIs: ∀(l:List QN) (k:Nat),(qsC l).drop (3*k)=qsC (l.drop k)
 |l,0=>rfl
 |[],k+1=>by simp[qsC]
 |c::r,k+1=>by
  rw[qsC,Nat.mul_succ,Nat.add_comm,←List.drop_drop]
  show List.drop (3*k) (qsC r)=_
  rw[fIs r k];rfl
def unQ:List AV→Option (List QN)
 |[]=>some []
 | .sl n xs::.w16 t::.w16 c::r=>aK (unS xs) fun ps=>aN (ps.length=n) (aK (unQ r) fun l=>some (⟨ps,t,c⟩::l))
 |_=>none
theorem fNb: ∀l:List QN,unQ (qsC l)=some l
 |[]=>rfl
 |q::r=>by
  show aK (unS (cS q.n)) (fun ps=>aN (ps.length=q.n.length) (aK (unQ (qsC r)) fun l=>some (⟨ps,q.t,q.c⟩::l)))=_
  rw[aQr,aX,fNb r];simp[aN,aK]
theorem fMm: ∀ {xs:List AV} {l:List QN},unQ xs=some l→xs=qsC l:=by
 intro xs
 induction xs using unQ.induct with
 |case1=>intro l h;cases h;rfl
 |case2 n xs t c r ih=>
  intro l h
  rw[unQ]at h
  replace h:=aJ h;obtain⟨ps,hp,h⟩:=h
  replace h:=aP h;obtain⟨rfl,h⟩:=h
  replace h:=aJ h;obtain⟨l2,hl,h⟩:=h
  obtain rfl:=J0 h
  have:=gT hp;subst this
  rw[ih hl];rfl
 |case3 xs h1 h2=>intro l h;rw[unQ]at h;cases h;exact h1;exact h2
def unR:List AV→Option (List RC)
 |[]=>some []
 | .sl n xs::.w16 t::.w16 c::.w32 u::.sl m ys::r=>aK (unS xs) fun ps=>aK (fHq ys) fun d=>aN (ps.length=n∧d.length=m) (aK (unR r) fun l=>some (⟨ps,t,c,u,d⟩::l))
 |_=>none
theorem fNa: ∀l:List RC,unR (rcC l)=some l
 |[]=>rfl
 |q::r=>by
  show aK (unS (cS q.nm)) (fun ps=>aK (fHq (c8 q.d)) fun d=>aN (ps.length=q.nm.length∧d.length=q.d.length) (aK (unR (rcC r)) fun l=>some (⟨ps,q.ty,q.cl,q.ttl,d⟩::l)))=_
  rw[aQr,aX,iA,aX,fNa r];simp[aN,aK]
theorem fJl: ∀ {xs:List AV} {l:List RC},unR xs=some l→xs=rcC l:=by
 intro xs
 induction xs using unR.induct with
 |case1=>intro l h;cases h;rfl
 |case2 n xs t c u m ys r ih=>
  intro l h
  rw[unR]at h
  replace h:=aJ h;obtain⟨ps,hp,h⟩:=h
  replace h:=aJ h;obtain⟨d,hd,h⟩:=h
  replace h:=aP h;obtain⟨⟨rfl,rfl⟩,h⟩:=h
  replace h:=aJ h;obtain⟨l2,hl,h⟩:=h
  obtain rfl:=J0 h
  have:=gT hp;subst this
  have:=bW hd;subst this
  rw[ih hl];rfl
 |case3 xs h1 h2=>intro l h;rw[unR]at h;cases h;exact h1;exact h2
structure MD where
 id:BitVec 16
 rp:Bool
 op:Int
 aa:Bool
 tc:Bool
 rd:Bool
 ra:Bool
 rc:Int
 qs:List QN
 an:List RC
 au:List RC
 ad:List RC
 ed:Bool
 sz:BitVec 16
 dn:Bool
def mdA (M:MD):List AV:=[.w16 M.id,.b M.rp,.i M.op,.b M.aa,.b M.tc,.b M.rd,.b M.ra,.i M.rc,.sl M.qs.length (qsC M.qs),.sl M.an.length (rcC M.an),.sl M.au.length (rcC M.au),.sl M.ad.length (rcC M.ad),.b M.ed,.w16 M.sz,.b M.dn]
def fJd:List AV→Option MD
 |[.w16 id,.b rp,.i op,.b aa,.b tc,.b rd,.b ra,.i rc,.sl n1 x1,.sl n2 x2,.sl n3 x3,.sl n4 x4,.b ed,.w16 sz,.b dn]=>
  aK (unQ x1) fun qs=>aK (unR x2) fun an=>aK (unR x3) fun au=>aK (unR x4) fun ad=>aN (qs.length=n1∧an.length=n2∧au.length=n3∧ad.length=n4)
   (some ⟨id,rp,op,aa,tc,rd,ra,rc,qs,an,au,ad,ed,sz,dn⟩)
 |_=>none
theorem fLx (M:MD):fJd (mdA M)=some M:=by
 obtain⟨id,rp,op,aa,tc,rd,ra,rc,qs,an,au,ad,ed,sz,dn⟩:=M
 simp only[mdA,fJd,fNb,fNa,aX,aN,and_self,if_true]
theorem fJz {xs:List AV} {M:MD} (h:fJd xs=some M):xs=mdA M:=by
 unfold fJd at h
 split at h
 ·replace h:=aJ h;obtain⟨qs,hq,h⟩:=h
  replace h:=aJ h;obtain⟨an,ha,h⟩:=h
  replace h:=aJ h;obtain⟨au,hu,h⟩:=h
  replace h:=aJ h;obtain⟨ad,hd,h⟩:=h
  replace h:=aP h;obtain⟨⟨rfl,rfl,rfl,rfl⟩,h⟩:=h
  obtain rfl:=J0 h
  rw[fMm hq,fJl ha,fJl hu,fJl hd];rfl
 cases h
def rcR (l:List RC):Prop:=l.length≤65535∧∀c∈l,okN c.nm∧c.d.length≤65535
structure RX (M:MD):Prop where
 op0:0≤M.op
 op1:M.op≤15
 rc0:0≤M.rc
 qn:M.qs.length≤65535
 qs: ∀q∈M.qs,okN q.n
 an:rcR M.an
 au:rcR M.au
 ad:rcR M.ad
def fIw (M:MD):Int:=if M.ed=true then 4095 else 15
def scC (L:List (List RC)):List AV:=L.map fun l=> .sl l.length (rcC l)
theorem fIm (L:List (List RC)):(scC L).length=L.length:=List.length_map _
theorem fJu (L:List (List RC)) (k:Nat) (h:k<L.length):((scC L).drop k).head? =some (.sl L[k].length (rcC L[k])):=by
 rw[List.head?_drop];simp[scC,List.getElem?_map,List.getElem?_eq_getElem h]
structure LCI where
 k:Nat
 c:Nat
open Classical in
noncomputable def fLn:List AV→Option AV
 |[.agg xs]=>aK (fJd xs) fun M=>if RX M then some (.b (decide (M.rc≤fIw M)))else none
 |_=>none
theorem fNl {xs:List AV} {M:MD} (h:fJd xs=some M) (h2:RX M):fLn [.agg xs]=some (.b (decide (M.rc≤fIw M))):=by
 show aK (fJd xs) _=_
 rw[h,aX,J4 h2]
set_option maxHeartbeats 4000000 in
theorem fNk:fHn Try.prog GLh 11 fLn:=by
 refine zK Try.func11 (aT rfl) ?_
 intro args r hg
 unfold fLn at hg
 split at hg
 ·rename_i xs
  replace hg:=aJ hg;obtain⟨M,hM,hg⟩:=hg
  have hR:RX M:=Classical.byContradiction fun hn=>by rw[J3 hn]at hg;cases hg
  rw[J4 hR]at hg
  obtain rfl:=J0 hg
  have:=fJz hM;subst this
  refine⟨J1 rfl,fun nx=>?_⟩
  obtain⟨o0,o1,r0,qn,hqs,han,hau,had⟩:=hR
  obtain⟨dd,hdd⟩: ∃x,decide (M.rc≤fIw M)=x:=⟨_,rfl⟩
  rw[hdd]
  have hdt:dd=true→M.rc≤fIw M:=fun h=>of_decide_eq_true (hdd.trans h)
  have hdf:dd=false→¬M.rc≤fIw M:=fun h=>of_decide_eq_false (hdd.trans h)
  obtain⟨lim,hlim⟩: ∃x:Int,fIw M=x:=⟨_,rfl⟩
  rw[hlim]at hdt hdf
  have hle:M.ed=true→lim=4095:=fun h=>by rw[←hlim,fIw,J4 h]
  have hlf:M.ed=false→lim=15:=fun h=>by rw[←hlim,fIw,J3 (by simp[h])]
  clear hg hM hdd hlim
  obtain⟨id,rp,op,aa,tc,rd,ra,rc,qs,an,au,ad,ed,sz,dn⟩:=M
  simp only at o0 o1 r0 qn hqs han hau had hdt hdf hle hlf⊢
  have hlb:15≤lim∧lim≤4095:=by
   cases ed with
   |true=>have:=hle rfl;omega
   |false=>have:=hlf rfl;omega
  refine aA rfl (aW [1] rfl rfl rfl fun K hK=>?_)
  simp(disch:=omega) only[Try.f11,go_sem,↓reduceIte,mdA]
  refine hK _ ?_
  refine aB ?_
  refine lW 1 nx 0 rfl (by simp(disch:=omega) only[aV,↓reduceIte];rfl) ?_
  refine yK (hp':=fun _=>none) (fun _ _ h=>by cases h) (aA rfl (aW [1,3] rfl rfl rfl fun K hK=>?_))
  simp(disch:=omega) only[Try.f11,go_sem,↓reduceIte]
  refine hK _ ?_
  refine aB (aA rfl (dWd (fun p:Unit=> {fr:=[(1,.rp [AV.w16 id,AV.b rp,AV.i op,AV.b aa,AV.b tc,AV.b rd,AV.b ra,AV.i rc,AV.sl qs.length (qsC qs),AV.sl an.length (rcC an),AV.sl au.length (rcC au),AV.sl ad.length (rcC ad),AV.b ed,AV.w16 sz,AV.b dn]),(3,.i lim)],hp:=fun _=>none,nx:=0,cx:=nx+100}) (fun p=>True) ?_ ?_))
  ·refine aA rfl (aW [11,1,3] rfl rfl rfl fun K hK=>?_)
   simp(disch:=omega) only[Try.f11,go_sem,↓reduceIte]
   refine hK _ ?_
   refine aB (eC (.tmp 11) rfl rfl rfl (fun h=>?_) (fun h=>?_))
   ·refine aI rfl (aW [1,3] rfl rfl rfl fun K hK=>?_)
    simp(disch:=omega) only[Try.f11,go_sem,↓reduceIte]
    refine hK _ ?_
    refine dWa (⟨(),trivial,bD ?_ rfl (by simp only;omega)⟩)
    simp only[hle h]
   refine aI rfl (aQ rfl (dWa (⟨(),trivial,bD ?_ rfl (by simp only;omega)⟩)))
   simp only[hlf h]
  rintro _ _ n0
  simp only at⊢
  have d1:decide (op<0)=false:=J6 (by omega)
  have d2:decide (15<op)=false:=J6 (by omega)
  have d3:decide (rc<0)=false:=J6 (by omega)
  have d5:decide ((65535:Int)<(qs.length:Int))=false:=J6 (by omega)
  rcases Bool.eq_false_or_eq_true dd with hd|hd
  ·have d4:decide (lim<rc)=false:=J6 (by have:=hdt hd;omega)
   refine aA rfl (aA rfl (aW [36,1] rfl rfl rfl fun K hK=>?_))
   simp(disch:=omega) only[Try.f11,go_sem,↓reduceIte,d1,d2,d3,d4,d5]
   refine hK _ ?_
   refine aB (eC (.tmp 36) rfl rfl rfl (fun h=>?_) (fun h=>?_))
   ·refine aI rfl ?_
    cases h
   refine aI rfl ?_
   clear h d1 d2 d3 d4 d5 hdf hdt hle hlf
   subst hd
   refine aQ rfl (aB (aA rfl (aA rfl (aW [1,38,39,40] rfl rfl rfl fun K hK=>?_))))
   simp(disch:=omega) only[Try.f11,go_sem,↓reduceIte]
   refine hK _ ?_
   refine aB (aR 0 rfl rfl (bR (fun p:LCI=> {fr:=[(1,.rp [AV.w16 id,AV.b rp,AV.i op,AV.b aa,AV.b tc,AV.b rd,AV.b ra,AV.i rc,AV.sl qs.length (qsC qs),AV.sl an.length (rcC an),AV.sl au.length (rcC au),AV.sl ad.length (rcC ad),AV.b ed,AV.w16 sz,AV.b dn]),(38,.sl qs.length (qsC qs)),(39,.i qs.length),(40,.i p.k)],hp:=fun _=>none,nx:=0,cx:=p.c}) (fun p=>p.k≤qs.length) (fun p=>qs.length-p.k) rfl ⟨⟨0,_⟩,Nat.zero_le _,bD rfl rfl (U3 _)⟩ ?_))
   rintro⟨k,c⟩ hk n0
   simp only at hk⊢
   refine aA rfl (aW [41,1,38,39,40] rfl rfl rfl fun K hK=>?_)
   simp(disch:=omega) only[Try.f11,go_sem,↓reduceIte]
   refine hK _ ?_
   refine aB (aA rfl (bA (.tmp 41) rfl rfl rfl (fun h=>?_) (fun h=>?_)))
   ·refine aI rfl ?_
    have hkl:k<qs.length:=by omega
    have hcl:=fIi qs
    obtain⟨q,hq⟩: ∃q,qs[k]=q:=⟨_,rfl⟩
    have hdr:(qsC qs).drop (3*k)=[.sl q.n.length (cS q.n),.w16 q.t,.w16 q.c]++qsC (qs.drop (k+1)):=by
     rw[fIs,List.drop_eq_getElem_cons hkl,hq];rfl
    have hdr2:(qsC qs).drop (k*3)=[.sl q.n.length (cS q.n),.w16 q.t,.w16 q.c]++qsC (qs.drop (k+1)):=by rw[Nat.mul_comm];exact hdr
    have hqm:=hqs q (hq▸List.getElem_mem hkl)
    clear h
    refine aQ rfl (aB (aA rfl (aR 1 rfl rfl (aA rfl (aW [1,5,38,39,40] rfl rfl rfl fun K hK=>?_)))))
    simp(disch:=omega) only[Try.f11,go_sem,↓reduceIte,hdr2,List.cons_append,List.nil_append]
    refine hK _ ?_
    refine aB ?_
    have hw:(if 255<wl q.n then(31:Int)else 0)=0:=J3 (by have:=hqm.2;omega)
    have hL:(∀l∈q.n,gZ l)=True:=eq_true hqm.1
    have hln:=eYr hqm
    refine aA rfl (aC (Γ:=bC [(18,.pure true eTn)]) [47,1,38,39,40] (aH fFg aO) rfl rfl rfl (fun K hK=>?_))
    simp(disch:=omega) only[Try.f11,go_sem,↓reduceIte,hw,hL]
    refine hK _ ?_
    refine aB (eC (.tmp 47) rfl rfl rfl (fun h=>?_) (fun h=>?_))
    ·refine aI rfl ?_
     cases h
    refine aI rfl ?_
    clear h
    refine aQ rfl (bU (aB (aW [1,38,39,40] rfl rfl rfl fun K hK=>?_)))
    simp(disch:=omega) only[Try.f11,go_sem,↓reduceIte]
    refine hK _ ?_
    refine bT ?_
    refine⟨⟨k+1,_⟩,by simp only;omega,by simp only;omega,⟨fun _=> .inr ?_,fun j o hj=>(by cases hj),U3 _⟩⟩
    simp only[Int.natCast_add,Int.natCast_one]
   refine aI rfl ?_
   clear h
   refine bF 0 rfl rfl (aY (aZ (bE (aB (aA rfl (aA rfl (aW [55,56,57] rfl rfl rfl fun K hK=>?_)))))))
   simp(disch:=omega) only[Try.f11,go_sem,↓reduceIte]
   refine hK _ ?_
   refine aB ?_
   obtain⟨L,hLL⟩: ∃L,[an,au,ad]=L:=⟨_,rfl⟩
   have hsc:[AV.sl an.length (rcC an),AV.sl au.length (rcC au),AV.sl ad.length (rcC ad)]=scC L:=by rw[←hLL];rfl
   have hLr: ∀l∈L,rcR l:=by rw[←hLL];intro l hl;simp at hl;rcases hl with rfl|rfl|rfl<;>assumption
   have hL3:L.length=3:=by rw[←hLL];rfl
   rw[hsc]
   refine pS 55 (c+1+6) 0 3 1 rfl (by simp(disch:=omega) only[aV,↓reduceIte];rfl) (by rw[fIm,hL3];decide) ?_
   rw[J9,List.take_of_length_le (by rw[fIm,hL3];decide)]
   refine yK (hp':=fun _=>none) (fun _ _ h=>by cases h) (fF [55,56,57] ?_)
   simp only[iB,fU,eW,↓reduceIte,Nat.reduceEqDiff]
   clear hsc hLL hqs qn
   refine aR 2 rfl rfl (bR (fun p:LCI=> {fr:=[(55,.sl 3 (scC L)),(56,.i (3:Nat)),(57,.i p.k)],hp:=fun _=>none,nx:=0,cx:=p.c}) (fun p=>p.k≤3) (fun p=>3-p.k) rfl ⟨⟨0,_⟩,Nat.zero_le _,bD rfl rfl (U3 _)⟩ ?_)
   rintro⟨k2,c2⟩ hk2 n0
   simp only at hk2⊢
   refine aA rfl (aW [58,55,56,57] rfl rfl rfl fun K hK=>?_)
   simp(disch:=omega) only[Try.f11,go_sem,↓reduceIte]
   refine hK _ ?_
   refine aB (aA rfl (bA (.tmp 58) rfl rfl rfl (fun h=>?_) (fun h=>?_)))
   ·refine aI rfl ?_
    have hk3:k2<L.length:=by omega
    have hd2:=fJu L k2 hk3
    obtain⟨l,hl⟩: ∃l,L[k2]=l:=⟨_,rfl⟩
    rw[hl]at hd2
    obtain⟨hln,hlr⟩:=hLr l (hl▸List.getElem_mem hk3)
    clear h hl
    refine aQ rfl (aB (aA rfl (aR 3 rfl rfl (aA rfl (aW [7,55,56,57] rfl rfl rfl fun K hK=>?_)))))
    simp(disch:=omega) only[Try.f11,go_sem,↓reduceIte,hd2]
    refine hK _ ?_
    refine aB (aA rfl (aA rfl (aW [63,7,55,56,57] rfl rfl rfl fun K hK=>?_)))
    simp(disch:=omega) only[Try.f11,go_sem,↓reduceIte]
    refine hK _ ?_
    refine aB (bA (.tmp 63) rfl rfl rfl (fun h=>?_) (fun h=>?_))
    ·refine aI rfl ?_
     omega
    refine aI rfl ?_
    clear h
    refine aQ rfl (aB (aA rfl (aW [55,56,57,64,65,66] rfl rfl rfl fun K hK=>?_)))
    simp(disch:=omega) only[Try.f11,go_sem,↓reduceIte]
    refine hK _ ?_
    refine aB (aR 4 rfl rfl (bR (fun p:LCI=> {fr:=[(55,.sl 3 (scC L)),(56,.i (3:Nat)),(57,.i k2),(64,.sl l.length (rcC l)),(65,.i l.length),(66,.i p.k)],hp:=fun _=>none,nx:=0,cx:=p.c}) (fun p=>p.k≤l.length) (fun p=>l.length-p.k) rfl ⟨⟨0,_⟩,Nat.zero_le _,bD rfl rfl (U3 _)⟩ ?_))
    rintro⟨k3,c3⟩ hk3 n0
    simp only at hk3⊢
    refine aA rfl (aW [67,55,56,57,64,65,66] rfl rfl rfl fun K hK=>?_)
    simp(disch:=omega) only[Try.f11,go_sem,↓reduceIte]
    refine hK _ ?_
    refine aB (aA rfl (bA (.tmp 67) rfl rfl rfl (fun h=>?_) (fun h=>?_)))
    ·refine aI rfl ?_
     have hkl:k3<l.length:=by omega
     have hcl:=fIh l
     obtain⟨q,hq⟩: ∃q,l[k3]=q:=⟨_,rfl⟩
     have hdr:(rcC l).drop (5*k3)=[.sl q.nm.length (cS q.nm),.w16 q.ty,.w16 q.cl,.w32 q.ttl,.sl q.d.length (c8 q.d)]++rcC (l.drop (k3+1)):=by
      rw[fIr,List.drop_eq_getElem_cons hkl,hq];rfl
     have hdr2:(rcC l).drop (k3*5)=[.sl q.nm.length (cS q.nm),.w16 q.ty,.w16 q.cl,.w32 q.ttl,.sl q.d.length (c8 q.d)]++rcC (l.drop (k3+1)):=by rw[Nat.mul_comm];exact hdr
     obtain⟨hqm,hqd⟩:=hlr q (hq▸List.getElem_mem hkl)
     clear h
     refine aQ rfl (aB (aA rfl (aR 5 rfl rfl (aA rfl (aW [9,55,56,57,64,65,66] rfl rfl rfl fun K hK=>?_)))))
     simp(disch:=omega) only[Try.f11,go_sem,↓reduceIte,hdr2,List.cons_append,List.nil_append]
     refine hK _ ?_
     refine aB ?_
     have hw:(if 255<wl q.nm then(31:Int)else 0)=0:=J3 (by have:=hqm.2;omega)
     have hL:(∀l∈q.nm,gZ l)=True:=eq_true hqm.1
     have hln:=eYr hqm
     have hdd:decide ((65535:Int)<(q.d.length:Int))=false:=J6 (by omega)
     refine aA rfl (aC (Γ:=bC [(18,.pure true eTn)]) [79,55,56,57,64,65,66] (aH fFg aO) rfl rfl rfl (fun K hK=>?_))
     simp(disch:=omega) only[Try.f11,go_sem,↓reduceIte,hw,hL,hdd]
     refine hK _ ?_
     refine aB (eC (.tmp 79) rfl rfl rfl (fun h=>?_) (fun h=>?_))
     ·refine aI rfl ?_
      cases h
     refine aI rfl ?_
     clear h
     refine aQ rfl (bU (aB (aW [55,56,57,64,65,66] rfl rfl rfl fun K hK=>?_)))
     simp(disch:=omega) only[Try.f11,go_sem,↓reduceIte]
     refine hK _ ?_
     refine bT ?_
     refine⟨⟨k3+1,_⟩,by simp only;omega,by simp only;omega,⟨fun _=> .inr ?_,fun j o hj=>(by cases hj),U3 _⟩⟩
     simp only[Int.natCast_add,Int.natCast_one]
    refine aI rfl ?_
    clear h
    refine bF 4 rfl rfl (aY (aZ (bE (bU (aB (aW [55,56,57] rfl rfl rfl fun K hK=>?_))))))
    simp(disch:=omega) only[Try.f11,go_sem,↓reduceIte]
    refine hK _ ?_
    refine bT ?_
    refine⟨⟨k2+1,_⟩,by simp only;omega,by simp only;omega,⟨fun _=> .inr ?_,fun j o hj=>(by cases hj),U3 _⟩⟩
    simp only[Int.natCast_add,Int.natCast_one]
   refine aI rfl ?_
   clear h
   refine bF 2 rfl rfl (aY (aZ (bE (aB (aA rfl (aW [2] rfl rfl rfl fun K hK=>?_))))))
   simp(disch:=omega) only[Try.f11,go_sem,↓reduceIte]
   refine hK _ ?_
   refine aB (aS rfl ?_)
   simp(disch:=omega) only[fHo,bV,bK,bQ,Try.f11,go_sem,↓reduceIte]
  have d4:decide (lim<rc)=true:=J5 (by have:=hdf hd;omega)
  refine aA rfl (aA rfl (aW [36,1] rfl rfl rfl fun K hK=>?_))
  simp(disch:=omega) only[Try.f11,go_sem,↓reduceIte,d1,d2,d3,d4]
  refine hK _ ?_
  refine aB (eC (.tmp 36) rfl rfl rfl (fun h=>?_) (fun h=>?_))
  ·refine aI rfl (aA rfl (aW [2] rfl rfl rfl fun K hK=>?_))
   simp(disch:=omega) only[Try.f11,go_sem,↓reduceIte]
   refine hK _ ?_
   refine aB (aS rfl (bI ?_))
   simp(disch:=omega) only[fHo,bV,bK,bQ,Try.f11,go_sem,↓reduceIte]
   rw[hd]
  refine aI rfl ?_
  cases h
 cases hg
theorem fOq:bX Try.prog GLh 11 (.pure true fLn):=⟨⟨_,Try.func11,rfl,rfl⟩,fNk⟩
end Go.AX

namespace Go.AX
open Go Go.Proofs
set_option maxRecDepth 8000
def fJp:List QN→List B8→WF→List B8×WF
 |[],b,F=>(b,F)
 |q::r,b,F=>fJp r ((wnS q.n b F).1++beL (BitVec.setWidth 32 q.t) 2 2++beL (BitVec.setWidth 32 q.c) 2 2) (wnS q.n b F).2.1
def fJa:List RC→List B8→WF→List B8×WF
 |[],b,F=>(b,F)
 |c::r,b,F=>fJa r (wrS c b F).1 (wrS c b F).2
def fKd:List (List RC)→List B8→WF→List B8×WF
 |[],b,F=>(b,F)
 |l::r,b,F=>fKd r (fJa l b F).1 (fJa l b F).2
def szQ (q:QN):Nat:=(eF q.n).length+6
def szR (c:RC):Nat:=(eF c.nm).length+12+c.d.length
def fIp (l:List QN):Nat:=(l.map szQ).sum
def fIl (l:List RC):Nat:=(l.map szR).sum
def fJm (L:List (List RC)):Nat:=(L.map fIl).sum
def fl1 (M:MD):W32:=((((if M.rp=true then 128#32 else 0#32)|||BitVec.ofInt 32 M.op <<<3|||if M.aa=true then 4#32 else 0#32)|||if M.tc=true then 2#32 else 0#32)|||if M.rd=true then 1#32 else 0#32)
def fl2 (M:MD):W32:=(if M.ra=true then 128#32 else 0#32)|||BitVec.ofInt 32 (cYz M.rc 15)
def hdB (M:MD):List B8:=beL (BitVec.setWidth 32 M.id) 2 2++beL (fl1 M) 1 1++beL (fl2 M) 1 1++beL (BitVec.ofInt 32 (M.qs.length:Int)) 2 2++beL (BitVec.ofInt 32 (M.an.length:Int)) 2 2++beL (BitVec.ofInt 32 (M.au.length:Int)) 2 2++beL (BitVec.ofInt 32 (M.ad.length:Int)+(if M.ed=true then 1#32 else 0#32)) 2 2
def fLd (M:MD):RC:=⟨[],41#16,M.sz,BitVec.ofInt 32 (M.rc.fdiv (2^min 4 64)) <<<24|||(if M.dn=true then 32768#32 else 0#32),[]⟩
def mbF (M:MD):List B8×WF:=fKd [M.an,M.au,M.ad] (fJp M.qs (hdB M) []).1 (fJp M.qs (hdB M) []).2
def mbS (M:MD):List B8:=if M.ed=true then(wrS (fLd M) (mbF M).1 (mbF M).2).1 else(mbF M).1
def RX2 (M:MD):Prop:=RX M∧fIp M.qs+fJm [M.an,M.au,M.ad]≤60000
theorem WS.upd {hp g:H} {n w q0 m q X:Nat} {o:AO} {b:List B8} {F:WF} (h:WS hp n w q0 m g q b F) (hX:n≤X) (hq:X≠q):WS hp n w q0 m (upd g X o) q b F:=by
 have:=h.wl;have:=h.ml
 refine⟨⟨⟨?_,?_,h.h.h.ne⟩,?_,h.h.n1,h.h.n2⟩,fun j o2 j1 j2 j3 j4 hj=>?_,h.hq,h.wl,h.ml⟩
 ·rw[bJ,J3 (by omega)];exact h.h.h.hw
 ·rw[bJ,J3 (by omega)];exact h.h.h.hq
 ·rw[bJ,J3 (by omega)];exact h.h.hm
 rw[bJ,J3 (by omega)];exact h.sub j o2 j1 j2 j3 j4 hj
theorem fKx (l:List QN) (k:Nat) (h:k<l.length):fIp (l.drop k)=szQ l[k]+fIp (l.drop (k+1)):=by
 rw[fIp,List.drop_eq_getElem_cons h,List.map_cons,List.sum_cons];rfl
theorem fKw (l:List RC) (k:Nat) (h:k<l.length):fIl (l.drop k)=szR l[k]+fIl (l.drop (k+1)):=by
 rw[fIl,List.drop_eq_getElem_cons h,List.map_cons,List.sum_cons];rfl
theorem fKv (l:List (List RC)) (k:Nat) (h:k<l.length):fJm (l.drop k)=fIl l[k]+fJm (l.drop (k+1)):=by
 rw[fJm,List.drop_eq_getElem_cons h,List.map_cons,List.sum_cons];rfl
theorem fKj (c:RC) (b:List B8) (F:WF):(wrS c b F).1.length≤b.length+szR c:=by
 have:=fJk c.nm b F
 simp only[wrS,List.length_append,cZ,szR];omega
structure YI where
 k:Nat
 g:H
 q:Nat
 b:List B8
 F:WF
 c:Nat
open Classical in
noncomputable def byG:List AV→Option AV
 |[.agg xs]=>aK (fJd xs) fun M=>if RX2 M then some (if M.rc≤fIw M then .tup [.sl (mbS M).length (c8 (mbS M)),.i 0]else .tup [.sl 0 [],.i 60])else none
 |_=>none
set_option maxHeartbeats 4000000 in
theorem fOy:fHn Try.prog GLh 7 byG:=by
 refine zK Try.func7 (aT rfl) ?_
 intro args r hg
 unfold byG at hg
 split at hg
 ·rename_i xs
  replace hg:=aJ hg;obtain⟨M,hM,hg⟩:=hg
  have hR:RX2 M:=Classical.byContradiction fun hn=>by rw[J3 hn]at hg;cases hg
  rw[J4 hR]at hg
  obtain rfl:=J0 hg
  have hrg:=fNl hM hR.1
  have:=fJz hM;subst this
  refine⟨J1 rfl,fun nx=>?_⟩
  obtain⟨⟨o0,o1,r0,qn,hqs,han,hau,had⟩,hsz⟩:=hR
  clear hg hM
  simp only[mdA]at hrg
  refine aA rfl (aW [1] rfl rfl rfl fun K hK=>?_)
  simp(disch:=omega) only[Try.f7,go_sem,↓reduceIte,mdA]
  refine hK _ ?_
  refine aB ?_
  refine lW 1 nx 0 rfl (by simp(disch:=omega) only[aV,↓reduceIte];rfl) ?_
  refine yK (hp':=fun _=>none) (fun _ _ h=>by cases h) (aA rfl (aA rfl (aC (Γ:=bC [(11,.pure true fLn)]) [13,1] (aH fOq aO) rfl rfl rfl (fun K hK=>?_))))
  simp(disch:=omega) only[Try.f7,go_sem,↓reduceIte,hrg]
  refine hK _ ?_
  refine aB ?_
  by_cases hlim:M.rc≤fIw M
  ·simp only[hlim,decide_true,Bool.not_true,if_true]
   refine eC (.tmp 13) rfl rfl rfl (fun h=>?_) (fun h=>?_)
   ·refine aI rfl ?_
    cases h
   refine aI rfl ?_
   clear h
   refine aQ rfl (aB (aA rfl (aW [1,4] rfl rfl rfl fun K hK=>?_)))
   simp(disch:=omega) only[Try.f7,go_sem,↓reduceIte]
   refine hK _ ?_
   refine aB ?_
   refine aDn (nx+3+3+2) 1 [] [AV.mp (nx+6)] true (by simp(disch:=omega) only[aV,↓reduceIte];rfl) (by omega) ?_
   simp only[List.nil_append]
   obtain⟨g0,hg0⟩: ∃y,upd (upd (upd (upd (fun _=>none) (nx+6) (AO.mapo [] true)) (nx+3+3+2) (AO.cells [AV.v (Value.slice none 0 0),AV.mp (nx+6)] true)) (nx+3+3+4) (AO.cells [] true)) (nx+3+3+2) (AO.cells [AV.os (nx+3+3+4) 0 0 1 true,AV.mp (nx+6)] true)=y:=⟨_,rfl⟩
   have h0:WS (fun _=>none) (nx+10) (nx+3+3+2) (nx+10) (nx+6) g0 (nx+10) [] []:=by
    refine⟨⟨⟨?_,?_,by omega⟩,?_,by omega,by omega⟩,fun _ _ _ _ _ _ h=>(by cases h),.inl rfl,by omega,by omega⟩
    ·rw[←hg0,bJ,J4 rfl];rfl
    ·rw[←hg0,bJ,J3 (by omega),bJ,J4 rfl];rfl
    rw[←hg0,bJ,J3 (by omega),bJ,J3 (by omega),bJ,J3 (by omega),bJ,J4 rfl];rfl
   rw[hg0]
   have hl0:([]:List B8).length≤0:=U3 _
   clear hg0
   refine aA rfl (aC (Γ:=bC [(12,.heap fHp)]) [1,4] (aH fHt aO) rfl rfl rfl (fun K hK=>?_))
   simp(disch:=omega) only[Try.f7,go_sem,↓reduceIte,yQ h0.h.h]
   refine hK _ ?_
   refine aB ?_
   simp only[fHr,Nat.mul_one]
   refine fHl h0 (by omega) fun g1 b1 eb1 h1=>?_
   have hl1:b1.length≤2:=by rw[eb1];simp only[cZ];omega
   refine aA rfl (bB (Γ:=bC [(13,.pure true bCu),(12,.heap fHp)]) (fun k=>if k=21 then 0 else 2) [1,4] bZ (aH fKn (aH fHt aO)) rfl rfl rfl (by kernel_rfl) (fun K hK=>?_))
   simp(disch:=omega) only[Try.f7,go_sem,↓reduceIte,yQ h1.h.h]
   refine hK _ ?_
   refine aB ?_
   simp only[fHr]
   refine fHl h1 (by omega) fun g2 b2 eb2 h2=>?_
   have hl2:b2.length≤4:=by rw[eb2];simp only[List.length_append,cZ];omega
   refine aA rfl (bB (Γ:=bC [(13,.pure true bCu),(12,.heap fHp)]) (fun k=>if k=9 then 0 else 2) [1,4] bZ (aH fKn (aH fHt aO)) rfl rfl rfl (by kernel_rfl) (fun K hK=>?_))
   simp(disch:=omega) only[Try.f7,go_sem,↓reduceIte,yQ h2.h.h]
   refine hK _ ?_
   refine aB ?_
   simp only[fHr]
   refine fHl h2 (by omega) fun g3 b3 eb3 h3=>?_
   have hl3:b3.length≤6:=by rw[eb3];simp only[List.length_append,cZ];omega
   refine aA rfl (aC (Γ:=bC [(12,.heap fHp)]) [1,4] (aH fHt aO) rfl rfl rfl (fun K hK=>?_))
   simp(disch:=omega) only[Try.f7,go_sem,↓reduceIte,yQ h3.h.h]
   refine hK _ ?_
   refine aB ?_
   simp only[fHr,Nat.mul_one]
   refine fHl h3 (by omega) fun g4 b4 eb4 h4=>?_
   have hl4:b4.length≤8:=by rw[eb4];simp only[List.length_append,cZ];omega
   refine aA rfl (aC (Γ:=bC [(12,.heap fHp)]) [1,4] (aH fHt aO) rfl rfl rfl (fun K hK=>?_))
   simp(disch:=omega) only[Try.f7,go_sem,↓reduceIte,yQ h4.h.h]
   refine hK _ ?_
   refine aB ?_
   simp only[fHr,Nat.mul_one]
   refine fHl h4 (by omega) fun g5 b5 eb5 h5=>?_
   have hl5:b5.length≤10:=by rw[eb5];simp only[List.length_append,cZ];omega
   refine aA rfl (aC (Γ:=bC [(12,.heap fHp)]) [1,4] (aH fHt aO) rfl rfl rfl (fun K hK=>?_))
   simp(disch:=omega) only[Try.f7,go_sem,↓reduceIte,yQ h5.h.h]
   refine hK _ ?_
   refine aB ?_
   simp only[fHr,Nat.mul_one]
   refine fHl h5 (by omega) fun g6 b6 eb6 h6=>?_
   have hl6:b6.length≤12:=by rw[eb6];simp only[List.length_append,cZ];omega
   refine aA rfl (bB (Γ:=bC [(13,.pure true bCu),(12,.heap fHp)]) (fun k=>if k=9 then 0 else 2) [1,4] bZ (aH fKn (aH fHt aO)) rfl rfl rfl (by kernel_rfl) (fun K hK=>?_))
   simp(disch:=omega) only[Try.f7,go_sem,↓reduceIte,yQ h6.h.h]
   refine hK _ ?_
   refine aB ?_
   simp only[fHr,Nat.mul_one]
   refine fHl h6 (by omega) fun g7 b7 eb7 h7=>?_
   have hl7:b7.length≤14:=by rw[eb7];simp only[List.length_append,cZ];omega
   have hhd:b7=hdB M:=by rw[eb7,eb6,eb5,eb4,eb3,eb2,eb1];rfl
   clear eb1 eb2 eb3 eb4 eb5 eb6 eb7 h0 h1 h2 h3 h4 h5 h6 hl0 hl1 hl2 hl3 hl4 hl5 hl6
   obtain⟨w,hw⟩: ∃w,nx+3+3+2=w:=⟨_,rfl⟩
   obtain⟨m,hm⟩: ∃m,nx+6=m:=⟨_,rfl⟩
   obtain⟨q0,hq0⟩: ∃m,nx+10=m:=⟨_,rfl⟩
   obtain⟨c7,hc7⟩: ∃c,nx+3+3+4+1+5+400+22+400+10+400+6+400+6+400+6+400+10+400=c:=⟨_,rfl⟩
   obtain⟨q7,hq7⟩: ∃c,nx+3+3+4+1+5+400+22+400+10+400+6+400+6+400+6+400+10+17+21=c:=⟨_,rfl⟩
   have hqc:q7<c7∧q0≤c7:=by omega
   rw[hq7,hw,hq0,hm]at h7
   rw[hc7,hw]
   refine aA rfl (aA rfl (aW [1,4,83,84,85] rfl rfl rfl fun K hK=>?_))
   simp(disch:=omega) only[Try.f7,go_sem,↓reduceIte]
   refine hK _ ?_
   refine aB (aR 0 rfl rfl ?_)
   refine bR (fun p:YI=> {fr:=[(1,.rp (mdA M)),(4,.op w 0),(83,.sl M.qs.length (qsC M.qs)),(84,.i M.qs.length),(85,.i p.k)],hp:=p.g,nx:=0,cx:=p.c}) (fun p=>p.k≤M.qs.length∧fJp (M.qs.drop p.k) p.b p.F=fJp M.qs b7 []∧WS (fun _=>none) q0 w q0 m p.g p.q p.b p.F∧p.q<p.c∧q0≤p.c∧p.b.length+fIp (M.qs.drop p.k)≤14+fIp M.qs) (fun p=>M.qs.length-p.k) rfl ⟨⟨0,g7,q7,b7,[],_⟩,⟨Nat.zero_le _,rfl,h7,by simp only;omega,by simp only;omega,by simp only[J9];omega⟩,bD rfl rfl (U3 _)⟩ ?_
   rintro⟨k,g,q,b,F,c⟩ ⟨hk,hS,hW,hqc1,hcq,hlen⟩ n0
   simp only at hk hS hW hqc1 hcq hlen⊢
   refine aA rfl (aW [86,1,4,83,84,85] rfl rfl rfl fun K hK=>?_)
   simp(disch:=omega) only[Try.f7,go_sem,↓reduceIte]
   refine hK _ ?_
   refine aB (aA rfl (bA (.tmp 86) rfl rfl rfl (fun h=>?_) (fun h=>?_)))
   ·refine aI rfl ?_
    have hkl:k<M.qs.length:=by omega
    have hcl:=fIi M.qs
    obtain⟨u,hu⟩: ∃u,M.qs[k]=u:=⟨_,rfl⟩
    have hdr:(qsC M.qs).drop (3*k)=[.sl u.n.length (cS u.n),.w16 u.t,.w16 u.c]++qsC (M.qs.drop (k+1)):=by
     rw[fIs,List.drop_eq_getElem_cons hkl,hu];rfl
    have hdr2:(qsC M.qs).drop (k*3)=[.sl u.n.length (cS u.n),.w16 u.t,.w16 u.c]++qsC (M.qs.drop (k+1)):=by rw[Nat.mul_comm];exact hdr
    have hqm:=hqs u (hu▸List.getElem_mem hkl)
    have hln:=eYr hqm
    have hsu:=fKx M.qs k hkl
    rw[hu,szQ]at hsu
    have hS2:=hS
    rw[List.drop_eq_getElem_cons hkl,hu,fJp]at hS2
    clear h
    refine aQ rfl (aB (aA rfl (aR 1 rfl rfl (aA rfl (aW [1,4,6,83,84,85] rfl rfl rfl fun K hK=>?_)))))
    simp(disch:=omega) only[Try.f7,go_sem,↓reduceIte,hdr2,List.cons_append,List.nil_append]
    refine hK _ ?_
    refine aB (lW 6 (c+1+2) 0 rfl (by rw[bJ,J4 rfl]) ?_)
    obtain⟨g0,h0,hg0⟩: ∃y,WS (fun _=>none) q0 w q0 m y q b F∧upd (upd g (c+1+2) (AO.cells [AV.sl u.n.length (cS u.n),AV.w16 u.t,AV.w16 u.c] true)) (c+1+2) (AO.cells [AV.sl u.n.length (cS u.n),AV.w16 u.t,AV.w16 u.c] false)=y:=
     ⟨_,(hW.upd (by omega) (by omega)).upd (by omega) (by omega),rfl⟩
    rw[hg0]
    clear hg0
    refine aA rfl (aC (Γ:=bC [(14,.heap fIf)]) [1,4,6,83,84,85] (aH fLu aO) rfl rfl rfl (fun K hK=>?_))
    simp(disch:=omega) only[Try.f7,go_sem,↓reduceIte,fIa h0.h,J9]
    refine hK _ ?_
    refine aB (fIe h0 (Nat.le_trans (by omega) (fKe _ _ _)) fun g1 b1 F1 eb1 eF1 h1=>?_)
    have hwn:=fJk u.n b F
    rw[←eb1]at hwn
    refine aA rfl (aC (Γ:=bC [(12,.heap fHp)]) [1,4,6,83,84,85] (aH fHt aO) rfl rfl rfl (fun K hK=>?_))
    simp(disch:=omega) only[Try.f7,go_sem,↓reduceIte,yQ h1.h.h]
    refine hK _ ?_
    refine aB ?_
    simp only[fHr,Nat.mul_one]
    refine fHl h1 (by omega) fun g2 b2 eb2 h2=>?_
    have hl2:b2.length=b1.length+2:=by rw[eb2,List.length_append,cZ]
    refine aA rfl (aC (Γ:=bC [(12,.heap fHp)]) [1,4,83,84,85] (aH fHt aO) rfl rfl rfl (fun K hK=>?_))
    simp(disch:=omega) only[Try.f7,go_sem,↓reduceIte,yQ h2.h.h]
    refine hK _ ?_
    refine aB ?_
    simp only[fHr,Nat.mul_one]
    refine fHl h2 (by omega) fun g3 b3 eb3 h3=>?_
    have hl3:b3.length=b1.length+4:=by rw[eb3,List.length_append,cZ];omega
    have hb3:b3.length+fIp (M.qs.drop (k+1))≤14+fIp M.qs:=by omega
    refine aA rfl (aW [108,1,4,83,84,85] rfl rfl rfl fun K hK=>?_)
    simp(disch:=omega) only[Try.f7,go_sem,↓reduceIte,h3.h.h.hw]
    refine hK _ ?_
    refine aB (bA (.tmp 108) rfl rfl rfl (fun h=>?_) (fun h=>?_))
    ·refine aI rfl ?_
     omega
    refine aI rfl ?_
    clear h
    refine aQ rfl (bU (aB (aW [1,4,83,84,85] rfl rfl rfl fun K hK=>?_)))
    simp(disch:=omega) only[Try.f7,go_sem,↓reduceIte]
    refine hK _ ?_
    refine bT ?_
    refine⟨⟨k+1,g3,_,b3,F1,_⟩,⟨by simp only;omega,?_,h3,by simp only;omega,by simp only;omega,hb3⟩,by simp only;omega,bD ?_ rfl (U3 _)⟩
    ·simp only
     rw[←hS2,eb3,eb2,eb1,eF1]
    simp only[Int.natCast_add,Int.natCast_one]
   refine aI rfl ?_
   obtain rfl:k=M.qs.length:=by omega
   rw[List.drop_length]at hS hlen
   clear h
   refine bF 0 rfl rfl (aY (aZ (bE (aB (aA rfl (aA rfl (aW [1,4,116,117,118] rfl rfl rfl fun K hK=>?_)))))))
   simp(disch:=omega) only[Try.f7,go_sem,↓reduceIte,mdA]
   refine hK _ ?_
   refine aB ?_
   obtain⟨L,hLL⟩: ∃L,[M.an,M.au,M.ad]=L:=⟨_,rfl⟩
   have hsc:[AV.sl M.an.length (rcC M.an),AV.sl M.au.length (rcC M.au),AV.sl M.ad.length (rcC M.ad)]=scC L:=by rw[←hLL];rfl
   have hLr: ∀l∈L,rcR l:=by rw[←hLL];intro l hl;simp at hl;rcases hl with rfl|rfl|rfl<;>assumption
   have hL3:L.length=3:=by rw[←hLL];rfl
   rw[hsc]
   rw[hLL]at hsz
   refine pS 116 (c+1+6) 0 3 1 rfl (by rw[bJ,J4 rfl]) (by rw[fIm,hL3];decide) ?_
   rw[J9,List.take_of_length_le (by rw[fIm,hL3];decide)]
   obtain⟨g0,h0,hg0⟩: ∃y,WS (fun _=>none) q0 w q0 m y q b F∧upd (upd g (c+1+6) (AO.cells (scC L) true)) (c+1+6) (AO.cells (scC L) false)=y:=
    ⟨_,(hW.upd (by omega) (by omega)).upd (by omega) (by omega),rfl⟩
   rw[hg0]
   clear hg0 hsc hqs qn
   have hS9:fKd L b F=mbF M:=by rw[←hLL,mbF,←hhd,←hS,fJp]
   have hlen9:b.length+fJm L≤61000:=by rw[show fIp []=0 from rfl]at hlen;omega
   refine fF [1,4,116,117,118] ?_
   simp only[iB,fU,eW,↓reduceIte,Nat.reduceEqDiff]
   refine aR 2 rfl rfl ?_
   refine bR (fun p:YI=> {fr:=[(1,.rp (mdA M)),(4,.op w 0),(116,.sl 3 (scC L)),(117,.i (3:Nat)),(118,.i p.k)],hp:=p.g,nx:=0,cx:=p.c}) (fun p=>p.k≤3∧fKd (L.drop p.k) p.b p.F=mbF M∧WS (fun _=>none) q0 w q0 m p.g p.q p.b p.F∧p.q<p.c∧q0≤p.c∧p.b.length+fJm (L.drop p.k)≤61000) (fun p=>3-p.k) rfl ⟨⟨0,g0,q,b,F,_⟩,⟨Nat.zero_le _,hS9,h0,by simp only;omega,by simp only;omega,hlen9⟩,bD rfl rfl (U3 _)⟩ ?_
   rintro⟨k2,g2,q2,b2,F2,c2⟩ ⟨hk2,hS2,hW2,hqc2,hcq2,hlen2⟩ n0
   simp only at hk2 hS2 hW2 hqc2 hcq2 hlen2⊢
   refine aA rfl (aW [119,1,4,116,117,118] rfl rfl rfl fun K hK=>?_)
   simp(disch:=omega) only[Try.f7,go_sem,↓reduceIte]
   refine hK _ ?_
   refine aB (aA rfl (bA (.tmp 119) rfl rfl rfl (fun h=>?_) (fun h=>?_)))
   ·refine aI rfl ?_
    have hk3:k2<L.length:=by omega
    have hd2:=fJu L k2 hk3
    obtain⟨l,hl⟩: ∃l,L[k2]=l:=⟨_,rfl⟩
    have hsu:=fKv L k2 hk3
    rw[hl]at hd2 hsu
    obtain⟨hln,hlr⟩:=hLr l (hl▸List.getElem_mem hk3)
    have hS3:=hS2
    rw[List.drop_eq_getElem_cons hk3,hl,fKd]at hS3
    clear h hl
    refine aQ rfl (aB (aA rfl (aR 3 rfl rfl (aA rfl (aW [1,4,8,116,117,118] rfl rfl rfl fun K hK=>?_)))))
    simp(disch:=omega) only[Try.f7,go_sem,↓reduceIte,hd2]
    refine hK _ ?_
    refine aB (aA rfl (aW [1,4,116,117,118,122,123,124] rfl rfl rfl fun K hK=>?_))
    simp(disch:=omega) only[Try.f7,go_sem,↓reduceIte]
    refine hK _ ?_
    refine aB (aR 4 rfl rfl ?_)
    refine bR (fun p:YI=> {fr:=[(1,.rp (mdA M)),(4,.op w 0),(116,.sl 3 (scC L)),(117,.i (3:Nat)),(118,.i k2),(122,.sl l.length (rcC l)),(123,.i l.length),(124,.i p.k)],hp:=p.g,nx:=0,cx:=p.c}) (fun p=>p.k≤l.length∧fJa (l.drop p.k) p.b p.F=fJa l b2 F2∧WS (fun _=>none) q0 w q0 m p.g p.q p.b p.F∧p.q<p.c∧q0≤p.c∧p.b.length+fIl (l.drop p.k)+fJm (L.drop (k2+1))≤61000) (fun p=>l.length-p.k) rfl ⟨⟨0,g2,q2,b2,F2,_⟩,⟨Nat.zero_le _,rfl,hW2,by simp only;omega,by simp only;omega,by simp only[J9];omega⟩,bD rfl rfl (U3 _)⟩ ?_
    rintro⟨k3,g3,q3,b3,F3,c3⟩ ⟨hk3,hS4,hW3,hqc3,hcq3,hlen3⟩ n0
    simp only at hk3 hS4 hW3 hqc3 hcq3 hlen3⊢
    refine aA rfl (aW [125,1,4,116,117,118,122,123,124] rfl rfl rfl fun K hK=>?_)
    simp(disch:=omega) only[Try.f7,go_sem,↓reduceIte]
    refine hK _ ?_
    refine aB (aA rfl (bA (.tmp 125) rfl rfl rfl (fun h=>?_) (fun h=>?_)))
    ·refine aI rfl ?_
     have hkl:k3<l.length:=by omega
     have hcl:=fIh l
     obtain⟨u,hu⟩: ∃u,l[k3]=u:=⟨_,rfl⟩
     have hdr:(rcC l).drop (5*k3)=[.sl u.nm.length (cS u.nm),.w16 u.ty,.w16 u.cl,.w32 u.ttl,.sl u.d.length (c8 u.d)]++rcC (l.drop (k3+1)):=by
      rw[fIr,List.drop_eq_getElem_cons hkl,hu];rfl
     have hdr2:(rcC l).drop (k3*5)=[.sl u.nm.length (cS u.nm),.w16 u.ty,.w16 u.cl,.w32 u.ttl,.sl u.d.length (c8 u.d)]++rcC (l.drop (k3+1)):=by rw[Nat.mul_comm];exact hdr
     obtain⟨hqm,hqd⟩:=hlr u (hu▸List.getElem_mem hkl)
     have hln2:=eYr hqm
     have hsu2:=fKw l k3 hkl
     rw[hu,szR]at hsu2
     have hS5:=hS4
     rw[List.drop_eq_getElem_cons hkl,hu,fJa]at hS5
     have hrec:=fMp u
     rw[fLo]at hrec
     clear h
     refine aQ rfl (aB (aA rfl (aR 5 rfl rfl (aA rfl (aW [1,4,10,116,117,118,122,123,124] rfl rfl rfl fun K hK=>?_)))))
     simp(disch:=omega) only[Try.f7,go_sem,↓reduceIte,hdr2,List.cons_append,List.nil_append]
     refine hK _ ?_
     refine aB (lW 10 (c3+1+2) 0 rfl (by rw[bJ,J4 rfl]) ?_)
     obtain⟨g4,h4,hg4⟩: ∃y,WS (fun _=>none) q0 w q0 m y q3 b3 F3∧upd (upd g3 (c3+1+2) (AO.cells [AV.sl u.nm.length (cS u.nm),AV.w16 u.ty,AV.w16 u.cl,AV.w32 u.ttl,AV.sl u.d.length (c8 u.d)] true)) (c3+1+2) (AO.cells [AV.sl u.nm.length (cS u.nm),AV.w16 u.ty,AV.w16 u.cl,AV.w32 u.ttl,AV.sl u.d.length (c8 u.d)] false)=y:=
      ⟨_,(hW3.upd (by omega) (by omega)).upd (by omega) (by omega),rfl⟩
     rw[hg4]
     clear hg4
     refine aA rfl (aC (Γ:=bC [(15,.heap fJf)]) [1,4,116,117,118,122,123,124] (aH fNg aO) rfl rfl rfl (fun K hK=>?_))
     simp(disch:=omega) only[Try.f7,go_sem,↓reduceIte,fIa h4.h,J9,hrec]
     refine hK _ ?_
     refine aB (fIe h4 (by omega) fun g5 b5 F5 eb5 eF5 h5=>?_)
     have hwn:=fKj u b3 F3
     rw[←eb5]at hwn
     simp only[szR]at hwn
     refine aA rfl (aW [136,1,4,116,117,118,122,123,124] rfl rfl rfl fun K hK=>?_)
     simp(disch:=omega) only[Try.f7,go_sem,↓reduceIte,h5.h.h.hw]
     refine hK _ ?_
     refine aB (bA (.tmp 136) rfl rfl rfl (fun h=>?_) (fun h=>?_))
     ·refine aI rfl ?_
      omega
     refine aI rfl ?_
     clear h
     refine aQ rfl (bU (aB (aW [1,4,116,117,118,122,123,124] rfl rfl rfl fun K hK=>?_)))
     simp(disch:=omega) only[Try.f7,go_sem,↓reduceIte]
     refine hK _ ?_
     refine bT ?_
     refine⟨⟨k3+1,g5,_,b5,F5,_⟩,⟨by simp only;omega,?_,h5,by simp only;omega,by simp only;omega,by simp only;omega⟩,by simp only;omega,bD ?_ rfl (U3 _)⟩
     ·simp only
      rw[←hS5,eb5,eF5]
     simp only[Int.natCast_add,Int.natCast_one]
    refine aI rfl ?_
    obtain rfl:k3=l.length:=by omega
    rw[List.drop_length]at hS4 hlen3
    clear h
    refine bF 4 rfl rfl (aY (aZ (bE (bU (aB (aW [1,4,116,117,118] rfl rfl rfl fun K hK=>?_))))))
    simp(disch:=omega) only[Try.f7,go_sem,↓reduceIte]
    refine hK _ ?_
    refine bT ?_
    refine⟨⟨k2+1,g3,q3,b3,F3,_⟩,⟨by simp only;omega,?_,hW3,by simp only;omega,by simp only;omega,by simp only;omega⟩,by simp only;omega,bD ?_ rfl (U3 _)⟩
    ·simp only
     rw[←hS3,←hS4,fJa]
    simp only[Int.natCast_add,Int.natCast_one]
   refine aI rfl ?_
   obtain rfl:k2=3:=by omega
   rw[List.drop_eq_nil_of_le (by omega),fKd]at hS2
   clear h
   refine bF 2 rfl rfl (aY (aZ (bE (aB ?_))))
   obtain⟨e1,e2⟩:b2=(mbF M).1∧F2=(mbF M).2:=by rw[←hS2];exact⟨rfl,rfl⟩
   have hlb:b2.length≤61000:=by omega
   refine aA rfl (aA rfl (aW [140,1,4] rfl rfl rfl fun K hK=>?_))
   simp(disch:=omega) only[Try.f7,go_sem,↓reduceIte,mdA]
   refine hK _ ?_
   refine aB ?_
   rcases Bool.eq_false_or_eq_true M.ed with hd|hd
   ·simp only[hd]
    refine eC (.tmp 140) rfl rfl rfl (fun h=>?_) (fun h=>?_)
    ·refine aI rfl ?_
     clear h
     have hrec:fIq [.v (.slice none 0 0),.w16 41#16,.w16 M.sz,.w32 (BitVec.ofInt 32 (M.rc.fdiv (2^min 4 64)) <<<24|||(if M.dn=true then 32768#32 else 0#32)),.v (.slice none 0 0)]=some (fLd M):=rfl
     have ho1:(fLd M).nm.length=0:=rfl
     have ho2:(eF (fLd M).nm).length=0:=rfl
     have ho3:(fLd M).d.length=0:=rfl
     refine bB (Γ:=bC [(13,.pure true bCu),(15,.heap fJf)]) (fun k=>if k=13 then 0 else 2) [4] bZ (aH fKn (aH fNg aO)) rfl rfl rfl (by kernel_rfl) (fun K hK=>?_)
     simp(disch:=omega) only[Try.f7,go_sem,↓reduceIte,fIa hW2.h,hrec,ho1,ho2,ho3]
     refine hK _ ?_
     refine aB (fIe hW2 (by omega) fun g5 b5 F5 eb5 eF5 h5=>?_)
     have hwn:=fKj (fLd M) b2 F2
     rw[←eb5]at hwn
     simp only[szR,ho2,ho3]at hwn
     have hmb:mbS M=b5:=by rw[mbS,J4 hd,eb5,e1,e2]
     rw[hmb]
     refine aA rfl (aA rfl (aW [160,4] rfl rfl rfl fun K hK=>?_))
     simp(disch:=omega) only[Try.f7,go_sem,↓reduceIte,h5.h.h.hw]
     refine hK _ ?_
     refine aB (bA (.tmp 160) rfl rfl rfl (fun h=>?_) (fun h=>?_))
     ·refine aI rfl ?_
      omega
     refine aI rfl ?_
     clear h
     refine aQ rfl (aB (aA rfl (aW [2,3] rfl rfl rfl fun K hK=>?_)))
     simp(disch:=omega) only[Try.f7,go_sem,↓reduceIte,h5.h.h.hw]
     refine hK _ ?_
     refine aB (aS rfl ?_)
     simp(disch:=omega) only[fHo,bV,bK,bQ,Try.f7,go_sem,↓reduceIte,h5.h.h.hq]
    refine aI rfl ?_
    cases h
   simp only[hd]
   refine eC (.tmp 140) rfl rfl rfl (fun h=>?_) (fun h=>?_)
   ·refine aI rfl ?_
    cases h
   refine aI rfl ?_
   clear h
   have hmb:mbS M=b2:=by rw[mbS,J3 (by simp[hd]),e1]
   rw[hmb]
   refine aQ rfl (aB (aA rfl (aA rfl (aW [160,4] rfl rfl rfl fun K hK=>?_))))
   simp(disch:=omega) only[Try.f7,go_sem,↓reduceIte,hW2.h.h.hw]
   refine hK _ ?_
   refine aB (bA (.tmp 160) rfl rfl rfl (fun h=>?_) (fun h=>?_))
   ·refine aI rfl ?_
    omega
   refine aI rfl ?_
   clear h
   refine aQ rfl (aB (aA rfl (aW [2,3] rfl rfl rfl fun K hK=>?_)))
   simp(disch:=omega) only[Try.f7,go_sem,↓reduceIte,hW2.h.h.hw]
   refine hK _ ?_
   refine aB (aS rfl ?_)
   simp(disch:=omega) only[fHo,bV,bK,bQ,Try.f7,go_sem,↓reduceIte,hW2.h.h.hq]
  simp only[hlim,decide_false,Bool.not_false,if_false]
  refine eC (.tmp 13) rfl rfl rfl (fun h=>?_) (fun h=>?_)
  ·refine aI rfl (aA rfl (aW [2,3] rfl rfl rfl fun K hK=>?_))
   simp(disch:=omega) only[Try.f7,go_sem,↓reduceIte]
   refine hK _ ?_
   refine aB (aS rfl (bI ?_))
   simp(disch:=omega) only[fHo,bV,bK,bQ,Try.f7,go_sem,↓reduceIte]
  refine aI rfl ?_
  cases h
 cases hg
end Go.AX

namespace Go.AX
open Go Go.Proofs
set_option maxRecDepth 8000
def isM:Option AO→Bool
 |some (.cells (.w16 _::xs) true)=>decide (xs.length=14)
 |_=>false
theorem fMv {o:Option AO} (h:isM o=true): ∃xs,o=some (.cells xs true):=by
 unfold isM at h
 split at h
 ·exact⟨_,rfl⟩
 cases h
theorem fOu (xs:List AV):isM (some (.cells xs false))=false:=by
 cases xs with
 |nil=>rfl
 |cons x r=>cases x<;>rfl
theorem fOs (x:BitVec 16) (xs:List AV):isM (some (.cells (.w16 x::xs) true))=decide (xs.length=14):=(rfl)
theorem fNs (n:Nat) (x xs:List AV):isM (some (.cells (.sl n x::xs) true))=false:=(rfl)
theorem fOt (x:List B8) (xs:List AV):isM (some (.cells (.s x::xs) true))=false:=(rfl)
theorem fNt (i a n e:Nat) (g:Bool) (xs:List AV):isM (some (.cells (.os i a n e g::xs) true))=false:=(rfl)
attribute [go_sem] fOu fOs fNs fOt fNt
def bUf (hp:H):H:=fun k=>if isM (hp k)=true then none else hp k
def fJn (hp:H):H:=fun k=>if isM (hp k)=true then hp k else(hp k).map eQs
theorem fHy (hp:H) (k:Nat):bUf hp k=if isM (hp k)=true then none else hp k:=rfl
theorem fKb (hp:H) (k:Nat):fJn hp k=if isM (hp k)=true then hp k else(hp k).map eQs:=rfl
theorem Inv.lendS {c:Ctx} {σ:Nat→Loc} {I:Nat→Prop} {w:World} {hp:H} {un:Nat→Prop} (h:Inv c σ I w hp un):
  ∃I1,Inv c σ I1 w (fJn hp) un∧(∀k,I k→I1 k)∧(∀id o blk base sz,bUf hp id=some o→σ id=.at_ blk base sz→I1 blk):=by
 have mY: ∀id o,bUf hp id=some o→hp id=some o∧isM (hp id)=false:=fun id o ho=>by
  rw[fHy]at ho
  split at ho
  ·cases ho
  ·rename_i e;exact⟨ho,by simpa using e⟩
 have hfrz: ∀id o,fJn hp id=some o→(hp id=some o∧isM (hp id)=true)∨(∃o',hp id=some o'∧o=eQs o'∧bUf hp id=some o'):=fun id o ho=>by
  rw[fKb]at ho
  split at ho
  ·rename_i e;exact .inl ⟨ho,e⟩
  ·rename_i e
   cases e2:hp id with
   |none=>rw[e2]at ho;cases ho
   |some o'=>
    rw[e2]at ho
    exact .inr ⟨o',rfl,(J0 ho).symm,by rw[fHy,J3 e,e2]⟩
 have hmt: ∀id o,hp id=some o→isM (hp id)=true→o.mt=true:=fun id o ho h15=>by
  obtain⟨xs,e⟩:=fMv h15
  rw[ho]at e;cases e;rfl
 refine⟨fun k=>I k∨∃id o base sz,bUf hp id=some o∧σ id=.at_ k base sz,?_,fun k hk=> .inl hk,fun id o blk base sz h1 h2=> .inr ⟨id,o,base,sz,h1,h2⟩⟩
 refine {h with imm:=fun k hk=> .inl (h.imm k hk),ilt:=fun k hk=>?_,own:=fun id o ho=>?_,inj:=fun id id' o o' blk base sz base' sz' ho hm ho' hne e1 e2=>?_,lim:=fun id o blk base sz ho hm e1=>?_,glob:=fun g xs hg=>(h.glob g xs hg).mono (fun _ _=>rfl) (fun k hk=> .inl hk) (fun _ _=>rfl),inew:=fun k hk=>?_}
 ·rcases hk with hk|⟨id,o,base,sz,h1,h2⟩
  ·exact h.ilt k hk
  ·exact(h.own id o (mY id o h1).1).lt h2
 ·rcases hfrz id o ho with⟨h1,h15⟩|⟨o',h1,rfl,h2⟩
  ·refine(h.own id o h1).mono (fun _ _=>rfl) (fun k hk=> .inl hk) (fun _ _=>rfl) fun blk base sz e1=>⟨rfl,fun hm hI=>?_⟩
   rintro(hk|⟨id2,o2,base2,sz2,g1,g2⟩)
   ·exact hI hk
   ·obtain⟨g3,g4⟩:=mY id2 o2 g1
    refine h.inj id id2 o o2 blk base sz base2 sz2 h1 hm g3 ?_ e1 g2
    intro e;subst e
    rw[h15]at g4;cases g4
  ·exact(h.own id o' h1).lend (fun k hk=> .inl hk) fun k base sz e=> .inr ⟨id,o',base,sz,h2,e⟩
 ·have key: ∀id o,fJn hp id=some o→∃o2,hp id=some o2:=fun id o ho=>by
   rcases hfrz id o ho with⟨h1,_⟩|⟨o',h1,_,_⟩
   ·exact⟨_,h1⟩
   ·exact⟨_,h1⟩
  rcases hfrz id o ho with⟨h1,h15⟩|⟨o2,h1,rfl,_⟩
  ·obtain⟨o2,h2⟩:=key id' o' ho'
   exact h.inj id id' o o2 blk base sz base' sz' h1 hm h2 hne e1 e2
  ·rw[eRv]at hm;cases hm
 ·rcases hfrz id o ho with⟨h1,h15⟩|⟨o2,h1,rfl,_⟩
  ·exact h.lim id o blk base sz h1 hm e1
  ·rw[eRv]at hm;cases hm
 ·rcases hk with hk|⟨id,o,base,sz,h1,h2⟩
  ·exact h.inew k hk
  ·obtain⟨h3,_⟩:=mY id o h1
   cases hm:o.mt with
   |true=>exact .inr (h.lim id o k base sz h3 hm h2)
   |false=>
    refine h.inew k ?_
    have:=h.own id o h3
    cases o with
    |cells xs mt=>
     simp only[hD,h2]at this
     exact this.2.2 hm
    |mapo es mt=>
     obtain⟨blk,a1,a2,a3,a4⟩:=this
     rw[h2]at a1;cases a1
     exact a4 hm
def fLr (g:List AV→Option AV):List AV→H→Nat→Option (AV×H×Nat):=fun args hp nx=>aK (gR (bUf hp) args) fun as_=>aK (g as_) fun r=>aN (r.ids=0) (some (r,fJn hp,nx))
theorem fKh {P:Program} {GL:Nat→Option (List AV)} {f:FuncId} {g:List AV→Option AV} (hok:fHn P GL f g):fHs P GL f (fLr g):=by
 intro c σ I w hp nx args vals r hp' nx' hGL hi hs hr hg
 unfold fLr at hg
 replace hg:=aJ hg;obtain⟨as_,has,hg⟩:=hg
 replace hg:=aJ hg;obtain⟨r',hr',hg⟩:=hg
 replace hg:=aP hg;obtain⟨hids,hg⟩:=hg
 simp only[Option.some.injEq,Prod.mk.injEq]at hg;obtain⟨rfl,rfl,rfl⟩:=hg
 refine⟨U3 _,?_⟩
 obtain⟨I1,b2,b1,b4⟩:=hi.lendS
 obtain⟨e1,e2⟩:=pR (Ib:=I1) (hi.sub (hp':=bUf hp) fun id o ho=>by
  rw[fHy]at ho
  split at ho
  ·cases ho
  exact ho) b1 b4 args (fun i=>vals.getD i undef) has hr
 subst hGL
 refine(hok σ I1 w nx as_ vals r' (fun id hid=>b2.un id hid) b2.ilt b2.glob (by rw[hs,e1]) e2 hr').mono ?_
 rintro e w' ⟨v,σ',I',rfl,a1,a2,a3,a4,a5,a6,a7,a8,a9⟩
 have hg1: ∀k,I1 k→(I1 k∨(w.heap.size≤k∧k<w'.heap.size)):=fun k hk=> .inl hk
 refine⟨v,σ,fun k=>I1 k∨(w.heap.size≤k∧k<w'.heap.size),rfl,b2.extend a1 a2 a3 a4 a5 _ hg1 (fun _ h=>h),?_,⟨fun _ _=>rfl,fun k hk=> .inl (b1 k hk),fun k hk=>a5 k (hi.ilt k hk)⟩,fun _ _ h=>h⟩
 have h9:Rel σ I' w' r' v:=a9.congr_ids fun id hid=>by omega
 exact h9.mono (fun _ _=>rfl) (fun k hk=>by
  rcases a7 k hk with h|h
  ·exact .inl h
  exact .inr ⟨h,a8 k hk⟩) (fun _ _=>rfl)
end Go.AX

namespace Go.AX
open Go Go.Proofs
set_option maxRecDepth 8000
def idV (b:List B8):AV:=if b.length<12 then .tup [.w16 0#16,.b false]else .tup [.w16 (((b.getD 0 0#8).setWidth 16 <<<8)|||(b.getD 1 0#8).setWidth 16),.b true]
def idG:List AV→Option AV
 |[.sl n xs]=>aK (fHq xs) fun b=>aN (b.length=n∧n≤1000000) (some (idV b))
 |_=>none
theorem fNx (n:Nat) (xs:List AV):idG [.sl n xs]=aK (fHq xs) fun b=>aN (b.length=n∧n≤1000000) (some (idV b)):=(rfl)
attribute [go_sem] fNx
set_option maxHeartbeats 1000000 in
theorem fOw:fHn Try.prog GLh 10 idG:=by
 refine zK Try.func10 (aT rfl) ?_
 intro args r hg
 unfold idG at hg
 split at hg
 ·rename_i n xs
  replace hg:=aJ hg;obtain⟨b,hl,hg⟩:=hg
  replace hg:=aP hg;obtain⟨⟨rfl,hn⟩,hg⟩:=hg
  obtain rfl:=J0 hg
  have:=bW hl;subst this
  refine⟨J1 rfl,fun nx=>?_⟩
  clear hg hl
  refine aA rfl (aW [0] rfl rfl rfl fun K hK=>?_)
  simp(disch:=omega) only[Try.f10,go_sem,↓reduceIte]
  refine hK _ ?_
  refine aB (aA rfl (aA rfl (aW [6,0] rfl rfl rfl fun K hK=>?_)))
  simp(disch:=omega) only[Try.f10,go_sem,↓reduceIte]
  refine hK _ ?_
  refine aB (bA (.tmp 6) rfl rfl rfl (fun h=>?_) (fun h=>?_))
  ·refine aI rfl ?_
   have e:idV b=.tup [.w16 0#16,.b false]:=J4 (by omega)
   rw[e]
   refine aA rfl (aW [2,3] rfl rfl rfl fun K hK=>?_)
   simp(disch:=omega) only[Try.f10,go_sem,↓reduceIte]
   refine hK _ ?_
   refine aB (aS rfl (bI ?_))
   simp(disch:=omega) only[fHo,bV,bK,bQ,Try.f10,go_sem,↓reduceIte]
  refine aI rfl ?_
  have e:idV b=.tup [.w16 (((b.getD 0 0#8).setWidth 16 <<<8)|||(b.getD 1 0#8).setWidth 16),.b true]:=J3 (by omega)
  rw[e]
  have hb:12≤b.length:=by omega
  have h0:=oC b 0 (by omega)
  have h1:=oC b 1 (by omega)
  rw[J9]at h0
  clear h
  refine aQ rfl (aB (aA rfl (bB (Γ:=aL) (fun _=>2) [2,3] bZ (aD _ _) rfl rfl rfl (by kernel_rfl) (fun K hK=>?_))))
  simp(disch:=omega) only[Try.f10,go_sem,↓reduceIte,h0]
  refine hK _ ?_
  refine aB (aS rfl ?_)
  simp(disch:=omega) only[fHo,bV,bK,bQ,Try.f10,go_sem,↓reduceIte]
 cases hg
theorem fOr:bX Try.prog GLh 10 (.pure true idG):=⟨⟨_,Try.func10,rfl,rfl⟩,fOw⟩
noncomputable def byH:List AV→H→Nat→Option (AV×H×Nat):=fLr byG
theorem fOf (args:List AV) (hp:H) (nx:Nat):byH args hp nx=aK (gR (bUf hp) args) fun as_=>aK (byG as_) fun r=>aN (r.ids=0) (some (r,fJn hp,nx)):=(rfl)
attribute [go_sem] fOf
theorem fLs:bX Try.prog GLh 7 (.heap byH):=⟨⟨_,Try.func7,rfl,rfl⟩,fKh fOy⟩
theorem fIx (hp:H) (k:Nat) (o:AO):fJn (upd hp k o)=upd (fJn hp) k (if isM (some o)=true then o else eQs o):=by
 funext j
 simp only[fKb,bJ]
 split
 ·split<;>rfl
 rfl
theorem fIy:fJn (fun _=>none)=fun _=>none:=rfl
theorem fOz {xs:List AV} {M:MD} (h:fJd xs=some M) (h2:RX2 M) (h3:M.rc≤fIw M):byG [.agg xs]=some (.tup [.sl (mbS M).length (c8 (mbS M)),.i 0]):=by
 show aK (fJd xs) _=_
 rw[h,aX,J4 h2,J4 h3]
def M0:MD:=⟨7#16,false,0,false,false,true,false,0,[⟨[[97#8]],1#16,1#16⟩],[],[],[],false,0#16,false⟩
def B0:List B8:=[0,7,1,0,0,1,0,0,0,0,0,0,1,97,0,0,1,0,1]
theorem M0_B:mbS M0=B0:=by decide
theorem M0_R:RX2 M0:=by
 refine⟨⟨by decide,by decide,by decide,by decide,fun q hq=>?_,⟨by decide,fun c hc=>by cases hc⟩,⟨by decide,fun c hc=>by cases hc⟩,⟨by decide,fun c hc=>by cases hc⟩⟩,by decide⟩
 have:q=⟨[[97#8]],1#16,1#16⟩:=by simpa [M0]using hq
 subst this
 decide
theorem fPb:byG [.agg (mdA M0)]=some (.tup [.sl 19 (c8 B0),.i 0]):=by
 rw[fOz (fLx M0) M0_R (by decide),M0_B];rfl
theorem fPa:mgR B0=some (msA B0 [⟨[[97#8]],1#16,1#16⟩],[.sl B0.length (c8 B0),.i 19]):=rfl
theorem B0_g:MGd B0:=.inr ⟨by decide,rfl,rfl,rfl,rfl⟩
theorem N0_g:MGd []:=.inl (by decide)
def eNl:List AV→Option AV
 |[]=>some (.b true)
 |_=>none
theorem eTd:eNl []=some (.b true):=(rfl)
attribute [go_sem] eTd
set_option maxHeartbeats 4000000 in
theorem eBb:fHn Try.prog GLh 5 eNl:=by
 refine zK Try.func5 (aT rfl) ?_
 intro args r hg
 unfold eNl at hg
 split at hg
 ·obtain rfl:=J0 hg
  refine⟨J1 rfl,fun nx=>?_⟩
  clear hg
  have hB:=fPb
  simp only[mdA,M0,qsC,rcC,List.length_nil,List.length_cons,cS,List.map_cons,List.map_nil,List.nil_append,List.cons_append,Nat.zero_add]at hB
  have hids:AV.ids (.tup [.sl 19 (c8 B0),.i 0])=0:=by decide
  refine aA rfl (aW [] rfl rfl rfl fun K hK=>?_)
  simp(disch:=omega) only[Try.f5,go_sem]
  refine hK _ ?_
  refine aB ?_
  have h97:ofV (Value.string {data:= #[97]})=.s [97#8]:=rfl
  refine aA rfl (aC (Γ:=bC [(7,.heap byH)]) [1,2] (aH fLs aO) rfl rfl rfl (fun K hK=>?_))
  simp(disch:=omega) only[Try.f5,go_sem,↓reduceIte,h97,fHy,hB,hids,fIx,fIy,fCz,U0,U1,J9,List.all_cons,List.all_nil,Option.isSome_some,Bool.and_self]
  refine hK _ ?_
  refine aB (yK (hp':=fun _=>none) (fun _ _ h=>by cases h) ?_)
  have e1:B0.length=19:=rfl
  have e2:MGd B0=True:=eq_true B0_g
  have e3:rwT (mgR B0)=.tup [.agg [.w16 7#16,.b false,.i 0,.b false,.b false,.b true,.b false,.i 0,.sl 1 (qsC [⟨[[97#8]],1#16,1#16⟩]),.sl 0 [],.sl 0 [],.sl 0 [],.b false,.w16 0#16,.b false],.i 0]:=by
   rw[fPa];rfl
  have e4:MGd []=True:=eq_true N0_g
  have e5:rwT (mgR [])=.tup [msZ,.i 60]:=rfl
  have e6:fHq []=some []:=rfl
  have e7:idV B0=.tup [.w16 7#16,.b true]:=rfl
  refine aA rfl (aC (Γ:=bC [(9,.pure false rwG)]) [1,2,3,4] (aH fOn aO) rfl rfl rfl (fun K hK=>?_))
  simp(disch:=omega) only[Try.f5,go_sem,↓reduceIte,e1,e2,e3]
  refine hK _ ?_
  refine aB (aA rfl (aC (Γ:=bC [(9,.pure false rwG)]) [1,2,3,4,6] (aH fOn aO) rfl rfl rfl (fun K hK=>?_)))
  simp(disch:=omega) only[Try.f5,go_sem,↓reduceIte,e4,e5,e6,msZ,List.length_nil,fV,dW]
  refine hK _ ?_
  refine aB (aA rfl (aC (Γ:=bC [(10,.pure true idG)]) [1,2,3,4,6,7,8] (aH fOr aO) rfl rfl rfl (fun K hK=>?_)))
  simp(disch:=omega) only[Try.f5,go_sem,↓reduceIte,e1,e7]
  refine hK _ ?_
  refine aB ?_
  have d19:decide (((19:Nat):Int)=19)=true:=rfl
  have d1:decide (((1:Nat):Int)=1)=true:=rfl
  refine aA rfl (aW [0] rfl rfl rfl fun K hK=>?_)
  simp(disch:=omega) only[Try.f5,go_sem,↓reduceIte,d19,d1,J8,J7,J9]
  refine hK _ ?_
  refine aB (aS rfl ?_)
  simp(disch:=omega) only[fHo,bV,bK,bQ,Try.f5,go_sem,↓reduceIte]
 cases hg
theorem okw5:bX Try.prog GLh 5 (.pure true eNl):=⟨⟨_,Try.func5,rfl,rfl⟩,eBb⟩
end Go.AX

namespace Go.AX
open Go Go.Proofs
set_option maxRecDepth 8000
theorem fHu {β:Type} (a b:List B8) (v:β): ∀l:List (List B8×β),iK a (kT b v l)=if a=b then some v else iK a l
 |[]=>by simp only[kT,iK]
 |p::r=>by
  simp only[kT]
  by_cases h:b=p.1
  ·rw[J4 h]
   simp only[iK]
   by_cases h2:a=b
   ·rw[J4 h2,J4 h2]
   rw[J3 h2,J3 h2,J3 (by rw[←h];exact h2)]
  rw[J3 h]
  simp only[iK]
  rw[fHu a b v r]
  by_cases h2:a=b
  ·subst h2
   rw[J3 h,J4 rfl,J4 rfl]
  rw[J3 h2]
  simp only[J3 h2]
theorem fS (n:Nm):(eF n).length+1=wl n:=by
 induction n with
 |nil=>rfl
 |cons l r ih=>rw[gX,eKu];omega
theorem dS (n:Nm):(fHk n).length=(eF n).length+1:=by simp[fHk]
theorem fMl (n:Nm): ∀(b:List B8) (F:WF),b.length+(eF n).length<16384→(∀k,k.length≤(fHk n).length→iK k F=none)→
  (wnS n b F).1=b++eF n++[0#8]∧∀k,(fHk n).length<k.length→iK k (wnS n b F).2.1=iK k F:=by
 induction n with
 |nil=>intro b F _ _;exact⟨by simp[wnS,fJr],fun k _=>rfl⟩
 |cons l r ih=>
  intro b F hb hF
  have hw:(fHk (l::r)).length=(fHk r).length+(l.length+1):=by rw[dS,dS,gX];omega
  rw[gX]at hb
  rw[fIg (hF _ (U3 _)),J4 (by omega)]
  have hl:(b++ePy l).length=b.length+l.length+1:=by simp[ePy];omega
  obtain⟨h1,h2⟩:=ih (b++ePy l) (kT (fHk (l::r)) b.length F) (by rw[hl];omega) (fun k hk=>by
   rw[fHu,J3 (fun e=>by rw[e]at hk;omega)]
   exact hF k (by omega))
  refine⟨by rw[h1,eNx,List.append_assoc b],fun k hk=>?_⟩
  rw[h2 k (by omega),fHu,J3 (fun e=>by rw[e]at hk;omega)]
theorem fKt {n:Nm} (hn:n≠[]) {b:List B8} (hb:b.length+(eF n).length<16384):(wnS n b []).1=b++eF n++[0#8]∧iK (fHk n) (wnS n b []).2.1=some b.length:=by
 cases n with
 |nil=>exact absurd rfl hn
 |cons l r=>
  have hw:(fHk (l::r)).length=(fHk r).length+(l.length+1):=by rw[dS,dS,gX];omega
  rw[gX]at hb
  rw[fIg rfl,J4 (by omega)]
  have hl:(b++ePy l).length=b.length+l.length+1:=by simp[ePy];omega
  obtain⟨h1,h2⟩:=fMl r (b++ePy l) (kT (fHk (l::r)) b.length []) (by rw[hl];omega) (fun k hk=>by
   rw[fHu,J3 (fun e=>by rw[e]at hk;omega)];rfl)
  refine⟨by rw[h1,eNx,List.append_assoc b],?_⟩
  rw[h2 _ (by omega),fHu,J4 rfl]
def sR (n:Nm) (i:Nat):RC:=⟨n,99#16,1#16,0#32,[BitVec.ofInt 8 (i:Int)]⟩
def sRs (n:Nm) (j:Nat):List RC:=(List.range j).map (sR n)
theorem fOl (n:Nm) (j:Nat):sRs n (j+1)=sRs n j++[sR n j]:=by simp[sRs,List.range_succ]
theorem fIn (n:Nm) (j:Nat):(sRs n j).length=j:=by simp[sRs]
def p13 (i:Nat):List B8:=[192#8,12#8,0,99,0,1,0,0,0,0,0,1,BitVec.ofInt 8 (i:Int)]
theorem fOh {n:Nm} (hn:n≠[]) {F:WF} (h:iK (fHk n) F=some 12) (b:List B8) (i:Nat):wrS (sR n i) b F=(b++p13 i,F):=by
 cases n with
 |nil=>exact absurd rfl hn
 |cons l r=>
  have e1:beL (49152#32|||BitVec.ofInt 32 ((12:Nat):Int)) 2 2=[192#8,12#8]:=by decide
  have e2:beL (BitVec.setWidth 32 (99#16)) 2 2=[0#8,99#8]:=by decide
  have e3:beL (BitVec.setWidth 32 (1#16)) 2 2=[0#8,1#8]:=by decide
  have e4:beL (0#32) 4 4=[0#8,0#8,0#8,0#8]:=by decide
  have e5:beL (BitVec.ofInt 32 (([BitVec.ofInt 8 (i:Int)]:List B8).length:Int)) 2 2=[0#8,1#8]:=by
   show beL (BitVec.ofInt 32 ((1:Nat):Int)) 2 2=_
   decide
  simp only[wrS,sR,fJq h,e1,e2,e3,e4,e5,p13,List.append_assoc,List.cons_append,List.nil_append]
  rfl
def fIt (j:Nat):List B8:=(List.range j).flatMap p13
theorem fJw (j:Nat):(fIt j).length=13*j:=by
 induction j with
 |zero=>rfl
 |succ j ih=>rw[fIt,List.range_succ,List.flatMap_append,List.length_append];change (fIt j).length+13=_;omega
theorem fMr {i j:Nat} (h:i<j):(fIt j).getD (13*i) 0#8=192#8∧(fIt j).getD (13*i+1) 0#8=12#8:=by
 induction j with
 |zero=>omega
 |succ j ih=>
  have e:fIt (j+1)=fIt j++p13 j:=by rw[fIt,List.range_succ,List.flatMap_append];simp[fIt]
  have hl:=fJw j
  rw[e]
  rcases Nat.lt_or_ge i j with h2|h2
  ·obtain⟨a1,a2⟩:=ih h2
   simp only[List.getD_eq_getElem?_getD]at a1 a2⊢
   rw[List.getElem?_append_left (by omega),List.getElem?_append_left (by omega)]
   exact⟨a1,a2⟩
  obtain rfl:i=j:=by omega
  simp only[List.getD_eq_getElem?_getD]
  rw[List.getElem?_append_right (by omega),List.getElem?_append_right (by omega),hl,Nat.sub_self,show 13*i+1-13*i=1 by omega]
  exact⟨rfl,rfl⟩
theorem fLi {n:Nm} (hn:n≠[]) {F:WF} (h:iK (fHk n) F=some 12): ∀(l:List Nat) (b:List B8),fJa (l.map (sR n)) b F=(b++l.flatMap p13,F)
 |[],b=>by simp[fJa]
 |i::r,b=>by
  rw[List.map_cons,fJa,fOh hn h]
  simp only
  rw[fLi hn h r,List.flatMap_cons,List.append_assoc]
def sM (n:Nm) (j:Nat):MD:=⟨0#16,false,0,false,false,false,false,0,[⟨n,1#16,1#16⟩],sRs n j,[],[],false,0#16,false⟩
theorem fNc {n:Nm} (hn:n≠[]) (hw:wl n≤255) (j:Nat): ∃b,b.length=17+(eF n).length∧mbS (sM n j)=b++fIt j:=by
 have hwl:=fS n
 have hh:(hdB (sM n j)).length=12:=by simp[hdB,cZ]
 obtain⟨h1,h2⟩:=fKt hn (b:=hdB (sM n j)) (by omega)
 rw[hh]at h2
 refine⟨(wnS n (hdB (sM n j)) []).1++beL (BitVec.setWidth 32 (1#16)) 2 2++beL (BitVec.setWidth 32 (1#16)) 2 2,?_,?_⟩
 ·rw[h1];simp only[List.length_append,cZ,hh,List.length_cons,List.length_nil];omega
 rw[mbS,J3 (by simp[sM])]
 simp only[mbF,fKd]
 have e:fJp (sM n j).qs (hdB (sM n j)) []=((wnS n (hdB (sM n j)) []).1++beL (BitVec.setWidth 32 (1#16)) 2 2++beL (BitVec.setWidth 32 (1#16)) 2 2,(wnS n (hdB (sM n j)) []).2.1):=rfl
 rw[e]
 simp only
 have e2:(sM n j).an=(List.range j).map (sR n):=rfl
 rw[e2,fLi hn h2]
 rfl
theorem sM_R {n:Nm} (h:okN n) {j:Nat} (hj:j≤4):RX2 (sM n j):=by
 have hwl:=fS n
 have hw:=h.2
 refine⟨⟨Int.le_refl 0,(by decide:(0:Int)≤15),Int.le_refl 0,by show 1≤65535;decide,fun q hq=>?_,⟨by show(sRs n j).length≤_;rw[fIn];omega,fun c hc=>?_⟩,⟨Nat.zero_le _,fun c hc=>by cases hc⟩,⟨Nat.zero_le _,fun c hc=>by cases hc⟩⟩,?_⟩
 ·have:q=⟨n,1#16,1#16⟩:=by simpa [sM]using hq
  subst this
  exact h
 ·obtain⟨i,_,rfl⟩: ∃i,i∈List.range j∧sR n i=c:=by simpa [sM,sRs]using hc
  exact⟨h,by show 1≤65535;decide⟩
 have e1:fIp (sM n j).qs=(eF n).length+6:=by simp[fIp,sM,szQ]
 have e2: ∀l:List Nat,fIl (l.map (sR n))=l.length*((eF n).length+13):=by
  intro l
  induction l with
  |nil=>simp[fIl]
  |cons i r ih=>
   have:fIl ((i::r).map (sR n))=szR (sR n i)+fIl (r.map (sR n)):=by simp[fIl]
   rw[this,ih,List.length_cons,Nat.succ_mul]
   simp only[szR,sR,List.length_cons,List.length_nil];omega
 have e3:fJm [(sM n j).an,(sM n j).au,(sM n j).ad]=j*((eF n).length+13):=by
  have:(sM n j).an=(List.range j).map (sR n):=rfl
  simp only[fJm,List.map_cons,List.map_nil,List.sum_cons,List.sum_nil,this,e2,List.length_range]
  simp[sM,fIl]
 rw[e1,e3]
 have:=Nat.mul_le_mul_right ((eF n).length+13) hj
 omega
end Go.AX

namespace Go.AX
open Go Go.Proofs
set_option maxRecDepth 8000
def wsG:List AV→Option AV
 |[.sl n xs,.w8 _]=>aK (unS xs) fun p=>aN (p.length=n∧n≤9223372036854775807∧∀l∈p,l.length≤9223372036854775807) (some (.b true))
 |_=>none
structure WVI where
 j:Nat
 N:Nat
 c:Nat
def hd9 (B:Nat):List AV:=[.w16 0#16,.b false,.i 0,.b false,.b false,.b false,.b false,.i 0,.os B 0 1 3 true]
def tl5:List AV:=[.v (.slice none 0 0),.v (.slice none 0 0),.b false,.w16 0#16,.b false]
theorem sM_A (n:Nm) (j:Nat):mdA (sM n j)=[.w16 0#16,.b false,.i 0,.b false,.b false,.b false,.b false,.i 0,.sl 1 [.sl n.length (cS n),.w16 1#16,.w16 1#16],.sl j (rcC (sRs n j)),.sl 0 [],.sl 0 [],.b false,.w16 0#16,.b false]:=by
 simp only[mdA,sM,fIn,qsC,rcC,List.length_nil,List.length_cons,List.append_nil]
theorem fOi {g:H} {a b c:Nat} {x y z:AO} (h1:g a=some x) (h2:g b=some y) (h3:g c=some z): ∀j o,upd (upd (upd (fun _=>none) a x) b y) c z j=some o→g j=some o:=by
 intro j o h
 simp only[bJ]at h
 split at h
 ·rename_i e;rw[e,h3];exact h
 split at h
 ·rename_i e;rw[e,h2];exact h
 split at h
 ·rename_i e;rw[e,h1];exact h
 cases h
set_option maxHeartbeats 8000000 in
theorem fOg:fHn Try.prog GLh 3 wsG:=by
 refine zK Try.func3 (aT rfl) ?_
 intro args r hg
 unfold wsG at hg
 split at hg
 ·rename_i n xs kk
  replace hg:=aJ hg;obtain⟨ps,hl,hg⟩:=hg
  replace hg:=aP hg;obtain⟨⟨rfl,hn,hbig⟩,hg⟩:=hg
  obtain rfl:=J0 hg
  have:=gT hl;subst this
  refine⟨J1 rfl,fun nx=>?_⟩
  clear hg hl
  have hB:(∀l∈ps,l.length≤9223372036854775807)=True:=eq_true hbig
  refine aA rfl (aW [0,1] rfl rfl rfl fun K hK=>?_)
  simp(disch:=omega) only[Try.f3,go_sem,↓reduceIte]
  refine hK _ ?_
  refine aB (aA rfl (aA rfl (aC (Γ:=bC [(5,.pure true eNl)]) [13,0,1] (aH okw5 aO) rfl rfl rfl (fun K hK=>?_))))
  simp(disch:=omega) only[Try.f3,go_sem,↓reduceIte]
  refine hK _ ?_
  refine aB (eC (.tmp 13) rfl rfl rfl (fun h=>?_) (fun h=>?_))
  ·refine aI rfl ?_
   cases h
  refine aI rfl ?_
  clear h
  refine aQ rfl (aB (aA rfl (aA rfl ?_)))
  by_cases hR:okN ps∧ps≠[]
  ·have d1:decide (okN ps)=true:=J5 hR.1
   have hl0:0<ps.length:=List.length_pos_iff.2 hR.2
   have d2:decide ((ps.length:Int)=0)=false:=J6 (by omega)
   refine aC (Γ:=bC [(6,.pure true gY)]) [21,0,1] (aH eCe aO) rfl rfl rfl (fun K hK=>?_)
   simp(disch:=omega) only[Try.f3,go_sem,↓reduceIte,hB,d1,d2]
   refine hK _ ?_
   refine aB (eC (.tmp 21) rfl rfl rfl (fun h=>?_) (fun h=>?_))
   ·refine aI rfl ?_
    cases h
   refine aI rfl ?_
   clear h
   refine aQ rfl (aB (aA rfl (aW [0,1,5] rfl rfl rfl fun K hK=>?_)))
   simp(disch:=omega) only[Try.f3,go_sem,↓reduceIte]
   refine hK _ ?_
   refine aB ?_
   obtain⟨B,hBe⟩: ∃x,nx+1+2+8+2=x:=⟨_,rfl⟩
   obtain⟨X,hX⟩: ∃x,nx+1+2+8+4=x:=⟨_,rfl⟩
   obtain⟨c0,hc0⟩: ∃x,nx+1+2+8+6=x:=⟨_,rfl⟩
   have hids:B<X∧X<c0:=by omega
   rw[hBe,hX,hc0]
   clear hBe hX hc0
   obtain⟨hok,hne⟩:=hR
   have hby: ∀j,j≤4→byG [.agg [.w16 0#16,.b false,.i 0,.b false,.b false,.b false,.b false,.i 0,.sl 1 [.sl ps.length (cS ps),.w16 1#16,.w16 1#16],.sl j (rcC (sRs ps j)),.sl 0 [],.sl 0 [],.b false,.w16 0#16,.b false]]=some (.tup [.sl (mbS (sM ps j)).length (c8 (mbS (sM ps j))),.i 0]):=fun j hj=>by
    have:=fOz (fLx (sM ps j)) (sM_R hok hj) (by show(0:Int)≤15;decide)
    rw[sM_A]at this
    exact this
   have hby0:byG [.agg [.w16 0#16,.b false,.i 0,.b false,.b false,.b false,.b false,.i 0,.sl 1 [.sl ps.length (cS ps),.w16 1#16,.w16 1#16],.sl 0 [],.sl 0 [],.sl 0 [],.b false,.w16 0#16,.b false]]=some (.tup [.sl (mbS (sM ps 0)).length (c8 (mbS (sM ps 0))),.i 0]):=hby 0 (by omega)
   have hid: ∀l:List B8,AV.ids (.tup [.sl l.length (c8 l),.i 0])=0:=fun l=>by
    show max (AV.ids (.sl l.length (c8 l))) (max 0 0)=0
    rw[eLf];rfl
   refine aA rfl (aC (Γ:=bC [(7,.heap byH)]) [0,1,5,6,7] (aH fLs aO) rfl rfl rfl (fun K hK=>?_))
   simp(disch:=omega) only[Try.f3,go_sem,↓reduceIte,fHy,hby0,hid,fIx,fIy,fCz,U0,U1,J9]
   refine hK _ ?_
   refine aB (aA rfl (aA rfl (aW [0,1,5,6,7,8] rfl rfl rfl fun K hK=>?_)))
   simp(disch:=omega) only[Try.f3,go_sem,↓reduceIte]
   refine hK _ ?_
   refine aB ?_
   have h50:((5#8:B8)=0#8)=False:=by decide
   obtain⟨J,hJ⟩: ∃x,(kk%5#8).toNat=x:=⟨_,rfl⟩
   have hJ4:J≤4:=by
    have:(kk%5#8).toNat=kk.toNat%5:=by simp[BitVec.toNat_umod]
    omega
   obtain⟨b0,hb0⟩: ∃x,mbS (sM ps 0)=x:=⟨_,rfl⟩
   rw[hb0]
   refine aDn X 5 (hd9 B) tl5 true (by rw[bJ,J4 rfl];rfl) (by omega) ?_
   refine aR 0 rfl rfl ?_
   refine bR (fun p:WVI=> {fr:=[(0,.sl ps.length (cS ps)),(1,.w8 kk),(5,.op X 0),(6,.sl b0.length (c8 b0)),(7,.i 0),(8,.i p.j)],hp:=upd (upd (upd (fun _=>none) B (.cells [.sl ps.length (cS ps),.w16 1#16,.w16 1#16] false)) p.N (.cells (rcC (sRs ps p.j)) true)) X (.cells (hd9 B++ .os p.N 0 p.j 5 true::tl5) true),nx:=0,cx:=p.c}) (fun p=>p.j≤J∧X<p.N∧p.N<p.c) (fun p=>J-p.j) rfl ⟨⟨0,c0+7+1,_⟩,⟨Nat.zero_le _,by simp only;omega,by simp only;omega⟩,⟨fun _=> .inr rfl,fun j o hj=>fOi (by simp(disch:=omega) only[aV,bY,↓reduceIte]<;>rfl) (by simp(disch:=omega) only[aV,bY,↓reduceIte]<;>rfl) (by simp(disch:=omega) only[aV,↓reduceIte]<;>rfl) j o hj,U3 _⟩⟩ ?_
   rintro⟨j,N,c⟩ ⟨hj,hN1,hN2⟩ n0
   simp only at hj hN1 hN2⊢
   refine aA rfl (aA rfl (aW [35,0,1,5,6,7,8] rfl rfl rfl fun K hK=>?_))
   simp(disch:=omega) only[Try.f3,go_sem,↓reduceIte,hJ,h50]
   refine hK _ ?_
   refine aB (bA (.tmp 35) rfl rfl rfl (fun h=>?_) (fun h=>?_))
   ·refine aI rfl ?_
    have hjJ:j<J:=by omega
    have hd8: ∀y:AV,(List.drop 9 (hd9 B++y::tl5)).head? =some y:=fun y=>rfl
    have hs8: ∀y z:AV,(hd9 B++y::tl5).set 9 z=hd9 B++z::tl5:=fun y z=>rfl
    have hl8: ∀y:AV,(hd9 B++y::tl5).length=15:=fun y=>rfl
    have hrl:(rcC (sRs ps j)).length=5*j:=by rw[fIh,fIn]
    clear h
    refine aQ rfl (aB (aA rfl (aR 1 rfl rfl (aW [0,1,5,6,7,8] rfl rfl rfl fun K hK=>?_))))
    simp(disch:=omega) only[Try.f3,go_sem,↓reduceIte,hd8,hs8,hl8,hrl,nT,yC,List.nil_append,List.cons_append,U0,U1,J7,J9,List.all_cons,List.all_nil,Option.isSome_some,Bool.and_self]
    refine hK _ ?_
    refine bU (aB ?_)
    have hrs:rcC (sRs ps j)++[AV.sl ps.length (cS ps),AV.w16 99#16,AV.w16 1#16,AV.w32 0#32,AV.sl 1 [AV.w8 (BitVec.ofInt 8 (j:Int))]]=rcC (sRs ps (j+1)):=by rw[fOl,fKk];rfl
    rw[hrs]
    refine aW [0,1,5,6,7,8] rfl rfl rfl fun K hK=>?_
    simp(disch:=omega) only[Try.f3,go_sem,↓reduceIte]
    refine hK _ ?_
    refine bT ?_
    refine⟨⟨j+1,c+5+8,_⟩,⟨by simp only;omega,by simp only;omega,by simp only;omega⟩,by simp only;omega,⟨fun _=> .inr ?_,fun i o hi=>?_,U3 _⟩⟩
    ·simp only[Int.natCast_add,Int.natCast_one]
    simp only at hi
    exact fOi (by simp(disch:=omega) only[aV,kE,bY,↓reduceIte]<;>rfl) (by simp(disch:=omega) only[aV,bY,↓reduceIte]<;>rfl) (by simp(disch:=omega) only[aV,↓reduceIte]<;>rfl) i o hi
   refine aI rfl ?_
   obtain rfl:j=J:=by omega
   clear h
   refine bF 0 rfl rfl (aY (aZ (bE (aB ?_))))
   have hrl:(rcC (sRs ps j)).length=5*j:=by rw[fIh,fIn]
   have htk:(rcC (sRs ps j)).take (j*5)=rcC (sRs ps j):=List.take_of_length_le (by omega)
   have hno:=fLp (sRs ps j)
   have hbj:=hby j hJ4
   have hmN:isM (some (.cells (rcC (sRs ps j)) true))=false:=by cases sRs ps j<;>rfl
   refine aA rfl (aC (Γ:=bC [(7,.heap byH)]) [1,6,7,9,10] (aH fLs aO) rfl rfl rfl (fun K hK=>?_))
   simp(disch:=omega) only[Try.f3,go_sem,↓reduceIte,fHy,hbj,hid,fIx,fIy,fCz,hmN,hrl,htk,hno,hd9,tl5,List.cons_append,List.nil_append,U0,U1,J9]
   refine hK _ ?_
   refine aB (yK (hp':=fun _=>none) (fun _ _ h=>by cases h) ?_)
   obtain⟨C,hC⟩: ∃x,mbS (sM ps j)=x:=⟨_,rfl⟩
   rw[hC]
   obtain⟨a0,la0,ea0⟩:=fNc hne hok.2 0
   obtain⟨a1,la1,ea1⟩:=fNc hne hok.2 j
   rw[hb0,show fIt 0=[]from rfl,List.append_nil]at ea0
   rw[hC]at ea1
   have hwl:=fS ps
   have hok2:=hok.2
   have hbl:b0.length=a1.length:=by rw[ea0,la0,la1]
   have hCl:C.length=b0.length+13*j:=by rw[ea1,List.length_append,fJw,hbl]
   have hb9:b0.length≤300:=by omega
   have hat: ∀i,i<j→C.getD (b0.length+13*i) 0#8=192#8∧C.getD (b0.length+13*i+1) 0#8=12#8:=by
    intro i hi
    obtain⟨p1,p2⟩:=fMr hi
    rw[List.getD_eq_getElem?_getD]at p1 p2
    rw[List.getD_eq_getElem?_getD,List.getD_eq_getElem?_getD,ea1,hbl,Nat.add_assoc,List.getElem?_append_right (by omega),List.getElem?_append_right (by omega),Nat.add_sub_cancel_left,Nat.add_sub_cancel_left]
    exact⟨p1,p2⟩
   clear hby hby0 hbj hids ea0 ea1 la0 la1 hb0 hC
   have dL:decide ((C.length:Int)=(b0.length:Int)+(j:Int)*13)=true:=J5 (by omega)
   refine aA rfl (aA rfl (aW [68,1,6,9] rfl rfl rfl fun K hK=>?_))
   simp(disch:=omega) only[Try.f3,go_sem,↓reduceIte,hJ,h50,dL]
   refine hK _ ?_
   refine aB (eC (.tmp 68) rfl rfl rfl (fun h=>?_) (fun h=>?_))
   ·refine aI rfl ?_
    cases h
   refine aI rfl ?_
   clear h
   refine aQ rfl (aB (aA rfl (aA rfl (aW [1,6,9,11] rfl rfl rfl fun K hK=>?_))))
   simp(disch:=omega) only[Try.f3,go_sem,↓reduceIte]
   refine hK _ ?_
   refine aB (aR 2 rfl rfl (bR (fun p:LCI=> {fr:=[(1,.w8 kk),(6,.sl b0.length (c8 b0)),(9,.sl C.length (c8 C)),(11,.i p.k)],hp:=fun _=>none,nx:=0,cx:=p.c}) (fun p=>p.k≤j) (fun p=>j-p.k) rfl ⟨⟨0,_⟩,Nat.zero_le _,bD rfl rfl (U3 _)⟩ ?_))
   rintro⟨i,c2⟩ hi n0
   simp only at hi⊢
   refine aA rfl (aA rfl (aW [73,1,6,9,11] rfl rfl rfl fun K hK=>?_))
   simp(disch:=omega) only[Try.f3,go_sem,↓reduceIte,hJ,h50]
   refine hK _ ?_
   refine aB (bA (.tmp 73) rfl rfl rfl (fun h=>?_) (fun h=>?_))
   ·refine aI rfl ?_
    have hij:i<j:=by omega
    obtain⟨p1,p2⟩:=hat i hij
    have m1:((b0.length:Int)+13*(i:Int)).toNat=b0.length+13*i:=by omega
    have m2:((b0.length:Int)+13*(i:Int)+1).toNat=b0.length+13*i+1:=by omega
    clear h
    refine aQ rfl (aB (aA rfl (aR 3 rfl rfl (aA rfl (aW [96,1,6,9,11] rfl rfl rfl fun K hK=>?_)))))
    simp(disch:=omega) only[Try.f3,go_sem,↓reduceIte,m1,m2,p1,p2,eq_self,decide_true,Bool.not_true]
    refine hK _ ?_
    refine aB (eC (.tmp 96) rfl rfl rfl (fun h=>?_) (fun h=>?_))
    ·refine aI rfl ?_
     cases h
    refine aI rfl ?_
    clear h
    refine aQ rfl (bU (aB (aW [1,6,9,11] rfl rfl rfl fun K hK=>?_)))
    simp(disch:=omega) only[Try.f3,go_sem,↓reduceIte]
    refine hK _ ?_
    refine bT ?_
    refine⟨⟨i+1,_⟩,by simp only;omega,by simp only;omega,⟨fun _=> .inr ?_,fun j o hj=>(by cases hj),U3 _⟩⟩
    simp only[Int.natCast_add,Int.natCast_one]
   refine aI rfl ?_
   clear h
   refine bF 2 rfl rfl (aY (aZ (bE (aB (aA rfl (aW [4] rfl rfl rfl fun K hK=>?_))))))
   simp(disch:=omega) only[Try.f3,go_sem,↓reduceIte]
   refine hK _ ?_
   refine aB (aS rfl ?_)
   simp(disch:=omega) only[fHo,bV,bK,bQ,Try.f3,go_sem,↓reduceIte]
  by_cases hR1:okN ps
  ·have d1:decide (okN ps)=true:=J5 hR1
   have hps:ps=[]:=Classical.byContradiction fun h=>hR ⟨hR1,h⟩
   have d2:decide ((ps.length:Int)=0)=true:=by rw[hps];rfl
   refine aC (Γ:=bC [(6,.pure true gY)]) [21,0,1] (aH eCe aO) rfl rfl rfl (fun K hK=>?_)
   simp(disch:=omega) only[Try.f3,go_sem,↓reduceIte,hB,d1,d2]
   refine hK _ ?_
   refine aB (eC (.tmp 21) rfl rfl rfl (fun h=>?_) (fun h=>?_))
   ·refine aI rfl (aA rfl (aW [4] rfl rfl rfl fun K hK=>?_))
    simp(disch:=omega) only[Try.f3,go_sem,↓reduceIte]
    refine hK _ ?_
    refine aB (aS rfl (bI ?_))
    simp(disch:=omega) only[fHo,bV,bK,bQ,Try.f3,go_sem,↓reduceIte]
   refine aI rfl ?_
   cases h
  have d1:decide (okN ps)=false:=J6 hR1
  refine aC (Γ:=bC [(6,.pure true gY)]) [21,0,1] (aH eCe aO) rfl rfl rfl (fun K hK=>?_)
  simp(disch:=omega) only[Try.f3,go_sem,↓reduceIte,hB,d1]
  refine hK _ ?_
  refine aB (eC (.tmp 21) rfl rfl rfl (fun h=>?_) (fun h=>?_))
  ·refine aI rfl (aA rfl (aW [4] rfl rfl rfl fun K hK=>?_))
   simp(disch:=omega) only[Try.f3,go_sem,↓reduceIte]
   refine hK _ ?_
   refine aB (aS rfl (bI ?_))
   simp(disch:=omega) only[fHo,bV,bK,bQ,Try.f3,go_sem,↓reduceIte]
  refine aI rfl ?_
  cases h
 cases hg
end Go.AX

namespace Go.AX
open Go Go.Proofs Go.RowKit Go.WideShapes Go.ChangeShapes
section
variable {H : Type} {enc : TypeId × Value → H} {P : Program}
theorem uC (hl:laidOutB P=true) {W W':World} {sp:Nat→Bool}: ∀ {ts:List TypeId} {vs:List Value} {ds:List (DataW H)} {ps:List MemPlace},(ts.all fun t=>P.readableRec t&&decide (t<P.types.size))=true→
  DataW.TrodAll enc P W 0 (fun _=>true) true ts vs ds ps→(∀p∈ps,W.sameAt W' p)→(∀p∈ps,sp p.block=true)→DataW.TrodAll enc P W' 0 sp true ts vs ds ps
 |[],[],[],_,_,h,_,_=>h
 |t::ts,v::vs,d::ds,ps,ha,h,hs,hp=>by
  obtain⟨p,q,h1,h2,e⟩:=h
  simp only[List.all_cons,Bool.and_eq_true,decide_eq_true_eq]at ha
  refine⟨p,q,WideElems.Trod_stays hl ha.1.1 ha.1.2 h1 (fun x hx=>hs x (by rw[e];exact List.mem_append_left _ hx)) (fun x hx=>hp x (by rw[e];exact List.mem_append_left _ hx)),?_,e⟩
  exact uC hl (by simpa using ha.2) h2 (fun x hx=>hs x (by rw[e];exact List.mem_append_right _ hx)) (fun x hx=>hp x (by rw[e];exact List.mem_append_right _ hx))
 |[],_::_,_,_,_,h,_,_=>h.elim
 |[],[],_::_,_,_,h,_,_=>h.elim
 |_::_,[],_,_,_,h,_,_=>h.elim
 |_::_,_::_,[],_,_,h,_,_=>h.elim
theorem aZq {f:Func} {s:ChangeSpec} {apart fresh handsOn again:Bool} {W W':World} {args:Array Value} {ds gs:List (DataW H)} {before:List MemPlace} {tb:TypeId}
  (hl:laidOutB P=true) (hro:(f.params.toList.all fun t=>P.readableRec t&&decide (t<P.types.size))=true) (hrt:f.resultTypes= #[tb]) (htb:P.underlying tb=some .bool) (hvs:s.vars=[])
  (hfn:s.fn H (ds++gs)= {results:=[.lit (.bool true)],args:=ds})
  (hW:DataW.Whole enc P f.params.toList s.vars apart W args.toList ds gs before) (hb:Below W.heap.size W W'):
  s.post enc P f apart fresh handsOn again W args (.bool true) W':=by
 have hlt: ∀p∈before,p.block<W.heap.size:=fun p hp=>hW.lt p hp
 have hW':=hW
 obtain⟨p,q,hA,hV,hpq,hz,hn⟩:=hW
 have hq:q=[]∧gs=[]:=by
  rw[hvs]at hV
  cases gs with
  |nil=>exact⟨hV,rfl⟩
  |cons g r=>exact hV.elim
 obtain⟨rfl,rfl⟩:=hq
 rw[List.append_nil]at hpq
 subst hpq
 have hargs: ∀sp:Nat→Bool,(∀p∈before,sp p.block=true)→DataW.TrodAll enc P W' 0 sp true f.params.toList args.toList (s.fn H (ds++[])).args before:=by
  intro sp hsp
  rw[hfn]
  exact uC hl hro hA (fun x hx=>hb.same (hlt x hx)) hsp
 have hres: ∀(b:Nat) (sp:Nat→Bool) (hd:Bool),DataW.TrodAll enc P W' b sp hd f.resultTypes.toList ((Value.bool true).resultList f.resultTypes.size) (s.fn H (ds++[])).results []:=by
  intro b sp hd
  rw[hfn,hrt]
  exact trodAll_mk1 (shut_bool htb true)
 have hvars: ∀sp:Nat→Bool,(∀p∈before,sp p.block=true)→DataW.TrodVars enc P W' sp s.vars (s.fn H (ds++[])).vars []:=by
  intro sp _
  rw[hfn,hvs];rfl
 have hold: ∀p∈before,(fun b=>decide (b<W.heap.size)) p.block=true:=fun p hp=>by simpa using hlt p hp
 refine⟨ds,[],before,[],before,[],hW',hres _ _ _,hargs _ hold,hvars _ hold,World.keptBut_mono (fun p hp=>⟨hp,?_⟩) (hb.frame (· ∈before)),fun _=>?_⟩
 ·exact Or.inr (by simpa using hp)
 ·refine⟨ok_one hrt rfl (okWide_bool_mk htb true),_,_,([]++before)++[],⟨[]++before,[],trodAll_append (hargs _ (fun _ _=>rfl)) (hres _ _ _),hvars _ (fun _ _=>rfl),rfl,?_,?_⟩,?_⟩
  ·intro b off hp
   have hin:MemPlace.cell b off∈before:=by simpa using hp
   rw[hb.frozen (hlt _ hin)]
   exact hz b off hin
  ·intro ha
   have:=hn ha
   simpa using this
  ·intro p hp _
   simpa using hp
end
section
variable {H : Type} {enc : TypeId × Value → H} {P : Program} {W : World} {σ : Nat → Loc}
def nQ (enc:TypeId×Value→H) (P:Program) (W:World) (σ:Nat→Loc) (t:TypeId) (Q:AV→Prop):Prop:=
 ∀(m:Nat) (cs:List Value) (x:DataW H×List MemPlace),DataW.trod enc P W 0 (fun _=>true) true m t cs=some x→∃v y,cs=[v]∧Q y∧y.isCell=true∧Rel σ (fun k=>k<W.heap.size) W y v
theorem uZ {k:IntKind} {n:Int} (h:(Lit.int k n).wf=true):k.min≤n∧n≤k.max:=by
 simpa [Lit.wf]using h
theorem vX {t:TypeId} (ht:P.underlying t=some (.int .u8)):nQ enc P W σ t (fun y=> ∃b:B8,y=.w8 b):=by
 intro m cs x h
 obtain⟨n,rfl,_,hw⟩:=DataW.trod_int ht h
 have hb:=uZ hw
 have e1:IntKind.min .u8=0:=by decide
 have e2:IntKind.max .u8=255:=by decide
 rw[e1,e2]at hb
 refine⟨_,.w8 (BitVec.ofInt 8 n),rfl,⟨_,rfl⟩,rfl,?_⟩
 have e:((BitVec.ofInt 8 n).toNat:Int)=n:=by simp[BitVec.toNat_ofInt];omega
 have:=Rel.w8 (σ:=σ) (I:=fun k=>k<W.heap.size) (w:=W) (BitVec.ofInt 8 n)
 rwa [e]at this
theorem bVs {t:TypeId} (ht:P.underlying t=some .string):nQ enc P W σ t (fun y=> ∃l:List B8,y=.s l∧l.length≤9223372036854775807):=by
 intro m cs x h
 obtain⟨s,rfl,_,hs⟩:=DataW.trod_string ht h
 refine⟨_,.s (s.data.toList.map UInt8.toBitVec),rfl,⟨_,rfl,?_⟩,rfl,?_⟩
 ·rw[List.length_map,Array.length_toList]
  unfold maxLen at hs
  have:s.data.size=s.size:=rfl
  omega
 have e:dA (s.data.toList.map UInt8.toBitVec)=s:=by simp[dA,List.map_map,Function.comp_def]
 have:=Rel.s (σ:=σ) (I:=fun k=>k<W.heap.size) (w:=W) (s.data.toList.map UInt8.toBitVec)
 rwa [e]at this
theorem bOq {base:Nat} {a:Addr} {l:List Value} (h:W.cells? base a 1=some l): ∃v,l=[v]∧W.cell? a=some v:=by
 unfold World.cells? at h
 split at h
 ·simp only[List.range_one,List.mapM_cons,List.mapM_nil,bind,Option.bind_eq_some_iff,pure,Option.some.injEq]at h
  obtain⟨v,hv,l',rfl,rfl⟩:=h
  exact⟨v,rfl,by simpa [Addr.add]using hv⟩
 cases h
theorem ePq {t e:TypeId} {Q:AV→Prop} (ht:P.underlying t=some (.slice e)) (hc:P.cellsOf e=1) (he:nQ enc P W σ e Q):
  nQ enc P W σ t (fun y=> ∃xs:List AV,y=.sl xs.length xs∧(∀z∈xs,Q z)∧xs.length≤9223372036854775807):=by
 intro m cs x h
 rcases DataW.trod_slice ht h with⟨rfl,_⟩|⟨a,len,cap,elems,rest,n,rfl,rfl,rfl,hb,hl,hm,hlen,hel,hsp,_⟩
 ·exact⟨_,.sl 0 [],rfl,⟨[],rfl,by simp,by simp⟩,rfl,.slnil⟩
 ·have hmax:len≤9223372036854775807:=by unfold maxLen at hm;omega
  have get: ∀i,i<len→∃v y,W.cell? (a.add i)=some v∧Q y∧y.isCell=true∧Rel σ (fun k=>k<W.heap.size) W y v:=by
   intro i hi
   have h1:=hel i hi
   rw[hc,Nat.mul_one]at h1
   rw[List.getElem?_eq_getElem (by omega:i<elems.length)]at h1
   obtain⟨l,hl1,hl2⟩:=Option.bind_eq_some_iff.1 h1
   obtain⟨v,rfl,hv⟩:=bOq hl1
   obtain⟨v',y,e1,hq,hcell,hr⟩:=he _ _ _ hl2
   obtain rfl:v=v':=by simpa using e1
   exact⟨v,y,hv,hq,hcell,hr⟩
  by_cases h0:len=0
  ·subst h0
   by_cases hcap:cap=0
   ·subst hcap
    exact⟨_,.sl 0 [],rfl,⟨[],rfl,by simp,by simp⟩,rfl,.slzero a⟩
   ·obtain⟨hr1,hr2⟩:=hsp rfl
    have h1:=hr2 0 (by omega)
    rw[hc,List.getElem?_eq_getElem (by omega:0<rest.length)]at h1
    obtain⟨l,hl1,_⟩:=Option.bind_eq_some_iff.1 h1
    obtain⟨v,rfl,hv⟩:=bOq hl1
    have hspot:a.spot=none:=by
     have:=World.cell?_spot hv
     simpa [Addr.add]using this
    have hblk:a.block<W.heap.size:=by
     simp only[World.cell?,Addr.add]at hv
     split at hv
     ·rename_i hh;exact(Array.getElem?_eq_some_iff.1 hh).1
     ·cases hv
    obtain⟨blk,off,spot⟩:=a
    subst hspot
    exact⟨_,.sl 0 [],rfl,⟨[],rfl,by simp,by simp⟩,rfl,.sl 0 [] blk off cap (fun _=>undef) hblk (by omega) (fun i hi=>by simp at hi) (fun i hi=>by simp at hi) (fun i hi=>by simp at hi)⟩
  ·have hex: ∀i:Fin len,∃p:Value×AV,W.cell? (a.add i.1)=some p.1∧Q p.2∧p.2.isCell=true∧Rel σ (fun k=>k<W.heap.size) W p.2 p.1:=by
    intro i
    obtain⟨v,y,h⟩:=get i.1 i.2
    exact⟨(v,y),h⟩
   obtain⟨F,hF⟩:=Classical.axiomOfChoice hex
   have hv0:=(hF ⟨0,by omega⟩).1
   simp only[Addr.add,if_true]at hv0
   have hspot:a.spot=none:=World.cell?_spot hv0
   have hblk:a.block<W.heap.size:=by
    simp only[World.cell?]at hv0
    split at hv0
    ·rename_i hh;exact(Array.getElem?_eq_some_iff.1 hh).1
    ·cases hv0
   obtain⟨blk,off,spot⟩:=a
   subst hspot
   have hlx:(List.ofFn fun i=>(F i).2).length=len:=List.length_ofFn
   refine⟨_,.sl len (List.ofFn fun i=>(F i).2),rfl,⟨_,by rw[hlx],?_,by rw[hlx];exact hmax⟩,rfl,?_⟩
   ·intro z hz
    rw[List.mem_ofFn]at hz
    obtain⟨i,rfl⟩:=hz
    exact(hF i).2.1
   ·refine .sl len _ blk off cap (fun i=>if h:i<len then(F ⟨i,h⟩).1 else undef) hblk hl (fun i hi=>?_) (fun i hi=>?_) (fun i hi=>?_)
    ·rw[hlx]at hi
     rw[dif_pos hi];have:=(hF ⟨i,hi⟩).1;rwa [eE]at this
    ·rw[hlx]at hi
     rw[List.getElem_ofFn];exact(hF ⟨i,hi⟩).2.2.1
    ·rw[hlx]at hi
     rw[dif_pos hi,List.getElem_ofFn];exact(hF ⟨i,hi⟩).2.2.2
end
end Go.AX

namespace Go.AX
open Go Go.Proofs Go.RowKit Go.WideShapes Go.ChangeShapes Go.Proofs.Ytbhlbggocbhecaa
theorem bLx:laidOutB Try.prog=true:=by kernel_rfl
theorem ownT:ownKnob Try.prog.godebug=none:=by kernel_rfl
theorem c9:Try.prog.cellsOf 9=1:=by kernel_rfl
theorem bAx {f:Nat} {g:List AV→Option AV} (hf:fHn Try.prog GLh f g) {W:World} {args:List AV} {vals:Array Value} (hs:vals.size=args.length)
  (hr: ∀i (_h:i<args.length),Rel (fun _=> .unset) (fun k=>k<W.heap.size) W args[i] (vals.getD i undef)) (hg:g args=some (.b true)):
  Calls Try.prog f vals W fun e W'=>e=.returned (.bool true)∧Below W.heap.size W W':=by
 refine(hf (fun _=> .unset) (fun k=>k<W.heap.size) W 0 args vals _ (fun _ _=>rfl) (fun _ h=>h) (fun g xs h=>by cases h) hs hr hg).mono ?_
 rintro e w' ⟨v,σ',I',rfl,a1,a2,a3,a4,a5,_,_,_,a9⟩
 cases a9
 exact⟨rfl,a1,a2,a3,a4,a5⟩
theorem aTx {H:Type} {enc:TypeId×Value→H} {P:Program} {W:World} {σ:Nat→Loc} {t:TypeId} {Q:AV→Prop} {v:Value} {d:DataW H} {ps:List MemPlace} (ho:nQ enc P W σ t Q) (hv:v.cells.toList=[v]) (h:DataW.Trod enc P W 0 (fun _=>true) true t v d ps):
  ∃y,Q y∧Rel σ (fun k=>k<W.heap.size) W y v:=by
 obtain⟨m,h⟩:=h
 obtain⟨v',y,e,hq,_,hr⟩:=ho m _ _ h
 rw[hv]at e
 obtain rfl:v=v':=by simpa using e
 exact⟨y,hq,hr⟩
theorem bEs {H:Type} {enc:TypeId×Value→H} {P:Program} {W W2:World} {σ:Nat→Loc} {t e:TypeId} {Q:AV→Prop} {v:Value} {d:DataW H} {ps:List MemPlace} {r:Reach} {b:Nat} (ht:P.underlying t=some (.slice e)) (hval:Value.okWide P W2 r b t v) (ho:nQ enc P W σ t Q) (h:DataW.Trod enc P W 0 (fun _=>true) true t v d ps):
  ∃y,Q y∧Rel σ (fun k=>k<W.heap.size) W y v:=by
 obtain⟨a,len,cap,rfl⟩:=okWide_slice ht hval
 exact aTx ho rfl h
theorem cDy {H:Type} {enc:TypeId×Value→H} {P:Program} {W W2:World} {σ:Nat→Loc} {t:TypeId} {k:IntKind} {Q:AV→Prop} {v:Value} {d:DataW H} {ps:List MemPlace} {r:Reach} {b:Nat} (ht:P.underlying t=some (.int k)) (hval:Value.okWide P W2 r b t v) (ho:nQ enc P W σ t Q) (h:DataW.Trod enc P W 0 (fun _=>true) true t v d ps):
  ∃y,Q y∧Rel σ (fun k=>k<W.heap.size) W y v:=by
 obtain⟨n,rfl⟩:=okWide_int ht hval
 exact aTx ho rfl h
end Go.AX

namespace Go.AX
open Go Go.Proofs Go.RowKit Go.WideShapes Go.ChangeShapes
section
variable {H : Type} {enc : TypeId × Value → H} {P : Program} {W : World} {σ : Nat → Loc}
theorem fBi: ∀ {xs:List AV},(∀z∈xs,∃l:List B8,z=.s l∧l.length≤9223372036854775807)→∃ps:List (List B8),xs=cS ps∧∀l∈ps,l.length≤9223372036854775807
 |[],_=>⟨[],rfl,fun l h=>by cases h⟩
 |x::r,h=>by
  obtain⟨b,rfl,hb⟩:=h x (by simp)
  obtain⟨l,hl,hr⟩:=fBi (xs:=r) (fun z hz=>h z (by simp[hz]))
  refine⟨b::l,by rw[hl];rfl,fun y hy=>?_⟩
  rcases List.mem_cons.1 hy with rfl|hy
  ·exact hb
  exact hr y hy
theorem eMg {t e:TypeId} (ht:P.underlying t=some (.slice e)) (hc:P.cellsOf e=1) (he:P.underlying e=some .string):
  nQ enc P W σ t (fun y=> ∃ps:List (List B8),y=.sl ps.length (cS ps)∧ps.length≤9223372036854775807∧∀l∈ps,l.length≤9223372036854775807):=by
 intro m cs x h
 obtain⟨v,y,e1,⟨xs,rfl,hq,hlen⟩,h2,h3⟩:=ePq ht hc (bVs he) m cs x h
 obtain⟨ps,rfl,hb⟩:=fBi hq
 rw[cQo]at hlen h3
 exact⟨v,_,e1,⟨ps,rfl,hlen,hb⟩,rfl,h3⟩
end
end Go.AX
