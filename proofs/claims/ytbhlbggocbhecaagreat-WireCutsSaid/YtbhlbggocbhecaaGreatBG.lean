/-
  Data, part jC: data checked by the document. Data, part jD: data checked by the document, type by type. Wire, part nI: the document's numbers put behind own bytes; types whose data's names may be compressed. Wire, part nJ: a record taken off the document's reader. Wire, part nV: the document's reading of records. Wire, part nY: the document's reading of any message, from its header on. Wire, part nK: the first of the statement. Wire, part nX: the walk of WireCuts. Rows, part nZ: a message among a statement's arguments.
-/
import Derived.Test.YtbhlbggocbhecaaGreatBF
import Derived.Test.YtbhlbggocbhecaaGreatBD
namespace Go.AX.D5
open Go Go.Proofs
def fZk (l:List B8):Bool:=match nmO l with
 |none=>false
 |some (_,s)=>decide (s=l.length)
def fZo:List AV→Option AV
 |[.sl n xs]=>aK (fHq xs) fun l=>aN (l.length=n∧n≤100000) (some (.b (fZk l)))
 |_=>none
theorem gDg (n:Nat) (xs:List AV):fZo [.sl n xs]=aK (fHq xs) fun l=>aN (l.length=n∧n≤100000) (some (.b (fZk l))):=(rfl)
attribute [go_sem] gDg
theorem gEy {l:List B8} (h:nmO l=none):fZk l=false:=by unfold fZk;rw[h]
theorem gEx {l:List B8} {n:Nm} {s:Nat} (h:nmO l=some (n,s)):fZk l=decide ((s:Int)=(l.length:Int)):=by
 unfold fZk;rw[h]
 by_cases e:s=l.length
 ·rw[J5 (show(s:Int)=(l.length:Int)by omega)];exact J5 e
 rw[J6 (show¬(s:Int)=(l.length:Int)by omega)];exact J6 e
set_option maxHeartbeats 4000000 in
theorem gDt:fHn Tryz.prog GLh 53 fZo:=by
 refine zK Tryz.func53 (aT rfl) ?_
 intro args r hg
 unfold fZo at hg
 split at hg
 ·rename_i n xs
  replace hg:=aJ hg;obtain⟨l,hl,hg⟩:=hg
  replace hg:=aP hg;obtain⟨⟨rfl,hn⟩,hg⟩:=hg
  obtain rfl:=J0 hg
  have:=bW hl;subst this
  refine⟨J1 rfl,fun nx=>?_⟩
  clear hl hg
  refine ySq (yRn [0] fun K hK=>?_)
  simp(disch:=omega) only[go_sem]
  refine hK _ (aB ?_)
  rcases iI l with⟨hn,k,hk,hc⟩|⟨n,s,hn,hsb,hc⟩
  ·have hd0:decide (k=0)=false:=J6 hk
   rw[gEy hn]
   refine ySq (yRg [0,4,5] (aH gBv aO) fun K hK=>?_)
   simp(disch:=omega) only[go_sem,hc]
   refine hK _ (aB ?_)
   refine ySq (yRn [2] fun K hK=>?_)
   simp(disch:=omega) only[go_sem,hd0]
   refine hK _ (aB ?_)
   refine aS rfl ?_
   simp(disch:=omega) only[fHo,bV,bK,bQ,go_sem]
  rw[gEx hn]
  refine ySq (yRg [0,4,5] (aH gBv aO) fun K hK=>?_)
  simp(disch:=omega) only[go_sem,hc]
  refine hK _ (aB ?_)
  refine ySq (yRn [2] fun K hK=>?_)
  simp(disch:=omega) only[go_sem]
  refine hK _ (aB ?_)
  refine aS rfl ?_
  simp(disch:=omega) only[fHo,bV,bK,bQ,go_sem]
 cases hg
theorem gCv:bX Tryz.prog GLh 53 (.pure true fZo):=⟨⟨_,Tryz.func53,rfl,rfl⟩,gDt⟩
structure Cd (l:List B8) (ok:Bool) (ans:Int):Prop where
 yes:ok=true→l.length≤8192→ans=0
 no:ok=false→ans=50
 big:8192<l.length→ans=50
theorem gDe {t:BitVec 16} {l:List B8} (h:8192<l.length):chkF t l=50:=J4 h
theorem gGr {t:BitVec 16} {l:List B8} {ok:Bool} (h:l.length≤8192→chkF t l=if ok=true then 0 else 50):Cd l ok (chkF t l):=by
 refine⟨fun h1 h2=>by rw[h h2,J4 h1],fun h1=>?_,gDe⟩
 by_cases hb:8192<l.length
 ·exact gDe hb
 rw[h (by omega),J3 (by rw[h1];decide)]
set_option maxHeartbeats 4000000 in
theorem iG (l:List B8) (ok:Bool) (ans:Int) (h:Cd l ok ans) (hp0:H) (n0 c0:Nat):Awp Tryz.prog GLh Tryz.f44.ntmps (cr (cr (cr (aE Tryz.f44)))) ⟨[(1,.sl l.length (c8 l)),(5,.b ok)],hp0,n0,c0⟩ (fHo Tryz.prog Tryz.f44.results.toList (.i ans)):=by
 rcases hok:ok with _|_
 ·rw[h.no hok]
  refine ySq (ySq (yRn [126] fun K hK=>?_))
  simp(disch:=omega) only[go_sem]
  refine hK _ (aB ?_)
  refine iTd (ySq (yRn [4] fun K hK=>?_))
  simp(disch:=omega) only[go_sem]
  refine hK _ (aB ?_)
  refine aS rfl (bI ?_)
  simp(disch:=omega) only[fHo,bV,bK,bQ,go_sem]
 by_cases hb:8192<l.length
 ·rw[h.big hb]
  have d:decide ((8192:Int)<(l.length:Int))=true:=J5 (by omega)
  refine ySq (ySq (yRn [126] fun K hK=>?_))
  simp(disch:=omega) only[go_sem,d]
  refine hK _ (aB ?_)
  refine iTd (ySq (yRn [4] fun K hK=>?_))
  simp(disch:=omega) only[go_sem]
  refine hK _ (aB ?_)
  refine aS rfl (bI ?_)
  simp(disch:=omega) only[fHo,bV,bK,bQ,go_sem]
 rw[h.yes hok (by omega)]
 have d:decide ((8192:Int)<(l.length:Int))=false:=J6 (by omega)
 refine ySq (ySq (yRn [126] fun K hK=>?_))
 simp(disch:=omega) only[go_sem,d]
 refine hK _ (aB ?_)
 refine iFd (ySk (aB (ySq (yRn [4] fun K hK=>?_))))
 simp(disch:=omega) only[go_sem]
 refine hK _ (aB ?_)
 refine aS rfl ?_
 simp(disch:=omega) only[fHo,bV,bK,bQ,go_sem]
end Go.AX.D5

namespace Go.AX.D5
open Go Go.Proofs
theorem gFq (l:List B8) (o:Option Nat):rdE l.length (eKo l o)=if o=some l.length then 0 else 50:=by
 rcases o with _|p
 ·rfl
 by_cases e:p=l.length
 ·rw[J4 (by rw[e])];exact eNd _ _ (by rw[e])
 rw[J3 (fun q=>e (J0 q))];exact eLn _ _ (by omega)
theorem gFp (len:Nat) (o:Option (AV×List AV)):rdE len o=0∨rdE len o=50:=by
 unfold rdE
 split
 ·split
  ·exact .inl rfl
  exact .inr rfl
 exact .inr rfl
theorem gGa {p:Prop} [Decidable p] {b:Bool} (h:b=true↔p):(if p then(0:Int)else 50)=if b=true then 0 else 50:=by
 by_cases hp:p
 ·rw[J4 hp,J4 (h.2 hp)]
 rw[J3 hp,J3 (fun q=>hp (h.1 q))]
theorem fZp {t:BitVec 16} {l:List B8} {b:Bool} (h1: ¬t=6#16) (h2: ¬t=46#16) (h3: ¬t=50#16) (h4: ¬t=48#16) (h:b=true↔shp t l=some l.length):Cd l b (chkF t l):=by
 refine gGr fun hl=>?_
 unfold chkF
 rw[J3 (by omega),J3 h1,J3 h2,J3 h3,J3 h4,gFq]
 exact gGa h
theorem gDf {t:BitVec 16} {l:List B8} {o:Option (AV×List AV)} (h:l.length≤8192→chkF t l=rdE l.length o):Cd l (decide (rdE l.length o=0)) (chkF t l):=by
 refine gGr fun hl=>?_
 rw[h hl]
 rcases gFp l.length o with e|e
 ·rw[e];rfl
 rw[e];rfl
theorem cdA (l:List B8):Cd l (decide ((l.length:Int)=4)) (chkF 1#16 l):=by
 refine fZp (by decide) (by decide) (by decide) (by decide) ?_
 rw[decide_eq_true_eq]
 unfold shp
 rw[J4 rfl]
 by_cases h:4≤l.length
 ·rw[J4 h];exact⟨fun e=>by congr 1;omega,fun e=>by have:=J0 e;omega⟩
 rw[J3 h];exact⟨fun e=>by omega,fun e=>by cases e⟩
theorem gIf (l:List B8):Cd l (decide ((l.length:Int)=16)) (chkF 28#16 l):=by
 refine fZp (by decide) (by decide) (by decide) (by decide) ?_
 rw[decide_eq_true_eq]
 unfold shp
 rw[J3 (by decide),J4 rfl]
 by_cases h:16≤l.length
 ·rw[J4 h];exact⟨fun e=>by congr 1;omega,fun e=>by have:=J0 e;omega⟩
 rw[J3 h];exact⟨fun e=>by omega,fun e=>by cases e⟩
theorem gDu (l:List B8):fZk l=true↔nmE l 0=some l.length:=by
 unfold fZk nmE
 rw[J9]
 rcases nmO l with _|⟨n,s⟩
 ·exact⟨fun e=>(by cases e),fun e=>by cases e⟩
 simp only[Option.map_some,Nat.zero_add,decide_eq_true_eq,Option.some.injEq]
theorem cdN (t:BitVec 16) (l:List B8) (h:t=2#16∨t=5#16):Cd l (fZk l) (chkF t l):=by
 refine fZp (by rcases h with rfl|rfl<;>decide) (by rcases h with rfl|rfl<;>decide) (by rcases h with rfl|rfl<;>decide) (by rcases h with rfl|rfl<;>decide) ?_
 unfold shp
 rw[J3 (by rcases h with rfl|rfl<;>decide),J3 (by rcases h with rfl|rfl<;>decide),J4 h]
 exact gDu l
theorem gKk (l:List B8) (b:Bool) (h:b=(decide ((2:Int)<(l.length:Int))&&fZk (l.drop 2))):Cd l b (chkF 15#16 l):=by
 refine fZp (by decide) (by decide) (by decide) (by decide) ?_
 subst h
 unfold shp
 rw[J3 (by decide),J3 (by decide),J3 (by decide),J4 rfl,Bool.and_eq_true,decide_eq_true_eq]
 by_cases h2:2≤l.length
 ·rw[J4 h2]
  unfold nmE fZk
  have hd:(l.drop 2).length=l.length-2:=List.length_drop ..
  rcases hn:nmO (l.drop 2)with _|⟨n,s⟩
  ·exact⟨fun e=>(by cases e.2),fun e=>by cases e⟩
  have hw:=(eLv hn).1
  have hs:1≤s:=by rw[←hw];unfold wl;omega
  simp only[Option.map_some,decide_eq_true_eq,Option.some.injEq,hd]
  omega
 rw[J3 h2];exact⟨fun e=>by omega,fun e=>by cases e⟩
theorem cdDS (l:List B8):Cd l (decide ((5:Int)≤(l.length:Int))) (chkF 43#16 l):=by
 refine fZp (by decide) (by decide) (by decide) (by decide) ?_
 rw[decide_eq_true_eq]
 unfold shp
 rw[J3 (by decide),J3 (by decide),J3 (by decide),J3 (by decide),J3 (by decide),J4 rfl]
 by_cases h:5≤l.length
 ·rw[J4 h];exact⟨fun _=>rfl,fun _=>by omega⟩
 rw[J3 h];exact⟨fun e=>by omega,fun e=>by cases e⟩
theorem cdTX (l:List B8) (b:Bool) (h:b=eTy l 0):Cd l b (chkF 16#16 l):=by
 refine fZp (by decide) (by decide) (by decide) (by decide) ?_
 subst h
 unfold shp
 rw[J3 (by decide),J3 (by decide),J3 (by decide),J3 (by decide),J4 rfl]
 by_cases h:eTy l 0=true
 ·rw[J4 h];exact⟨fun _=>rfl,fun _=>h⟩
 rw[J3 h];exact⟨fun e=>absurd e h,fun e=>by cases e⟩
theorem gKj (l:List B8) (b:Bool) (h:b=true↔5≤l.length∧l.length=5+(l.getD 4 0#8).toNat):Cd l b (chkF 51#16 l):=by
 refine fZp (by decide) (by decide) (by decide) (by decide) (h.trans ?_)
 unfold shp
 rw[J3 (by decide),J3 (by decide),J3 (by decide),J3 (by decide),J3 (by decide),J3 (by decide),J4 rfl]
 by_cases h4:4≤l.length
 ·rw[J4 h4]
  unfold txE
  by_cases h5:4<l.length∧(l.getD 4 0#8).toNat≤l.length-(4+1)
  ·rw[J4 h5,Option.some.injEq];omega
  rw[J3 h5];exact⟨fun e=>by omega,fun e=>by cases e⟩
 rw[J3 h4];exact⟨fun e=>by omega,fun e=>by cases e⟩
theorem cdO (t:BitVec 16) (l:List B8) (h1: ¬t=1#16) (h2: ¬t=28#16) (h3: ¬t=2#16) (h4: ¬t=5#16) (h5: ¬t=15#16) (h6: ¬t=6#16) (h7: ¬t=16#16) (h8: ¬t=43#16) (h9: ¬t=46#16) (h10: ¬t=48#16) (h11: ¬t=50#16) (h12: ¬t=51#16):Cd l true (chkF t l):=by
 refine fZp h6 h9 h11 h10 ⟨fun _=>?_,fun _=>rfl⟩
 unfold shp
 rw[J3 h1,J3 h2,J3 (fun q=>q.elim h3 h4),J3 h5,J3 h7,J3 h8,J3 h12]
theorem gKh (l:List B8):Cd l (decide (rdE l.length (eX l)=0)) (chkF 6#16 l):=gDf fun h=>by unfold chkF;rw[J3 (by omega),J4 rfl]
theorem gKi (l:List B8):Cd l (decide (rdE l.length (eY l)=0)) (chkF 46#16 l):=gDf fun h=>by unfold chkF;rw[J3 (by omega),J3 (by decide),J4 rfl]
theorem gKm (l:List B8):Cd l (decide (rdE l.length (gW l)=0)) (chkF 50#16 l):=gDf fun h=>by unfold chkF;rw[J3 (by omega),J3 (by decide),J3 (by decide),J4 rfl]
theorem gKl (l:List B8):Cd l (decide (rdE l.length (gE l)=0)) (chkF 48#16 l):=gDf fun h=>by unfold chkF;rw[J3 (by omega),J3 (by decide),J3 (by decide),J3 (by decide),J4 rfl]
theorem gGu (l:List B8) (h:0<l.length):txF (l.length+2) l 0=eTy l 0:=by
 unfold eTy
 rcases e:txE l 0 with _|p
 ·exact fEg h e
 exact fEh h e
theorem gFa (l:List B8) (h: ¬0<l.length):eTy l 0=false:=by
 unfold eTy
 have:txE l 0=none:=J3 fun q=>h q.1
 rw[this]
set_option maxHeartbeats 16000000 in
theorem gKg:fHn Tryz.prog GLh 44 eNq:=by
 refine zK Tryz.func44 (aT rfl) ?_
 intro args r hg
 unfold eNq at hg
 split at hg
 ·rename_i t n xs
  replace hg:=aJ hg;obtain⟨l,hl,hg⟩:=hg
  replace hg:=aP hg;obtain⟨⟨rfl,hn⟩,hg⟩:=hg
  obtain rfl:=J0 hg
  have:=bW hl;subst this
  refine⟨J1 rfl,fun nx=>?_⟩
  clear hl hg
  refine ySq (yRn [0,1] fun K hK=>?_)
  simp(disch:=omega) only[go_sem]
  refine hK _ (aB ?_)
  refine ySq (yRn [0,1,5] fun K hK=>?_)
  simp(disch:=omega) only[go_sem]
  refine hK _ (aB ?_)
  refine ySq (ySq (yRn [1,5,15] fun K hK=>?_))
  simp(disch:=omega) only[go_sem]
  refine hK _ (aB ?_)
  refine yBl 0 (ySq (yRn [16,1,5,15] fun K hK=>?_))
  simp(disch:=omega) only[go_sem]
  refine hK _ (aB ?_)
  refine gLb rfl (fun h=>?_) (fun h=>?_)
  ·refine yDr ?_
   subst h
   refine yRn [1,5] fun K hK=>?_
   simp(disch:=omega) only[go_sem]
   refine hK _ (bU (aB ?_))
   exact iG l _ _ (cdA l) _ _ _
  refine yDr ?_
  have h1:=h
  clear h
  refine ySq (yRn [21,1,5,15] fun K hK=>?_)
  simp(disch:=omega) only[go_sem]
  refine hK _ (aB ?_)
  refine gLb rfl (fun h=>?_) (fun h=>?_)
  ·refine yDr ?_
   subst h
   refine yRn [1,5] fun K hK=>?_
   simp(disch:=omega) only[go_sem]
   refine hK _ (bU (aB ?_))
   exact iG l _ _ (gIf l) _ _ _
  refine yDr ?_
  have h2:=h
  clear h
  refine ySq (ySq (yRn [1,5,15,26] fun K hK=>?_))
  simp(disch:=omega) only[go_sem]
  refine hK _ (aB ?_)
  refine gLb rfl (fun h=>?_) (fun h=>?_)
  ·have h3:=h
   refine ySk (aB (gLb rfl (fun h=>?_) (fun h=>?_)))
   ·refine yRg [1,5] (aH gCv aO) fun K hK=>?_
    simp(disch:=omega) only[go_sem]
    refine hK _ (bU (aB ?_))
    exact iG l _ _ (cdN t l (.inl h3)) _ _ _
   exact absurd h3 h
  have h3:=h
  clear h
  refine yRn [26,1,5,15] fun K hK=>?_
  simp(disch:=omega) only[go_sem]
  refine hK _ (aB ?_)
  refine gLb rfl (fun h=>?_) (fun h=>?_)
  ·refine yDr (yRg [1,5] (aH gCv aO) fun K hK=>?_)
   simp(disch:=omega) only[go_sem]
   refine hK _ (bU (aB ?_))
   exact iG l _ _ (cdN t l (.inr h)) _ _ _
  refine yDr ?_
  have h4:=h
  clear h
  refine ySq (yRn [31,1,5,15] fun K hK=>?_)
  simp(disch:=omega) only[go_sem]
  refine hK _ (aB ?_)
  refine gLb rfl (fun h=>?_) (fun h=>?_)
  ·refine yDr ?_
   subst h
   by_cases q:2<l.length
   ·have d:decide ((2:Int)<(l.length:Int))=true:=J5 (by omega)
    have et:(l.drop 2).take (l.length-2)=l.drop 2:=List.take_of_length_le (by rw[List.length_drop];omega)
    have hdl:(l.drop 2).length=l.length-2:=List.length_drop ..
    refine yRg [1,5] (aH gCv aO) fun K hK=>?_
    simp(disch:=omega) only[go_sem,d,et,hdl]
    refine hK _ (bU (aB ?_))
    exact iG l _ _ (gKk l _ (by rw[d];rfl)) _ _ _
   have d:decide ((2:Int)<(l.length:Int))=false:=J6 (by omega)
   refine yRg [1,5] (aH gCv aO) fun K hK=>?_
   simp(disch:=omega) only[go_sem,d]
   refine hK _ (bU (aB ?_))
   exact iG l _ _ (gKk l _ (by rw[d];rfl)) _ _ _
  refine yDr ?_
  have h5:=h
  clear h
  refine ySq (yRn [41,1,5,15] fun K hK=>?_)
  simp(disch:=omega) only[go_sem]
  refine hK _ (aB ?_)
  refine gLb rfl (fun h=>?_) (fun h=>?_)
  ·refine yDr ?_
   subst h
   obtain⟨v1,v2,v3,v4,v5,v6,v7,hv⟩:=eRi l
   have hv':ePm l=_:=hv
   refine ySq (yRg [1,7] (aH dQx aO) fun K hK=>?_)
   simp(disch:=omega) only[go_sem,hv']
   refine hK _ (aB ?_)
   refine yRn [1,5] fun K hK=>?_
   simp(disch:=omega) only[go_sem]
   refine hK _ (bU (aB ?_))
   exact iG l _ _ (gKh l) _ _ _
  refine yDr ?_
  have h6:=h
  clear h
  refine ySq (yRn [50,1,5,15] fun K hK=>?_)
  simp(disch:=omega) only[go_sem]
  refine hK _ (aB ?_)
  refine gLb rfl (fun h=>?_) (fun h=>?_)
  ·refine yDr ?_
   subst h
   obtain⟨ans,hans⟩: ∃a,eTy l 0=a:=⟨_,rfl⟩
   have hgo:=gGu l
   have hnil:=gFa l
   have hcd:=cdTX l ans hans.symm
   rw[hans]at hgo hnil
   refine ySq (yRn [1,8] fun K hK=>?_)
   simp(disch:=omega) only[go_sem]
   refine hK _ (aB ?_)
   refine ySq (yBl 1 ?_)
   refine bR (fun p:KFC=> {fr:=[(1,.sl l.length (c8 l)),(8,.i (p.k:Int))],hp:=fun _=>none,nx:=0,cx:=p.c}) (fun p=>p.k≤l.length+256∧((0<l.length→(p.k≤l.length∧l.length<p.k+p.f∧txF p.f l p.k=ans)∨(l.length<p.k∧ans=false))∧(¬0<l.length→p.k=0))) (fun p=>l.length-p.k) rfl ⟨⟨0,l.length+2,_⟩,⟨Nat.zero_le _,fun h=> .inl ⟨Nat.zero_le _,by simp only;omega,hgo h⟩,fun _=>rfl⟩,bD rfl rfl (U3 _)⟩ ?_
   rintro⟨k,f,c⟩ ⟨hk,hi,hz⟩ n0
   simp only at hk hi hz⊢
   refine ySq (ySq (yRn [55,1,8] fun K hK=>?_))
   simp(disch:=omega) only[go_sem]
   refine hK _ (aB ?_)
   refine gLb rfl (fun h=>?_) (fun h=>?_)
   ·refine yDr ?_
    have hkl:k<l.length:=by omega
    have hix:=fQy l k hkl
    obtain⟨a1,a2,a3⟩:=(hi (by omega)).resolve_right (by omega)
    obtain⟨g,rfl⟩: ∃g,f=g+1:=⟨f-1,by omega⟩
    obtain⟨x,hx⟩: ∃x,l.getD k 0#8=x:=⟨_,rfl⟩
    have hxl:=x.isLt
    rw[hx]at hix
    have e1:(k:Int)+(1+(x.toNat:Int))=((k+1+x.toNat:Nat):Int):=by omega
    refine ySk (aB (yBl 2 (yRn [1,8] fun K hK=>?_)))
    simp(disch:=omega) only[go_sem,e1,hx]
    refine hK _ (bU (bT ?_))
    refine⟨⟨k+1+x.toNat,g,_⟩,⟨by simp only;omega,fun _=>?_,fun hh=>by omega⟩,by simp only;omega,bD rfl rfl (U3 _)⟩
    by_cases hp:k+1+x.toNat≤l.length
    ·rw[fEh hkl (gAk hkl (by rw[hx]) hp)]at a3
     exact .inl ⟨hp,by simp only;omega,a3⟩
    rw[fEg hkl (gDy (by rw[hx]) (by omega))]at a3
    exact .inr ⟨by simp only;omega,a3.symm⟩
   refine yDr (yEx 1 (aY (aZ (bE (aB ?_)))))
   by_cases q:0<l.length
   ·have d:decide ((0:Int)<(l.length:Int))=true:=J5 (by omega)
    refine yRn [1,5] fun K hK=>?_
    simp(disch:=omega) only[go_sem,d]
    refine hK _ (bU (aB ?_))
    refine iG l _ _ ?_ _ _ _
    have:decide ((k:Int)=(l.length:Int))=ans:=by
     rcases hi q with⟨a1,a2,a3⟩|⟨a1,a2⟩
     ·obtain⟨g,rfl⟩: ∃g,f=g+1:=⟨f-1,by omega⟩
      rw[fBm (by omega)]at a3
      rw[←a3];exact J5 (by omega)
     rw[a2];exact J6 (by omega)
    rw[this];exact hcd
   have d:decide ((0:Int)<(l.length:Int))=false:=J6 (by omega)
   refine yRn [1,5] fun K hK=>?_
   simp(disch:=omega) only[go_sem,d]
   refine hK _ (bU (aB ?_))
   refine iG l _ _ ?_ _ _ _
   rw[hnil q]at hcd;exact hcd
  refine yDr ?_
  have h7:=h
  clear h
  refine ySq (yRn [73,1,5,15] fun K hK=>?_)
  simp(disch:=omega) only[go_sem]
  refine hK _ (aB ?_)
  refine gLb rfl (fun h=>?_) (fun h=>?_)
  ·refine yDr ?_
   subst h
   refine yRn [1,5] fun K hK=>?_
   simp(disch:=omega) only[go_sem]
   refine hK _ (bU (aB ?_))
   exact iG l _ _ (cdDS l) _ _ _
  refine yDr ?_
  have h8:=h
  clear h
  refine ySq (yRn [78,1,5,15] fun K hK=>?_)
  simp(disch:=omega) only[go_sem]
  refine hK _ (aB ?_)
  refine gLb rfl (fun h=>?_) (fun h=>?_)
  ·refine yDr ?_
   subst h
   obtain⟨v1,v2,v3,v4,v5,v6,v7,v8,v9,hv⟩:=eRj l
   have hv':eSe l=_:=hv
   refine ySq (yRg [1,10] (aH bWa aO) fun K hK=>?_)
   simp(disch:=omega) only[go_sem,hv']
   refine hK _ (aB ?_)
   refine yRn [1,5] fun K hK=>?_
   simp(disch:=omega) only[go_sem]
   refine hK _ (bU (aB ?_))
   exact iG l _ _ (gKi l) _ _ _
  refine yDr ?_
  have h9:=h
  clear h
  refine ySq (yRn [87,1,5,15] fun K hK=>?_)
  simp(disch:=omega) only[go_sem]
  refine hK _ (aB ?_)
  refine gLb rfl (fun h=>?_) (fun h=>?_)
  ·refine yDr ?_
   subst h
   obtain⟨v1,v2,v3,v4,hv⟩:=eRk l
   have hv':eWc l=_:=hv
   refine ySq (yRg [1,12] (aH ok32 aO) fun K hK=>?_)
   simp(disch:=omega) only[go_sem,hv']
   refine hK _ (aB ?_)
   refine yRn [1,5] fun K hK=>?_
   simp(disch:=omega) only[go_sem]
   refine hK _ (bU (aB ?_))
   exact iG l _ _ (gKl l) _ _ _
  refine yDr ?_
  have h10:=h
  clear h
  refine ySq (yRn [96,1,5,15] fun K hK=>?_)
  simp(disch:=omega) only[go_sem]
  refine hK _ (aB ?_)
  refine gLb rfl (fun h=>?_) (fun h=>?_)
  ·refine yDr ?_
   subst h
   obtain⟨v1,v2,v3,v4,v5,v6,hv⟩:=eRl l
   have hv':eZm l=_:=hv
   refine ySq (yRg [1,14] (aH ok28 aO) fun K hK=>?_)
   simp(disch:=omega) only[go_sem,hv']
   refine hK _ (aB ?_)
   refine yRn [1,5] fun K hK=>?_
   simp(disch:=omega) only[go_sem]
   refine hK _ (bU (aB ?_))
   exact iG l _ _ (gKm l) _ _ _
  refine yDr ?_
  have h11:=h
  clear h
  refine ySq (yRn [105,1,5] fun K hK=>?_)
  simp(disch:=omega) only[go_sem]
  refine hK _ (aB ?_)
  refine gLb rfl (fun h=>?_) (fun h=>?_)
  ·refine yDr ?_
   subst h
   by_cases q:5≤l.length
   ·have d:decide ((5:Int)≤(l.length:Int))=true:=J5 (by omega)
    refine yRn [1,5] fun K hK=>?_
    simp(disch:=omega) only[go_sem,d]
    refine hK _ (bU (aB ?_))
    exact iG l _ _ (gKj l _ (by rw[decide_eq_true_eq];exact⟨fun e=>⟨q,by omega⟩,fun e=>by omega⟩)) _ _ _
   have d:decide ((5:Int)≤(l.length:Int))=false:=J6 (by omega)
   refine yRn [1,5] fun K hK=>?_
   simp(disch:=omega) only[go_sem,d]
   refine hK _ (bU (aB ?_))
   exact iG l _ _ (gKj l _ ⟨fun e=>(by cases e),fun e=>absurd e.1 q⟩) _ _ _
  refine yDr ?_
  have h12:=h
  exact ySk (bU (aB (iG l _ _ (cdO t l h1 h2 h3 h4 h5 h6 h7 h8 h9 h10 h11 h12) _ _ _)))
 cases hg
theorem okz10:bX Tryz.prog GLh 44 (.pure true eNq):=⟨⟨_,Tryz.func44,rfl,rfl⟩,gKg⟩
end Go.AX.D5

namespace Go.AX
open Go Go.Proofs
set_option maxRecDepth 20000
def fZy (id0 nx:Nat):Nat→Nat
 |0=>id0
 |j+1=>nx+4+14*j+9
theorem gCb (id0 nx j:Nat):fZy id0 nx (j+1)=nx+4+14*j+9:=rfl
theorem gHd (id0 nx j:Nat):fZy id0 nx j=id0∨nx≤fZy id0 nx j:=by
 cases j with
 |zero=>exact .inl rfl
 |succ j=>rw[gCb];omega
def gCq (id n:Nat) (x:W32) (k:Int) (hp:H) (nx:Nat):AO→Option (AV×H×Nat)
 | .cells xs mt=>aK (fHq xs) fun l=>aN (mt=true∧l.length=n∧n≤1000000∧1≤k∧k≤8∧id<nx)
   (some (.os (fZy id nx k.toNat) 0 (n+k.toNat) 1 true,upd (del hp id) (fZy id nx k.toNat) (.cells (c8 (l++beL x k.toNat k.toNat)) true),nx+4+14*k.toNat+4))
 |_=>none
def gEf:List AV→H→Nat→Option (AV×H×Nat)
 |[.os id 0 n 1 true,.w32 x,.i k],hp,nx=>aK (hp id) (gCq id n x k hp nx)
 |_,_,_=>none
theorem gFg (id n nx:Nat) (x:W32) (k:Int) (hp:H):gEf [.os id 0 n 1 true,.w32 x,.i k] hp nx=aK (hp id) (gCq id n x k hp nx):=(rfl)
theorem gCp (id n nx:Nat) (x:W32) (k:Int) (hp:H) (xs:List AV) (mt:Bool):gCq id n x k hp nx (.cells xs mt)=aK (fHq xs) fun l=>aN (mt=true∧l.length=n∧n≤1000000∧1≤k∧k≤8∧id<nx)
   (some (.os (fZy id nx k.toNat) 0 (n+k.toNat) 1 true,upd (del hp id) (fZy id nx k.toNat) (.cells (c8 (l++beL x k.toNat k.toNat)) true),nx+4+14*k.toNat+4)):=(rfl)
attribute [go_sem] gFg gCp
set_option maxHeartbeats 4000000 in
theorem gFf:fHs Tryz.prog GLh 42 gEf:=by
 refine fVw Tryz.func42 (aT rfl) ?_
 intro args hp nx r hp' nx' hg
 unfold gEf at hg
 split at hg
 ·rename_i id n x k0
  replace hg:=aJ hg;obtain⟨o,ho,hg⟩:=hg
  obtain⟨xs,mt,rfl⟩: ∃a b,o=AO.cells a b:=by cases o<;>first|exact⟨_,_,rfl⟩|(simp[gCq]at hg)
  rw[gCp]at hg
  replace hg:=aJ hg;obtain⟨l,hl,hg⟩:=hg
  replace hg:=aP hg;obtain⟨⟨rfl,rfl,hn,hk1,hk8,hid⟩,hg⟩:=hg
  simp only[Option.some.injEq,Prod.mk.injEq]at hg;obtain⟨rfl,rfl,rfl⟩:=hg
  have:=bW hl;subst this
  obtain⟨k,rfl⟩:=Int.eq_ofNat_of_zero_le (show 0≤k0 by omega)
  simp only[U2]at*
  clear hl
  refine⟨J1 rfl,by omega,fun hno=>?_⟩
  refine ySq (yRn [0,1,2] fun K hK=>?_)
  simp(disch:=omega) only[go_sem]
  refine hK _ (aB ?_)
  refine ySq (ySq (yRn [0,1,7] fun K hK=>?_))
  simp(disch:=omega) only[go_sem]
  refine hK _ (aB ?_)
  refine yBl 0 ?_
  refine bR (fun p:Nat=> {fr:=[(0,.os (fZy id nx p) 0 (l.length+p) 1 true),(1,.w32 x),(7,.i ((k:Int)-1-(p:Int)))],hp:=upd (del hp id) (fZy id nx p) (.cells (c8 (l++beL x k p)) true),nx:=0,cx:=nx+4+14*p}) (fun p=>p≤k) (fun p=>k-p) rfl ⟨0,Nat.zero_le _,⟨fun _=> .inr (by simp only[Int.natCast_zero,Int.sub_zero,fZy,Nat.add_zero]),by simp only[fZy,beL,List.append_nil];exact D5.sub_put0 ho,U3 _⟩⟩ ?_
  rintro j hj n0
  simp only at hj⊢
  refine ySq (ySq (yRn [11,0,1,7] fun K hK=>?_))
  simp(disch:=omega) only[go_sem]
  refine hK _ (aB ?_)
  refine gLb rfl (fun h=>?_) (fun h=>?_)
  ·refine yDr ?_
   have e1:(8*((k:Int)-1-(j:Int))).toNat=8*(k-1-j):=by omega
   have hlj:=cZ x k j
   have hpi:=gHd id nx j
   have hlen:(l++beL x k j).length=l.length+j:=by rw[List.length_append,hlj]
   have hpib:fZy id nx j<nx+4+14*j:=by cases j with
    |zero=>show id<_;omega
    |succ j=>rw[gCb];omega
   refine ySk (aB (ySq (yBl 1 (yRn [0,1,7] fun K hK=>?_))))
   simp(disch:=omega) only[go_sem,e1,hlen]
   refine hK _ (bU (aB ?_))
   refine yRn [0,1,7] fun K hK=>?_
   simp(disch:=omega) only[go_sem]
   refine hK _ (bT ?_)
   have e2:(k:Int)-1-((j:Int)+1)=(k:Int)-1-(j:Int)-1:=by omega
   have e4:l++beL x k (j+1)=l++beL x k j++[(x>>>(8*(k-1-j))).setWidth 8]:=by rw[List.append_assoc];rfl
   have ei:fZy id nx (j+1)=nx+4+14*j+2+7:=by rw[gCb]
   refine⟨j+1,by omega,by omega,⟨fun _=> .inr ?_,?_,by simp only;omega⟩⟩
   ·simp only[ei,Int.natCast_add,Int.natCast_one,e2,Nat.add_assoc]
   simp only[ei,e4]
   exact D5.sub_put hno hpi (by omega)
  refine yDr (yEx 0 (aY (aZ (bE (aB (ySq ?_))))))
  obtain rfl:j=k:=by omega
  refine yRn [6] fun K hK=>?_
  simp(disch:=omega) only[go_sem]
  refine hK _ (aB ?_)
  refine aS rfl ?_
  exact⟨by simp(disch:=omega) only[bV,bK,bQ,go_sem],fun _ _ h=>h,by simp only;omega⟩
 cases hg
theorem gJp:bX Tryz.prog GLh 42 (.heap gEf):=⟨⟨_,Tryz.func42,rfl,rfl⟩,gFf⟩
def gAi (t:BitVec 16):Bool:=decide (t=2#16)||decide (t=5#16)||decide (t=15#16)||decide (t=6#16)
def gAg:List AV→Option AV
 |[.w16 t]=>some (.b (gAi t))
 |_=>none
theorem gEr (t:BitVec 16):gAg [.w16 t]=some (.b (gAi t)):=(rfl)
attribute [go_sem] gEr
set_option maxHeartbeats 4000000 in
theorem gGf:fHn Tryz.prog GLh 41 gAg:=by
 refine zK Tryz.func41 (aT rfl) ?_
 intro args r hg
 unfold gAg at hg
 split at hg
 ·rename_i t
  obtain rfl:=J0 hg
  refine⟨J1 rfl,fun nx=>?_⟩
  clear hg
  refine ySq (yRn [0] fun K hK=>?_)
  simp(disch:=omega) only[go_sem]
  refine hK _ (aB ?_)
  rcases(by by_cases h2:t=2#16;exact .inl h2;by_cases h5:t=5#16;exact .inr (.inl ⟨h2,h5⟩);by_cases h15:t=15#16;exact .inr (.inr (.inl ⟨h2,h5,h15⟩));exact .inr (.inr (.inr ⟨h2,h5,h15⟩)):t=2#16∨(t≠2#16∧t=5#16)∨(t≠2#16∧t≠5#16∧t=15#16)∨(t≠2#16∧t≠5#16∧t≠15#16))with h2|⟨h2,h5⟩|⟨h2,h5,h15⟩|⟨h2,h5,h15⟩
  ·have e:gAi t=true:=by rw[h2];rfl
   rw[e]
   refine ySq (yRn [2] fun K hK=>?_)
   simp(disch:=omega) only[go_sem,J5 h2]
   refine hK _ (aB ?_)
   refine aS rfl ?_
   simp(disch:=omega) only[fHo,bV,bK,bQ,go_sem]
  ·have e:gAi t=true:=by rw[h5];rfl
   rw[e]
   refine ySq (yRn [2] fun K hK=>?_)
   simp(disch:=omega) only[go_sem,J6 h2,J5 h5]
   refine hK _ (aB ?_)
   refine aS rfl ?_
   simp(disch:=omega) only[fHo,bV,bK,bQ,go_sem]
  ·have e:gAi t=true:=by rw[h15];rfl
   rw[e]
   refine ySq (yRn [2] fun K hK=>?_)
   simp(disch:=omega) only[go_sem,J6 h2,J6 h5,J5 h15]
   refine hK _ (aB ?_)
   refine aS rfl ?_
   simp(disch:=omega) only[fHo,bV,bK,bQ,go_sem]
  have e:gAi t=decide (t=6#16):=by unfold gAi;rw[J6 h2,J6 h5,J6 h15];rfl
  rw[e]
  refine ySq (yRn [2] fun K hK=>?_)
  simp(disch:=omega) only[go_sem,J6 h2,J6 h5,J6 h15]
  refine hK _ (aB ?_)
  refine aS rfl ?_
  simp(disch:=omega) only[fHo,bV,bK,bQ,go_sem]
 cases hg
theorem gCw:bX Tryz.prog GLh 41 (.pure true gAg):=⟨⟨_,Tryz.func41,rfl,rfl⟩,gGf⟩
end Go.AX

namespace Go.AX
open Go Go.Proofs
set_option maxRecDepth 20000
theorem gDs:D5.wireG=wireG:=by
 funext l
 match l with
 |[]=>rfl
 |x::y::r=>cases x<;>rfl
 |[x]=>cases x<;>rfl
theorem gBn:bX Tryz.prog GLh 43 (.fresh true wireG):=gDs▸D5.ok15
def rnV (b:List B8) (k a:Nat) (bad:Bool):W32×Nat×Bool:=if bad=true∨b.length-a<k then(0#32,a,true)else(fRs ((b.drop a).take k),a+k,false)
theorem fZs {b:List B8} {k a:Nat} {bad:Bool} {v:W32} {e:Nat} {f:Bool} (h:rnV b k a bad=(v,e,f)) (ha:a≤b.length):rnR b k a bad=(.w32 v,[.sl b.length (c8 b),.i (e:Int),.b f])∧e≤b.length:=by
 unfold rnV at h
 unfold rnR
 split at h
 ·rename_i h1
  rw[J4 h1]
  simp only[Prod.mk.injEq]at h
  obtain⟨rfl,rfl,rfl⟩:=h
  exact⟨rfl,ha⟩
 rename_i h1
 rw[J3 h1]
 simp only[Prod.mk.injEq]at h
 obtain⟨rfl,rfl,rfl⟩:=h
 exact⟨rfl,by have:=not_or.1 h1;omega⟩
def rmV (b:List B8) (a:Nat) (bad:Bool):Nm×Nat×Bool:=if bad=true then([],a,true)else match fJj b a with
 |none=>([],nI b a,true)
 |some (n,e)=>(n,e,false)
theorem gCr {b:List B8} {a:Nat} {bad:Bool} {n:Nm} {e:Nat} {f:Bool} (h:rmV b a bad=(n,e,f)) (ha:a≤b.length):fPv b a bad=(.sl n.length (cS n),[.sl b.length (c8 b),.i (e:Int),.b f])∧e≤b.length∧(eRs n).length≤255:=by
 unfold rmV at h
 unfold fPv
 split at h
 ·rename_i h1
  rw[J4 h1]
  simp only[Prod.mk.injEq]at h
  obtain⟨rfl,rfl,rfl⟩:=h
  exact⟨rfl,ha,Nat.zero_le _⟩
 rename_i h1
 rw[J3 h1]
 rcases hn:fJj b a with _|⟨m,e2⟩
 ·rw[hn]at h
  simp only[Prod.mk.injEq]at h
  obtain⟨rfl,rfl,rfl⟩:=h
  exact⟨rfl,fQj ha,Nat.zero_le _⟩
 rw[hn]at h
 simp only[Prod.mk.injEq]at h
 obtain⟨rfl,rfl,rfl⟩:=h
 obtain⟨h1,_,h2⟩:=fLw hn
 exact⟨rfl,h1,by rw[fZx];omega⟩
def rfF (b:List B8):Nat→List B8×Nat×Bool→List B8×Nat×Bool
 |0,s=>s
 |k+1,(d,a,f)=>match rnV b 4 a f with
  |(v,a2,f2)=>rfF b k (d++beL v 4 4,a2,f2)
def rf1 (b:List B8) (t:BitVec 16) (a:Nat):List B8×Nat×Bool:=if t=15#16 then(match rnV b 2 a false with|(v,a2,f2)=>(beL v 2 2,a2,f2))else([],a,false)
def rf2 (b:List B8):List B8×Nat×Bool→List B8×Nat×Bool
 |(d,a,f)=>match rmV b a f with
  |(n,a2,f2)=>(d++fHk n,a2,f2)
def rf3 (b:List B8) (t:BitVec 16) (s:List B8×Nat×Bool):List B8×Nat×Bool:=if t=6#16 then rfF b 5 (rf2 b s)else s
def rfC (b:List B8) (t:BitVec 16) (a:Nat):List B8×Nat×Bool:=rf3 b t (rf2 b (rf1 b t a))
def rfE (x:RC) (a:Nat):Option (List B8×Nat)→RC×Nat×Bool
 |none=>(x,a,true)
 |some (d,e)=>({x with d:=d},e,decide (x.ty≠41#16)&&decide (x.cl=1#16)&&decide (D5.chkF x.ty d≠0))
def rfG (b:List B8) (x:RC) (n a:Nat):Option (List B8×Nat):=
 if n=0∨gAi x.ty=false∨x.cl≠1#16 then some ((b.drop a).take n,a+n)
 else match rfC (b.take (a+n)) x.ty a with
  |(d,e,f)=>if f=true∨e≠a+n then none else some (d,a+n)
def rfD (b:List B8) (x:RC) (n a:Nat) (bad:Bool):RC×Nat×Bool:=
 if bad=true∨b.length-a<n then(x,a,true)else rfE x a (rfG b x n a)
def rfR (b:List B8) (a:Nat) (bad:Bool):RC×Nat×Bool:=
 match rmV b a bad with
 |(nm,a1,f1)=>match rnV b 2 a1 f1 with
  |(t,a2,f2)=>match rnV b 2 a2 f2 with
   |(c,a3,f3)=>match rnV b 4 a3 f3 with
    |(l,a4,f4)=>match rnV b 2 a4 f4 with
     |(n,a5,f5)=>rfD b ⟨nm,t.setWidth 16,c.setWidth 16,l,[]⟩ n.toNat a5 f5
def rfA (b:List B8):RC×Nat×Bool→AV×List AV
 |(c,e,f)=>(.agg (fLo c),[.sl b.length (c8 b),.i (e:Int),.b f])
def gDi:List AV→List AV→Option (Option (AV×List AV))
 |[.op _ 0],[.sl n xs,.i a,.b bad]=>aK (fHq xs) fun b=>aN (b.length=n∧0≤a∧a≤n∧n≤100000) (some (some (rfA b (rfR b a.toNat bad))))
 |_,_=>none
theorem gFl (id n:Nat) (a:Int) (xs:List AV) (bad:Bool):gDi [.op id 0] [.sl n xs,.i a,.b bad]=aK (fHq xs) fun b=>aN (b.length=n∧0≤a∧a≤n∧n≤100000) (some (some (rfA b (rfR b a.toNat bad)))):=(rfl)
attribute [go_sem] gFl
theorem gAy (r:List (Nat×AV)) (k:Nat): ∀l:List (Nat×AV),dG l k=.junk∨dG l k=dG (l++r) k
 |[]=> .inl rfl
 |(i,x)::l=>by
  rw[List.cons_append,eW,eW]
  split
  ·exact .inr rfl
  exact gAy r k l
structure RFJ where
 d:List B8
 q:Nat
 c:Nat
structure RFK where
 d:List B8
 e:Nat
 f:Bool
 q:Nat
 c:Nat
structure RFL where
 k:Nat
 d:List B8
 e:Nat
 f:Bool
 q:Nat
 c:Nat
def zR5:List AV:=[.v (.slice none 0 0),.w16 0#16,.w16 0#16,.w32 0#32,.v (.slice none 0 0)]
set_option maxHeartbeats 16000000 in
theorem gFk:fHs Tryz.prog GLh 21 (rdH gDi)∧dE Tryz.prog GLh 21 chM (rdP gDi):=by
 refine dT Tryz.func21 (aT rfl) ?_
 intro id off rest nx xs o hg
 unfold gDi at hg
 split at hg
 ·rename_i id2 n xs2 a0 bad heq
  simp only[List.cons.injEq,AV.op.injEq]at heq
  obtain⟨⟨rfl,rfl⟩,rfl⟩:=heq
  replace hg:=aJ hg;obtain⟨b,hl,hg⟩:=hg
  replace hg:=aP hg;obtain⟨⟨rfl,ha,han,hnb⟩,hg⟩:=hg
  obtain rfl:=J0 hg
  have:=bW hl;subst this
  obtain⟨a,rfl⟩:=Int.eq_ofNat_of_zero_le ha
  simp only[U2]at*
  refine⟨J1 rfl,fun hid=>?_⟩
  clear hl hg
  rcases hv1:rmV b a bad with⟨nm,a1,f1⟩
  obtain⟨r1,l1,hwb⟩:=gCr hv1 (by omega)
  rcases hv2:rnV b 2 a1 f1 with⟨t,a2,f2⟩
  obtain⟨r2,l2⟩:=fZs hv2 l1
  rcases hv3:rnV b 2 a2 f2 with⟨c,a3,f3⟩
  obtain⟨r3,l3⟩:=fZs hv3 l2
  rcases hv4:rnV b 4 a3 f3 with⟨tl,a4,f4⟩
  obtain⟨r4,l4⟩:=fZs hv4 l3
  rcases hv5:rnV b 2 a4 f4 with⟨n,a5,f5⟩
  obtain⟨r5,l5⟩:=fZs hv5 l4
  have hR:rfR b a bad=rfD b ⟨nm,t.setWidth 16,c.setWidth 16,tl,[]⟩ n.toNat a5 f5:=by unfold rfR;simp only[hv1,hv2,hv3,hv4,hv5]
  rw[hR]
  clear hR hv1 hv2 hv3 hv4 hv5
  refine ySq (yRn [0,2] fun K hK=>?_)
  simp(disch:=omega) only[go_sem]
  refine hK _ (aB ?_)
  refine ySq (yRg [0,2,3] (aH fRi aO) fun K hK=>?_)
  simp(disch:=omega) only[go_sem,r1,U2]
  refine hK _ (aB ?_)
  refine ySq (yRg [0,2,3] (aH fPw aO) fun K hK=>?_)
  simp(disch:=omega) only[go_sem,r2,U2]
  refine hK _ (aB ?_)
  refine ySq (yRg [0,2,3] (aH fPw aO) fun K hK=>?_)
  simp(disch:=omega) only[go_sem,r3,U2]
  refine hK _ (aB ?_)
  refine ySq (yRg [0,2,3] (aH fPw aO) fun K hK=>?_)
  simp(disch:=omega) only[go_sem,r4,U2]
  refine hK _ (aB ?_)
  refine ySq (yRg [0,2,3,4] (aH fPw aO) fun K hK=>?_)
  simp(disch:=omega) only[go_sem,r5,U2]
  refine hK _ (aB ?_)
  obtain⟨xi,hxi⟩: ∃y,nx+1+3=y:=⟨_,rfl⟩
  obtain⟨T,hT⟩: ∃y,t.setWidth 16=y:=⟨_,rfl⟩
  obtain⟨C,hC⟩: ∃y,c.setWidth 16=y:=⟨_,rfl⟩
  obtain⟨N,hN⟩: ∃y,n.toNat=y:=⟨_,rfl⟩
  rw[hT,hC,hN,hxi]
  refine yK (fTr (a:=id) (b:=nx) (c:=xi) (x:=.cells [.sl b.length (c8 b),.i (a5:Int),.b f5] true) (y:=.cells zR5 true) (z:=.cells [.sl nm.length (cS nm),.w16 T,.w16 C,.w32 tl,.v (.slice none 0 0)] true) (by simp(disch:=omega) only[aV,↓reduceIte]<;>rfl) (by simp(disch:=omega) only[aV,bY,↓reduceIte]<;>rfl) (by simp(disch:=omega) only[aV,bY,↓reduceIte]<;>rfl)) ?_
  obtain⟨x,hx⟩: ∃x:RC,⟨nm,T,C,tl,[]⟩=x:=⟨_,rfl⟩
  rw[hx]
  have hbad:rfA b (x,a5,true)=(.agg [.sl nm.length (cS nm),.w16 T,.w16 C,.w32 tl,.sl 0 []],[.sl b.length (c8 b),.i (a5:Int),.b true]):=by subst hx;rfl
  have hids:AV.ids (.agg [.sl nm.length (cS nm),.w16 T,.w16 C,.w32 tl,.sl 0 []])=0:=fSk ⟨nm,T,C,tl,[]⟩
  have hxt:x.ty=T:=by subst hx;rfl
  have hxc:x.cl=C:=by subst hx;rfl
  clear r1 r2 r3 r4 r5
  refine kU (cx':=xi+40) (by omega) ?_
  rcases f5 with _|_
  ·by_cases hn:b.length-a5<N
   ·have hR:rfD b x N a5 false=(x,a5,true):=J4 (.inr hn)
    rw[hR,hbad]
    have dn:decide ((b.length:Int)-(a5:Int)<(N:Int))=true:=J5 (by omega)
    refine ySq (ySq (bB (Γ:=aL) (fun k=>if k=3 then 0 else 2) [43,0,2,3,4] bZ (aD _ _) rfl rfl rfl (by kernel_rfl) (fun K hK=>?_)))
    simp(disch:=omega) only[go_sem,dn]
    refine hK _ (aB ?_)
    refine iTd (ySq (yRn [2,3] fun K hK=>?_))
    simp(disch:=omega) only[go_sem]
    refine hK _ (aB ?_)
    refine ySq (yRn [2] fun K hK=>?_)
    simp(disch:=omega) only[go_sem,zR5]
    refine hK _ (aB ?_)
    refine aS rfl (bI (⟨by simp(disch:=omega) only[bV,bK,bQ,go_sem,aV,eq_self,U0,U1,J9],by simp(disch:=omega) only[aV,bY,↓reduceIte,eq_self],?_,?_⟩))
    ·exact hids
    exact fPi _ _ _ _
   have hR:rfD b x N a5 false=rfE x a5 (rfG b x N a5):=J3 (by simp[hn])
   rw[hR]
   have dn:decide ((b.length:Int)-(a5:Int)<(N:Int))=false:=J6 (by omega)
   refine ySq (ySq (bB (Γ:=aL) (fun k=>if k=3 then 0 else 2) [43,0,2,3,4] bZ (aD _ _) rfl rfl rfl (by kernel_rfl) (fun K hK=>?_)))
   simp(disch:=omega) only[go_sem,dn]
   refine hK _ (aB ?_)
   refine iFd (ySk (aB (ySq ?_)))
   have he:(a5:Int)+(N:Int)=((a5+N:Nat):Int):=rfl
   refine yRn [0,2,3,4,5] fun K hK=>?_
   simp(disch:=omega) only[go_sem,he]
   refine hK _ (aB ?_)
   refine ySq (dWd (fun p:RFJ=> {fr:=[(0,.op id 0),(2,.op nx 0),(3,.op xi 0)],hp:=upd (upd (upd (upd (fun _=>none) id (.cells [.sl b.length (c8 b),.i ((a5+N:Nat):Int),.b false] true)) nx (.cells zR5 true)) p.q (.cells (c8 p.d) true)) xi (.cells [.sl nm.length (cS nm),.w16 T,.w16 C,.w32 tl,.os p.q 0 p.d.length 1 true] true),nx:=0,cx:=p.c}) (fun p=>rfG b x N a5=some (p.d,a5+N)∧p.d.length≤100000∧xi<p.q∧p.q<p.c) ?_ ?_)
   ·have es:a5+N-a5=N:=by omega
    have hdl:((b.drop a5).take N).length=N:=by rw[List.length_take,List.length_drop];omega
    obtain⟨d,hd⟩: ∃d,(b.drop a5).take N=d:=⟨_,rfl⟩
    rw[hd]at hdl
    rcases(by by_cases h1:N=0;exact .inl h1;by_cases h2:gAi T=true;by_cases h3:C=1#16;exact .inr (.inr (.inr ⟨h1,h2,h3⟩));exact .inr (.inr (.inl ⟨h1,h2,h3⟩));exact .inr (.inl ⟨h1,Bool.not_eq_true _▸h2⟩):N=0∨(N≠0∧gAi T=false)∨(N≠0∧gAi T=true∧C≠1#16)∨(N≠0∧gAi T=true∧C=1#16))with h1|⟨h1,h2⟩|⟨h1,h2,h3⟩|⟨h1,h2,h3⟩
    ·have hG:rfG b x N a5=some (d,a5+N):=by unfold rfG;rw[J4 (.inl h1),hd]
     have k1:decide ((N:Int)=0)=true:=J5 (by omega)
     refine ySq (yRg [66,0,2,3,5] (aH gCw aO) fun K hK=>?_)
     simp(disch:=omega) only[go_sem,k1]
     refine hK _ (aB ?_)
     refine iTd (ySq (bB (Γ:=aL) (fun _=>2) [0,2,3,5] bZ (aD _ _) rfl rfl rfl (by kernel_rfl) (fun K hK=>?_)))
     simp(disch:=omega) only[go_sem,es,hd,hdl,U2]
     refine hK _ (aB ?_)
     refine yRn [0,2,3] fun K hK=>?_
     simp(disch:=omega) only[go_sem]
     refine hK _ (dWa ?_)
     refine⟨⟨d,xi+40+18+7+13+10,_⟩,⟨hG,by simp only;omega,by simp only;omega,by simp only;omega⟩,⟨fun _=> .inr rfl,fun i o hi=>?_,U3 _⟩⟩
     simp only[hdl]at hi
     exact(fMn) i o hi
    ·have hG:rfG b x N a5=some (d,a5+N):=by unfold rfG;rw[J4 (.inr (.inl (by rw[hxt];exact h2))),hd]
     have k1:decide ((N:Int)=0)=false:=J6 (by omega)
     refine ySq (yRg [66,0,2,3,5] (aH gCw aO) fun K hK=>?_)
     simp(disch:=omega) only[go_sem,k1,h2,Bool.not_false]
     refine hK _ (aB ?_)
     refine iTd (ySq (bB (Γ:=aL) (fun _=>2) [0,2,3,5] bZ (aD _ _) rfl rfl rfl (by kernel_rfl) (fun K hK=>?_)))
     simp(disch:=omega) only[go_sem,es,hd,hdl,U2]
     refine hK _ (aB ?_)
     refine yRn [0,2,3] fun K hK=>?_
     simp(disch:=omega) only[go_sem]
     refine hK _ (dWa ?_)
     refine⟨⟨d,xi+40+18+7+13+10,_⟩,⟨hG,by simp only;omega,by simp only;omega,by simp only;omega⟩,⟨fun _=> .inr rfl,fun i o hi=>?_,U3 _⟩⟩
     simp only[hdl]at hi
     exact(fMn) i o hi
    ·have hG:rfG b x N a5=some (d,a5+N):=by unfold rfG;rw[J4 (.inr (.inr (by rw[hxc];exact h3))),hd]
     have k1:decide ((N:Int)=0)=false:=J6 (by omega)
     have k3:decide (C=1#16)=false:=J6 h3
     refine ySq (yRg [66,0,2,3,5] (aH gCw aO) fun K hK=>?_)
     simp(disch:=omega) only[go_sem,k1,h2,k3,Bool.not_true,Bool.not_false]
     refine hK _ (aB ?_)
     refine iTd (ySq (bB (Γ:=aL) (fun _=>2) [0,2,3,5] bZ (aD _ _) rfl rfl rfl (by kernel_rfl) (fun K hK=>?_)))
     simp(disch:=omega) only[go_sem,es,hd,hdl,U2]
     refine hK _ (aB ?_)
     refine yRn [0,2,3] fun K hK=>?_
     simp(disch:=omega) only[go_sem]
     refine hK _ (dWa ?_)
     refine⟨⟨d,xi+40+18+7+13+10,_⟩,⟨hG,by simp only;omega,by simp only;omega,by simp only;omega⟩,⟨fun _=> .inr rfl,fun i o hi=>?_,U3 _⟩⟩
     simp only[hdl]at hi
     exact(fMn) i o hi
    have k1:decide ((N:Int)=0)=false:=J6 (by omega)
    have k3:decide (C=1#16)=true:=J5 h3
    refine ySq (yRg [66,0,2,3,5] (aH gCw aO) fun K hK=>?_)
    simp(disch:=omega) only[go_sem,k1,h2,k3,Bool.not_true]
    refine hK _ (aB ?_)
    refine iFd ?_
    have hbl:(b.take (a5+N)).length=a5+N:=by rw[List.length_take];omega
    obtain⟨b',hb'⟩: ∃y,b.take (a5+N)=y:=⟨_,rfl⟩
    rw[hb']at hbl
    have hG:rfG b x N a5=(match rfC b' T a5 with|(d,e,f)=>if f=true∨e≠a5+N then none else some (d,a5+N)):=by unfold rfG;rw[J3 (by simp[h1,hxt,h2,hxc,h3]),hxt,hb']
    refine ySq (bB (Γ:=aL) (fun _=>2) [0,2,3,5,6] bZ (aD _ _) rfl rfl rfl (by kernel_rfl) (fun K hK=>?_))
    simp(disch:=omega) only[go_sem,Nat.sub_zero,hb']
    refine hK _ (aB ?_)
    obtain⟨ii,hii⟩: ∃y,xi+40+18+7+13+11=y:=⟨_,rfl⟩
    rw[hii]
    refine ySq (yRn [0,2,3,5,6,7] fun K hK=>?_)
    simp(disch:=omega) only[go_sem]
    refine hK _ (aB ?_)
    refine iE 7 1 rfl (fPg [0,2,3,5,6,7] ?_)
    simp only[iB,fU,eW,↓reduceIte,Nat.reduceEqDiff]
    refine ySq (dWd (fun p:RFK=> {fr:=[(0,.op id 0),(2,.op nx 0),(3,.op xi 0),(5,.i ((a5+N:Nat):Int)),(6,.op ii 0),(7,.os p.q 0 p.d.length 1 true)],hp:=upd (upd (upd (upd (upd (fun _=>none) id (.cells [.sl b.length (c8 b),.i (a5:Int),.b false] true)) nx (.cells zR5 true)) xi (.cells [.sl nm.length (cS nm),.w16 T,.w16 C,.w32 tl,.v (.slice none 0 0)] true)) ii (.cells [.sl (a5+N) (c8 b'),.i (p.e:Int),.b p.f] true)) p.q (.cells (c8 p.d) true),nx:=0,cx:=p.c}) (fun p=>rf1 b' T a5=(p.d,p.e,p.f)∧p.e≤b'.length∧p.d.length≤2∧ii<p.q∧p.q<p.c) ?_ ?_)
    ·refine ySq (yRn [97,0,2,3,5,6,7] fun K hK=>?_)
     simp(disch:=omega) only[go_sem]
     refine hK _ (aB ?_)
     refine gLb rfl (fun h=>?_) (fun h=>?_)
     ·refine yDr ?_
      rcases hw1:rnV b' 2 a5 false with⟨v1,e1,g1⟩
      obtain⟨w1,lw1⟩:=fZs hw1 (by omega)
      rw[hbl]at w1
      have hv2:=cZ v1 2 2
      refine eXk (fun k=>if k=2 then 2 else 0) [0,2,3,5,6,7] (aH fPw (aH D5.ok16 aO)) rfl rfl rfl (fun K hK=>?_)
      simp(disch:=omega) only[go_sem,w1,U2]
      refine hK _ (dWa ?_)
      refine⟨⟨beL v1 2 2,e1,g1,xi+40+18+7+13+13+1+1+3+2,_⟩,⟨by unfold rf1;rw[J4 h];simp only[hw1],lw1,by simp only[hv2];omega,?_,?_⟩,⟨fun _=> .inr (by simp only[hv2]),fNi,U3 _⟩⟩<;>simp only<;>omega
     refine yDr (ySk (dWa ?_))
     refine⟨⟨[],a5,false,xi+40+18+7+13+13+1,_⟩,⟨by unfold rf1;rw[J3 h],by simp only;omega,Nat.zero_le _,by simp only;omega,by simp only;omega⟩,⟨fun _=> .inr rfl,fNi,U3 _⟩⟩
    rintro⟨d1,e1,g1,q1,c1⟩ ⟨hd1,he1,hl1,hq1,hq2⟩ n0
    simp only at hd1 he1 hl1 hq1 hq2⊢
    rcases hw2:rmV b' e1 g1 with⟨n2,e2,g2⟩
    obtain⟨w2,lw2,hwb2⟩:=gCr hw2 he1
    rw[hbl]at w2
    have hwl2:(fHk n2).length=(eRs n2).length+1:=by simp[fHk]
    refine ySq (yRg [0,2,3,5,6,7] (aH fRi (aH gBn aO)) fun K hK=>?_)
    simp(disch:=omega) only[go_sem,w2,U2]
    refine hK _ (aB ?_)
    refine ySq (dWd (fun p:RFK=> {fr:=[(0,.op id 0),(2,.op nx 0),(3,.op xi 0),(5,.i ((a5+N:Nat):Int)),(6,.op ii 0),(7,.os p.q 0 p.d.length 1 true)],hp:=upd (upd (upd (upd (upd (fun _=>none) id (.cells [.sl b.length (c8 b),.i (a5:Int),.b false] true)) nx (.cells zR5 true)) xi (.cells [.sl nm.length (cS nm),.w16 T,.w16 C,.w32 tl,.v (.slice none 0 0)] true)) ii (.cells [.sl (a5+N) (c8 b'),.i (p.e:Int),.b p.f] true)) p.q (.cells (c8 p.d) true),nx:=0,cx:=p.c}) (fun p=>rfC b' T a5=(p.d,p.e,p.f)∧p.e≤b'.length∧p.d.length≤600∧ii<p.q∧p.q<p.c) ?_ ?_)
    ·refine ySq (yRn [108,0,2,3,5,6,7] fun K hK=>?_)
     simp(disch:=omega) only[go_sem]
     refine hK _ (aB ?_)
     refine gLb rfl (fun h=>?_) (fun h=>?_)
     ·refine yDr ?_
      have h6:=h
      clear h
      rcases hw3:rmV b' e2 g2 with⟨n3,e3,g3⟩
      obtain⟨w3,lw3,hwb3⟩:=gCr hw3 lw2
      rw[hbl]at w3
      have hwl3:(fHk n3).length=(eRs n3).length+1:=by simp[fHk]
      have hll:(d1++fHk n2).length=d1.length+(fHk n2).length:=List.length_append
      refine ySq (yRg [0,2,3,5,6,7] (aH fRi (aH gBn aO)) fun K hK=>?_)
      simp(disch:=omega) only[go_sem,w3,hll,U2]
      refine hK _ (aB ?_)
      refine ySq (yRn [0,2,3,5,6,7,8] fun K hK=>?_)
      simp(disch:=omega) only[go_sem]
      refine hK _ (aB ?_)
      have hll2:(d1++fHk n2++fHk n3).length=d1.length+(fHk n2).length+(fHk n3).length:=by rw[List.length_append,List.length_append]
      obtain⟨ans,hrun⟩: ∃y,rfF b' 5 (d1++fHk n2++fHk n3,e3,g3)=y:=⟨_,rfl⟩
      have hC3:rfC b' T a5=ans:=by unfold rfC rf3;rw[J4 h6,hd1];unfold rf2;simp only[hw2,hw3];exact hrun
      refine yBl 0 ?_
      refine bR (fun p:RFL=> {fr:=[(0,.op id 0),(2,.op nx 0),(3,.op xi 0),(5,.i ((a5+N:Nat):Int)),(6,.op ii 0),(7,.os p.q 0 p.d.length 1 true),(8,.i (p.k:Int))],hp:=upd (upd (upd (upd (upd (fun _=>none) id (.cells [.sl b.length (c8 b),.i (a5:Int),.b false] true)) nx (.cells zR5 true)) xi (.cells [.sl nm.length (cS nm),.w16 T,.w16 C,.w32 tl,.v (.slice none 0 0)] true)) ii (.cells [.sl (a5+N) (c8 b'),.i (p.e:Int),.b p.f] true)) p.q (.cells (c8 p.d) true),nx:=0,cx:=p.c}) (fun p=>p.k≤5∧p.e≤b'.length∧p.d.length≤540+4*p.k∧rfF b' (5-p.k) (p.d,p.e,p.f)=ans∧ii<p.q∧p.q<p.c) (fun p=>5-p.k) rfl ⟨⟨0,d1++fHk n2++fHk n3,e3,g3,c1+6+3+4,_⟩,⟨Nat.zero_le _,lw3,by simp only[hll2];omega,hrun,by simp only;omega,by simp only;omega⟩,⟨fun _=> .inr (by simp only[hll2,Int.natCast_zero]),fNi,U3 _⟩⟩ ?_
      rintro⟨k,d4,e4,g4,q4,c4⟩ ⟨hk,he4,hl4,hrun,hq5,hq6⟩ n0
      simp only at hk he4 hl4 hrun hq5 hq6⊢
      refine ySq (ySq (yRn [115,0,2,3,5,6,7,8] fun K hK=>?_))
      simp(disch:=omega) only[go_sem]
      refine hK _ (aB ?_)
      refine gLb rfl (fun h=>?_) (fun h=>?_)
      ·refine yDr ?_
       obtain⟨j,hj⟩: ∃j,5-k=j+1:=⟨5-k-1,by omega⟩
       rcases hw4:rnV b' 4 e4 g4 with⟨v5,e5,g5⟩
       obtain⟨w4,lw4⟩:=fZs hw4 he4
       rw[hbl]at w4
       rw[hj,rfF,hw4]at hrun
       simp only at hrun
       clear h
       refine ySk (aB (ySq (yBl 1 (yRg [0,2,3,5,6,7,8] (aH fPw (aH gJp aO)) fun K hK=>?_))))
       simp(disch:=omega) only[go_sem,w4,U2]
       refine hK _ (bU (aB ?_))
       have hbe:=cZ v5 4 4
       have hri:fZy q4 (c4+2+5) 4=c4+2+5+4+14*3+9:=rfl
       rw[hri]
       refine yRn [0,2,3,5,6,7,8] fun K hK=>?_
       simp(disch:=omega) only[go_sem]
       refine hK _ (bT ?_)
       refine⟨⟨k+1,d4++beL v5 4 4,e5,g5,c4+2+5+4+14*3+9,_⟩,⟨by simp only;omega,lw4,by simp only[List.length_append,hbe];omega,by rw[show 5-(k+1)=j by omega];exact hrun,by simp only;omega,by simp only;omega⟩,by simp only;omega,⟨fun _=> .inr ?_,fun i o hi=>?_,U3 _⟩⟩
       ·simp only[List.length_append,hbe,Int.natCast_add,Int.natCast_one]
       exact(fNi) i o hi
      refine yDr ?_
      obtain rfl:k=5:=by omega
      clear h
      rw[Nat.sub_self,rfF]at hrun
      refine yEx 0 (aY (aZ (bE (dWa ?_))))
      refine⟨⟨d4,e4,g4,q4,_⟩,⟨by rw[hC3,hrun],he4,by simp only;omega,hq5,by simp only;omega⟩,⟨fun t=>gAy [(8,_)] t _,fun _ _ h=>h,U3 _⟩⟩
     refine yDr ?_
     have h6:=h
     clear h
     refine ySk (dWa ?_)
     refine⟨⟨d1++fHk n2,e2,g2,c1+4,_⟩,⟨by unfold rfC rf3;rw[J3 h6,hd1];unfold rf2;simp only[hw2],lw2,by simp only[List.length_append];omega,by simp only;omega,by simp only;omega⟩,⟨fun _=> .inr (by simp only[List.length_append]),fNi,U3 _⟩⟩
    rintro⟨d3,e3,g3,q3,c3⟩ ⟨hd3,he3,hl3,hq3,hq4⟩ n0
    simp only at hd3 he3 hl3 hq3 hq4⊢
    rw[hd3]at hG
    simp only at hG
    rcases g3 with _|_
    ·by_cases hee:e3=a5+N
     ·rw[J3 (by simp[hee])]at hG
      have de:decide ((e3:Int)=((a5+N:Nat):Int))=true:=J5 (by omega)
      refine ySq (ySq (yRn [133,0,2,3,5,7] fun K hK=>?_))
      simp(disch:=omega) only[go_sem,de,Bool.not_true]
      refine hK _ (aB ?_)
      refine iFd (ySk (aB (ySq (yRn [0,2,3,5] fun K hK=>?_))))
      simp(disch:=omega) only[go_sem,List.set_cons_succ,List.set_cons_zero]
      refine hK _ (aB ?_)
      refine yRn [0,2,3] fun K hK=>?_
      simp(disch:=omega) only[go_sem]
      refine hK _ (dWa ?_)
      refine⟨⟨d3,q3,_⟩,⟨hG,by simp only;omega,by simp only;omega,by simp only;omega⟩,⟨fun _=> .inr rfl,fMn,U3 _⟩⟩
     rw[J4 (.inr hee)]at hG
     have hE:rfE x a5 (rfG b x N a5)=(x,a5,true):=by rw[hG];rfl
     rw[hE,hbad]
     have de:decide ((e3:Int)=((a5+N:Nat):Int))=false:=J6 (by omega)
     refine ySq (ySq (yRn [133,0,2,3,5,7] fun K hK=>?_))
     simp(disch:=omega) only[go_sem,de,Bool.not_false]
     refine hK _ (aB ?_)
     refine iTd (ySq (yRn [2,3] fun K hK=>?_))
     simp(disch:=omega) only[go_sem]
     refine hK _ (aB ?_)
     refine ySq (yRn [2] fun K hK=>?_)
     simp(disch:=omega) only[go_sem,zR5]
     refine hK _ (aB ?_)
     refine aS rfl (bI (gAf (⟨by simp(disch:=omega) only[bV,bK,bQ,go_sem,aV,eq_self,U0,U1,J9],by simp(disch:=omega) only[aV,bY,↓reduceIte,eq_self],?_,?_⟩)))
     ·exact hids
     exact fPi _ _ _ _
    rw[J4 (.inl rfl)]at hG
    have hE:rfE x a5 (rfG b x N a5)=(x,a5,true):=by rw[hG];rfl
    rw[hE,hbad]
    refine ySq (ySq (yRn [133,0,2,3,5,7] fun K hK=>?_))
    simp(disch:=omega) only[go_sem]
    refine hK _ (aB ?_)
    refine iTd (ySq (yRn [2,3] fun K hK=>?_))
    simp(disch:=omega) only[go_sem]
    refine hK _ (aB ?_)
    refine ySq (yRn [2] fun K hK=>?_)
    simp(disch:=omega) only[go_sem,zR5]
    refine hK _ (aB ?_)
    refine aS rfl (bI (gAf (⟨by simp(disch:=omega) only[bV,bK,bQ,go_sem,aV,eq_self,U0,U1,J9],by simp(disch:=omega) only[aV,bY,↓reduceIte,eq_self],?_,?_⟩)))
    ·exact hids
    exact fPi _ _ _ _
   rintro⟨d,q,c⟩ ⟨hG,hd,hq1,hq2⟩ n0
   simp only at hG hd hq1 hq2⊢
   have hE: ∀fl,(decide (T≠41#16)&&decide (C=1#16)&&decide (D5.chkF T d≠0))=fl→rfE x a5 (rfG b x N a5)=({x with d:=d},a5+N,fl):=fun fl h=>by
    rw[hG]
    refine Prod.ext rfl (Prod.ext rfl ?_)
    show(decide (x.ty≠41#16)&&decide (x.cl=1#16)&&decide (D5.chkF x.ty d≠0))=fl
    rw[hxt,hxc];exact h
   have hbadD: ∀fl,rfA b ({x with d:=d},a5+N,fl)=(.agg [.sl nm.length (cS nm),.w16 T,.w16 C,.w32 tl,.sl d.length (c8 d)],[.sl b.length (c8 b),.i ((a5+N:Nat):Int),.b fl]):=fun fl=>by subst hx;rfl
   have hidsD:AV.ids (.agg [.sl nm.length (cS nm),.w16 T,.w16 C,.w32 tl,.sl d.length (c8 d)])=0:=fSk ⟨nm,T,C,tl,d⟩
   by_cases h41:T=41#16
   ·have d41:decide (T=41#16)=true:=J5 h41
    rw[hE false (by simp[h41]),hbadD]
    refine ySq (ySq (yRg [159,0,2,3] (aH D5.okz10 aO) fun K hK=>?_))
    simp(disch:=omega) only[go_sem,d41,Bool.not_true]
    refine hK _ (aB ?_)
    refine iFd (ySk (aB (ySq (yRn [2] fun K hK=>?_))))
    simp(disch:=omega) only[go_sem,zR5]
    refine hK _ (aB ?_)
    refine aS rfl (⟨by simp(disch:=omega) only[bV,bK,bQ,go_sem,aV,kE,bY,eq_self,U0,U1,J9],by simp(disch:=omega) only[aV,bY,↓reduceIte,eq_self],?_,?_⟩)
    ·exact hidsD
    exact fPi _ _ _ _
   have d41:decide (T=41#16)=false:=J6 h41
   by_cases hc1:C=1#16
   ·have dc1:decide (C=1#16)=true:=J5 hc1
    by_cases hck:D5.chkF T d=0
    ·have dk:decide (D5.chkF T d=0)=true:=J5 hck
     rw[hE false (by simp[hck]),hbadD]
     refine ySq (ySq (yRg [159,0,2,3] (aH D5.okz10 aO) fun K hK=>?_))
     simp(disch:=omega) only[go_sem,d41,dc1,dk,Bool.not_false,Bool.not_true]
     refine hK _ (aB ?_)
     refine iFd (ySk (aB (ySq (yRn [2] fun K hK=>?_))))
     simp(disch:=omega) only[go_sem,zR5]
     refine hK _ (aB ?_)
     refine aS rfl (⟨by simp(disch:=omega) only[bV,bK,bQ,go_sem,aV,kE,bY,eq_self,U0,U1,J9],by simp(disch:=omega) only[aV,bY,↓reduceIte,eq_self],?_,?_⟩)
     ·exact hidsD
     exact fPi _ _ _ _
    have dk:decide (D5.chkF T d=0)=false:=J6 hck
    rw[hE true (by simp[hck,h41,hc1]),hbadD]
    refine ySq (ySq (yRg [159,0,2,3] (aH D5.okz10 aO) fun K hK=>?_))
    simp(disch:=omega) only[go_sem,d41,dc1,dk,Bool.not_false]
    refine hK _ (aB ?_)
    refine iTd (yRn [2,3] fun K hK=>?_)
    simp(disch:=omega) only[go_sem]
    refine hK _ (aB ?_)
    refine ySq (yRn [2] fun K hK=>?_)
    simp(disch:=omega) only[go_sem,zR5]
    refine hK _ (aB ?_)
    refine aS rfl (⟨by simp(disch:=omega) only[bV,bK,bQ,go_sem,aV,kE,bY,eq_self,U0,U1,J9],by simp(disch:=omega) only[aV,bY,↓reduceIte,eq_self],?_,?_⟩)
    ·exact hidsD
    exact fPi _ _ _ _
   have dc1:decide (C=1#16)=false:=J6 hc1
   rw[hE false (by simp[hc1]),hbadD]
   refine ySq (ySq (yRg [159,0,2,3] (aH D5.okz10 aO) fun K hK=>?_))
   simp(disch:=omega) only[go_sem,d41,dc1,Bool.not_false]
   refine hK _ (aB ?_)
   refine iFd (ySk (aB (ySq (yRn [2] fun K hK=>?_))))
   simp(disch:=omega) only[go_sem,zR5]
   refine hK _ (aB ?_)
   refine aS rfl (⟨by simp(disch:=omega) only[bV,bK,bQ,go_sem,aV,kE,bY,eq_self,U0,U1,J9],by simp(disch:=omega) only[aV,bY,↓reduceIte,eq_self],?_,?_⟩)
   ·exact hidsD
   exact fPi _ _ _ _
  have hR:rfD b x N a5 true=(x,a5,true):=J4 (.inl rfl)
  rw[hR,hbad]
  refine ySq (ySq (bB (Γ:=aL) (fun k=>if k=3 then 0 else 2) [43,0,2,3,4] bZ (aD _ _) rfl rfl rfl (by kernel_rfl) (fun K hK=>?_)))
  simp(disch:=omega) only[go_sem]
  refine hK _ (aB ?_)
  refine iTd (ySq (yRn [2,3] fun K hK=>?_))
  simp(disch:=omega) only[go_sem]
  refine hK _ (aB ?_)
  refine ySq (yRn [2] fun K hK=>?_)
  simp(disch:=omega) only[go_sem,zR5]
  refine hK _ (aB ?_)
  refine aS rfl (bI (⟨by simp(disch:=omega) only[bV,bK,bQ,go_sem,aV,eq_self,U0,U1,J9],by simp(disch:=omega) only[aV,bY,↓reduceIte,eq_self],?_,?_⟩))
  ·exact hids
  exact fPi _ _ _ _
 cases hg
theorem gJq:bX Tryz.prog GLh 21 (.heap (rdH gDi)):=⟨⟨_,Tryz.func21,rfl,rfl⟩,gFk.1⟩
end Go.AX

namespace Go.AX
open Go Go.Proofs
set_option maxRecDepth 20000
theorem gHi {b:List B8} {a:Nat} {bad:Bool} {c:RC} {e:Nat} {f:Bool} (ha:a≤b.length) (h:rfR b a bad=(c,e,f)):e≤b.length:=by
 rcases hv1:rmV b a bad with⟨nm,a1,f1⟩
 obtain⟨r1,l1,hwb⟩:=gCr hv1 (by omega)
 rcases hv2:rnV b 2 a1 f1 with⟨t,a2,f2⟩
 obtain⟨r2,l2⟩:=fZs hv2 l1
 rcases hv3:rnV b 2 a2 f2 with⟨c,a3,f3⟩
 obtain⟨r3,l3⟩:=fZs hv3 l2
 rcases hv4:rnV b 4 a3 f3 with⟨tl,a4,f4⟩
 obtain⟨r4,l4⟩:=fZs hv4 l3
 rcases hv5:rnV b 2 a4 f4 with⟨n,a5,f5⟩
 obtain⟨r5,l5⟩:=fZs hv5 l4
 unfold rfR at h
 simp only[hv1,hv2,hv3,hv4,hv5]at h
 unfold rfD at h
 split at h
 ·simp only[Prod.mk.injEq]at h;omega
 rename_i hn
 have hn2:=(not_or.1 hn).2
 unfold rfG at h
 split at h
 ·simp only[rfE,Prod.mk.injEq]at h;omega
 split at h
 split at h
 ·simp only[rfE,Prod.mk.injEq]at h;omega
 simp only[rfE,Prod.mk.injEq]at h;omega
structure DS where
 e:Nat
 an:List RC
 au:List RC
 ad:List RC
 ed:Bool
 sz:BitVec 16
 dn:Bool
 rc:Int
def gDn (c:RC):RC:=if c.ttl>>>31=1#32 then {c with ttl:=0#32} else c
def gAe (s:Nat) (t:DS) (e:Nat) (c:RC):DS:=if s=1 then {t with e:=e,an:=t.an++[c]} else if s=2 then {t with e:=e,au:=t.au++[c]} else {t with e:=e,ad:=t.ad++[c]}
def gJm (t:DS) (e:Nat) (c:RC):DS:= {t with e:=e,ed:=true,sz:=c.cl,dn:=decide (c.ttl>>>15&&&1#32=1#32),rc:=t.rc+((c.ttl>>>24).toNat:Int)*16}
def stD (s:Nat) (t:DS):RC×Nat×Bool→Option DS
 |(c,e,f)=>if f=true then none else if c.ty=41#16 then(if s≠3∨t.ed=true∨c.nm.length≠0 then none else some (gJm t e c))else some (gAe s t e (gDn c))
def rdX (b:List B8) (s:Nat):Nat→DS→Option DS
 |0,t=>some t
 |k+1,t=>aK (stD s t (rfR b t.e false)) (rdX b s k)
def rdL (b:List B8) (N:Nat→Nat):Nat→Nat→DS→Option DS
 |0,_,t=>some t
 |k+1,s,t=>aK (rdX b s (N s) t) (rdL b N k (s+1))
def dN (b:List B8) (s:Nat):Nat:=if s=1 then c16 b 6 else if s=2 then c16 b 8 else c16 b 10
def d0 (b:List B8) (e:Nat):DS:=⟨e,[],[],[],false,0#16,false,((b1 b 3&&&15#32).toNat:Int)⟩
def rdN (b:List B8) (l:List QN):Option DS→Option (List QN×DS)
 |none=>none
 |some t=>if t.e=b.length then some (l,t)else none
def rdK (b:List B8):Option (List QN×Nat)→Option (List QN×DS)
 |none=>none
 |some (l,e)=>rdN b l (rdL b (dN b) 3 1 (d0 b e))
def rdM (b:List B8):Option (List QN×DS):=rdK b (fJv b (c16 b 4) 12 [])
def mD (b:List B8) (rc:Int) (q a u d:AV) (ed:Bool) (sz:BitVec 16) (dn:Bool):List AV:=[.w16 (n16 b 0),.b (!decide (b1 b 2&&&128#32=0#32)),.i ((b1 b 2>>>3&&&15#32).toNat:Int),.b (!decide (b1 b 2&&&4#32=0#32)),.b (!decide (b1 b 2&&&2#32=0#32)),.b (!decide (b1 b 2&&&1#32=0#32)),.b (!decide (b1 b 3&&&128#32=0#32)),.i rc,q,a,u,d,.b ed,.w16 sz,.b dn]
def rdT (b:List B8):Option (List QN×DS)→AV
 |none=> .tup [msZ,.i 60]
 |some (l,t)=> .tup [.agg (mD b t.rc (.sl l.length (qsC l)) (.sl t.an.length (rcC t.an)) (.sl t.au.length (rcC t.au)) (.sl t.ad.length (rcC t.ad)) t.ed t.sz t.dn),.i 0]
def rdG:List AV→Option AV
 |[.sl n xs]=>aK (fHq xs) fun b=>aN (b.length=n∧n≤65535∧12≤n) (some (rdT b (rdM b)))
 |_=>none
theorem dNz (n:Nat) (xs:List AV):rdG [.sl n xs]=aK (fHq xs) fun b=>aN (b.length=n∧n≤65535∧12≤n) (some (rdT b (rdM b))):=(rfl)
attribute [go_sem] dNz
structure DI (b:List B8) (t:DS) (k:Nat):Prop where
 e:t.e≤b.length
 n:t.an.length+t.au.length+t.ad.length≤k
 r0:0≤t.rc
 r1:t.ed=false→t.rc≤15
 r2:t.rc≤5000
structure RDO where
 s:Nat
 t:DS
 bad:Bool
 a:Nat
 u:Nat
 d:Nat
 c:Nat
structure RDI where
 k:Nat
 t:DS
 bad:Bool
 a:Nat
 u:Nat
 d:Nat
 c:Nat
structure RDJ where
 t:DS
 bad:Bool
 a:Nat
 u:Nat
 d:Nat
 c:Nat
structure Ap (q a u d c:Nat):Prop where
 qa:q<a
 qu:q<u
 qd:q<d
 au:a≠u
 ad:a≠d
 ud:u≠d
 ac:a<c
 uc:u<c
 dc:d<c
theorem DI.mono {b:List B8} {t:DS} {k k':Nat} (h:DI b t k) (hk:k≤k'):DI b t k':=⟨h.e,Nat.le_trans h.n hk,h.r0,h.r1,h.r2⟩
def gAu (b:List B8) (N:Nat→Nat) (j s k:Nat) (t:DS):Option DS:=aK (rdX b s k t) (rdL b N j (s+1))
theorem gGk (b:List B8) (s k:Nat) (t:DS):rdX b s (k+1) t=aK (stD s t (rfR b t.e false)) (rdX b s k):=rfl
theorem gBe {b:List B8} {N:Nat→Nat} {j s k:Nat} {t:DS} (h:stD s t (rfR b t.e false)=none):gAu b N j s (k+1) t=none:=by unfold gAu;rw[gGk,h];rfl
theorem gEh {b:List B8} {N:Nat→Nat} {j s k:Nat} {t t':DS} (h:stD s t (rfR b t.e false)=some t'):gAu b N j s (k+1) t=gAu b N j s k t':=by unfold gAu;rw[gGk,h];rfl
section
variable (b : List B8) (rc : Int) (q a u d : AV) (ed : Bool) (sz : BitVec 16) (dn : Bool)
theorem gAp:(mD b rc q a u d ed sz dn).length=15:=rfl
theorem mD_7:(List.drop 7 (mD b rc q a u d ed sz dn)).head? =some (.i rc):=rfl
theorem mD_9:(List.drop 9 (mD b rc q a u d ed sz dn)).head? =some a:=rfl
theorem gJy:(List.drop 10 (mD b rc q a u d ed sz dn)).head? =some u:=rfl
theorem gJx:(List.drop 11 (mD b rc q a u d ed sz dn)).head? =some d:=rfl
theorem gEm:(List.drop 12 (mD b rc q a u d ed sz dn)).head? =some (.b ed):=rfl
theorem gJw (r:Int):(mD b rc q a u d ed sz dn).set 7 (.i r)=mD b r q a u d ed sz dn:=by simp only[mD,List.set_cons_succ,List.set_cons_zero]
theorem gJv (x:AV):(mD b rc q a u d ed sz dn).set 9 x=mD b rc q x u d ed sz dn:=by simp only[mD,List.set_cons_succ,List.set_cons_zero]
theorem gHt (x:AV):(mD b rc q a u d ed sz dn).set 10 x=mD b rc q a x d ed sz dn:=by simp only[mD,List.set_cons_succ,List.set_cons_zero]
theorem gHs (x:AV):(mD b rc q a u d ed sz dn).set 11 x=mD b rc q a u x ed sz dn:=by simp only[mD,List.set_cons_succ,List.set_cons_zero]
theorem gHr (x:Bool):(mD b rc q a u d ed sz dn).set 12 (.b x)=mD b rc q a u d x sz dn:=by simp only[mD,List.set_cons_succ,List.set_cons_zero]
theorem gHq (x:BitVec 16):(mD b rc q a u d ed sz dn).set 13 (.w16 x)=mD b rc q a u d ed x dn:=by simp only[mD,List.set_cons_succ,List.set_cons_zero]
theorem gHp (x:Bool):(mD b rc q a u d ed sz dn).set 14 (.b x)=mD b rc q a u d ed sz x:=by simp only[mD,List.set_cons_succ,List.set_cons_zero]
end
theorem gAt {g:H} {a b c d e f i j:Nat} {x y z w v p q r:AO} (h1:g a=some x:=by simp(disch:=omega) only[aV,kE,bY,↓reduceIte,if_true,if_false]<;>rfl) (h2:g b=some y:=by simp(disch:=omega) only[aV,kE,bY,↓reduceIte,if_true,if_false]<;>rfl) (h3:g c=some z:=by simp(disch:=omega) only[aV,kE,bY,↓reduceIte,if_true,if_false]<;>rfl) (h4:g d=some w:=by simp(disch:=omega) only[aV,kE,bY,↓reduceIte,if_true,if_false]<;>rfl) (h5:g e=some v:=by simp(disch:=omega) only[aV,kE,bY,↓reduceIte,if_true,if_false]<;>rfl) (h6:g f=some p:=by simp(disch:=omega) only[aV,kE,bY,↓reduceIte,if_true,if_false]<;>rfl) (h7:g i=some q:=by simp(disch:=omega) only[aV,kE,bY,↓reduceIte,if_true,if_false]<;>rfl) (h8:g j=some r:=by simp(disch:=omega) only[aV,kE,bY,↓reduceIte,if_true,if_false]<;>rfl): ∀k o,upd (upd (upd (upd (upd (upd (upd (upd (fun _=>none) a x) b y) c z) d w) e v) f p) i q) j r k=some o→g k=some o:=by
 intro k o h
 rw[bJ]at h
 split at h
 ·rename_i e1;rw[e1,h8];exact h
 rw[bJ]at h
 split at h
 ·rename_i e1;rw[e1,h7];exact h
 rw[bJ]at h
 split at h
 ·rename_i e1;rw[e1,h6];exact h
 exact fNi h1 h2 h3 h4 h5 k o h
theorem gJf {g:H} {a b c d e f i j n:Nat} {x y z w v p q r s:AO} (h1:g a=some x:=by simp(disch:=omega) only[aV,kE,bY,↓reduceIte,if_true,if_false]<;>rfl) (h2:g b=some y:=by simp(disch:=omega) only[aV,kE,bY,↓reduceIte,if_true,if_false]<;>rfl) (h3:g c=some z:=by simp(disch:=omega) only[aV,kE,bY,↓reduceIte,if_true,if_false]<;>rfl) (h4:g d=some w:=by simp(disch:=omega) only[aV,kE,bY,↓reduceIte,if_true,if_false]<;>rfl) (h5:g e=some v:=by simp(disch:=omega) only[aV,kE,bY,↓reduceIte,if_true,if_false]<;>rfl) (h6:g f=some p:=by simp(disch:=omega) only[aV,kE,bY,↓reduceIte,if_true,if_false]<;>rfl) (h7:g i=some q:=by simp(disch:=omega) only[aV,kE,bY,↓reduceIte,if_true,if_false]<;>rfl) (h8:g j=some r:=by simp(disch:=omega) only[aV,kE,bY,↓reduceIte,if_true,if_false]<;>rfl) (h9:g n=some s:=by simp(disch:=omega) only[aV,kE,bY,↓reduceIte,if_true,if_false]<;>rfl): ∀k o,upd (upd (upd (upd (upd (upd (upd (upd (upd (fun _=>none) a x) b y) c z) d w) e v) f p) i q) j r) n s k=some o→g k=some o:=by
 intro k o h
 rw[bJ]at h
 split at h
 ·rename_i e1;rw[e1,h9];exact h
 exact gAt h1 h2 h3 h4 h5 h6 h7 h8 k o h
theorem gJi {s:Nat} {t:DS} {x:RC} {e:Nat}:stD s t (x,e,true)=none:=rfl
theorem gDz {s:Nat} {t:DS} {x:RC} {e:Nat} (h:x.ty=41#16) (h2:s≠3∨t.ed=true∨x.nm.length≠0):stD s t (x,e,false)=none:=by
 unfold stD;simp only;rw[J3 (by simp),J4 h,J4 h2]
theorem gJh {s:Nat} {t:DS} {x:RC} {e:Nat} (h:x.ty=41#16) (h2: ¬(s≠3∨t.ed=true∨x.nm.length≠0)):stD s t (x,e,false)=some (gJm t e x):=by
 unfold stD;simp only;rw[J3 (by simp),J4 h,J3 h2]
theorem gJg {s:Nat} {t:DS} {x:RC} {e:Nat} (h: ¬x.ty=41#16):stD s t (x,e,false)=some (gAe s t e (gDn x)):=by
 unfold stD;simp only;rw[J3 (by simp),J3 h]
set_option maxHeartbeats 16000000 in
theorem gFo (b:List B8) (l:List QN) {R:Option DS} {bad:Bool} {e nx di mi ci q N c n0:Nat} (hnb:b.length≤65535) (he:e≤b.length) (hr1:bad=false→rdL b (dN b) 3 1 (Go.AX.d0 b e)=R) (hr2:bad=true→R=none) (hdi:nx<di) (hdm:di<mi) (hmc:mi<ci) (hq1:ci<q) (hq2:q<c):
  Awp Tryz.prog GLh Tryz.f8.ntmps (cr (cr (cr (cr (cr (cr (cr (cr (cr (cr (aE Tryz.f8))))))))))) {fr:=[(0,.sl b.length (c8 b)),(2,.op nx 0),(4,.op di 0),(5,.op mi 0),(7,.op ci 0)],hp:=upd (upd (upd (upd (upd (fun _=>none) di (.cells [.sl b.length (c8 b),.i (e:Int),.b bad] true)) nx (.cells z15 true)) ci (.cells [.i (N:Int),.i (dN b 1:Int),.i (dN b 2:Int),.i (dN b 3:Int)] true)) q (.cells (qsC l) true)) mi (.cells (fKg b++ .os q 0 l.length 3 true::fKf) true),nx:=n0,cx:=c} (fHo Tryz.prog Tryz.f8.results.toList (rdT b (rdN b l R))):=by
 have hdl: ∀s,dN b s<65536:=fun s=>by unfold dN;split;exact fOe b 6;split;exact fOe b 8;exact fOe b 10
 have hrc:=fQs (b1 b 3)
 have hD0:DI b (Go.AX.d0 b e) 0:=⟨he,U3 _,Int.natCast_nonneg _,fun _=>by show((b1 b 3&&&15#32).toNat:Int)≤15;omega,by show((b1 b 3&&&15#32).toNat:Int)≤5000;omega⟩
 have hcl0:fKg b++ .os q 0 l.length 3 true::fKf=mD b (Go.AX.d0 b e).rc (.os q 0 l.length 3 true) (.v (.slice none 0 0)) (.v (.slice none 0 0)) (.v (.slice none 0 0)) (Go.AX.d0 b e).ed (Go.AX.d0 b e).sz (Go.AX.d0 b e).dn:=rfl
 rw[hcl0]
 refine aDn mi 5 [.w16 (n16 b 0),.b (!decide (b1 b 2&&&128#32=0#32)),.i ((b1 b 2>>>3&&&15#32).toNat:Int),.b (!decide (b1 b 2&&&4#32=0#32)),.b (!decide (b1 b 2&&&2#32=0#32)),.b (!decide (b1 b 2&&&1#32=0#32)),.b (!decide (b1 b 3&&&128#32=0#32)),.i (Go.AX.d0 b e).rc,.os q 0 l.length 3 true] [.v (.slice none 0 0),.v (.slice none 0 0),.b (Go.AX.d0 b e).ed,.w16 (Go.AX.d0 b e).sz,.b (Go.AX.d0 b e).dn] true (by simp(disch:=omega) only[aV,↓reduceIte];rfl) (by omega) ?_
 refine aDn mi 5 [.w16 (n16 b 0),.b (!decide (b1 b 2&&&128#32=0#32)),.i ((b1 b 2>>>3&&&15#32).toNat:Int),.b (!decide (b1 b 2&&&4#32=0#32)),.b (!decide (b1 b 2&&&2#32=0#32)),.b (!decide (b1 b 2&&&1#32=0#32)),.b (!decide (b1 b 3&&&128#32=0#32)),.i (Go.AX.d0 b e).rc,.os q 0 l.length 3 true,.os c 0 0 5 true] [.v (.slice none 0 0),.b (Go.AX.d0 b e).ed,.w16 (Go.AX.d0 b e).sz,.b (Go.AX.d0 b e).dn] true (by simp(disch:=omega) only[aV,↓reduceIte];rfl) (by omega) ?_
 refine aDn mi 5 [.w16 (n16 b 0),.b (!decide (b1 b 2&&&128#32=0#32)),.i ((b1 b 2>>>3&&&15#32).toNat:Int),.b (!decide (b1 b 2&&&4#32=0#32)),.b (!decide (b1 b 2&&&2#32=0#32)),.b (!decide (b1 b 2&&&1#32=0#32)),.b (!decide (b1 b 3&&&128#32=0#32)),.i (Go.AX.d0 b e).rc,.os q 0 l.length 3 true,.os c 0 0 5 true,.os (c+1) 0 0 5 true] [.b (Go.AX.d0 b e).ed,.w16 (Go.AX.d0 b e).sz,.b (Go.AX.d0 b e).dn] true (by simp(disch:=omega) only[aV,↓reduceIte];rfl) (by omega) ?_
 refine ySq (ySq (yRn [0,2,4,5,7,11] fun K hK=>?_))
 simp(disch:=omega) only[go_sem,↓reduceIte]
 refine hK _ (aB ?_)
 obtain⟨CN,hCN⟩: ∃y,[AV.i (N:Int),AV.i (dN b 1:Int),AV.i (dN b 2:Int),AV.i (dN b 3:Int)]=y:=⟨_,rfl⟩
 have hCl:CN.length=4:=by rw[←hCN];rfl
 have hCd: ∀s,1≤s→s<4→(List.drop s CN).head? =some (.i (dN b s:Int)):=fun s h1 h4=>by
  rw[←hCN]
  rcases(by omega:s=1∨s=2∨s=3)with rfl|rfl|rfl<;>rfl
 rw[hCN]
 clear hCN hcl0
 obtain⟨t0,ht0⟩: ∃t,Go.AX.d0 b e=t:=⟨_,rfl⟩
 have hta:t0.an=[]:=by rw[←ht0];rfl
 have htu:t0.au=[]:=by rw[←ht0];rfl
 have htd:t0.ad=[]:=by rw[←ht0];rfl
 have hte:t0.e=e:=by rw[←ht0];rfl
 rw[ht0]at hr1 hD0⊢
 clear ht0 hrc
 refine yBl 4 ?_
 refine bR (fun p:RDO=> {fr:=[(0,.sl b.length (c8 b)),(2,.op nx 0),(4,.op di 0),(5,.op mi 0),(7,.op ci 0),(11,.i (p.s:Int))],hp:=upd (upd (upd (upd (upd (upd (upd (upd (fun _=>none) di (.cells [.sl b.length (c8 b),.i (p.t.e:Int),.b p.bad] true)) nx (.cells z15 true)) ci (.cells CN true)) q (.cells (qsC l) true)) p.a (.cells (rcC p.t.an) true)) p.u (.cells (rcC p.t.au) true)) p.d (.cells (rcC p.t.ad) true)) mi (.cells (mD b p.t.rc (.os q 0 l.length 3 true) (.os p.a 0 p.t.an.length 5 true) (.os p.u 0 p.t.au.length 5 true) (.os p.d 0 p.t.ad.length 5 true) p.t.ed p.t.sz p.t.dn) true),nx:=0,cx:=p.c}) (fun p=>1≤p.s∧p.s≤4∧DI b p.t (65536*p.s)∧Ap q p.a p.u p.d p.c∧(p.bad=false→rdL b (dN b) (4-p.s) p.s p.t=R)∧(p.bad=true→R=none)) (fun p=>4-p.s) rfl ⟨⟨1,t0,bad,c,c+1,c+1+1,_⟩,⟨U3 _,by simp only;omega,hD0.mono (by omega),⟨by simp only;omega,by simp only;omega,by simp only;omega,by simp only;omega,by simp only;omega,by simp only;omega,by simp only;omega,by simp only;omega,by simp only;omega⟩,hr1,hr2⟩,⟨fun _=> .inr rfl,by simp only[hta,htu,htd,hte];exact gAt,U3 _⟩⟩ ?_
 rintro⟨s,t,bad,a,u,d,c⟩ ⟨hs1,hs4,hD,hA,hg1,hg2⟩ n0
 simp only at hs1 hs4 hD hA hg1 hg2⊢
 obtain⟨pa,pu,pd,pau,pad,pud,pac,puc,pdc⟩:=hA
 refine ySq (ySq (yRn [100,0,2,4,5,7,11] fun K hK=>?_))
 simp(disch:=omega) only[go_sem,↓reduceIte]
 refine hK _ (aB ?_)
 refine gLb rfl (fun h=>?_) (fun h=>?_)
 ·refine yDr ?_
  have hs:s<4:=by omega
  have hC:=hCd s hs1 hs
  obtain⟨j,hj⟩: ∃j,4-s=j+1:=⟨3-s,by omega⟩
  have hj2:4-(s+1)=j:=by omega
  rw[hj]at hg1
  have hN:=hdl s
  clear h
  refine ySk (aB (ySq (dWd (fun p:RDJ=> {fr:=[(0,.sl b.length (c8 b)),(2,.op nx 0),(4,.op di 0),(5,.op mi 0),(7,.op ci 0),(11,.i (s:Int))],hp:=upd (upd (upd (upd (upd (upd (upd (upd (fun _=>none) di (.cells [.sl b.length (c8 b),.i (p.t.e:Int),.b p.bad] true)) nx (.cells z15 true)) ci (.cells CN true)) q (.cells (qsC l) true)) p.a (.cells (rcC p.t.an) true)) p.u (.cells (rcC p.t.au) true)) p.d (.cells (rcC p.t.ad) true)) mi (.cells (mD b p.t.rc (.os q 0 l.length 3 true) (.os p.a 0 p.t.an.length 5 true) (.os p.u 0 p.t.au.length 5 true) (.os p.d 0 p.t.ad.length 5 true) p.t.ed p.t.sz p.t.dn) true),nx:=0,cx:=p.c}) (fun p=>DI b p.t (65536*(s+1))∧Ap q p.a p.u p.d p.c∧(p.bad=false→rdL b (dN b) j (s+1) p.t=R)∧(p.bad=true→R=none)) ?_ ?_)))
  ·refine yBl 5 (ySq (yRn [0,2,4,5,7,11,12] fun K hK=>?_))
   simp(disch:=omega) only[go_sem,↓reduceIte]
   refine hK _ (aB ?_)
   refine yBl 6 ?_
   refine bR (fun p:RDI=> {fr:=[(0,.sl b.length (c8 b)),(2,.op nx 0),(4,.op di 0),(5,.op mi 0),(7,.op ci 0),(11,.i (s:Int)),(12,.i (p.k:Int))],hp:=upd (upd (upd (upd (upd (upd (upd (upd (fun _=>none) di (.cells [.sl b.length (c8 b),.i (p.t.e:Int),.b p.bad] true)) nx (.cells z15 true)) ci (.cells CN true)) q (.cells (qsC l) true)) p.a (.cells (rcC p.t.an) true)) p.u (.cells (rcC p.t.au) true)) p.d (.cells (rcC p.t.ad) true)) mi (.cells (mD b p.t.rc (.os q 0 l.length 3 true) (.os p.a 0 p.t.an.length 5 true) (.os p.u 0 p.t.au.length 5 true) (.os p.d 0 p.t.ad.length 5 true) p.t.ed p.t.sz p.t.dn) true),nx:=0,cx:=p.c}) (fun p=>p.k≤dN b s∧DI b p.t (65536*s+p.k)∧Ap q p.a p.u p.d p.c∧(p.bad=false→gAu b (dN b) j s (dN b s-p.k) p.t=R)∧(p.bad=true→R=none)) (fun p=>if p.bad=true then 0 else dN b s-p.k+1) rfl ⟨⟨0,t,bad,a,u,d,_⟩,⟨Nat.zero_le _,hD,⟨pa,pu,pd,pau,pad,pud,by simp only;omega,by simp only;omega,by simp only;omega⟩,hg1,hg2⟩,bD rfl rfl (U3 _)⟩ ?_
   rintro⟨k,t,bad,a,u,d,c⟩ ⟨hk,hD,hA,hg1,hg2⟩ n0
   simp only at hk hD hA hg1 hg2⊢
   obtain⟨pa,pu,pd,pau,pad,pud,pac,puc,pdc⟩:=hA
   obtain⟨e,an,au,ad,ed,sz,dn,rc⟩:=t
   obtain⟨he,hln,hr0,hre,hr5⟩:=hD
   simp only at he hln hr0 hre hr5 hg1⊢
   rcases bad with _|_
   ·by_cases hkN:k<dN b s
    ·have hrun:=hg1 rfl
     have dk:decide ((k:Int)<(dN b s:Int))=true:=J5 (by omega)
     refine ySq (ySq (yRn [114,0,2,4,5,7,11,12] fun K hK=>?_))
     simp(disch:=omega) only[go_sem,↓reduceIte,dk,hC,U2]
     refine hK _ (aB ?_)
     refine iTd ?_
     obtain⟨m,hm⟩: ∃m,dN b s-k=m+1:=⟨dN b s-k-1,by omega⟩
     rw[hm]at hrun
     rcases hx:rfR b e false with⟨x,e2,f⟩
     have he2:=gHi he hx
     have hA:rfA b (x,e2,f)=(.agg (fLo x),[.sl b.length (c8 b),.i (e2:Int),.b f]):=rfl
     refine ySk (aB (ySq (yBl 7 (ySq (yRg [0,2,4,5,7,11,12,13] (aH gJq aO) fun K hK=>?_)))))
     simp(disch:=omega) only[go_sem,↓reduceIte,hx,hA,fLo,U2]
     refine hK _ (aB ?_)
     rcases f with _|_
     ·refine ySq (ySq (yRn [122,0,2,4,5,7,11,12,13] fun K hK=>?_))
      simp(disch:=omega) only[go_sem,↓reduceIte]
      refine hK _ (aB ?_)
      refine iFd (ySk (aB (ySq (ySq ?_))))
      by_cases h41:x.ty=41#16
      ·refine yRn [125,0,2,4,5,7,11,12,13] fun K hK=>?_
       simp(disch:=omega) only[go_sem,↓reduceIte,J5 h41]
       refine hK _ (aB ?_)
       refine iTd ?_
       rcases(by by_cases h3:s=3;rcases ed with _|_;by_cases hnm:x.nm.length=0;exact .inl ⟨h3,rfl,hnm⟩;exact .inr (.inl ⟨h3,rfl,hnm⟩);exact .inr (.inr (.inl ⟨h3,rfl⟩));exact .inr (.inr (.inr h3)):(s=3∧ed=false∧x.nm.length=0)∨(s=3∧ed=false∧¬x.nm.length=0)∨(s=3∧ed=true)∨¬s=3)with⟨h3,rfl,hnm⟩|⟨h3,rfl,hnm⟩|⟨h3,rfl⟩|h3
       ·have d3:decide ((s:Int)=3)=true:=J5 (by omega)
        have dnm:decide ((List.length x.nm:Int)=0)=true:=J5 (by omega)
        have hy:=(gEh (N:=dN b) (j:=j) (k:=m) (t:=⟨e,an,au,ad,false,sz,dn,rc⟩) (by show stD s _ (rfR b e false)=_;rw[hx];exact gJh h41 (by simp[h3,hnm]))).symm.trans hrun
        have hsh:(x.ttl>>>24).toNat<256:=by rw[BitVec.toNat_ushiftRight,Nat.shiftRight_eq_div_pow];have:=x.ttl.isLt;omega
        have hrc15:=hre rfl
        refine ySq (ySq (yRn [137,0,2,4,5,7,11,12,13] fun K hK=>?_))
        simp(disch:=omega) only[go_sem,↓reduceIte,d3,dnm,Bool.not_true,gEm]
        refine hK _ (aB ?_)
        refine iFd (ySk (aB (ySq ?_)))
        refine lW 13 (c+12+2) 0 rfl (by simp(disch:=omega) only[aV,↓reduceIte]<;>rfl) ?_
        refine bB (Γ:=aL) (fun k=>if k=1 then 1 else if k=3 then 1 else 2) [0,2,4,5,7,11,12,13] bZ (aD _ _) rfl rfl rfl (by kernel_rfl) (fun K hK=>?_)
        simp(disch:=omega) only[go_sem,↓reduceIte,gAp,gHr,gHq,gHp,J8,J7,J9]
        refine hK _ (aB ?_)
        refine ySq (yRn [0,2,4,5,7,11,12] fun K hK=>?_)
        simp(disch:=omega) only[go_sem,↓reduceIte,gAp,mD_7,gJw]
        refine hK _ (aB ?_)
        refine yEx 7 (aY (bE (aB (yRn [0,2,4,5,7,11,12] fun K hK=>?_))))
        simp(disch:=omega) only[go_sem,↓reduceIte]
        refine hK _ (bT ?_)
        refine⟨⟨k+1,⟨e2,an,au,ad,true,x.cl,decide (x.ttl>>>15&&&1#32=1#32),rc+((x.ttl>>>24).toNat:Int)*16⟩,false,a,u,d,_⟩,⟨by simp only;omega,⟨he2,by simp only[];omega,by simp only;omega,(fun h=>(by cases h)),by simp only;omega⟩,⟨pa,pu,pd,pau,pad,pud,by simp only;omega,by simp only;omega,by simp only;omega⟩,(fun _=>by show gAu b (dN b) j s (dN b s-(k+1)) _=R;rw[show dN b s-(k+1)=m by omega];exact hy),(fun h=>(by cases h))⟩,by simp only[Bool.false_eq_true,if_false];omega,⟨fun _=> .inr ?_,fun i o hi=>?_,U3 _⟩⟩
        ·simp only[Int.natCast_add,Int.natCast_one]
        simp only at hi
        exact(gAt) i o hi
       ·have d3:decide ((s:Int)=3)=true:=J5 (by omega)
        have dnm:decide ((List.length x.nm:Int)=0)=false:=J6 (by omega)
        have hn:=hrun.symm.trans (gBe (t:=⟨e,an,au,ad,false,sz,dn,rc⟩) (by show stD s _ (rfR b e false)=none;rw[hx];exact gDz h41 (.inr (.inr hnm))))
        refine ySq (ySq (yRn [137,0,2,4,5,7,11,12,13] fun K hK=>?_))
        simp(disch:=omega) only[go_sem,↓reduceIte,d3,dnm,Bool.not_false,Bool.not_true,gEm]
        refine hK _ (aB ?_)
        refine iTd (ySq (yRn [0,2,4,5,7,11] fun K hK=>?_))
        simp(disch:=omega) only[go_sem,↓reduceIte]
        refine hK _ (aB ?_)
        refine yEx 6 (aY (aY (mW (aY (aZ (bE ?_))) rfl)))
        refine bU (dWa ?_)
        refine⟨⟨⟨e2,an,au,ad,false,sz,dn,rc⟩,true,a,u,d,_⟩,⟨⟨he2,by simp only;omega,hr0,hre,hr5⟩,⟨pa,pu,pd,pau,pad,pud,by simp only;omega,by simp only;omega,by simp only;omega⟩,(fun h=>(by cases h)),(fun _=>hn)⟩,⟨fun _=> .inr rfl,gAt,U3 _⟩⟩
       ·have d3:decide ((s:Int)=3)=true:=J5 (by omega)
        have hn:=hrun.symm.trans (gBe (t:=⟨e,an,au,ad,true,sz,dn,rc⟩) (by show stD s _ (rfR b e false)=none;rw[hx];exact gDz h41 (.inr (.inl rfl))))
        refine ySq (ySq (yRn [137,0,2,4,5,7,11,12,13] fun K hK=>?_))
        simp(disch:=omega) only[go_sem,↓reduceIte,d3,Bool.not_true,gEm]
        refine hK _ (aB ?_)
        refine iTd (ySq (yRn [0,2,4,5,7,11] fun K hK=>?_))
        simp(disch:=omega) only[go_sem,↓reduceIte]
        refine hK _ (aB ?_)
        refine yEx 6 (aY (aY (mW (aY (aZ (bE ?_))) rfl)))
        refine bU (dWa ?_)
        refine⟨⟨⟨e2,an,au,ad,true,sz,dn,rc⟩,true,a,u,d,_⟩,⟨⟨he2,by simp only;omega,hr0,hre,hr5⟩,⟨pa,pu,pd,pau,pad,pud,by simp only;omega,by simp only;omega,by simp only;omega⟩,(fun h=>(by cases h)),(fun _=>hn)⟩,⟨fun _=> .inr rfl,gAt,U3 _⟩⟩
       have d3:decide ((s:Int)=3)=false:=J6 (by omega)
       have hn:=hrun.symm.trans (gBe (t:=⟨e,an,au,ad,ed,sz,dn,rc⟩) (by show stD s _ (rfR b e false)=none;rw[hx];exact gDz h41 (.inl h3)))
       refine ySq (ySq (yRn [137,0,2,4,5,7,11,12,13] fun K hK=>?_))
       simp(disch:=omega) only[go_sem,↓reduceIte,d3,Bool.not_false]
       refine hK _ (aB ?_)
       refine iTd (ySq (yRn [0,2,4,5,7,11] fun K hK=>?_))
       simp(disch:=omega) only[go_sem,↓reduceIte]
       refine hK _ (aB ?_)
       refine yEx 6 (aY (aY (mW (aY (aZ (bE ?_))) rfl)))
       refine bU (dWa ?_)
       refine⟨⟨⟨e2,an,au,ad,ed,sz,dn,rc⟩,true,a,u,d,_⟩,⟨⟨he2,by simp only;omega,hr0,hre,hr5⟩,⟨pa,pu,pd,pau,pad,pud,by simp only;omega,by simp only;omega,by simp only;omega⟩,(fun h=>(by cases h)),(fun _=>hn)⟩,⟨fun _=> .inr rfl,gAt,U3 _⟩⟩
      have hy:=(gEh (N:=dN b) (j:=j) (k:=m) (t:=⟨e,an,au,ad,ed,sz,dn,rc⟩) (by show stD s _ (rfR b e false)=_;rw[hx];exact gJg h41)).symm.trans hrun
      refine yRn [125,0,2,4,5,7,11,12,13] fun K hK=>?_
      simp(disch:=omega) only[go_sem,↓reduceIte,J6 h41]
      refine hK _ (aB ?_)
      refine iFd (ySk (aB (ySq (dWd (fun p:Nat=> {fr:=[(0,.sl b.length (c8 b)),(2,.op nx 0),(4,.op di 0),(5,.op mi 0),(7,.op ci 0),(11,.i (s:Int)),(12,.i (k:Int)),(13,.op (c+12+2) 0)],hp:=upd (upd (upd (upd (upd (upd (upd (upd (upd (fun _=>none) di (.cells [.sl b.length (c8 b),.i (e2:Int),.b false] true)) nx (.cells z15 true)) ci (.cells CN true)) q (.cells (qsC l) true)) a (.cells (rcC an) true)) u (.cells (rcC au) true)) d (.cells (rcC ad) true)) mi (.cells (mD b rc (.os q 0 l.length 3 true) (.os a 0 an.length 5 true) (.os u 0 au.length 5 true) (.os d 0 ad.length 5 true) ed sz dn) true)) (c+12+2) (.cells (fLo (gDn x)) true),nx:=0,cx:=p}) (fun p=>c+12+2<p) ?_ ?_))))
      ·by_cases ht:x.ttl>>>31=1#32
       ·have hfx:gDn x= {x with ttl:=0#32}:=J4 ht
        refine ySq (yRn [163,0,2,4,5,7,11,12,13] fun K hK=>?_)
        simp(disch:=omega) only[go_sem,↓reduceIte,J5 ht]
        refine hK _ (aB ?_)
        refine iTd (yRn [0,2,4,5,7,11,12,13] fun K hK=>?_)
        simp(disch:=omega) only[go_sem,↓reduceIte]
        refine hK _ (dWa ?_)
        rw[hfx]
        refine⟨_,by omega,⟨fun _=> .inr rfl,gJf,U3 _⟩⟩
       have hfx:gDn x=x:=J3 ht
       refine ySq (yRn [163,0,2,4,5,7,11,12,13] fun K hK=>?_)
       simp(disch:=omega) only[go_sem,↓reduceIte,J6 ht]
       refine hK _ (aB ?_)
       refine iFd (ySk (dWa ?_))
       rw[hfx]
       refine⟨_,by omega,⟨fun _=> .inr rfl,gJf,U3 _⟩⟩
      rintro c2 hc2 n0
      simp only at hc2⊢
      obtain⟨y,hyf⟩: ∃y,gDn x=y:=⟨_,rfl⟩
      rw[hyf]at hy⊢
      have hcan:=fIh an
      have hcau:=fIh au
      have hcad:=fIh ad
      refine ySq (yRn [0,2,4,5,7,11,12,13,165] fun K hK=>?_)
      simp(disch:=omega) only[go_sem,↓reduceIte]
      refine hK _ (aB ?_)
      rcases(by omega:s=1∨s=2∨s=3)with h1|h1|h1
      ·have hsn:rcC an++[.sl y.nm.length (cS y.nm),.w16 y.ty,.w16 y.cl,.w32 y.ttl,.sl y.d.length (c8 y.d)]=rcC (an++[y]):=by rw[fKk];rfl
       have d1:decide ((s:Int)=1)=true:=J5 (by omega)
       refine yBl 8 (ySq (yRn [172,0,2,4,5,7,11,12,13,165] fun K hK=>?_))
       simp(disch:=omega) only[go_sem,↓reduceIte,d1]
       refine hK _ (aB ?_)
       refine iTd (yRn [0,2,4,5,7,11,12] fun K hK=>?_)
       simp(disch:=omega) only[go_sem,↓reduceIte,fLo,hcan,hsn,gAp,mD_9,gJv,U0,U1,J9]
       refine hK _ (bU (bU (aB ?_)))
       refine yRn [0,2,4,5,7,11,12] fun K hK=>?_
       simp(disch:=omega) only[go_sem,↓reduceIte]
       refine hK _ (bT ?_)
       have hl1:(an++[y]).length=an.length+1:=by simp
       have hp:gAe s ⟨e,an,au,ad,ed,sz,dn,rc⟩ e2 y=⟨e2,an++[y],au,ad,ed,sz,dn,rc⟩:=by unfold gAe;rw[J4 h1]
       rw[hp]at hy
       refine⟨⟨k+1,⟨e2,an++[y],au,ad,ed,sz,dn,rc⟩,false,c2+1+2+4,u,d,_⟩,⟨by simp only;omega,⟨he2,by simp only[List.length_append,List.length_singleton];omega,by simp only;omega,hre,by simp only;omega⟩,⟨by simp only;omega,pu,pd,by simp only;omega,by simp only;omega,pud,by simp only;omega,by simp only;omega,by simp only;omega⟩,(fun _=>by show gAu b (dN b) j s (dN b s-(k+1)) _=R;rw[show dN b s-(k+1)=m by omega];exact hy),(fun h=>(by cases h))⟩,by simp only[Bool.false_eq_true,if_false];omega,⟨fun _=> .inr ?_,fun i o hi=>?_,U3 _⟩⟩
       ·simp only[Int.natCast_add,Int.natCast_one]
       simp only[hl1]at hi
       exact(gAt) i o hi
      ·have hsn:rcC au++[.sl y.nm.length (cS y.nm),.w16 y.ty,.w16 y.cl,.w32 y.ttl,.sl y.d.length (c8 y.d)]=rcC (au++[y]):=by rw[fKk];rfl
       have d1:decide ((s:Int)=1)=false:=J6 (by omega)
       have d2:decide ((s:Int)=2)=true:=J5 (by omega)
       refine yBl 8 (ySq (yRn [172,0,2,4,5,7,11,12,13,165] fun K hK=>?_))
       simp(disch:=omega) only[go_sem,↓reduceIte,d1]
       refine hK _ (aB ?_)
       refine iFd (ySq (yRn [180,0,2,4,5,7,11,12,13] fun K hK=>?_))
       simp(disch:=omega) only[go_sem,↓reduceIte,d2]
       refine hK _ (aB ?_)
       refine iTd (yRn [0,2,4,5,7,11,12] fun K hK=>?_)
       simp(disch:=omega) only[go_sem,↓reduceIte,fLo,hcau,hsn,gAp,gJy,gHt,U0,U1,J9]
       refine hK _ (bU (bU (aB ?_)))
       refine yRn [0,2,4,5,7,11,12] fun K hK=>?_
       simp(disch:=omega) only[go_sem,↓reduceIte]
       refine hK _ (bT ?_)
       have hl1:(au++[y]).length=au.length+1:=by simp
       have hp:gAe s ⟨e,an,au,ad,ed,sz,dn,rc⟩ e2 y=⟨e2,an,au++[y],ad,ed,sz,dn,rc⟩:=by unfold gAe;rw[J3 (by omega),J4 h1]
       rw[hp]at hy
       refine⟨⟨k+1,⟨e2,an,au++[y],ad,ed,sz,dn,rc⟩,false,a,c2+1+2+2+4,d,_⟩,⟨by simp only;omega,⟨he2,by simp only[List.length_append,List.length_singleton];omega,by simp only;omega,hre,by simp only;omega⟩,⟨pa,by simp only;omega,pd,by simp only;omega,pad,by simp only;omega,by simp only;omega,by simp only;omega,by simp only;omega⟩,(fun _=>by show gAu b (dN b) j s (dN b s-(k+1)) _=R;rw[show dN b s-(k+1)=m by omega];exact hy),(fun h=>(by cases h))⟩,by simp only[Bool.false_eq_true,if_false];omega,⟨fun _=> .inr ?_,fun i o hi=>?_,U3 _⟩⟩
       ·simp only[Int.natCast_add,Int.natCast_one]
       simp only[hl1]at hi
       exact(gAt) i o hi
      have hsn:rcC ad++[.sl y.nm.length (cS y.nm),.w16 y.ty,.w16 y.cl,.w32 y.ttl,.sl y.d.length (c8 y.d)]=rcC (ad++[y]):=by rw[fKk];rfl
      have d1:decide ((s:Int)=1)=false:=J6 (by omega)
      have d2:decide ((s:Int)=2)=false:=J6 (by omega)
      refine yBl 8 (ySq (yRn [172,0,2,4,5,7,11,12,13,165] fun K hK=>?_))
      simp(disch:=omega) only[go_sem,↓reduceIte,d1]
      refine hK _ (aB ?_)
      refine iFd (ySq (yRn [180,0,2,4,5,7,11,12,13] fun K hK=>?_))
      simp(disch:=omega) only[go_sem,↓reduceIte,d2]
      refine hK _ (aB ?_)
      refine iFd (yRn [0,2,4,5,7,11,12] fun K hK=>?_)
      simp(disch:=omega) only[go_sem,↓reduceIte,fLo,hcad,hsn,gAp,gJx,gHs,U0,U1,J9]
      refine hK _ (bU (bU (aB ?_)))
      refine yRn [0,2,4,5,7,11,12] fun K hK=>?_
      simp(disch:=omega) only[go_sem,↓reduceIte]
      refine hK _ (bT ?_)
      have hl1:(ad++[y]).length=ad.length+1:=by simp
      have hp:gAe s ⟨e,an,au,ad,ed,sz,dn,rc⟩ e2 y=⟨e2,an,au,ad++[y],ed,sz,dn,rc⟩:=by unfold gAe;rw[J3 (by omega),J3 (by omega)]
      rw[hp]at hy
      refine⟨⟨k+1,⟨e2,an,au,ad++[y],ed,sz,dn,rc⟩,false,a,u,c2+1+2+2+4,_⟩,⟨by simp only;omega,⟨he2,by simp only[List.length_append,List.length_singleton];omega,by simp only;omega,hre,by simp only;omega⟩,⟨pa,pu,by simp only;omega,pau,by simp only;omega,by simp only;omega,by simp only;omega,by simp only;omega,by simp only;omega⟩,(fun _=>by show gAu b (dN b) j s (dN b s-(k+1)) _=R;rw[show dN b s-(k+1)=m by omega];exact hy),(fun h=>(by cases h))⟩,by simp only[Bool.false_eq_true,if_false];omega,⟨fun _=> .inr ?_,fun i o hi=>?_,U3 _⟩⟩
      ·simp only[Int.natCast_add,Int.natCast_one]
      simp only[hl1]at hi
      exact(gAt) i o hi
     refine ySq (ySq (yRn [122,0,2,4,5,7,11,12,13] fun K hK=>?_))
     simp(disch:=omega) only[go_sem,↓reduceIte]
     refine hK _ (aB ?_)
     refine iTd (yEx 6 (aY (mW (aY (aZ (bE ?_))) rfl)))
     refine bU (dWa ?_)
     have hn:=hrun.symm.trans (gBe (t:=⟨e,an,au,ad,ed,sz,dn,rc⟩) (by show stD s _ (rfR b e false)=none;rw[hx];exact gJi))
     refine⟨⟨⟨e2,an,au,ad,ed,sz,dn,rc⟩,true,a,u,d,_⟩,⟨⟨he2,by simp only;omega,hr0,hre,hr5⟩,⟨pa,pu,pd,pau,pad,pud,by simp only;omega,by simp only;omega,by simp only;omega⟩,(fun h=>(by cases h)),(fun _=>hn)⟩,⟨fun t=>fPl [(12,_),(13,_)] t _,gAt,U3 _⟩⟩
    have dk:decide ((k:Int)<(dN b s:Int))=false:=J6 (by omega)
    refine ySq (ySq (yRn [114,0,2,4,5,7,11,12] fun K hK=>?_))
    simp(disch:=omega) only[go_sem,↓reduceIte,dk,hC,U2]
    refine hK _ (aB ?_)
    refine iFd (yEx 6 (aY (aZ (bE (bU (dWa ?_))))))
    have hkN2:dN b s-k=0:=by omega
    refine⟨⟨⟨e,an,au,ad,ed,sz,dn,rc⟩,false,a,u,d,_⟩,⟨⟨he,by simp only;omega,hr0,hre,hr5⟩,⟨pa,pu,pd,pau,pad,pud,by simp only;omega,by simp only;omega,by simp only;omega⟩,(fun _=>by have:=hg1 rfl;rw[hkN2]at this;exact this),(fun h=>(by cases h))⟩,⟨fun t=>fPl [(12,_)] t _,fun _ _ h=>h,U3 _⟩⟩
   have hn:=hg2 rfl
   by_cases hkN:k<dN b s
   ·have dk:decide ((k:Int)<(dN b s:Int))=true:=J5 (by omega)
    refine ySq (ySq (yRn [114,0,2,4,5,7,11,12] fun K hK=>?_))
    simp(disch:=omega) only[go_sem,↓reduceIte,dk,hC,U2]
    refine hK _ (aB ?_)
    refine iFd (yEx 6 (aY (aZ (bE (bU (dWa ?_))))))
    refine⟨⟨⟨e,an,au,ad,ed,sz,dn,rc⟩,true,a,u,d,_⟩,⟨⟨he,by simp only;omega,hr0,hre,hr5⟩,⟨pa,pu,pd,pau,pad,pud,by simp only;omega,by simp only;omega,by simp only;omega⟩,(fun h=>(by cases h)),(fun _=>hn)⟩,⟨fun t=>fPl [(12,_)] t _,fun _ _ h=>h,U3 _⟩⟩
   have dk:decide ((k:Int)<(dN b s:Int))=false:=J6 (by omega)
   refine ySq (ySq (yRn [114,0,2,4,5,7,11,12] fun K hK=>?_))
   simp(disch:=omega) only[go_sem,↓reduceIte,dk,hC,U2]
   refine hK _ (aB ?_)
   refine iFd (yEx 6 (aY (aZ (bE (bU (dWa ?_))))))
   refine⟨⟨⟨e,an,au,ad,ed,sz,dn,rc⟩,true,a,u,d,_⟩,⟨⟨he,by simp only;omega,hr0,hre,hr5⟩,⟨pa,pu,pd,pau,pad,pud,by simp only;omega,by simp only;omega,by simp only;omega⟩,(fun h=>(by cases h)),(fun _=>hn)⟩,⟨fun t=>fPl [(12,_)] t _,fun _ _ h=>h,U3 _⟩⟩
  rintro⟨t',bad',a',u',d',c'⟩ ⟨hD',hA',hg1',hg2'⟩ n0
  simp only at hD' hA' hg1' hg2'⊢
  refine yRn [0,2,4,5,7,11] fun K hK=>?_
  simp(disch:=omega) only[go_sem,↓reduceIte]
  refine hK _ (bT ?_)
  refine⟨⟨s+1,t',bad',a',u',d',_⟩,⟨by simp only;omega,by simp only;omega,hD',⟨hA'.qa,hA'.qu,hA'.qd,hA'.au,hA'.ad,hA'.ud,by have:=hA'.ac;simp only;omega,by have:=hA'.uc;simp only;omega,by have:=hA'.dc;simp only;omega⟩,(fun h=>by simp only;rw[hj2];exact hg1' h),hg2'⟩,by simp only;omega,bD ?_ rfl (U3 _)⟩
  simp only[Int.natCast_add,Int.natCast_one]
 refine yDr ?_
 obtain rfl:s=4:=by omega
 clear h
 refine yEx 4 (aY (aZ (bE (aB ?_))))
 have hqn:=fLq l
 have hql:=fIi l
 have hno:=fun l=>fLp l
 have hnl:=fun l=>fIh l
 have htk: ∀l:List RC,List.take (l.length*5) (rcC l)=rcC l:=fun l=>List.take_of_length_le (by rw[fIh];omega)
 have htq:List.take (l.length*3) (qsC l)=qsC l:=List.take_of_length_le (by rw[fIi];omega)
 rcases bad with _|_
 ·have hA:=hg1 rfl
  have hA2:R=some t:=by rw[←hA];rfl
  subst hA2
  by_cases hee:t.e=b.length
  ·have de:decide ((t.e:Int)=(b.length:Int))=true:=J5 (by omega)
   have hX:rdN b l (some t)=some (l,t):=J4 hee
   rw[hX]
   refine ySq (ySq (yRn [200,2,5] fun K hK=>?_))
   simp(disch:=omega) only[go_sem,↓reduceIte,de,Bool.not_true]
   refine hK _ (aB ?_)
   refine iFd (ySk (aB (ySq (yRn [2,3] fun K hK=>?_))))
   simp(disch:=omega) only[go_sem,↓reduceIte,mD,z15,U0,U1,J9]
   refine hK _ (aB ?_)
   refine aS rfl ?_
   simp(disch:=omega) only[fHo,bV,bK,bQ,go_sem,↓reduceIte,hqn,hql,hno,hnl,htk,htq,rdT,mD,U0,U1,J9]
  have de:decide ((t.e:Int)=(b.length:Int))=false:=J6 (by omega)
  have hX:rdN b l (some t)=none:=J3 hee
  rw[hX]
  refine ySq (ySq (yRn [200,2,5] fun K hK=>?_))
  simp(disch:=omega) only[go_sem,↓reduceIte,de,Bool.not_false]
  refine hK _ (aB ?_)
  refine iTd (ySq (yRn [2,3] fun K hK=>?_))
  simp(disch:=omega) only[go_sem,↓reduceIte,z15]
  refine hK _ (aB ?_)
  refine aS rfl (bI ?_)
  simp(disch:=omega) only[fHo,bV,bK,bQ,go_sem,↓reduceIte,rdT,msZ]
 have hA:=hg2 rfl
 subst hA
 have hX:rdN b l none=none:=rfl
 rw[hX]
 refine ySq (ySq (yRn [200,2,5] fun K hK=>?_))
 simp(disch:=omega) only[go_sem,↓reduceIte]
 refine hK _ (aB ?_)
 refine iTd (ySq (yRn [2,3] fun K hK=>?_))
 simp(disch:=omega) only[go_sem,↓reduceIte,z15]
 refine hK _ (aB ?_)
 refine aS rfl (bI ?_)
 simp(disch:=omega) only[fHo,bV,bK,bQ,go_sem,↓reduceIte,rdT,msZ]
end Go.AX

namespace Go.AX
open Go Go.Proofs
set_option maxRecDepth 20000
set_option maxHeartbeats 16000000 in
theorem dQf:fHn Tryz.prog GLh 8 rdG:=by
 refine zK Tryz.func8 (aT rfl) ?_
 intro args r hg
 unfold rdG at hg
 split at hg
 ·rename_i n xs
  replace hg:=aJ hg;obtain⟨b,hl,hg⟩:=hg
  replace hg:=aP hg;obtain⟨⟨rfl,hnb,h12⟩,hg⟩:=hg
  obtain rfl:=J0 hg
  have:=bW hl;subst this
  refine⟨J1 rfl,fun nx=>?_⟩
  clear hl hg
  have d0:decide ((65535:Int)<(b.length:Int))=false:=J6 (by omega)
  have n0:rnR b 2 0 false=(.w32 (fRs (b.take 2)),[.sl b.length (c8 b),.i ((0+2:Nat):Int),.b false]):=fPn (by omega)
  have n2:=fPn (b:=b) (k:=2) (a:=2) (by omega)
  obtain⟨x,y,hf,hx,hy⟩:=fQt (b:=b) (by omega)
  have g15:=fRo x y
  have g10:=fRp x y
  have g9:=fl_9 x y
  have g8:=fl_8 x y
  have g7:=fl_7 x y
  have gop:=fRn x y
  have grc:=fRm x y
  rw[hf]at n2
  rw[←hx]at g15 g10 g9 g8 gop
  rw[←hy]at g7 grc
  obtain⟨F,hF⟩: ∃F,two x y=F:=⟨_,rfl⟩
  rw[hF]at n2 g15 g10 g9 g8 g7 gop grc
  refine ySq (yRn [0,2] fun K hK=>?_)
  simp(disch:=omega) only[go_sem,↓reduceIte]
  refine hK _ (aB ?_)
  refine ySq (ySq (yRn [16,0,2] fun K hK=>?_))
  simp(disch:=omega) only[go_sem,↓reduceIte,d0]
  refine hK _ (aB ?_)
  refine iFd (ySk (aB (ySq (yRn [0,2,4] fun K hK=>?_))))
  simp(disch:=omega) only[go_sem,↓reduceIte]
  refine hK _ (aB ?_)
  refine ySq (yRn [0,2,4,5] fun K hK=>?_)
  simp(disch:=omega) only[go_sem,↓reduceIte]
  refine hK _ (aB ?_)
  refine ySq (yRg [0,2,4,5] (aH fPw aO) fun K hK=>?_)
  simp(disch:=omega) only[go_sem,↓reduceIte,n0]
  refine hK _ (aB ?_)
  refine ySq (yRg [0,2,4,5,6] (aH fPw aO) fun K hK=>?_)
  simp(disch:=omega) only[go_sem,↓reduceIte,n2,U2]
  refine hK _ (aB ?_)
  refine ySq (yRn [0,2,4,5] fun K hK=>?_)
  simp(maxSteps:=400000) (disch:=omega) only[go_sem,↓reduceIte,g15,g10,g9,g8,g7,gop,grc]
  refine hK _ (aB ?_)
  refine ySq (yRn [0,2,4,5,7] fun K hK=>?_)
  simp(disch:=omega) only[go_sem,↓reduceIte]
  refine hK _ (aB ?_)
  refine yK (fMn (a:=nx+2+3+2) (b:=nx) (c:=nx+9) (d:=nx+58) (x:=.cells [.sl b.length (c8 b),.i ((4:Nat):Int),.b false] true) (y:=.cells z15 true) (z:=.cells (ms0 b (.v (.slice none 0 0))) true) (w:=.cells (fKi b 0) true) ?_ ?_ ?_ ?_) ?_
  ·simp(disch:=omega) only[aV,bY,↓reduceIte]
  ·simp(disch:=omega) only[aV,bY,↓reduceIte,z15]
  ·simp(disch:=omega) only[aV,bY,↓reduceIte]
   rfl
  ·simp(disch:=omega) only[aV,↓reduceIte,fOa]
  clear g15 g10 g9 g8 g7 gop grc n2 n0 hF hf hx hy x y
  obtain⟨di,hdi⟩: ∃y,nx+2+3+2=y:=⟨_,rfl⟩
  obtain⟨mi,hmi⟩: ∃y,nx+9=y:=⟨_,rfl⟩
  obtain⟨ci,hci⟩: ∃y,nx+58=y:=⟨_,rfl⟩
  rw[hdi,hmi,hci]
  refine ySq (ySq (yRn [0,2,4,5,7,8] fun K hK=>?_))
  simp(disch:=omega) only[go_sem,↓reduceIte]
  refine hK _ (aB ?_)
  refine yBl 0 ?_
  refine bR (fun p:MGI=> {fr:=[(0,.sl b.length (c8 b)),(2,.op nx 0),(4,.op di 0),(5,.op mi 0),(7,.op ci 0),(8,.i (p.k:Int))],hp:=upd (upd (upd (upd (fun _=>none) di (.cells [.sl b.length (c8 b),.i ((4+2*p.k:Nat):Int),.b false] true)) nx (.cells z15 true)) mi (.cells (ms0 b (.v (.slice none 0 0))) true)) ci (.cells (fKi b p.k) true),nx:=0,cx:=p.c}) (fun p=>p.k≤4∧ci<p.c) (fun p=>4-p.k) rfl ⟨⟨0,_⟩,⟨Nat.zero_le _,by simp only;omega⟩,bD rfl rfl (U3 _)⟩ ?_
  rintro⟨k,c⟩ ⟨hk,hcc⟩ n0
  simp only at hk hcc⊢
  refine ySq (ySq (yRn [61,0,2,4,5,7,8] fun K hK=>?_))
  simp(disch:=omega) only[go_sem,↓reduceIte]
  refine hK _ (aB ?_)
  refine gLb rfl (fun h=>?_) (fun h=>?_)
  ·refine yDr ?_
   have hk4:k<4:=by omega
   have nk:=fPn (b:=b) (k:=2) (a:=4+2*k) (by omega)
   have hset:=fMf b hk4
   have hcv:(fRs (List.take 2 (List.drop (4+2*k) b))).toNat=c16 b (4+2*k):=rfl
   clear h
   refine ySk (aB (ySq (yBl 1 (yRg [0,2,4,5,7,8] (aH fPw aO) fun K hK=>?_))))
   simp(disch:=omega) only[go_sem,↓reduceIte,nk,fMg,hcv,hset,U2]
   refine hK _ (bU (aB ?_))
   refine yRn [0,2,4,5,7,8] fun K hK=>?_
   simp(disch:=omega) only[go_sem,↓reduceIte]
   refine hK _ (bT ?_)
   refine⟨⟨k+1,_⟩,⟨by simp only;omega,by simp only;omega⟩,by simp only;omega,⟨fun _=> .inr ?_,fun j o hj=>?_,U3 _⟩⟩
   ·simp only[Int.natCast_add,Int.natCast_one]
   simp only at hj
   rw[show 4+2*(k+1)=4+2*k+2 by omega]at hj
   exact(fMn) j o hj
  refine yDr ?_
  obtain rfl:k=4:=by omega
  clear h
  refine yEx 0 (aY (aZ (bE (aB ?_))))
  have hdN1:c16 b 6=dN b 1:=rfl
  have hdN2:c16 b 8=dN b 2:=rfl
  have hdN3:c16 b 10=dN b 3:=rfl
  have hdl: ∀s,dN b s<65536:=fun s=>by unfold dN;split;exact fOe b 6;split;exact fOe b 8;exact fOe b 10
  rw[fNz,hdN1,hdN2,hdN3]
  refine aDn mi 3 (fKg b) fKf true (by simp(disch:=omega) only[aV,bY,↓reduceIte];rfl) (by omega) ?_
  obtain⟨ans,hqs⟩: ∃a,fJv b (c16 b 4) 12 []=a:=⟨_,rfl⟩
  have hans:rdM b=rdK b ans:=by unfold rdM;rw[hqs]
  obtain⟨N,hN⟩: ∃N,c16 b 4=N:=⟨_,rfl⟩
  rw[hN]at hqs⊢
  have hNl:N<65536:=by rw[←hN];exact fOe b 4
  refine ySq (dWd (fun p:RRK=> {fr:=[(0,.sl b.length (c8 b)),(2,.op nx 0),(4,.op di 0),(5,.op mi 0),(7,.op ci 0)],hp:=upd (upd (upd (upd (upd (fun _=>none) di (.cells [.sl b.length (c8 b),.i (p.e:Int),.b p.bad] true)) nx (.cells z15 true)) ci (.cells [.i (N:Int),.i (dN b 1:Int),.i (dN b 2:Int),.i (dN b 3:Int)] true)) p.q (.cells (qsC p.l) true)) mi (.cells (fKg b++ .os p.q 0 p.l.length 3 true::fKf) true),nx:=0,cx:=p.c}) (fun p=>p.e≤b.length∧ci<p.q∧p.q<p.c∧(p.bad=false→ans=some (p.l,p.e))∧(p.bad=true→ans=none)) ?_ ?_)
  ·refine ySq (yRn [0,2,4,5,7,9] fun K hK=>?_)
   simp(disch:=omega) only[go_sem,↓reduceIte]
   refine hK _ (aB ?_)
   refine yBl 2 ?_
   refine bR (fun p:RRJ=> {fr:=[(0,.sl b.length (c8 b)),(2,.op nx 0),(4,.op di 0),(5,.op mi 0),(7,.op ci 0),(9,.i (p.k:Int))],hp:=upd (upd (upd (upd (upd (fun _=>none) di (.cells [.sl b.length (c8 b),.i (p.e:Int),.b p.bad] true)) nx (.cells z15 true)) ci (.cells [.i (N:Int),.i (dN b 1:Int),.i (dN b 2:Int),.i (dN b 3:Int)] true)) p.q (.cells (qsC p.l) true)) mi (.cells (fKg b++ .os p.q 0 p.l.length 3 true::fKf) true),nx:=0,cx:=p.c}) (fun p=>p.e≤b.length∧ci<p.q∧p.q<p.c∧(p.bad=false→p.k≤N∧p.l.length=p.k∧fJv b (N-p.k) p.e p.l=ans)∧(p.bad=true→ans=none)) (fun p=>if p.bad=true then 0 else N-p.k+1) rfl ⟨⟨0,12,false,[],c+2,_⟩,⟨h12,by simp only;omega,by simp only;omega,(fun _=>⟨Nat.zero_le _,rfl,hqs⟩),(fun h=>by cases h)⟩,⟨fun _=> .inr rfl,fNi,U3 _⟩⟩ ?_
   rintro⟨k,e,bd,l,q,c⟩ ⟨he,hq1,hq2,hg1,hg2⟩ n0
   simp only at he hq1 hq2 hg1 hg2⊢
   rcases bd with _|_
   ·obtain⟨hk,hll,hrun⟩:=hg1 rfl
    by_cases hkN:k<N
    ·have dk:decide ((k:Int)<(N:Int))=true:=J5 (by omega)
     refine ySq (ySq (yRn [79,0,2,4,5,7,9] fun K hK=>?_))
     simp(disch:=omega) only[go_sem,↓reduceIte,dk,J8,J7,J9]
     refine hK _ (aB ?_)
     refine iTd ?_
     obtain⟨j,hj⟩: ∃j,N-k=j+1:=⟨N-k-1,by omega⟩
     rw[hj,fJv]at hrun
     obtain⟨n1,e1,f1,v2,e2,f2,v3,e3,f3,r1,r2,r3,l1,l2,l3,hcase⟩:=fRd he
     have hd8: ∀y:AV,(List.drop 8 (fKg b++y::fKf)).head? =some y:=fun y=>rfl
     have hs8: ∀y z:AV,(fKg b++y::fKf).set 8 z=fKg b++z::fKf:=fun y z=>rfl
     have hl8: ∀y:AV,(fKg b++y::fKf).length=15:=fun y=>rfl
     have hcl:=fIi l
     refine ySk (aB (ySq (yBl 3 (ySq (yRg [0,2,4,5,7,9,10] (aH fRi aO) fun K hK=>?_)))))
     simp(disch:=omega) only[go_sem,↓reduceIte,r1,U2]
     refine hK _ (aB ?_)
     refine ySq (yRg [0,2,4,5,7,9,10] (aH fPw aO) fun K hK=>?_)
     simp(disch:=omega) only[go_sem,↓reduceIte,r2,U2]
     refine hK _ (aB ?_)
     refine ySq (yRg [0,2,4,5,7,9,10] (aH fPw aO) fun K hK=>?_)
     simp(disch:=omega) only[go_sem,↓reduceIte,r3,U2]
     refine hK _ (aB ?_)
     have hsn:qsC l++[.sl n1.length (cS n1),.w16 (v2.setWidth 16),.w16 (v3.setWidth 16)]=qsC (l++[⟨n1,v2.setWidth 16,v3.setWidth 16⟩]):=by rw[fKl];rfl
     refine yRn [0,2,4,5,7,9] fun K hK=>?_
     simp(disch:=omega) only[go_sem,↓reduceIte,hd8,hs8,hl8,hcl,hsn,U0,U1,J9]
     refine hK _ (bU (aB ?_))
     refine yRn [0,2,4,5,7,9] fun K hK=>?_
     simp(disch:=omega) only[go_sem,↓reduceIte]
     refine hK _ (bT ?_)
     have hl1:(l++[(⟨n1,v2.setWidth 16,v3.setWidth 16⟩:QN)]).length=l.length+1:=by simp
     rcases hcase with⟨rfl,hx⟩|⟨rfl,hx⟩
     ·rw[hx]at hrun
      simp only at hrun
      refine⟨⟨k+1,e3,false,l++[⟨n1,v2.setWidth 16,v3.setWidth 16⟩],c+11+5+5+5+4,_⟩,⟨l3,by simp only;omega,by simp only;omega,(fun _=>⟨by simp only;omega,hl1.trans (by rw[hll]),by rw[show N-(k+1)=j by omega];exact hrun⟩),(fun h=>by cases h)⟩,by simp only[Bool.false_eq_true,if_false];omega,⟨fun _=> .inr ?_,fun i o hi=>?_,U3 _⟩⟩
      ·simp only[Int.natCast_add,Int.natCast_one]
      simp only at hi
      exact fNi (by simp(disch:=omega) only[aV,kE,bY,↓reduceIte]<;>rfl) (by simp(disch:=omega) only[aV,kE,bY,↓reduceIte]<;>rfl) (by simp(disch:=omega) only[aV,kE,bY,↓reduceIte]<;>rfl) (by simp(disch:=omega) only[aV,bY,↓reduceIte]<;>rfl) (by simp(disch:=omega) only[aV,↓reduceIte,hl1]<;>rfl) i o hi
     rw[hx]at hrun
     refine⟨⟨k+1,e3,true,l++[⟨n1,v2.setWidth 16,v3.setWidth 16⟩],c+11+5+5+5+4,_⟩,⟨l3,by simp only;omega,by simp only;omega,(fun h=>by cases h),(fun _=>hrun.symm)⟩,by simp only[Bool.false_eq_true,if_false,if_true];omega,⟨fun _=> .inr ?_,fun i o hi=>?_,U3 _⟩⟩
     ·simp only[Int.natCast_add,Int.natCast_one]
     simp only at hi
     exact fNi (by simp(disch:=omega) only[aV,kE,bY,↓reduceIte]<;>rfl) (by simp(disch:=omega) only[aV,kE,bY,↓reduceIte]<;>rfl) (by simp(disch:=omega) only[aV,kE,bY,↓reduceIte]<;>rfl) (by simp(disch:=omega) only[aV,bY,↓reduceIte]<;>rfl) (by simp(disch:=omega) only[aV,↓reduceIte,hl1]<;>rfl) i o hi
    have dk:decide ((k:Int)<(N:Int))=false:=J6 (by omega)
    refine ySq (ySq (yRn [79,0,2,4,5,7,9] fun K hK=>?_))
    simp(disch:=omega) only[go_sem,↓reduceIte,dk,J8,J9]
    refine hK _ (aB ?_)
    refine iFd (yEx 2 (aY (aZ (bE (dWa ?_)))))
    have hkN2:N-k=0:=by omega
    rw[hkN2,fJv]at hrun
    refine⟨⟨e,false,l,q,_⟩,⟨he,hq1,by simp only;omega,(fun _=>hrun.symm),(fun h=>by cases h)⟩,⟨fun t=>fPl [(9,_)] t _,fun _ _ h=>h,U3 _⟩⟩
   have hn:=hg2 rfl
   by_cases hkN:k<N
   ·have dk:decide ((k:Int)<(N:Int))=true:=J5 (by omega)
    refine ySq (ySq (yRn [79,0,2,4,5,7,9] fun K hK=>?_))
    simp(disch:=omega) only[go_sem,↓reduceIte,dk,J8,J7,J9]
    refine hK _ (aB ?_)
    refine iFd (yEx 2 (aY (aZ (bE (dWa ?_)))))
    refine⟨⟨e,true,l,q,_⟩,⟨he,hq1,by simp only;omega,(fun h=>by cases h),(fun _=>hn)⟩,⟨fun t=>fPl [(9,_)] t _,fun _ _ h=>h,U3 _⟩⟩
   have dk:decide ((k:Int)<(N:Int))=false:=J6 (by omega)
   refine ySq (ySq (yRn [79,0,2,4,5,7,9] fun K hK=>?_))
   simp(disch:=omega) only[go_sem,↓reduceIte,dk,J8,J9]
   refine hK _ (aB ?_)
   refine iFd (yEx 2 (aY (aZ (bE (dWa ?_)))))
   refine⟨⟨e,true,l,q,_⟩,⟨he,hq1,by simp only;omega,(fun h=>by cases h),(fun _=>hn)⟩,⟨fun t=>fPl [(9,_)] t _,fun _ _ h=>h,U3 _⟩⟩
  rintro⟨e,bad,l,q,c⟩ ⟨he,hq1,hq2,ha1,ha2⟩ n0
  simp only at he hq1 hq2 ha1 ha2⊢
  obtain⟨R,hR,hr1,hr2⟩: ∃R:Option DS,rdM b=rdN b l R∧(bad=false→rdL b (dN b) 3 1 (Go.AX.d0 b e)=R)∧(bad=true→R=none):=by
   rcases bad with _|_
   ·exact⟨_,by rw[hans,ha1 rfl];rfl,(fun _=>rfl),(fun h=>(by cases h))⟩
   exact⟨none,by rw[hans,ha2 rfl];rfl,(fun h=>(by cases h)),(fun _=>rfl)⟩
  rw[hR]
  exact gFo b l hnb he hr1 hr2 (by omega) (by omega) (by omega) hq1 hq2
 cases hg
theorem gJn:bX Tryz.prog GLh 8 (.pure false rdG):=⟨⟨_,Tryz.func8,rfl,rfl⟩,dQf⟩
end Go.AX

namespace Go.AX
open Go Go.Proofs
set_option maxRecDepth 8000
noncomputable def gKy:List AV→H→Nat→Option (AV×H×Nat):=fLr byA
theorem gKw (args:List AV) (hp:H) (nx:Nat):gKy args hp nx=aK (gR (bUf hp) args) fun as_=>aK (byA as_) fun r=>aN (r.ids=0) (some (r,fJn hp,nx)):=(rfl)
attribute [go_sem] gKw
theorem gKx:bX Tryz.prog GLh 11 (.heap gKy):=⟨⟨_,Tryz.func11,rfl,rfl⟩,fKh gIl⟩
theorem gLa:RY M0∧Sm M0:=by
 have hq: ∀q∈M0.qs,q=⟨[[97#8]],1#16,1#16⟩:=fun q hq=>by simpa [M0]using hq
 have hl: ∀l∈[M0.an,M0.au,M0.ad],l=[]:=fun l hl=>by simpa [M0]using hl
 refine⟨⟨⟨by decide,by decide,by decide,by decide⟩,fun q h=>?_,fun l h c hc=>?_⟩,⟨by decide,fun q h=>?_,fun l h=>?_⟩⟩
 ·rw[hq q h];decide
 ·rw[hl l h]at hc;cases hc
 ·rw[hq q h];decide
 rw[hl l h];exact⟨by decide,fun c hc=>by cases hc⟩
theorem gKz:byA [.agg (mdA M0)]=some (.tup [.sl 19 (c8 B0),.i 0]):=by
 rw[gIm (fLx M0) gLa.2]
 unfold byT
 rw[J4 gLa.1,M0_B,J3 (by decide)];rfl
set_option maxHeartbeats 4000000 in
theorem gKv:fHn Tryz.prog GLh 6 eNl:=by
 refine zK Tryz.func6 (aT rfl) ?_
 intro args r hg
 unfold eNl at hg
 split at hg
 ·obtain rfl:=J0 hg
  refine⟨J1 rfl,fun nx=>?_⟩
  clear hg
  have hB:=gKz
  simp only[mdA,M0,qsC,rcC,List.length_nil,List.length_cons,cS,List.map_cons,List.map_nil,List.nil_append,List.cons_append,Nat.zero_add]at hB
  have hids:AV.ids (.tup [.sl 19 (c8 B0),.i 0])=0:=by decide
  refine ySq (yRn [] fun K hK=>?_)
  simp(disch:=omega) only[go_sem]
  refine hK _ (aB ?_)
  have h97:ofV (Value.string {data:= #[97]})=.s [97#8]:=rfl
  refine ySq (yRg [1,2] (aH gKx aO) fun K hK=>?_)
  simp(disch:=omega) only[go_sem,↓reduceIte,h97,fHy,hB,hids,fIx,fIy,fCz,U0,U1,J9,List.all_cons,List.all_nil,Option.isSome_some,Bool.and_self]
  refine hK _ (aB ?_)
  refine yK (hp':=fun _=>none) (fun _ _ h=>by cases h) ?_
  have e1:B0.length=19:=rfl
  have e2:MGd B0=True:=eq_true B0_g
  have e3:rwT (mgR B0)=.tup [.agg [.w16 7#16,.b false,.i 0,.b false,.b false,.b true,.b false,.i 0,.sl 1 (qsC [⟨[[97#8]],1#16,1#16⟩]),.sl 0 [],.sl 0 [],.sl 0 [],.b false,.w16 0#16,.b false],.i 0]:=by
   rw[fPa];rfl
  have e4:MGd []=True:=eq_true N0_g
  have e5:rwT (mgR [])=.tup [msZ,.i 60]:=rfl
  have e6:fHq []=some []:=rfl
  have e7:idV B0=.tup [.w16 7#16,.b true]:=rfl
  refine ySq (yRg [1,2,3,4] (aH fOn aO) fun K hK=>?_)
  simp(disch:=omega) only[go_sem,↓reduceIte,e1,e2,e3]
  refine hK _ (aB ?_)
  refine ySq (yRg [1,2,3,4,6] (aH fOn aO) fun K hK=>?_)
  simp(disch:=omega) only[go_sem,↓reduceIte,e4,e5,e6,msZ,List.length_nil,fV,dW]
  refine hK _ (aB ?_)
  refine ySq (yRg [1,2,3,4,6,7,8] (aH fOr aO) fun K hK=>?_)
  simp(disch:=omega) only[go_sem,↓reduceIte,e1,e7]
  refine hK _ (aB ?_)
  have d19:decide (((19:Nat):Int)=19)=true:=rfl
  have d1:decide (((1:Nat):Int)=1)=true:=rfl
  refine ySq (yRn [0] fun K hK=>?_)
  simp(disch:=omega) only[go_sem,↓reduceIte,d19,d1,J8,J7,J9]
  refine hK _ (aB ?_)
  refine aS rfl ?_
  simp(disch:=omega) only[fHo,bV,bK,bQ,go_sem,↓reduceIte]
 cases hg
theorem okc6:bX Tryz.prog GLh 6 (.pure true eNl):=⟨⟨_,Tryz.func6,rfl,rfl⟩,gKv⟩
end Go.AX

namespace Go.AX
open Go Go.Proofs
set_option maxRecDepth 20000
def plR (a b:Int):Int:=if a.tmod b<0 then a.tmod b+b else a.tmod b
def aIy:List AV→Option AV
 |[.i a,.i b]=>aN (0<b∧b≤1000000) (some (.i (plR a b)))
 |_=>none
theorem aZr (a b:Int):aIy [.i a,.i b]=aN (0<b∧b≤1000000) (some (.i (plR a b))):=(rfl)
attribute [go_sem] aZr
theorem bIj:fHn Tryz.prog GLh 12 aIy:=by
 refine zK Tryz.func12 (aT rfl) ?_
 intro args r hg
 unfold aIy at hg
 split at hg
 ·rename_i a b
  replace hg:=aP hg;obtain⟨⟨h0,h1⟩,hg⟩:=hg
  obtain rfl:=J0 hg
  refine⟨J1 rfl,fun nx=>?_⟩
  clear hg
  have hb:(b=0)=False:=eq_false (by omega)
  obtain⟨m,hm⟩: ∃m,a.tmod b=m:=⟨_,rfl⟩
  have hm1: -b<m:=by rw[←hm];exact(Int.neg_lt_of_neg_lt (by have:=Int.lt_tmod_of_pos a h0;omega))
  have hm2:m<b:=by rw[←hm];exact Int.tmod_lt_of_pos a h0
  unfold plR
  rw[hm]
  refine ySq (yRn [0,1] fun K hK=>?_)
  simp(disch:=omega) only[go_sem,↓reduceIte]
  refine hK _ (aB ?_)
  refine ySq (yRn [0,1] fun K hK=>?_)
  simp(disch:=omega) only[go_sem,↓reduceIte,hb,hm]
  refine hK _ (aB ?_)
  refine ySq (ySq (yRn [9,0,1] fun K hK=>?_))
  simp(disch:=omega) only[go_sem,↓reduceIte]
  refine hK _ (aB ?_)
  refine gLb rfl (fun h=>?_) (fun h=>?_)
  ·refine yDr ?_
   rw[J4 h]
   have hW:W (m+b)=m+b:=by
    obtain⟨k,hk⟩:=Int.eq_ofNat_of_zero_le (show 0≤m+b by omega)
    rw[hk]
    exact eKg (by omega) (by omega)
   refine yRn [0] fun K hK=>?_
   simp(disch:=omega) only[go_sem,↓reduceIte,hW]
   refine hK _ (aB ?_)
   refine ySq (yRn [4] fun K hK=>?_)
   simp(disch:=omega) only[go_sem,↓reduceIte]
   refine hK _ (aB ?_)
   refine aS rfl ?_
   simp(disch:=omega) only[fHo,bV,bK,bQ,go_sem,↓reduceIte]
  refine yDr ?_
  rw[J3 h]
  refine ySk (aB (ySq (yRn [4] fun K hK=>?_)))
  simp(disch:=omega) only[go_sem,↓reduceIte]
  refine hK _ (aB ?_)
  refine aS rfl ?_
  simp(disch:=omega) only[fHo,bV,bK,bQ,go_sem,↓reduceIte]
 cases hg
theorem gJs:bX Tryz.prog GLh 12 (.pure true aIy):=⟨⟨_,Tryz.func12,rfl,rfl⟩,bIj⟩
theorem LiP.sm {M:MD} (h:LiP M):Sm M:=by
 have hl: ∀l:List RC,lgP l 20→l.length≤1000∧∀c∈l,c.nm.length≤1000000:=fun l hl=>⟨by have:=hl.1;omega,fun c hc=>by have:=(hl.2 c hc).1.1;omega⟩
 refine⟨by have:=h.nq;omega,fun q hq=>by have:=(h.qs q hq).1;omega,fun l hm=>?_⟩
 simp only[List.mem_cons,List.mem_nil_iff,or_false]at hm
 rcases hm with rfl|rfl|rfl
 ·exact hl _ h.an
 ·exact hl _ h.au
 exact hl _ h.ad
theorem gEp {M:MD} (h:LiP M) (hr:RY M):Few M:=by
 have:=h.nq;have:=h.an.1;have:=h.au.1;have:=h.ad.1
 exact⟨hr.qs,hr.ls _ (by simp),hr.ls _ (by simp),hr.ls _ (by simp),by omega,by omega,by omega,by omega⟩
theorem gDr (M:MD):byT M=.tup [.sl 0 [],.i 60]∨byT M=.tup [.sl 0 [],.i 61]∨(RY M∧(mbS M).length≤65535∧byT M=.tup [.sl (mbS M).length (c8 (mbS M)),.i 0]):=by
 unfold byT
 by_cases h1:RY M
 ·rw[J4 h1]
  by_cases h2:65535<(mbS M).length
  ·rw[J4 h2];exact .inr (.inl rfl)
  rw[J3 h2];exact .inr (.inr ⟨h1,by omega,rfl⟩)
 rw[J3 h1];exact .inl rfl
theorem gFt {a b:Int} (h:0<b): ∃p:Nat,plR a b=(p:Int)∧(p:Int)<b:=by
 have h1:(a.tmod b).natAbs<b.natAbs:=by rw[Int.natAbs_tmod];exact Nat.mod_lt _ (by omega)
 have h2:0≤plR a b∧plR a b<b:=by
  unfold plR
  split<;>omega
 exact⟨(plR a b).toNat,by omega,by omega⟩
def wcG:List AV→Option AV
 |[.agg xs,.i _,.w8 _]=>aK (fJd xs) fun _=>some (.b true)
 |_=>none
def gHc:List AV→H→Nat→Option (AV×H×Nat):=fLr gCa
theorem gFb (args:List AV) (hp:H) (nx:Nat):gHc args hp nx=aK (gR (bUf hp) args) fun as_=>aK (gCa as_) fun r=>aN (r.ids=0) (some (r,fJn hp,nx)):=(rfl)
attribute [go_sem] gFb
theorem gEo (hp:H) (k:Nat):fJn (del hp k)=del (fJn hp) k:=by
 funext j
 simp only[fKb,eV]
 split
 ·rfl
 rfl
theorem gJo:bX Tryz.prog GLh 7 (.heap gHc):=⟨⟨_,Tryz.func7,rfl,rfl⟩,fKh gEe⟩
set_option maxHeartbeats 16000000 in
theorem gIv:fHn Tryz.prog GLh 4 wcG:=by
 refine zK Tryz.func4 (aT rfl) ?_
 intro args r hg
 unfold wcG at hg
 split at hg
 ·rename_i xs k x
  replace hg:=aJ hg;obtain⟨M,hM,hg⟩:=hg
  obtain rfl:=J0 hg
  have hM2:=hM
  have:=fJz hM;subst this
  refine⟨J1 rfl,fun nx=>?_⟩
  clear hg hM
  simp only[mdA]at hM2
  refine ySq (yRn [1,2,3] fun K hK=>?_)
  simp(disch:=omega) only[go_sem,↓reduceIte,mdA]
  refine hK _ (aB ?_)
  refine lW 3 nx 0 rfl (by simp(disch:=omega) only[aV,↓reduceIte];rfl) ?_
  refine yK (hp':=fun _=>none) (fun _ _ h=>by cases h) (ySq (ySq (yRg [16,1,2,3] (aH okc6 aO) fun K hK=>?_)))
  simp(disch:=omega) only[go_sem,↓reduceIte]
  refine hK _ (aB ?_)
  refine iFd (ySk (aB (ySq (ySq ?_))))
  by_cases hli:LiP M
  ·have e1:=gKb hM2 hli
   refine yRg [19,1,2,3] (aH gGp aO) fun K hK=>?_
   simp(disch:=omega) only[go_sem,↓reduceIte,e1,Bool.not_true]
   refine hK _ (aB ?_)
   refine iFd ?_
   clear e1
   refine ySk (aB (ySq ?_))
   have e2:=gIm hM2 hli.sm
   clear hM2
   rcases gDr M with hT|hT|⟨hRY,hlen,hT⟩
   ·refine yRg [1,2,7,8] (aH gEk aO) fun K hK=>?_
    simp(disch:=omega) only[go_sem,↓reduceIte,e2,hT]
    refine hK _ (aB ?_)
    refine ySq (ySq (yRn [31,1,2,7] fun K hK=>?_))
    simp(disch:=omega) only[go_sem,↓reduceIte]
    refine hK _ (aB ?_)
    refine iTd (ySq (yRn [6] fun K hK=>?_))
    simp(disch:=omega) only[go_sem,↓reduceIte]
    refine hK _ (aB ?_)
    refine aS rfl (bI ?_)
    simp(disch:=omega) only[fHo,bV,bK,bQ,go_sem,↓reduceIte]
   ·refine yRg [1,2,7,8] (aH gEk aO) fun K hK=>?_
    simp(disch:=omega) only[go_sem,↓reduceIte,e2,hT]
    refine hK _ (aB ?_)
    refine ySq (ySq (yRn [31,1,2,7] fun K hK=>?_))
    simp(disch:=omega) only[go_sem,↓reduceIte]
    refine hK _ (aB ?_)
    refine iTd (ySq (yRn [6] fun K hK=>?_))
    simp(disch:=omega) only[go_sem,↓reduceIte]
    refine hK _ (aB ?_)
    refine aS rfl (bI ?_)
    simp(disch:=omega) only[fHo,bV,bK,bQ,go_sem,↓reduceIte]
   refine yRg [1,2,7,8] (aH gEk aO) fun K hK=>?_
   simp(disch:=omega) only[go_sem,↓reduceIte,e2,hT]
   refine hK _ (aB ?_)
   clear e2 hT
   have h12:=fXl M
   have hcut:=fun k (hk:k<(mbS M).length)=>gGd (gEp hli hRY) hk
   have hmore:=gEl (gEp hli hRY) x
   obtain⟨b,hb⟩: ∃b,mbS M=b:=⟨_,rfl⟩
   rw[hb]at hlen h12 hcut hmore⊢
   clear hb hli hRY M
   by_cases h6:b.length≤60000
   ·have d6:decide ((60000:Int)<(b.length:Int))=false:=J6 (by omega)
    refine ySq (ySq (yRn [31,1,2,7] fun K hK=>?_))
    simp(disch:=omega) only[go_sem,↓reduceIte,d6]
    refine hK _ (aB ?_)
    refine iFd (ySk (aB (ySq (ySq ?_))))
    rcases hm:rdM b with _|⟨l,t⟩
    ·have hT:rdT b none=.tup [msZ,.i 60]:=rfl
     refine yRg [1,2,7,10] (aH gJn aO) fun K hK=>?_
     simp(disch:=omega) only[go_sem,↓reduceIte,hm,hT,msZ]
     refine hK _ (aB ?_)
     refine ySq (yRn [38,1,2,7] fun K hK=>?_)
     simp(disch:=omega) only[go_sem,↓reduceIte]
     refine hK _ (aB ?_)
     refine iTd (ySq (yRn [6] fun K hK=>?_))
     simp(disch:=omega) only[go_sem,↓reduceIte]
     refine hK _ (aB ?_)
     refine aS rfl (bI ?_)
     simp(disch:=omega) only[fHo,bV,bK,bQ,go_sem,↓reduceIte]
    have hT:rdT b (some (l,t))=.tup [.agg (mD b t.rc (.sl l.length (qsC l)) (.sl t.an.length (rcC t.an)) (.sl t.au.length (rcC t.au)) (.sl t.ad.length (rcC t.ad)) t.ed t.sz t.dn),.i 0]:=rfl
    refine yRg [1,2,7,10] (aH gJn aO) fun K hK=>?_
    simp(disch:=omega) only[go_sem,↓reduceIte,hm,hT,mD]
    refine hK _ (aB ?_)
    refine ySq (yRn [38,1,2,7] fun K hK=>?_)
    simp(disch:=omega) only[go_sem,↓reduceIte]
    refine hK _ (aB ?_)
    refine iFd (ySk (aB (ySq ?_)))
    obtain⟨p,hp,hpl⟩:=gFt (a:=k) (b:=(b.length:Int)) (by omega)
    have hpl2:p<b.length:=by omega
    have hc:=hcut p hpl2
    have hcl:(b.take p).length=p:=by rw[List.length_take];omega
    refine yRg [2,7,12] (aH gJs (aH okc7 aO)) fun K hK=>?_
    simp(disch:=omega) only[go_sem,↓reduceIte,hp,hcl,hc,msZ,U2,Nat.sub_zero,J9]
    refine hK _ (aB ?_)
    refine yK (hp':=fun _=>none) (fun _ _ h=>by cases h) ?_
    have hsn:c8 b++[.w8 x]=c8 (b++[x]):=by simp[c8]
    have hln:(b++[x]).length=b.length+1:=by simp
    have hid:AV.ids (.tup [msZ,.i 60])=0:=rfl
    simp only[msZ]at hid
    have hmN: ∀l:List B8,isM (some (AO.cells (c8 l) true))=false:=fun l=>by rcases l with _|⟨y,l⟩<;>rfl
    refine ySq (yRg [12,14] (aH gJo aO) fun K hK=>?_)
    simp(disch:=omega) only[go_sem,↓reduceIte,fHy,fIx,gEo,fIy,fCz,hmN,Bool.false_eq_true,hsn,hln,hmore,hid,msZ]
    refine hK _ (aB ?_)
    refine ySq (yRn [6] fun K hK=>?_)
    simp(disch:=omega) only[go_sem,↓reduceIte]
    refine hK _ (aB ?_)
    refine aS rfl ?_
    simp(disch:=omega) only[fHo,bV,bK,bQ,go_sem,↓reduceIte]
   have d6:decide ((60000:Int)<(b.length:Int))=true:=J5 (by omega)
   refine ySq (ySq (yRn [31,1,2,7] fun K hK=>?_))
   simp(disch:=omega) only[go_sem,↓reduceIte,d6]
   refine hK _ (aB ?_)
   refine iTd (ySq (yRn [6] fun K hK=>?_))
   simp(disch:=omega) only[go_sem,↓reduceIte]
   refine hK _ (aB ?_)
   refine aS rfl (bI ?_)
   simp(disch:=omega) only[fHo,bV,bK,bQ,go_sem,↓reduceIte]
  have e1:=gKc hM2 hli
  refine yRg [19,1,2,3] (aH gGp aO) fun K hK=>?_
  simp(disch:=omega) only[go_sem,↓reduceIte,e1,Bool.not_false]
  refine hK _ (aB ?_)
  refine iTd (ySq (yRn [6] fun K hK=>?_))
  simp(disch:=omega) only[go_sem,↓reduceIte]
  refine hK _ (aB ?_)
  refine aS rfl (bI ?_)
  simp(disch:=omega) only[fHo,bV,bK,bQ,go_sem,↓reduceIte]
 cases hg
end Go.AX

namespace Go.AX
open Go Go.Proofs Go.RowKit Go.WideShapes Go.ChangeShapes
theorem gCi {H:Type} {enc:TypeId×Value→H} {P:Program} {W W2:World} {σ:Nat→AX.Loc} {t:TypeId} {fs:Array Field} {n:Nat} {Qs:Nat→AV→Prop} {v:Value} {d:DataW H} {ps:List MemPlace} {r:Reach} {b:Nat} (ht:P.underlying t=some (.struct fs)) (hfs:fs.size=n) (hct:P.cellsOf t=n)
  (hf: ∀i f,fs[i]? =some f→f.offset=i∧P.cellsOf f.type=1∧fZi enc P W σ f.type (Qs i)) (hval:Value.okWide P W2 r b t v) (h:DataW.Trod enc P W 0 (fun _=>true) true t v d ps):
  ∃ys:List AV,ys.length=n∧(∀i,i<n→Qs i (ys.getD i .junk))∧AX.Rel σ (fun k=>k<W.heap.size) W (.agg ys) v:=by
 simp only[Value.okWide,ht]at hval
 obtain⟨cs,rfl,h2,_⟩:=hval
 obtain⟨m,h⟩:=h
 obtain⟨xs,m1,rfl,_,hlen,hn,hel⟩:=DataW.trod_struct ht h
 simp only[Value.cells,Array.length_toList]at hlen
 rw[hct]at hlen
 have get: ∀i:Fin n,∃y:AV,Qs i.1 y∧y.isCell=true∧AX.Rel σ (fun k=>k<W.heap.size) W y (cs.getD i.1 undef):=by
  intro i
  have hi:i.1<fs.size:=by have:=i.2;omega
  obtain⟨ho,hc1,hop⟩:=hf i.1 fs[i.1] (Array.getElem?_eq_getElem hi)
  have h1:=hel i.1 fs[i.1] (Array.getElem?_eq_getElem hi)
  rw[ho,hc1,List.getElem?_eq_getElem (by omega:i.1<xs.length)]at h1
  obtain⟨v,y,e1,hq,hcell,hr⟩:=hop _ _ _ h1
  refine⟨y,hq,hcell,?_⟩
  have e3:cs[i.1]? =some v:=by
   have:=congrArg (·[0]?) e1
   simpa [Value.cells,List.getElem?_take,List.getElem?_drop]using this
  rw[Array.getD_eq_getD_getElem?,e3];exact hr
 obtain⟨F,hF⟩:=Classical.axiomOfChoice get
 have hl:(List.ofFn F).length=n:=List.length_ofFn
 refine⟨List.ofFn F,hl,fun i hi=>?_,.agg _ _ (by rw[hl,hlen]) (fun i hi=>?_) (fun i hi=>?_)⟩
 ·have:=(hF ⟨i,hi⟩).1
  simpa [List.getD_eq_getElem?_getD,List.getElem?_ofFn,hi]using this
 ·rw[List.getElem_ofFn];exact(hF _).2.1
 have hi2:i<n:=by rw[hl]at hi;exact hi
 have e:(List.ofFn F)[i]=F ⟨i,hi2⟩:=by simp
 rw[e];exact(hF ⟨i,hi2⟩).2.2
def qQ:Nat→AV→Prop
 |0,y=> ∃ps:List (List B8),y=.sl ps.length (cS ps)∧ps.length≤9223372036854775807∧∀l∈ps,l.length≤9223372036854775807
 |_,y=> ∃b:BitVec 16,y=.w16 b
def rQ:Nat→AV→Prop
 |0,y=> ∃ps:List (List B8),y=.sl ps.length (cS ps)∧ps.length≤9223372036854775807∧∀l∈ps,l.length≤9223372036854775807
 |1,y=> ∃b:BitVec 16,y=.w16 b
 |2,y=> ∃b:BitVec 16,y=.w16 b
 |3,y=> ∃b:W32,y=.w32 b
 |_,y=> ∃l:List B8,y=.sl l.length (c8 l)∧l.length≤9223372036854775807
def qsQ (y:AV):Prop:= ∃rows:List (List AV),y=.sl rows.length rows.flatten∧(∀r∈rows,r.length=3∧∀i,i<3→qQ i (r.getD i .junk))∧rows.length≤9223372036854775807
def rsQ (y:AV):Prop:= ∃rows:List (List AV),y=.sl rows.length rows.flatten∧(∀r∈rows,r.length=5∧∀i,i<5→rQ i (r.getD i .junk))∧rows.length≤9223372036854775807
def mQ:Nat→AV→Prop
 |0,y=> ∃b:BitVec 16,y=.w16 b
 |1,y=> ∃b:Bool,y=.b b
 |2,y=> ∃n:Int,y=.i n∧ -9223372036854775808≤n∧n≤9223372036854775807
 |3,y=> ∃b:Bool,y=.b b
 |4,y=> ∃b:Bool,y=.b b
 |5,y=> ∃b:Bool,y=.b b
 |6,y=> ∃b:Bool,y=.b b
 |7,y=> ∃n:Int,y=.i n∧ -9223372036854775808≤n∧n≤9223372036854775807
 |8,y=>qsQ y
 |9,y=>rsQ y
 |10,y=>rsQ y
 |11,y=>rsQ y
 |12,y=> ∃b:Bool,y=.b b
 |13,y=> ∃b:BitVec 16,y=.w16 b
 |_,y=> ∃b:Bool,y=.b b
def qC1 (q:QN):List AV:=[.sl q.n.length (cS q.n),.w16 q.t,.w16 q.c]
theorem gCt: ∀l:List QN,(l.map qC1).flatten=qsC l
 |[]=>rfl
 |q::r=>by rw[List.map_cons,List.flatten_cons,gCt r];rfl
theorem gCo: ∀l:List RC,(l.map fLo).flatten=rcC l
 |[]=>rfl
 |q::r=>by rw[List.map_cons,List.flatten_cons,gCo r];rfl
theorem gHf {r:List AV} (h:r.length=3∧∀i,i<3→qQ i (r.getD i .junk)): ∃q,r=qC1 q:=by
 obtain⟨hl,hq⟩:=h
 match r,hl with
 |[a,b,c],_=>
  obtain⟨ps,e0,_⟩:=hq 0 (by omega)
  obtain⟨t,e1⟩:=hq 1 (by omega)
  obtain⟨u,e2⟩:=hq 2 (by omega)
  refine⟨⟨ps,t,u⟩,?_⟩
  simp only[List.getD_eq_getElem?_getD,List.getElem?_cons_zero,List.getElem?_cons_succ,Option.getD_some]at e0 e1 e2
  rw[e0,e1,e2];rfl
theorem gHe {r:List AV} (h:r.length=5∧∀i,i<5→rQ i (r.getD i .junk)): ∃q,r=fLo q:=by
 obtain⟨hl,hq⟩:=h
 match r,hl with
 |[a,b,c,d,e],_=>
  obtain⟨ps,e0,_⟩:=hq 0 (by omega)
  obtain⟨t,e1⟩:=hq 1 (by omega)
  obtain⟨u,e2⟩:=hq 2 (by omega)
  obtain⟨v,e3⟩:=hq 3 (by omega)
  obtain⟨w,e4,_⟩:=hq 4 (by omega)
  refine⟨⟨ps,t,u,v,w⟩,?_⟩
  simp only[List.getD_eq_getElem?_getD,List.getElem?_cons_zero,List.getElem?_cons_succ,Option.getD_some]at e0 e1 e2 e3 e4
  rw[e0,e1,e2,e3,e4];rfl
theorem gFs {y:AV} (h:qsQ y): ∃l:List QN,y=.sl l.length (qsC l):=by
 obtain⟨rows,rfl,hr,_⟩:=h
 obtain⟨l,rfl⟩:=aVg fun r h=>gHf (hr r h)
 exact⟨l,by rw[List.length_map,gCt]⟩
theorem gBa {y:AV} (h:rsQ y): ∃l:List RC,y=.sl l.length (rcC l):=by
 obtain⟨rows,rfl,hr,_⟩:=h
 obtain⟨l,rfl⟩:=aVg fun r h=>gHe (hr r h)
 exact⟨l,by rw[List.length_map,gCo]⟩
theorem gHn {ys:List AV} (hl:ys.length=15) (h: ∀i,i<15→mQ i (ys.getD i .junk)): ∃M:MD,ys=mdA M:=by
 match ys,hl with
 |[a0,a1,a2,a3,a4,a5,a6,a7,a8,a9,a10,a11,a12,a13,a14],_=>
  obtain⟨x0,e0⟩:=h 0 (by omega)
  obtain⟨x1,e1⟩:=h 1 (by omega)
  obtain⟨x2,e2,_⟩:=h 2 (by omega)
  obtain⟨x3,e3⟩:=h 3 (by omega)
  obtain⟨x4,e4⟩:=h 4 (by omega)
  obtain⟨x5,e5⟩:=h 5 (by omega)
  obtain⟨x6,e6⟩:=h 6 (by omega)
  obtain⟨x7,e7,_⟩:=h 7 (by omega)
  obtain⟨x8,e8⟩:=gFs (h 8 (by omega))
  obtain⟨x9,e9⟩:=gBa (h 9 (by omega))
  obtain⟨x10,e10⟩:=gBa (h 10 (by omega))
  obtain⟨x11,e11⟩:=gBa (h 11 (by omega))
  obtain⟨x12,e12⟩:=h 12 (by omega)
  obtain⟨x13,e13⟩:=h 13 (by omega)
  obtain⟨x14,e14⟩:=h 14 (by omega)
  refine⟨⟨x0,x1,x2,x3,x4,x5,x6,x7,x8,x9,x10,x11,x12,x13,x14⟩,?_⟩
  simp only[List.getD_eq_getElem?_getD,List.getElem?_cons_zero,List.getElem?_cons_succ,Option.getD_some]at e0 e1 e2 e3 e4 e5 e6 e7 e8 e9 e10 e11 e12 e13 e14
  rw[e0,e1,e2,e3,e4,e5,e6,e7,e8,e9,e10,e11,e12,e13,e14];rfl
theorem c3m:Tryz.prog.cellsOf 3=1:=by kernel_rfl
theorem c4m:Tryz.prog.cellsOf 4=1:=by kernel_rfl
theorem c5m:Tryz.prog.cellsOf 5=1:=by kernel_rfl
theorem c9m:Tryz.prog.cellsOf 9=1:=by kernel_rfl
theorem c22m:Tryz.prog.cellsOf 22=1:=by kernel_rfl
theorem gDq:Tryz.prog.cellsOf 24=1:=by kernel_rfl
theorem c25m:Tryz.prog.cellsOf 25=1:=by kernel_rfl
theorem gIk:Tryz.prog.cellsOf 26=1:=by kernel_rfl
theorem c28m:Tryz.prog.cellsOf 28=15:=by kernel_rfl
theorem gKn:Tryz.prog.cellsOf 42=1:=by kernel_rfl
theorem c43m:Tryz.prog.cellsOf 43=1:=by kernel_rfl
theorem c45m:Tryz.prog.cellsOf 45=5:=by kernel_rfl
theorem c51m:Tryz.prog.cellsOf 51=3:=by kernel_rfl
section
variable {H : Type} {enc : TypeId × Value → H} {W : World} {σ : Nat → AX.Loc}
theorem gEi:fZi enc Tryz.prog W σ 25 qsQ:=by
 refine aEe Tryz.underlying25 Tryz.underlying51 rfl c51m (by decide) fun i f hf=>?_
 obtain⟨h,e⟩:=Array.getElem?_eq_some_iff.1 hf
 have h5:i<3:=h
 clear hf
 rcases(by omega:i=0∨i=1∨i=2)with rfl|rfl|rfl<;>subst e
 ·exact⟨rfl,gKn,eMg Tryz.underlying42 c9m Tryz.underlying9⟩
 ·exact⟨rfl,gDq,aZu Tryz.underlying24⟩
 exact⟨rfl,gDq,aZu Tryz.underlying24⟩
theorem gAn:fZi enc Tryz.prog W σ 26 rsQ:=by
 refine aEe Tryz.underlying26 Tryz.underlying45 rfl c45m (by decide) fun i f hf=>?_
 obtain⟨h,e⟩:=Array.getElem?_eq_some_iff.1 hf
 have h5:i<5:=h
 clear hf
 rcases(by omega:i=0∨i=1∨i=2∨i=3∨i=4)with rfl|rfl|rfl|rfl|rfl<;>subst e
 ·exact⟨rfl,gKn,eMg Tryz.underlying42 c9m Tryz.underlying9⟩
 ·exact⟨rfl,gDq,aZu Tryz.underlying24⟩
 ·exact⟨rfl,gDq,aZu Tryz.underlying24⟩
 ·exact⟨rfl,c43m,gV Tryz.underlying43⟩
 exact⟨rfl,c22m,iC Tryz.underlying22 c5m Tryz.underlying5⟩
set_option maxRecDepth 100000 in
theorem gGi {W2:World} {v:Value} {d:DataW H} {ps:List MemPlace} {r:Reach} {b:Nat} (hval:Value.okWide Tryz.prog W2 r b 28 v) (h:DataW.Trod enc Tryz.prog W 0 (fun _=>true) true 28 v d ps): ∃M:MD,AX.Rel σ (fun k=>k<W.heap.size) W (.agg (mdA M)) v:=by
 refine Exists.elim (gCi (σ:=σ) (Qs:=mQ) Tryz.underlying28 rfl c28m (fun i f hf=>?_) hval h) ?_
 ·obtain⟨h,e⟩:=Array.getElem?_eq_some_iff.1 hf
  have h5:i<15:=h
  clear hf
  rcases(by omega:i=0∨i=1∨i=2∨i=3∨i=4∨i=5∨i=6∨i=7∨i=8∨i=9∨i=10∨i=11∨i=12∨i=13∨i=14)with rfl|rfl|rfl|rfl|rfl|rfl|rfl|rfl|rfl|rfl|rfl|rfl|rfl|rfl|rfl<;>subst e
  ·exact⟨rfl,gDq,aZu Tryz.underlying24⟩
  ·exact⟨rfl,c4m,cKd Tryz.underlying4⟩
  ·exact⟨rfl,c3m,aGe Tryz.underlying3⟩
  ·exact⟨rfl,c4m,cKd Tryz.underlying4⟩
  ·exact⟨rfl,c4m,cKd Tryz.underlying4⟩
  ·exact⟨rfl,c4m,cKd Tryz.underlying4⟩
  ·exact⟨rfl,c4m,cKd Tryz.underlying4⟩
  ·exact⟨rfl,c3m,aGe Tryz.underlying3⟩
  ·exact⟨rfl,c25m,gEi⟩
  ·exact⟨rfl,gIk,gAn⟩
  ·exact⟨rfl,gIk,gAn⟩
  ·exact⟨rfl,gIk,gAn⟩
  ·exact⟨rfl,c4m,cKd Tryz.underlying4⟩
  ·exact⟨rfl,gDq,aZu Tryz.underlying24⟩
  exact⟨rfl,c4m,cKd Tryz.underlying4⟩
 rintro ys ⟨hl,hq,hr⟩
 obtain⟨M,rfl⟩:=gHn hl hq
 exact⟨M,hr⟩
end
end Go.AX
