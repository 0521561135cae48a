/-
  Rolls, part G: one key turned, and told. Rolls, part H: all that is due is turned. Rolls, part I: a new key is begun. AX, part AyP: a region that draws its order, where a few orders stand for all: each other order is one of them but for operations that don't touch one another. Rolls, part J: settings; first keys. Rolls, part K: what the first rolls come to, in plain. Rolls, part L: times that don't overflow; what the statements ask ahead of all. Rolls, part M: the statement RollBusy, walked. Rolls, part N: the statement RollLate, walked. Rolls, part P: a DS that was seen. Rolls, part Q: what the rolls of RollWhole, RollNothing come to, in plain. Rolls, part U: the document's times, signers, transitions; rows of keys held against one another. Rolls, part V: rows of keys held against one another. Rolls, part W: the document's next transition. Rolls, part X: the document's DNSKEY bytes; roots that were reckoned. AX, more, part N: a region that draws its order, where operations are apart by the own objects that they touch. AX, more, part Q: a region that draws its order, where operations are apart by the own objects that they touch: the rule. Rolls, part Y: roots that were reckoned: told. Keys, part P: a ring's keys in order, and what its operations make of them; the document's ring beside it. Rolls, part mA: the document's DNSKEYs and tags.
-/
import Derived.Test.YthemkfbedajmpaaGreatDoorBE
import Derived.Test.YthemkfbedajmpaaGreatDoorBC
import Derived.Test.YthemkfbedajmpaaGreatDoorBD
namespace Go.AX
open Go Go.Proofs
set_option maxRecDepth 8000
def bIh:Option AO→Option Nat
 |some (.cells [.op d 0] _)=>some d
 |_=>none
def cGl:Option AO→Option W32
 |some (.cells [.w32 n] _)=>some n
 |_=>none
def bIt:Option AO→Option (Nat×Nat)
 |some (.cells [.os o 0 n 15 true] true)=>some (o,n)
 |_=>none
noncomputable def bMa:Option AO→Option (List KY)
 |some (.cells xs true)=>nM xs
 |_=>none
theorem cJe (d:Nat) (mt:Bool):bIh (some (.cells [.op d 0] mt))=some d:=(rfl)
theorem cJz (o n:Nat):bIt (some (.cells [.os o 0 n 15 true] true))=some (o,n):=(rfl)
theorem cMs (L:List KY):bMa (some (.cells (jQ L) true))=some L:=sK L
attribute [go_sem] cJe cJz cMs
theorem bIg {x:Option AO} {d:Nat} (h:bIh x=some d): ∃mt,x=some (.cells [.op d 0] mt):=by
 unfold bIh at h;split at h
 ·obtain rfl:=J0 h;exact⟨_,rfl⟩
 cases h
theorem bIs {x:Option AO} {p:Nat×Nat} (h:bIt x=some p):x=some (.cells [.os p.1 0 p.2 15 true] true):=by
 unfold bIt at h;split at h
 ·obtain rfl:=J0 h;rfl
 cases h
theorem bLz {x:Option AO} {L:List KY} (h:bMa x=some L):x=some (.cells (jQ L) true):=by
 unfold bMa at h;split at h
 ·rw[lS h]
 cases h
def tkV (k:KY) (st:Int) (now:W32):KY:= {k with st:=st,since:=now}
noncomputable def stG:List AV→H→Nat→Option (AV×H×Nat)
 |[.w32 id,.i st,.op rp 0,.rp [.w32 now],.op po 0],hp,nx=>aK (bIh (hp rp)) fun d=>aK (bIt (hp po)) fun on=>aK (bMa (hp on.1)) fun out=>aK (iN hp d) fun t=>aK (iK id t.C.by') fun k=>
   aN (on.2=out.length∧on.2≤20000∧(d≠rp∧d≠po∧d≠on.1)∧(t.s≠rp∧t.s≠po∧t.s≠on.1)∧(t.m≠rp∧t.m≠po∧t.m≠on.1)∧po≠on.1∧rp≠po∧rp≠on.1)
    (some (.tup [],iL d t.s t.m (tnV t.C id st now).2 (upd (upd (del hp on.1) (nx+173) (.cells (jQ (out++[tkV k st now])) true)) po (.cells [.os (nx+173) 0 (on.2+1) 15 true] true)),nx+300))
 |_,_,_=>none
theorem cHb (id now:W32) (st:Int) (rp po:Nat) (hp:H) (nx:Nat):stG [.w32 id,.i st,.op rp 0,.rp [.w32 now],.op po 0] hp nx=aK (bIh (hp rp)) fun d=>aK (bIt (hp po)) fun on=>aK (bMa (hp on.1)) fun out=>aK (iN hp d) fun t=>aK (iK id t.C.by') fun k=>
   aN (on.2=out.length∧on.2≤20000∧(d≠rp∧d≠po∧d≠on.1)∧(t.s≠rp∧t.s≠po∧t.s≠on.1)∧(t.m≠rp∧t.m≠po∧t.m≠on.1)∧po≠on.1∧rp≠po∧rp≠on.1)
    (some (.tup [],iL d t.s t.m (tnV t.C id st now).2 (upd (upd (del hp on.1) (nx+173) (.cells (jQ (out++[tkV k st now])) true)) po (.cells [.os (nx+173) 0 (on.2+1) 15 true] true)),nx+300)):=(rfl)
attribute [go_sem] cHb
set_option maxHeartbeats 1000000 in
theorem cTk:cQ Tryz.prog GLh 34 stG:=by
 refine gF Tryz.func34 (aT rfl) ?_
 intro args hp nx r hp' nx' hg
 unfold stG at hg
 split at hg
 ·rename_i id st rp now po
  replace hg:=aJ hg;obtain⟨d,h4,hg⟩:=hg
  obtain⟨mt4,h4⟩:=bIg h4
  replace hg:=aJ hg;obtain⟨⟨o,n⟩,h6,hg⟩:=hg
  replace h6:=bIs h6
  replace hg:=aJ hg;obtain⟨out,h7,hg⟩:=hg
  replace h7:=bLz h7
  replace hg:=aJ hg;obtain⟨⟨s,m,C⟩,hD0,hg⟩:=hg
  have hD:=iV hD0
  replace hg:=aJ hg;obtain⟨k,hk,hg⟩:=hg
  replace hg:=aP hg;obtain⟨⟨hn,hbig,⟨a1,a3,a4⟩,⟨b1,b3,b4⟩,⟨c1,c3,c4⟩,e1,e2,e4⟩,hg⟩:=hg
  simp only[Option.some.injEq,Prod.mk.injEq]at hg hD hk hn hbig h6 h7 a1 a3 a4 b1 b3 b4 c1 c3 c4 e1 e2 e4;obtain⟨rfl,rfl,rfl⟩:=hg
  refine⟨J1 rfl,by omega,fun hnone=>?_⟩
  have h1:=hD.hd;have h2:=hD.hs;have h3:=hD.hm
  obtain⟨n1,n2,n3,n4,n5,n6⟩:=hD.ne
  have hlt: ∀k o,hp k=some o→k<nx:=fun k o hk=>lI hnone hk
  have hd:=hlt _ _ h1
  have hs:=hlt _ _ h2
  have hm:=hlt _ _ h3
  have hrp:=hlt _ _ h4
  have hpo:=hlt _ _ h6
  have ho:=hlt _ _ h7
  have hkl:=iJ out
  refine aA rfl (aC (Γ:=bC [(35,.heap uT)]) [0,1,2,3,4,7] (aH bJg aO) rfl rfl rfl (fun K hK=>?_))
  simp(disch:=omega) only[Tryz.f34,go_sem,↓reduceIte,hD0,h4,hk,aXa,lV,J8,J9]
  refine hK _ ?_
  refine aB ?_
  have hru:=aIn hD
  refine aA rfl (aC (Γ:=bC [(36,.heap vD)]) [1,3,4,7] (aH cWd aO) rfl rfl rfl (fun K hK=>?_))
  simp(disch:=omega) only[Tryz.f34,go_sem,↓reduceIte,hru,h4,J9,J8,J9]
  refine hK _ ?_
  refine aB (aA rfl (bB (Γ:=aL) (fun k=>if k=1 then 1 else 2) [4,7] bZ (aD _ _) rfl rfl rfl (by kernel_rfl) (fun K hK=>?_)))
  simp(disch:=omega) only[Tryz.f34,go_sem,↓reduceIte,J8,List.set_cons_succ,List.set_cons_zero]
  refine hK _ ?_
  refine aB (bA [] rfl rfl rfl fun K hK=>?_)
  simp(disch:=omega) only[Tryz.f34,go_sem,↓reduceIte,h6,h7,hn,hkl,cK,List.nil_append,List.cons_append,J8,List.set_cons_zero,U0,U1,J7,J9]
  refine hK _ ?_
  show wZ _ _ _ _ _ _
  refine⟨rfl,fun j oo hj=>hU (fun j oo hj=>?_) j oo hj,by simp only;omega⟩
  simp only[bJ,eV,Nat.add_assoc,Nat.reduceAdd]at hj⊢
  by_cases q1:j=po
  ·rw[J4 q1]at hj⊢;rw[hn]at hj;exact hj
  rw[J3 q1]at hj⊢
  by_cases q2:j=nx+173
  ·rw[J4 q2]at hj⊢;rw[lD,sL]at hj;exact hj
  rw[J3 q2]at hj⊢
  by_cases q3:j=o
  ·rw[J4 q3]at hj;cases hj
  rw[J3 q3]at hj⊢
  have:=hlt j oo hj
  rw[J3 (by omega),J3 (by omega)];exact hj
 cases hg
theorem bJd:bX Tryz.prog GLh 34 (.heap stG):=⟨⟨_,Tryz.func34,rfl,rfl⟩,cTk⟩
end Go.AX

namespace Go.AX
open Go Go.Proofs
set_option maxRecDepth 8000
def yN:List KY→RC→W32→List KY→Option (List KY×RC)
 |[],C,_,out=>some (out,C)
 |x::r,C,now,out=>if x.st=1 then aK (iK x.id C.by') fun k=>yN r (tnV C x.id 3 now).2 now (out++[tkV k 3 now])else yN r C now out
def jF (c:CF):Nat→RC→W32→List KY→Option (List KY×RC)
 |0,_,_,_=>none
 |f+1,C,now,out=>
  if(nxV (iP C) c).id=0#32∨¬(nxV (iP C) c).w≤now then some (out,C)
  else aK (if(nxV (iP C) c).st=1 then yN (lH 0 (iP C)) C now out else some (out,C)) fun p=>
   aK (iK (nxV (iP C) c).id p.2.by') fun k=>jF c f (tnV p.2 (nxV (iP C) c).id (nxV (iP C) c).st now).2 now (p.1++[tkV k (nxV (iP C) c).st now])
theorem aMw {β:Type} (a:W32) (v:β): ∀(l:List (W32×β)) (w:β),iK a l=some w→(kT a v l).length=l.length
 |[],_,h=>by cases h
 |p::r,w,h=>by
  simp only[iK]at h
  simp only[kT]
  split
  ·rfl
  rename_i e
  rw[J3 e]at h
  rw[List.length_cons,List.length_cons,aMw a v r w h]
theorem aPe {β:Type} (a:W32): ∀l:List (W32×β),(rE a l).length≤l.length
 |[]=>U3 _
 |p::r=>by
  simp only[rE]
  split
  ·simp
  simp only[List.length_cons]
  have:=aPe a r
  omega
theorem zX (C:RC) (id:W32) (st:Int) (now:W32):(tnV C id st now).2.by'.length≤C.by'.length:=by
 rcases hk:iK id C.by' with _|k
 ·rw[aUp hk];exact U3 _
 rw[aUo hk]
 split
 ·exact U3 _
 split
 ·exact aPe _ _
 exact Nat.le_of_eq (aMw _ _ _ _ hk)
@[irreducible] def aUv : Nat := 10000000
theorem aLx:aUv=10000000:=by unfold aUv;rfl
noncomputable def yS:List AV→H→Nat→Option (AV×H×Nat)
 |[.op d 0,.agg cs,.w32 now],hp,nx=>aK (iN hp d) fun t=>aK (oW cs) fun c=>aN (t.C.by'.length≤100) (aK (jF c 100 t.C now []) fun R=>some (.sl R.1.length (jQ R.1),iL d t.s t.m R.2 hp,nx+aUv))
 |_,_,_=>none
theorem bGd (d:Nat) (cs:List AV) (now:W32) (hp:H) (nx:Nat):yS [.op d 0,.agg cs,.w32 now] hp nx=aK (iN hp d) fun t=>aK (oW cs) fun c=>aN (t.C.by'.length≤100) (aK (jF c 100 t.C now []) fun R=>some (.sl R.1.length (jQ R.1),iL d t.s t.m R.2 hp,nx+aUv)):=(rfl)
attribute [go_sem] bGd
structure SIX where
 f:Nat
 C:RC
 out:List KY
 o:Nat
 c:Nat
structure AIX where
 q:Nat
 C:RC
 out:List KY
 o:Nat
 c:Nat
set_option maxHeartbeats 2000000 in
theorem bTn:cQ Tryz.prog GLh 15 yS:=by
 refine gF Tryz.func15 (aT rfl) ?_
 intro args hp nx r hp' nx' hg
 unfold yS at hg
 split at hg
 ·rename_i d cs now
  replace hg:=aJ hg;obtain⟨⟨s,m,C0⟩,hD0,hg⟩:=hg
  have hD:=iV hD0
  replace hg:=aJ hg;obtain⟨cf,hcf,hg⟩:=hg
  have:=lF hcf;subst this
  replace hg:=aP hg;obtain⟨hC0,hg⟩:=hg
  replace hg:=aJ hg;obtain⟨R,hR,hg⟩:=hg
  simp only[Option.some.injEq,Prod.mk.injEq]at hg hD hC0 hR;obtain⟨rfl,rfl,rfl⟩:=hg
  refine⟨J1 rfl,Nat.le_add_right _ _,fun hnone=>?_⟩
  have h1:=hD.hd;have h2:=hD.hs;have h3:=hD.hm
  obtain⟨n1,n2,n3,n4,n5,n6⟩:=hD.ne
  have hlt: ∀k o,hp k=some o→k<nx:=fun k o hk=>lI hnone hk
  have hd:=hlt _ _ h1
  have hs:=hlt _ _ h2
  have hm:=hlt _ _ h3
  have hno:dB (cfC cf)=true:=rfl
  have hcl:13≤(cfC cf).length:=J1 rfl
  have hct:List.take 13 (cfC cf)=cfC cf:=rfl
  have hset:=iQ hD
  have hN:=aLx
  rw[←hset,rZ]
  refine aA rfl (bA [3,4,5] rfl rfl rfl fun K hK=>?_)
  simp(disch:=omega) only[Tryz.f15,go_sem,↓reduceIte]
  refine hK _ ?_
  refine aB ?_
  refine lW 4 (nx+1) 0 rfl (by simp(disch:=omega) only[jN,aV,bY,↓reduceIte,eq_self]<;>rfl) ?_
  refine lW 5 (nx+2) 0 rfl (by simp(disch:=omega) only[jN,aV,bY,↓reduceIte,eq_self]<;>rfl) ?_
  refine fF [3,4,5] ?_
  simp only[iB,fU,eB,↓reduceIte,Nat.reduceEqDiff,J9]
  refine aA rfl (bA [3,4,5,7] rfl rfl rfl fun K hK=>?_)
  simp(disch:=omega) only[Tryz.f15,go_sem,↓reduceIte]
  refine hK _ ?_
  refine aB ?_
  refine aDn (nx+4) 15 [] [] true (by simp(disch:=omega) only[jN,aV,↓reduceIte,eq_self]<;>rfl) (by omega) ?_
  simp(disch:=omega) only[jJ,List.nil_append]
  refine aA rfl (bA [3,4,5,7,8] rfl rfl rfl fun K hK=>?_)
  simp(disch:=omega) only[Tryz.f15,go_sem,↓reduceIte]
  refine hK _ ?_
  refine aB (aR 0 rfl rfl ?_)
  refine bR (fun p:SIX=> {fr:=[(3,.op nx 0),(4,.rp (cfC cf)),(5,.rp [.w32 now]),(7,.op (nx+4) 0),(8,.fn 34 [.op nx 0,.rp [.w32 now],.op (nx+4) 0])],hp:=iL d s m p.C (upd (upd (upd hp nx (.cells [.op d 0] true)) p.o (.cells (jQ p.out) true)) (nx+4) (.cells [.os p.o 0 p.out.length 15 true] true)),nx:=0,cx:=p.c}) (fun p=>jF cf p.f p.C now p.out=some R∧p.C.by'.length≤100∧p.f≤100∧p.out.length≤(100-p.f)*101∧nx+4<p.o∧p.o<p.c∧p.c≤nx+100+90000*(100-p.f)) (fun p=>p.f) rfl ⟨⟨100,C0,[],nx+4+1,_⟩,⟨hR,hC0,U3 _,Nat.zero_le _,by simp only;omega,by simp only;omega,by simp only;omega⟩,⟨fun x=> .inr rfl,fun j o hj=>hU (fun j o hj=>by {simp only[bJ]at hj⊢;by_cases q1:j=nx+4; · {rw[J4 q1]at hj⊢;exact hj};rw[J3 q1]at hj⊢;by_cases q2:j=nx+4+1; · {rw[J4 q2]at hj⊢;exact hj};rw[J3 q2]at hj;rw[J3 q2,J3 q1];by_cases q3:j=nx; · {rw[J4 q3]at hj;rw[J3 (by omega),J3 (by omega),J3 (by omega),J3 (by omega),J4 q3];exact hj};rw[J3 q3]at hj;have:=hlt j o hj;rw[J3 (by omega),J3 (by omega),J3 (by omega),J3 (by omega),J3 q3];exact hj}) j o hj,U3 _⟩⟩ ?_
  rintro⟨f,C,out,o,c⟩ ⟨hst,hC,hf,hout,ho1,ho2,hcc⟩ n0
  simp only at hst hC hf hout ho1 ho2 hcc⊢
  have hal:=qL C
  have hC2:C.by'.length≤1000:=by omega
  obtain⟨f,rfl⟩: ∃f',f=f'+1:=by
   cases f with
   |zero=>cases hst
   |succ f=>exact⟨f,rfl⟩
  obtain⟨B,hB⟩: ∃B,nxV (iP C) cf=B:=⟨_,rfl⟩
  rw[jF,hB]at hst
  have hol:out.length≤20000:=by omega
  refine aR 1 rfl rfl (aA rfl (bB (Γ:=bC [(18,.heap rU),(17,.pure true nxG)]) (fun k=>if k=2 then 1 else if k=1 then 0 else 2) [3,4,5,7,8,9,10,11] bZ (aH pA (aH bJe aO)) rfl rfl rfl (by kernel_rfl) (fun K hK=>?_)))
  simp(disch:=omega) only[Tryz.f15,go_sem,↓reduceIte,hC,hC2,hal,hcf,hno,hcl,hct,hB,duC,J8,J9,Bool.and_self]
  refine hK _ ?_
  refine aB ?_
  by_cases hid:B.id=0#32
  ·have d1:decide (B.id=0#32)=true:=J5 hid
   rw[J4 (.inl hid)]at hst
   obtain rfl:=J0 hst
   refine aA rfl (aA rfl (aC (Γ:=bC [(37,.pure true aSu)]) [30,3,4,5,7,8,9,10] (aH bJc aO) rfl rfl rfl (fun K hK=>?_)))
   simp(disch:=omega) only[Tryz.f15,go_sem,↓reduceIte,d1]
   refine hK _ ?_
   refine aB (eC (.tmp 30) rfl rfl rfl (fun h=>?_) (fun h=>?_))
   ·refine aI rfl (aA rfl (bA [6] rfl rfl rfl fun K hK=>?_))
    simp(disch:=omega) only[Tryz.f15,go_sem,↓reduceIte]
    refine hK _ ?_
    refine aB ?_
    refine pS 6 o 0 out.length 15 rfl (by simp(disch:=omega) only[jN,aV,bY,↓reduceIte,eq_self]<;>rfl) (by rw[iJ];omega) ?_
    rw[J9,List.take_of_length_le (by rw[iJ];omega)]
    refine aS rfl (bI (bN (dF (bN ?_))))
    refine⟨rfl,fun j oo hj=>?_,by simp only;omega⟩
    simp(disch:=omega) only[jJ]
    refine hU (fun j oo hj=>?_) j oo hj
    have:=hlt j oo hj
    simp(disch:=omega) only[aV,bY,↓reduceIte]
    exact hj
   refine aI rfl ?_
   cases h
  have d1:decide (B.id=0#32)=false:=J6 hid
  by_cases hw:B.w≤now
  ·have d2:decide (B.w≤now)=true:=J5 hw
   rw[J3 (fun e=>e.elim hid (fun e=>e hw))]at hst
   have hpos:0<C.by'.length:=by
    rcases Nat.eq_zero_or_pos C.by'.length with e|e
    ·have:iP C=[]:=List.eq_nil_of_length_eq_zero (by omega)
     rw[this]at hB
     exact absurd (by rw[←hB];rfl) hid
    exact e
   refine aA rfl (aA rfl (aC (Γ:=bC [(37,.pure true aSu)]) [30,3,4,5,7,8,9,10] (aH bJc aO) rfl rfl rfl (fun K hK=>?_)))
   simp(disch:=omega) only[Tryz.f15,go_sem,↓reduceIte,d1,d2,Bool.not_true,J8]
   refine hK _ ?_
   refine aB (eC (.tmp 30) rfl rfl rfl (fun h=>?_) (fun h=>?_))
   ·refine aI rfl ?_
    cases h
   refine aI rfl (aQ rfl (aB (aA rfl (aA rfl (bA [33,3,4,5,7,8,9,10] rfl rfl rfl fun K hK=>?_)))))
   simp(disch:=omega) only[Tryz.f15,go_sem,↓reduceIte]
   refine hK _ ?_
   refine aB (aW (.tmp 33) rfl rfl rfl (fun h=>?_) (fun h=>?_))
   ·refine aI rfl ?_
    rw[J4 h]at hst
    replace hst:=aJ hst;obtain⟨P1,hP1,hst⟩:=hst
    replace hst:=aJ hst;obtain⟨k,hk,hst⟩:=hst
    obtain⟨Z,hZ⟩: ∃Z,lH 0 (iP C)=Z:=⟨_,rfl⟩
    have hZl:Z.length≤100:=by have:=jP 0 (iP C);rw[hZ]at this;omega
    rw[hZ]at hP1
    have hcx: ∃c0,c+11+200+100*C.by'.length=c0:=⟨_,rfl⟩
    refine aA rfl (aC (Γ:=bC [(18,.heap rU),(29,.pure false ofG)]) [3,4,5,7,8,9,10,36,37,38] (aH pA (aH aGh aO)) rfl rfl rfl (fun K hK=>?_))
    simp(disch:=omega) only[Tryz.f15,go_sem,↓reduceIte,hC2,hal,hpos,hZ]
    refine hK _ ?_
    refine aB (aR 2 rfl rfl ?_)
    refine bR (fun p:AIX=> {fr:=[(3,.op nx 0),(4,.rp (cfC cf)),(5,.rp [.w32 now]),(7,.op (nx+4) 0),(8,.fn 34 [.op nx 0,.rp [.w32 now],.op (nx+4) 0]),(9,.w32 B.id),(10,.i B.st),(36,.sl Z.length (jQ Z)),(37,.i Z.length),(38,.i p.q)],hp:=iL d s m p.C (upd (upd (upd hp nx (.cells [.op d 0] true)) p.o (.cells (jQ p.out) true)) (nx+4) (.cells [.os p.o 0 p.out.length 15 true] true)),nx:=0,cx:=p.c}) (fun p=>yN (Z.drop p.q) p.C now p.out=some P1∧p.q≤Z.length∧p.C.by'.length≤100∧p.out.length≤out.length+p.q∧nx+4<p.o∧p.o<p.c∧p.c≤c+30000+400*p.q) (fun p=>Z.length-p.q) rfl ⟨⟨0,C,out,o,_⟩,⟨hP1,Nat.zero_le _,hC,U3 _,by simp only;omega,by simp only;omega,by simp only;omega⟩,⟨fun x=> .inr rfl,fun j o hj=>hj,U3 _⟩⟩ ?_
    rintro⟨q,C1,out1,o1,c1⟩ ⟨hac,hq,hC1,hout1,ho3,ho4,hcc1⟩ n0
    simp only at hac hq hC1 hout1 ho3 ho4 hcc1⊢
    refine aA rfl (bA [39,3,4,5,7,8,9,10,36,37,38] rfl rfl rfl fun K hK=>?_)
    simp(disch:=omega) only[Tryz.f15,go_sem,↓reduceIte]
    refine hK _ ?_
    refine aB (aA rfl (aW (.tmp 39) rfl rfl rfl (fun h=>?_) (fun h=>?_)))
    ·refine aI rfl ?_
     have hqZ:q<Z.length:=by omega
     have hrow:=lC Z q hqZ
     have hkl:=iJ Z
     have hdl:15≤(List.drop (15*q) (jQ Z)).length:=by rw[List.length_drop];omega
     have e15:q*15=15*q:=by omega
     have hdr:Z.drop q=kyA Z q::Z.drop (q+1):=by rw[List.drop_eq_getElem_cons hqZ,kJ Z q hqZ]
     obtain⟨X,hX⟩: ∃X,kyA Z q=X:=⟨_,rfl⟩
     rw[hX]at hrow hdr
     rw[hdr,yN]at hac
     have hol1:out1.length≤20000:=by omega
     refine aQ rfl (aB (aA rfl (aR 3 rfl rfl (aA rfl (bA [3,4,5,7,8,9,10,13,36,37,38] rfl rfl rfl fun K hK=>?_)))))
     simp(disch:=omega) only[Tryz.f15,go_sem,↓reduceIte,hrow,hdl,e15]
     refine hK _ ?_
     refine aB (aA rfl (bA [44,3,4,5,7,8,9,10,13,36,37,38] rfl rfl rfl fun K hK=>?_))
     simp(disch:=omega) only[Tryz.f15,go_sem,↓reduceIte,kyC,J8,J7,J9]
     refine hK _ ?_
     refine aB (aW (.tmp 44) rfl rfl rfl (fun h=>?_) (fun h=>?_))
     ·refine aI rfl ?_
      rw[J4 h]at hac
      replace hac:=aJ hac;obtain⟨k1,hk1,hac⟩:=hac
      refine aC (Γ:=bC [(34,.heap stG)]) [3,4,5,7,8,9,10,36,37,38] (aH bJd aO) rfl rfl rfl (fun K hK=>?_)
      simp(disch:=omega) only[Tryz.f15,go_sem,↓reduceIte,hk1,hol1,true_and,J8,J9]
      refine hK _ ?_
      refine bU (aB (bA [3,4,5,7,8,9,10,36,37,38] rfl rfl rfl fun K hK=>?_))
      simp(disch:=omega) only[Tryz.f15,go_sem,↓reduceIte]
      refine hK _ ?_
      refine bT ?_
      have hll:(out1++[tkV k1 3 now]).length=out1.length+1:=by rw[List.length_append];rfl
      have htl:=zX C1 X.id 3 now
      refine⟨⟨q+1,(tnV C1 X.id 3 now).2,out1++[tkV k1 3 now],c1+1+4+3+4+173,_⟩,⟨hac,by simp only;omega,by simp only;omega,by simp only[hll];omega,by simp only;omega,by simp only;omega,by simp only;omega⟩,by simp only;omega,⟨fun x=> .inr (by simp only[Int.natCast_add,Int.natCast_one]),fun j oo hj=>hU (fun j oo hj=>?_) j oo hj,U3 _⟩⟩
      simp only[bJ,eV,hll]at hj⊢
      by_cases q1:j=nx+4
      ·rw[J4 q1]at hj⊢;exact hj
      rw[J3 q1]at hj⊢
      by_cases q2:j=c1+1+4+3+4+173
      ·rw[J4 q2]at hj⊢;exact hj
      rw[J3 q2]at hj⊢
      by_cases q3:j=nx
      ·rw[J4 q3]at hj;rw[J3 (by omega),J3 (by omega),J3 (by omega),J3 (by omega),J4 q3];exact hj
      rw[J3 q3]at hj
      have:=hlt j oo hj
      rw[J3 (by omega),J3 (by omega),J3 (by omega),J3 (by omega),J3 q3];exact hj
     refine aI rfl ?_
     rw[J3 h]at hac
     refine aQ rfl (bU (aB (bA [3,4,5,7,8,9,10,36,37,38] rfl rfl rfl fun K hK=>?_)))
     simp(disch:=omega) only[Tryz.f15,go_sem,↓reduceIte]
     refine hK _ ?_
     refine bT ?_
     refine⟨⟨q+1,C1,out1,o1,_⟩,⟨hac,by simp only;omega,hC1,by simp only;omega,by simp only;omega,by simp only;omega,by simp only;omega⟩,by simp only;omega,⟨fun x=> .inr (by simp only[Int.natCast_add,Int.natCast_one]),fun j oo hj=>hU (fun j oo hj=>?_) j oo hj,U3 _⟩⟩
     simp only[bJ]at hj⊢
     by_cases q1:j=nx+4
     ·rw[J4 q1]at hj;rw[J3 (by omega),J4 q1];exact hj
     rw[J3 q1]at hj
     by_cases q2:j=o1
     ·rw[J4 q2]at hj;rw[J3 (by omega),J3 q1,J4 q2];exact hj
     rw[J3 q2]at hj
     by_cases q3:j=nx
     ·rw[J4 q3]at hj;rw[J3 (by omega),J3 q1,J3 q2,J4 q3];exact hj
     rw[J3 q3]at hj
     have:=hlt j oo hj
     rw[J3 (by omega),J3 q1,J3 q2,J3 q3];exact hj
    refine aI rfl (bF 2 rfl rfl (aY (aZ (bE (aB ?_)))))
    obtain rfl:q=Z.length:=by omega
    rw[List.drop_length,yN]at hac
    obtain rfl:=J0 hac
    have hol:out1.length≤20000:=by omega
    refine aC (Γ:=bC [(34,.heap stG)]) [3,4,5,7,8] (aH bJd aO) rfl rfl rfl (fun K hK=>?_)
    simp(disch:=omega) only[Tryz.f15,go_sem,↓reduceIte,hk,hol,true_and]
    refine hK _ ?_
    refine bU (bT ?_)
    have hll:(out1++[tkV k B.st now]).length=out1.length+1:=by rw[List.length_append];rfl
    have htl:=zX C1 B.id B.st now
    refine⟨⟨f,(tnV C1 B.id B.st now).2,out1++[tkV k B.st now],c1+1+4+173,_⟩,⟨hst,by simp only;omega,by simp only;omega,by simp only[hll];omega,by simp only;omega,by simp only;omega,by simp only;omega⟩,by simp only;omega,⟨fun x=> .inr rfl,fun j oo hj=>hU (fun j oo hj=>?_) j oo hj,U3 _⟩⟩
    simp only[bJ,eV,hll]at hj⊢
    by_cases q1:j=nx+4
    ·rw[J4 q1]at hj⊢;exact hj
    rw[J3 q1]at hj⊢
    by_cases q2:j=c1+1+4+173
    ·rw[J4 q2]at hj⊢;exact hj
    rw[J3 q2]at hj⊢
    by_cases q3:j=nx
    ·rw[J4 q3]at hj;rw[J3 (by omega),J3 (by omega),J3 (by omega),J4 q3];exact hj
    rw[J3 q3]at hj
    have:=hlt j oo hj
    rw[J3 (by omega),J3 (by omega),J3 (by omega),J3 q3];exact hj
   refine aI rfl ?_
   rw[J3 h]at hst
   rw[aX]at hst
   replace hst:=aJ hst;obtain⟨k,hk,hst⟩:=hst
   refine aQ rfl (aB (aC (Γ:=bC [(34,.heap stG)]) [3,4,5,7,8] (aH bJd aO) rfl rfl rfl (fun K hK=>?_)))
   simp(disch:=omega) only[Tryz.f15,go_sem,↓reduceIte,hk,hol,true_and]
   refine hK _ ?_
   refine bU (bT ?_)
   have hll:(out++[tkV k B.st now]).length=out.length+1:=by rw[List.length_append];rfl
   have htl:=zX C B.id B.st now
   refine⟨⟨f,(tnV C B.id B.st now).2,out++[tkV k B.st now],c+11+200+100*C.by'.length+8+2+4+173,_⟩,⟨hst,by simp only;omega,by simp only;omega,by simp only[hll];omega,by simp only;omega,by simp only;omega,by simp only;omega⟩,by simp only;omega,⟨fun x=> .inr rfl,fun j oo hj=>hU (fun j oo hj=>?_) j oo hj,U3 _⟩⟩
   simp only[bJ,eV,hll]at hj⊢
   by_cases q1:j=nx+4
   ·rw[J4 q1]at hj⊢;exact hj
   rw[J3 q1]at hj⊢
   by_cases q2:j=c+11+200+100*C.by'.length+8+2+4+173
   ·rw[J4 q2]at hj⊢;exact hj
   rw[J3 q2]at hj⊢
   by_cases q3:j=nx
   ·rw[J4 q3]at hj;rw[J3 (by omega),J3 (by omega),J3 (by omega),J4 q3];exact hj
   rw[J3 q3]at hj
   have:=hlt j oo hj
   rw[J3 (by omega),J3 (by omega),J3 (by omega),J3 q3];exact hj
  have d2:decide (B.w≤now)=false:=J6 hw
  rw[J4 (.inr hw)]at hst
  obtain rfl:=J0 hst
  refine aA rfl (aA rfl (aC (Γ:=bC [(37,.pure true aSu)]) [30,3,4,5,7,8,9,10] (aH bJc aO) rfl rfl rfl (fun K hK=>?_)))
  simp(disch:=omega) only[Tryz.f15,go_sem,↓reduceIte,d1,d2,Bool.not_false,J8]
  refine hK _ ?_
  refine aB (eC (.tmp 30) rfl rfl rfl (fun h=>?_) (fun h=>?_))
  ·refine aI rfl (aA rfl (bA [6] rfl rfl rfl fun K hK=>?_))
   simp(disch:=omega) only[Tryz.f15,go_sem,↓reduceIte]
   refine hK _ ?_
   refine aB ?_
   refine pS 6 o 0 out.length 15 rfl (by simp(disch:=omega) only[jN,aV,bY,↓reduceIte,eq_self]<;>rfl) (by rw[iJ];omega) ?_
   rw[J9,List.take_of_length_le (by rw[iJ];omega)]
   refine aS rfl (bI (bN (dF (bN ?_))))
   refine⟨rfl,fun j oo hj=>?_,by simp only;omega⟩
   simp(disch:=omega) only[jJ]
   refine hU (fun j oo hj=>?_) j oo hj
   have:=hlt j oo hj
   simp(disch:=omega) only[aV,bY,↓reduceIte]
   exact hj
  refine aI rfl ?_
  cases h
 cases hg
theorem aVz:bX Tryz.prog GLh 15 (.heap yS):=⟨⟨_,Tryz.func15,rfl,rfl⟩,bTn⟩
end Go.AX

namespace Go.AX
open Go Go.Proofs
set_option maxRecDepth 8000
def bgS (role:Int) (n:Nat):Option Int:=if n=0 then some (if role=0 then 1 else 2)else if n=1 then some (if role=0 then 0 else 1)else none
def bgV (C:RC) (role:Int) (seed:S8) (now:W32):W32×Int×RC:=
 if role≠0∧role≠1 then(0#32,131,C)else
 match bgS role (lH role (iP C)).length with
 |none=>(0#32,140,C)
 |some st=>if(mkV C role seed st now).2.1≠0 then(0#32,(mkV C role seed st now).2.1,(mkV C role seed st now).2.2)
  else((mkV C role seed st now).1,0,if st=2 then(snV (mkV C role seed st now).2.2 (mkV C role seed st now).1 now).2 else(mkV C role seed st now).2.2)
noncomputable def bgG:List AV→H→Nat→Option (AV×H×Nat)
 |[.op d 0,.agg cs,.i role,.agg xs,.w32 now],hp,nx=>aK (iN hp d) fun t=>aK (oW cs) fun _=>aK (un8 xs) fun l=>aK (s8L l) fun sd=>aN (ROk t.C∧t.C.last.toNat<1000000∧t.C.c.h≤10∧0<t.C.by'.length∧t.C.by'.length≤100)
   (some (.tup [.w32 (bgV t.C role sd now).1,.i (bgV t.C role sd now).2.1],iL d t.s t.m (bgV t.C role sd now).2.2 hp,nx+20000))
 |_,_,_=>none
theorem cRg (d:Nat) (cs:List AV) (role:Int) (now:W32) (xs:List AV) (hp:H) (nx:Nat):bgG [.op d 0,.agg cs,.i role,.agg xs,.w32 now] hp nx=aK (iN hp d) fun t=>aK (oW cs) fun _=>aK (un8 xs) fun l=>aK (s8L l) fun sd=>aN (ROk t.C∧t.C.last.toNat<1000000∧t.C.c.h≤10∧0<t.C.by'.length∧t.C.by'.length≤100)
   (some (.tup [.w32 (bgV t.C role sd now).1,.i (bgV t.C role sd now).2.1],iL d t.s t.m (bgV t.C role sd now).2.2 hp,nx+20000)):=(rfl)
attribute [go_sem] cRg
set_option maxHeartbeats 2000000 in
theorem dCg:cQ Tryz.prog GLh 8 bgG:=by
 refine gF Tryz.func8 (aT rfl) ?_
 intro args hp nx r hp' nx' hg
 unfold bgG at hg
 split at hg
 ·rename_i d cs role xs now
  replace hg:=aJ hg;obtain⟨⟨s,m,C⟩,hD0,hg⟩:=hg
  have hD:=iV hD0
  replace hg:=aJ hg;obtain⟨cf,hcf,hg⟩:=hg
  have:=lF hcf;subst this
  replace hg:=aJ hg;obtain⟨l8,hl8,hg⟩:=hg
  have:=iX _ hl8;subst this
  replace hg:=aJ hg;obtain⟨S,hS8,hg⟩:=hg
  have:=vN hS8;subst this
  have e0:c8 S.l=[.w8 S.a,.w8 S.b,.w8 S.c,.w8 S.d,.w8 S.e,.w8 S.f,.w8 S.g,.w8 S.h]:=rfl
  rw[e0]
  replace hg:=aP hg;obtain⟨⟨hok,hla,hh,hpos,hC⟩,hg⟩:=hg
  simp only[Option.some.injEq,Prod.mk.injEq]at hg hD hok hla hh hpos hC;obtain⟨rfl,rfl,rfl⟩:=hg
  refine⟨J1 rfl,by omega,fun hnone=>?_⟩
  have h1:=hD.hd;have h2:=hD.hs;have h3:=hD.hm
  obtain⟨n1,n2,n3,n4,n5,n6⟩:=hD.ne
  have hlt: ∀k o,hp k=some o→k<nx:=fun k o hk=>lI hnone hk
  have hd:=hlt _ _ h1
  have hs:=hlt _ _ h2
  have hm:=hlt _ _ h3
  have hset:=iQ hD
  have hC2:C.by'.length≤1000:=by omega
  have hal:=qL C
  have hs8:s8L [S.a,S.b,S.c,S.d,S.e,S.f,S.g,S.h]=some S:=rfl
  rw[←hset,rZ]
  refine aA rfl (bA [0,2,4,8] rfl rfl rfl fun K hK=>?_)
  simp(disch:=omega) only[Tryz.f8,go_sem,↓reduceIte]
  refine hK _ ?_
  refine aB ?_
  rcases(by omega:role=0∨role=1∨(role≠0∧role≠1))with hr|hr|⟨hr0,hr1⟩
  ·subst hr
   obtain⟨Z,hZ⟩: ∃Z,lH 0 (iP C)=Z:=⟨_,rfl⟩
   refine aA rfl (aA rfl (bA [20,0,2,4,8] rfl rfl rfl fun K hK=>?_))
   simp(disch:=omega) only[Tryz.f8,go_sem,↓reduceIte,decide_true,Bool.not_true]
   refine hK _ ?_
   refine aB (eC (.tmp 20) rfl rfl rfl (fun h=>?_) (fun h=>?_))
   ·refine aI rfl ?_
    cases h
   refine aI rfl (aQ rfl (aB (aA rfl (bA [0,2,4,8,12] rfl rfl rfl fun K hK=>?_))))
   simp(disch:=omega) only[Tryz.f8,go_sem,↓reduceIte,J8,J9]
   refine hK _ ?_
   refine aB (aA rfl (aA rfl (aC (Γ:=bC [(18,.heap rU),(29,.pure false ofG)]) [0,2,4,8,12,29] (aH pA (aH aGh aO)) rfl rfl rfl (fun K hK=>?_))))
   simp(disch:=omega) only[Tryz.f8,go_sem,↓reduceIte,hC2,hal,hpos,hZ]
   refine hK _ ?_
   refine aB ?_
   rcases(by omega:Z.length=0∨Z.length=1∨2≤Z.length)with hz|hz|hz
   ·have hzi:((Z.length:Nat):Int)=0:=by rw[hz];rfl
    have es:bgS 0 Z.length=some 1:=by rw[hz];rfl
    have eb:bgV C 0 S now=(if(mkV C 0 S 1 now).2.1≠0 then(0#32,(mkV C 0 S 1 now).2.1,(mkV C 0 S 1 now).2.2)else((mkV C 0 S 1 now).1,0,if(1:Int)=2 then(snV (mkV C 0 S 1 now).2.2 (mkV C 0 S 1 now).1 now).2 else(mkV C 0 S 1 now).2.2)):=by
     unfold bgV
     rw[J3 (by omega),hZ,es]
    obtain⟨⟨mi,me,mC⟩,hM⟩: ∃p,mkV C 0 S 1 now=p:=⟨_,rfl⟩
    rw[hM]at eb
    simp only at eb
    refine aR 0 rfl rfl (aA rfl (bA [30,0,2,4,8,12,29] rfl rfl rfl fun K hK=>?_))
    simp(disch:=omega) only[Tryz.f8,go_sem,↓reduceIte,hzi,decide_true]
    refine hK _ ?_
    refine aB (eC (.tmp 30) rfl rfl rfl (fun h=>?_) (fun h=>?_))
    ·refine aI rfl (bA [0,2,4,8,12] rfl rfl rfl fun K hK=>?_)
     simp(disch:=omega) only[Tryz.f8,go_sem,↓reduceIte,J8,J9]
     refine hK _ ?_
     refine bU (aB (aA rfl (aC (Γ:=bC [(25,.heap uF)]) [0,4,12,13,14] (aH aZx aO) rfl rfl rfl (fun K hK=>?_))))
     simp(disch:=omega) only[Tryz.f8,go_sem,↓reduceIte,hok,hla,hh,hs8,hM,true_and]
     refine hK _ ?_
     refine aB (aA rfl (aA rfl (bA [48,0,4,12,13,14] rfl rfl rfl fun K hK=>?_)))
     simp(disch:=omega) only[Tryz.f8,go_sem,↓reduceIte]
     refine hK _ ?_
     refine aB (xF (.tmp 48) rfl rfl rfl (fun h=>?_) (fun h=>?_))
     ·refine aI rfl ?_
      rw[J4 h]at eb
      rw[eb]
      refine aA rfl (bA [10,11] rfl rfl rfl fun K hK=>?_)
      simp(disch:=omega) only[Tryz.f8,go_sem,↓reduceIte]
      refine hK _ ?_
      refine aB (aS rfl (bI ?_))
      exact⟨rfl,fun j o hj=>hU (fun j o hj=>by {have:=hlt j o hj;simp(disch:=omega) only[aV,bY,↓reduceIte];exact hj}) j o hj,by simp only;omega⟩
     refine aI rfl ?_
     rw[J3 (fun e=>e h)]at eb
     rw[eb,J3 (by decide)]
     refine aQ rfl (aB (aA rfl (aA rfl (bA [51,0,4,13] rfl rfl rfl fun K hK=>?_))))
     simp(disch:=omega) only[Tryz.f8,go_sem,↓reduceIte,decide_false]
     refine hK _ ?_
     refine aB (eC (.tmp 51) rfl rfl rfl (fun h=>?_) (fun h=>?_))
     ·refine aI rfl ?_
      cases h
     refine aI rfl (aQ rfl (aB (aA rfl (bA [10,11] rfl rfl rfl fun K hK=>?_))))
     simp(disch:=omega) only[Tryz.f8,go_sem,↓reduceIte]
     refine hK _ ?_
     refine aB (aS rfl ?_)
     exact⟨rfl,fun j o hj=>hU (fun j o hj=>by {have:=hlt j o hj;simp(disch:=omega) only[aV,bY,↓reduceIte];exact hj}) j o hj,by simp only;omega⟩
    refine aI rfl ?_
    cases h
   ·have hzi:((Z.length:Nat):Int)=1:=by rw[hz];rfl
    have es:bgS 0 Z.length=some 0:=by rw[hz];rfl
    have eb:bgV C 0 S now=(if(mkV C 0 S 0 now).2.1≠0 then(0#32,(mkV C 0 S 0 now).2.1,(mkV C 0 S 0 now).2.2)else((mkV C 0 S 0 now).1,0,if(0:Int)=2 then(snV (mkV C 0 S 0 now).2.2 (mkV C 0 S 0 now).1 now).2 else(mkV C 0 S 0 now).2.2)):=by
     unfold bgV
     rw[J3 (by omega),hZ,es]
    obtain⟨⟨mi,me,mC⟩,hM⟩: ∃p,mkV C 0 S 0 now=p:=⟨_,rfl⟩
    rw[hM]at eb
    simp only at eb
    refine aR 0 rfl rfl (aA rfl (bA [30,0,2,4,8,12,29] rfl rfl rfl fun K hK=>?_))
    simp(disch:=omega) only[Tryz.f8,go_sem,↓reduceIte,hzi,decide_false]
    refine hK _ ?_
    refine aB (eC (.tmp 30) rfl rfl rfl (fun h=>?_) (fun h=>?_))
    ·refine aI rfl ?_
     cases h
    refine aI rfl (aA rfl (bA [36,0,2,4,8,12] rfl rfl rfl fun K hK=>?_))
    simp(disch:=omega) only[Tryz.f8,go_sem,↓reduceIte,decide_true]
    refine hK _ ?_
    refine aB (eC (.tmp 36) rfl rfl rfl (fun h=>?_) (fun h=>?_))
    ·refine aI rfl (aQ rfl (bU (aB (aA rfl (aC (Γ:=bC [(25,.heap uF)]) [0,4,12,13,14] (aH aZx aO) rfl rfl rfl (fun K hK=>?_))))))
     simp(disch:=omega) only[Tryz.f8,go_sem,↓reduceIte,hok,hla,hh,hs8,hM,true_and]
     refine hK _ ?_
     refine aB (aA rfl (aA rfl (bA [48,0,4,12,13,14] rfl rfl rfl fun K hK=>?_)))
     simp(disch:=omega) only[Tryz.f8,go_sem,↓reduceIte]
     refine hK _ ?_
     refine aB (xF (.tmp 48) rfl rfl rfl (fun h=>?_) (fun h=>?_))
     ·refine aI rfl ?_
      rw[J4 h]at eb
      rw[eb]
      refine aA rfl (bA [10,11] rfl rfl rfl fun K hK=>?_)
      simp(disch:=omega) only[Tryz.f8,go_sem,↓reduceIte]
      refine hK _ ?_
      refine aB (aS rfl (bI ?_))
      exact⟨rfl,fun j o hj=>hU (fun j o hj=>by {have:=hlt j o hj;simp(disch:=omega) only[aV,bY,↓reduceIte];exact hj}) j o hj,by simp only;omega⟩
     refine aI rfl ?_
     rw[J3 (fun e=>e h)]at eb
     rw[eb,J3 (by decide)]
     refine aQ rfl (aB (aA rfl (aA rfl (bA [51,0,4,13] rfl rfl rfl fun K hK=>?_))))
     simp(disch:=omega) only[Tryz.f8,go_sem,↓reduceIte,decide_false]
     refine hK _ ?_
     refine aB (eC (.tmp 51) rfl rfl rfl (fun h=>?_) (fun h=>?_))
     ·refine aI rfl ?_
      cases h
     refine aI rfl (aQ rfl (aB (aA rfl (bA [10,11] rfl rfl rfl fun K hK=>?_))))
     simp(disch:=omega) only[Tryz.f8,go_sem,↓reduceIte]
     refine hK _ ?_
     refine aB (aS rfl ?_)
     exact⟨rfl,fun j o hj=>hU (fun j o hj=>by {have:=hlt j o hj;simp(disch:=omega) only[aV,bY,↓reduceIte];exact hj}) j o hj,by simp only;omega⟩
    refine aI rfl ?_
    cases h
   have dz0:decide (((Z.length:Nat):Int)=0)=false:=J6 (by omega)
   have dz1:decide (((Z.length:Nat):Int)=1)=false:=J6 (by omega)
   have es:bgS 0 Z.length=none:=by unfold bgS;rw[J3 (by omega),J3 (by omega)]
   have eb:bgV C 0 S now=(0#32,140,C):=by
    unfold bgV
    rw[J3 (by omega),hZ,es]
   rw[eb]
   refine aR 0 rfl rfl (aA rfl (bA [30,0,2,4,8,12,29] rfl rfl rfl fun K hK=>?_))
   simp(disch:=omega) only[Tryz.f8,go_sem,↓reduceIte,dz0]
   refine hK _ ?_
   refine aB (eC (.tmp 30) rfl rfl rfl (fun h=>?_) (fun h=>?_))
   ·refine aI rfl ?_
    cases h
   refine aI rfl (aA rfl (bA [36,0,2,4,8,12] rfl rfl rfl fun K hK=>?_))
   simp(disch:=omega) only[Tryz.f8,go_sem,↓reduceIte,dz1]
   refine hK _ ?_
   refine aB (eC (.tmp 36) rfl rfl rfl (fun h=>?_) (fun h=>?_))
   ·refine aI rfl ?_
    cases h
   refine aI rfl (aA rfl (bA [10,11] rfl rfl rfl fun K hK=>?_))
   simp(disch:=omega) only[Tryz.f8,go_sem,↓reduceIte]
   refine hK _ ?_
   refine aB (aS rfl (bN (bI ?_)))
   exact⟨rfl,fun j o hj=>hU (fun j o hj=>by {have:=hlt j o hj;simp(disch:=omega) only[aV,bY,↓reduceIte];exact hj}) j o hj,by simp only;omega⟩
  ·subst hr
   obtain⟨Z,hZ⟩: ∃Z,lH 1 (iP C)=Z:=⟨_,rfl⟩
   refine aA rfl (aA rfl (bA [20,0,2,4,8] rfl rfl rfl fun K hK=>?_))
   simp(disch:=omega) only[Tryz.f8,go_sem,↓reduceIte,decide_true,decide_false,Bool.not_true,Bool.not_false]
   refine hK _ ?_
   refine aB (eC (.tmp 20) rfl rfl rfl (fun h=>?_) (fun h=>?_))
   ·refine aI rfl ?_
    cases h
   refine aI rfl (aQ rfl (aB (aA rfl (bA [0,2,4,8,12] rfl rfl rfl fun K hK=>?_))))
   simp(disch:=omega) only[Tryz.f8,go_sem,↓reduceIte,J8,J7,J9]
   refine hK _ ?_
   refine aB (aA rfl (aA rfl (aC (Γ:=bC [(18,.heap rU),(29,.pure false ofG)]) [0,2,4,8,12,29] (aH pA (aH aGh aO)) rfl rfl rfl (fun K hK=>?_))))
   simp(disch:=omega) only[Tryz.f8,go_sem,↓reduceIte,hC2,hal,hpos,hZ]
   refine hK _ ?_
   refine aB ?_
   rcases(by omega:Z.length=0∨Z.length=1∨2≤Z.length)with hz|hz|hz
   ·have hzi:((Z.length:Nat):Int)=0:=by rw[hz];rfl
    have es:bgS 1 Z.length=some 2:=by rw[hz];rfl
    have eb:bgV C 1 S now=(if(mkV C 1 S 2 now).2.1≠0 then(0#32,(mkV C 1 S 2 now).2.1,(mkV C 1 S 2 now).2.2)else((mkV C 1 S 2 now).1,0,if(2:Int)=2 then(snV (mkV C 1 S 2 now).2.2 (mkV C 1 S 2 now).1 now).2 else(mkV C 1 S 2 now).2.2)):=by
     unfold bgV
     rw[J3 (by omega),hZ,es]
    obtain⟨⟨mi,me,mC⟩,hM⟩: ∃p,mkV C 1 S 2 now=p:=⟨_,rfl⟩
    rw[hM]at eb
    simp only at eb
    refine aR 0 rfl rfl (aA rfl (bA [30,0,2,4,8,12,29] rfl rfl rfl fun K hK=>?_))
    simp(disch:=omega) only[Tryz.f8,go_sem,↓reduceIte,hzi,decide_true]
    refine hK _ ?_
    refine aB (eC (.tmp 30) rfl rfl rfl (fun h=>?_) (fun h=>?_))
    ·refine aI rfl (bA [0,2,4,8,12] rfl rfl rfl fun K hK=>?_)
     simp(disch:=omega) only[Tryz.f8,go_sem,↓reduceIte,J8,J7,J9]
     refine hK _ ?_
     refine bU (aB (aA rfl (aC (Γ:=bC [(25,.heap uF)]) [0,4,12,13,14] (aH aZx aO) rfl rfl rfl (fun K hK=>?_))))
     simp(disch:=omega) only[Tryz.f8,go_sem,↓reduceIte,hok,hla,hh,hs8,hM,true_and]
     refine hK _ ?_
     refine aB (aA rfl (aA rfl (bA [48,0,4,12,13,14] rfl rfl rfl fun K hK=>?_)))
     simp(disch:=omega) only[Tryz.f8,go_sem,↓reduceIte]
     refine hK _ ?_
     refine aB (xF (.tmp 48) rfl rfl rfl (fun h=>?_) (fun h=>?_))
     ·refine aI rfl ?_
      rw[J4 h]at eb
      rw[eb]
      refine aA rfl (bA [10,11] rfl rfl rfl fun K hK=>?_)
      simp(disch:=omega) only[Tryz.f8,go_sem,↓reduceIte]
      refine hK _ ?_
      refine aB (aS rfl (bI ?_))
      exact⟨rfl,fun j o hj=>hU (fun j o hj=>by {have:=hlt j o hj;simp(disch:=omega) only[aV,bY,↓reduceIte];exact hj}) j o hj,by simp only;omega⟩
     refine aI rfl ?_
     rw[J3 (fun e=>e h)]at eb
     rw[eb,J4 trivial]
     refine aQ rfl (aB (aA rfl (aA rfl (bA [51,0,4,13] rfl rfl rfl fun K hK=>?_))))
     simp(disch:=omega) only[Tryz.f8,go_sem,↓reduceIte,decide_true]
     refine hK _ ?_
     refine aB (eC (.tmp 51) rfl rfl rfl (fun h=>?_) (fun h=>?_))
     ·refine aI rfl (aC (Γ:=bC [(27,.heap aBj)]) [13] (aH bJf aO) rfl rfl rfl (fun K hK=>?_))
      simp(disch:=omega) only[Tryz.f8,go_sem,↓reduceIte]
      refine hK _ ?_
      refine aB (aA rfl (bA [10,11] rfl rfl rfl fun K hK=>?_))
      simp(disch:=omega) only[Tryz.f8,go_sem,↓reduceIte]
      refine hK _ ?_
      refine aB (aS rfl ?_)
      exact⟨rfl,fun j o hj=>hU (fun j o hj=>by {have:=hlt j o hj;simp(disch:=omega) only[aV,bY,↓reduceIte];exact hj}) j o hj,by simp only;omega⟩
     refine aI rfl ?_
     cases h
    refine aI rfl ?_
    cases h
   ·have hzi:((Z.length:Nat):Int)=1:=by rw[hz];rfl
    have es:bgS 1 Z.length=some 1:=by rw[hz];rfl
    have eb:bgV C 1 S now=(if(mkV C 1 S 1 now).2.1≠0 then(0#32,(mkV C 1 S 1 now).2.1,(mkV C 1 S 1 now).2.2)else((mkV C 1 S 1 now).1,0,if(1:Int)=2 then(snV (mkV C 1 S 1 now).2.2 (mkV C 1 S 1 now).1 now).2 else(mkV C 1 S 1 now).2.2)):=by
     unfold bgV
     rw[J3 (by omega),hZ,es]
    obtain⟨⟨mi,me,mC⟩,hM⟩: ∃p,mkV C 1 S 1 now=p:=⟨_,rfl⟩
    rw[hM]at eb
    simp only at eb
    refine aR 0 rfl rfl (aA rfl (bA [30,0,2,4,8,12,29] rfl rfl rfl fun K hK=>?_))
    simp(disch:=omega) only[Tryz.f8,go_sem,↓reduceIte,hzi,decide_false]
    refine hK _ ?_
    refine aB (eC (.tmp 30) rfl rfl rfl (fun h=>?_) (fun h=>?_))
    ·refine aI rfl ?_
     cases h
    refine aI rfl (aA rfl (bA [36,0,2,4,8,12] rfl rfl rfl fun K hK=>?_))
    simp(disch:=omega) only[Tryz.f8,go_sem,↓reduceIte,decide_true]
    refine hK _ ?_
    refine aB (eC (.tmp 36) rfl rfl rfl (fun h=>?_) (fun h=>?_))
    ·refine aI rfl (aQ rfl (bU (aB (aA rfl (aC (Γ:=bC [(25,.heap uF)]) [0,4,12,13,14] (aH aZx aO) rfl rfl rfl (fun K hK=>?_))))))
     simp(disch:=omega) only[Tryz.f8,go_sem,↓reduceIte,hok,hla,hh,hs8,hM,true_and]
     refine hK _ ?_
     refine aB (aA rfl (aA rfl (bA [48,0,4,12,13,14] rfl rfl rfl fun K hK=>?_)))
     simp(disch:=omega) only[Tryz.f8,go_sem,↓reduceIte]
     refine hK _ ?_
     refine aB (xF (.tmp 48) rfl rfl rfl (fun h=>?_) (fun h=>?_))
     ·refine aI rfl ?_
      rw[J4 h]at eb
      rw[eb]
      refine aA rfl (bA [10,11] rfl rfl rfl fun K hK=>?_)
      simp(disch:=omega) only[Tryz.f8,go_sem,↓reduceIte]
      refine hK _ ?_
      refine aB (aS rfl (bI ?_))
      exact⟨rfl,fun j o hj=>hU (fun j o hj=>by {have:=hlt j o hj;simp(disch:=omega) only[aV,bY,↓reduceIte];exact hj}) j o hj,by simp only;omega⟩
     refine aI rfl ?_
     rw[J3 (fun e=>e h)]at eb
     rw[eb,J3 (by decide)]
     refine aQ rfl (aB (aA rfl (aA rfl (bA [51,0,4,13] rfl rfl rfl fun K hK=>?_))))
     simp(disch:=omega) only[Tryz.f8,go_sem,↓reduceIte,decide_false]
     refine hK _ ?_
     refine aB (eC (.tmp 51) rfl rfl rfl (fun h=>?_) (fun h=>?_))
     ·refine aI rfl ?_
      cases h
     refine aI rfl (aQ rfl (aB (aA rfl (bA [10,11] rfl rfl rfl fun K hK=>?_))))
     simp(disch:=omega) only[Tryz.f8,go_sem,↓reduceIte]
     refine hK _ ?_
     refine aB (aS rfl ?_)
     exact⟨rfl,fun j o hj=>hU (fun j o hj=>by {have:=hlt j o hj;simp(disch:=omega) only[aV,bY,↓reduceIte];exact hj}) j o hj,by simp only;omega⟩
    refine aI rfl ?_
    cases h
   have dz0:decide (((Z.length:Nat):Int)=0)=false:=J6 (by omega)
   have dz1:decide (((Z.length:Nat):Int)=1)=false:=J6 (by omega)
   have es:bgS 1 Z.length=none:=by unfold bgS;rw[J3 (by omega),J3 (by omega)]
   have eb:bgV C 1 S now=(0#32,140,C):=by
    unfold bgV
    rw[J3 (by omega),hZ,es]
   rw[eb]
   refine aR 0 rfl rfl (aA rfl (bA [30,0,2,4,8,12,29] rfl rfl rfl fun K hK=>?_))
   simp(disch:=omega) only[Tryz.f8,go_sem,↓reduceIte,dz0]
   refine hK _ ?_
   refine aB (eC (.tmp 30) rfl rfl rfl (fun h=>?_) (fun h=>?_))
   ·refine aI rfl ?_
    cases h
   refine aI rfl (aA rfl (bA [36,0,2,4,8,12] rfl rfl rfl fun K hK=>?_))
   simp(disch:=omega) only[Tryz.f8,go_sem,↓reduceIte,dz1]
   refine hK _ ?_
   refine aB (eC (.tmp 36) rfl rfl rfl (fun h=>?_) (fun h=>?_))
   ·refine aI rfl ?_
    cases h
   refine aI rfl (aA rfl (bA [10,11] rfl rfl rfl fun K hK=>?_))
   simp(disch:=omega) only[Tryz.f8,go_sem,↓reduceIte]
   refine hK _ ?_
   refine aB (aS rfl (bN (bI ?_)))
   exact⟨rfl,fun j o hj=>hU (fun j o hj=>by {have:=hlt j o hj;simp(disch:=omega) only[aV,bY,↓reduceIte];exact hj}) j o hj,by simp only;omega⟩
  have d0:decide (role=0)=false:=J6 hr0
  have d1:decide (role=1)=false:=J6 hr1
  have eb:bgV C role S now=(0#32,131,C):=by unfold bgV;exact J4 ⟨hr0,hr1⟩
  rw[eb]
  refine aA rfl (aA rfl (bA [20,0,2,4,8] rfl rfl rfl fun K hK=>?_))
  simp(disch:=omega) only[Tryz.f8,go_sem,↓reduceIte,d0,d1,Bool.not_false]
  refine hK _ ?_
  refine aB (eC (.tmp 20) rfl rfl rfl (fun h=>?_) (fun h=>?_))
  ·refine aI rfl (aA rfl (bA [10,11] rfl rfl rfl fun K hK=>?_))
   simp(disch:=omega) only[Tryz.f8,go_sem,↓reduceIte]
   refine hK _ ?_
   refine aB (aS rfl (bI ?_))
   exact⟨rfl,fun j o hj=>hU (fun j o hj=>by {have:=hlt j o hj;simp(disch:=omega) only[aV,bY,↓reduceIte];exact hj}) j o hj,by simp only;omega⟩
  refine aI rfl ?_
  cases h
 cases hg
theorem aNa:bX Tryz.prog GLh 8 (.heap bgG):=⟨⟨_,Tryz.func8,rfl,rfl⟩,dCg⟩
end Go.AX

namespace Go.AX
open Go
def okC (P:Program) (Γ:Env) (md:Nat→Nat) (ops:Array Oper) (i:Nat):List Nat→Bool
 |[]=>false
 |j::r=>j==i||((match ops[j]?,ops[i]? with
  |some y,some x=>y.apart ops x&&rF j i (gI P Γ (md j) y.op) (gI P Γ (md i) x.op)
  |_,_=>false)&&okC P Γ md ops i r)
def aRj (ops:Array Oper) (rem:List Nat) (i:Nat):Bool:=match ops[i]? with
 |some x=>x.after.all fun e=> !Region.binds .any e|| !rem.contains e.on
 |none=>false
def aWm (P:Program) (Γ:Env) (md:Nat→Nat) (ops:Array Oper) (i:Nat) (cs:List (List Nat)):List (List Nat):=(cs.filter (okC P Γ md ops i)).map fun l=>l.erase i
def okT (P:Program) (Γ:Env) (md:Nat→Nat) (ops:Array Oper):Nat→List Nat→List (List Nat)→Bool
 |0,_,cs=>cs.any List.isEmpty
 |n+1,rem,cs=> !cs.isEmpty&&(!rem.isEmpty||cs.any List.isEmpty)&&rem.all fun i=> !aRj ops rem i||okT P Γ md ops n (rem.filter fun k=>k !=i) (aWm P Γ md ops i cs)
theorem aGk {P:Program} {Γ:Env} {md:Nat→Nat} {ops:Array Oper} {i:Nat}: ∀ {l:List Nat},okC P Γ md ops i l=true→∃p q,l=p++i::q∧l.erase i=p++q∧
  ∀j∈p,j≠i∧∃y x,ops[j]? =some y∧ops[i]? =some x∧y.apart ops x=true∧rF j i (gI P Γ (md j) y.op) (gI P Γ (md i) x.op)=true
 |[],h=>by cases h
 |j::r,h=>by
  by_cases e:j=i
  ·subst e
   exact⟨[],r,rfl,by simp,fun j hj=>nomatch hj⟩
  ·have e2:(j==i)=false:=by simp[e]
   simp only[okC,e2,Bool.false_or,Bool.and_eq_true]at h
   obtain⟨h1,h2⟩:=h
   obtain⟨p,q,g1,g2,g3⟩:=aGk h2
   refine⟨j::p,q,by rw[g1];rfl,by rw[List.erase_cons,e2];simp[g2],fun k hk=>?_⟩
   rcases List.mem_cons.1 hk with rfl|hk
   ·refine⟨e,?_⟩
    split at h1
    ·rename_i y x hy hx
     simp only[Bool.and_eq_true]at h1
     exact⟨y,x,hy,hx,h1.1,h1.2⟩
    ·cases h1
   ·exact g3 k hk
section
variable {P : Program} {Γ : Env} {c : Ctx} {σ0 : Nat → Loc} {I0 : Nat → Prop} {w0 : World} {md : Nat → Nat} {ops : Array Oper}
theorem cKn {n:Nat} {rem:List Nat} {cs:List (List Nat)} (h:okT P Γ md ops n rem cs=true):cs≠[]:=by
 rintro rfl
 cases n<;>simp[okT]at h
theorem aJw (hΓ:eJ P c.GL Γ) {Q:Exit→Act→World→Prop} (hdst:fK c.nt ops.toList=true) (he:tJ ops=true) {G:S→Prop} (hG: ∀s t,G s→gC s t→G t)
  (hQ: ∀s a' w',G s→R c σ0 I0 w0 (fun _=>False) s a' w'→Q .normal a' w'):
  ∀(fuel:Nat) (listed:Array Bool) (s:S) (a:Act) (w:World) (cs:List (List Nat)),listed.size=ops.size→(unl ops.size listed).length≤fuel→
   okT P Γ md ops fuel (unl ops.size listed) cs=true→(∀l∈cs,∃sf,dQ P Γ c.GL md ops l s=some sf∧G sf)→R c σ0 I0 w0 (fun k=>k∈unl ops.size listed) s a w→wpAny P .any ops Q fuel listed a w:=by
 have fin: ∀(listed:Array Bool) (s:S) (a:Act) (w:World) (cs:List (List Nat)),cs.any List.isEmpty=true→(∀l∈cs,∃sf,dQ P Γ c.GL md ops l s=some sf∧G sf)→R c σ0 I0 w0 (fun k=>k∈unl ops.size listed) s a w→Q .normal a w:=by
  intro listed s a w cs hcs hrun hR
  obtain⟨l,hl,hl2⟩:=List.any_eq_true.1 hcs
  obtain rfl:=List.isEmpty_iff.1 hl2
  obtain⟨sf,h1,h2⟩:=hrun _ hl
  obtain rfl:=J0 h1
  exact hQ _ _ _ h2 (hR.un fun k hk=>hk.elim)
 have unl_nil: ∀(listed:Array Bool),listed.size=ops.size→Region.ready .any ops listed=[]→unl ops.size listed=[]:=by
  intro listed hsz hr
  have hall:=uQ he listed hsz hr
  unfold unl
  refine List.filter_eq_nil_iff.2 fun i hi=>?_
  rw[hall i (List.mem_range.1 hi)];simp
 intro fuel
 induction fuel with
 |zero=>
  intro listed s a w cs hsz hlen hok hrun hR
  have hun0:unl ops.size listed=[]:=List.eq_nil_of_length_eq_zero (by omega)
  have hr:Region.ready .any ops listed=[]:=by
   refine List.eq_nil_iff_forall_not_mem.2 fun i hi=>?_
   obtain⟨h1,o,ho,_⟩:=mem_ready.1 hi
   have:i∈unl ops.size listed:=by unfold unl;rw[List.mem_filter,List.mem_range];exact⟨(Array.getElem?_eq_some_iff.1 ho).1,by rw[h1];rfl⟩
   rw[hun0]at this;cases this
  exact⟨hr,fin listed s a w cs hok hrun hR⟩
 |succ fuel ih=>
  intro listed s a w cs hsz hlen hok hrun hR
  simp only[okT,Bool.and_eq_true,List.all_eq_true]at hok
  obtain⟨⟨_,hemp⟩,hstepT⟩:=hok
  refine⟨fun hr=>?_,fun i hi=>?_⟩
  ·have hz:=unl_nil listed hsz hr
   rw[hz]at hemp
   exact fin listed s a w cs (by simpa using hemp) hrun hR
  obtain⟨hun,x,hx,hall⟩:=mem_ready.1 hi
  have hlt:=(Array.getElem?_eq_some_iff.1 hx).1
  have hmem:i∈unl ops.size listed:=by unfold unl;rw[List.mem_filter,List.mem_range];exact⟨hlt,by rw[hun];rfl⟩
  have hrd:aRj ops (unl ops.size listed) i=true:=by
   unfold aRj
   simp only[hx]
   refine Array.all_eq_true_iff_forall_mem.2 fun e hem=>?_
   cases hb:Region.binds .any e with
   |false=>rfl
   |true=>
    have h1:=hall e hem hb
    simp only[Bool.not_true,Bool.false_or,Bool.not_eq_true']
    rw[←Bool.not_eq_true]
    intro hc
    have hc2:=List.contains_iff_mem.1 hc
    unfold unl at hc2
    rw[List.mem_filter,List.mem_range]at hc2
    obtain⟨hc3,hc4⟩:=hc2
    have hs2:e.on<listed.size:=by omega
    rw[Array.getD_eq_getD_getElem?,Array.getElem?_eq_getElem hs2]at h1 hc4
    simp only[Option.getD_some]at h1 hc4
    rw[h1]at hc4;cases hc4
  have hT:=hstepT i hmem
  rw[hrd]at hT
  simp only[Bool.not_true,Bool.false_or]at hT
  have hsub: ∀k,k∈unl ops.size (listed.setIfInBounds i true)→k∈unl ops.size listed∧k≠i:=by
   intro k hk
   simp only[unl,List.mem_filter,List.mem_range]at hk⊢
   by_cases hki:k=i
   ·subst hki
    rw[Array.getD_eq_getD_getElem?,Array.getElem?_setIfInBounds_self_of_lt (by omega)]at hk
    simp at hk
   ·rw[getD_set_ne true (Ne.symm hki)]at hk
    exact⟨hk,hki⟩
  have e0:unl ops.size (listed.setIfInBounds i true)=(unl ops.size listed).filter (fun k=>k !=i):=by
   unfold unl
   rw[List.filter_filter]
   refine List.filter_congr fun k hk=>?_
   by_cases hki:k=i
   ·subst hki
    rw[Array.getD_eq_getD_getElem?,Array.getElem?_setIfInBounds_self_of_lt (by omega)];simp
   ·rw[getD_set_ne true (Ne.symm hki)]
    simp[hki]
  have hlen2:(unl ops.size (listed.setIfInBounds i true)).length<(unl ops.size listed).length:=by
   rw[e0]
   refine Nat.lt_of_le_of_ne (List.length_filter_le _ _) fun e=>?_
   have:=List.length_filter_eq_length_iff.1 e i hmem
   simp at this
  have hfw: ∀l,l∈cs→okC P Γ md ops i l=true→∃s1 sf,kA P Γ c.GL md ops i x s=some s1∧dQ P Γ c.GL md ops (l.erase i) s1=some sf∧G sf:=by
   intro l hl hc
   obtain⟨p,q,g1,g2,g3⟩:=aGk hc
   obtain⟨sf,r1,r2⟩:=hrun l hl
   rw[g1]at r1
   obtain⟨s1,sf',f1,f2,f3⟩:=wK hx p q (fun j hj=>by
    obtain⟨a1,y,x',a2,a3,a4,a5⟩:=g3 j hj
    rw[hx]at a3;obtain rfl:=J0 a3
    exact⟨a1,y,a2,a4,a5⟩) r1
   exact⟨s1,sf',f1,by rw[g2];exact f2,hG _ _ r2 f3⟩
  have hcs:=cKn hT
  obtain⟨s1,hs1⟩: ∃s1,kA P Γ c.GL md ops i x s=some s1:=by
   unfold aWm at hcs
   cases hf:cs.filter (okC P Γ md ops i)with
   |nil=>rw[hf]at hcs;exact absurd rfl hcs
   |cons l r=>
    have hm:=List.mem_filter.1 (show l∈cs.filter (okC P Γ md ops i)by rw[hf];simp)
    obtain⟨s1,_,f1,_⟩:=hfw l hm.1 hm.2
    exact⟨s1,f1⟩
  have hstep:=fX (K:=wpAny P .any ops Q fuel (listed.setIfInBounds i true)) (Q:=Q) (ops:=ops) hΓ hs1 (lU hdst (Array.mem_toList_iff.2 (Array.mem_of_getElem? hx))) (rem:=fun k=>k∈unl ops.size listed) hmem hR (fun a' w' hR'=>
   ih (listed.setIfInBounds i true) s1 a' w' (aWm P Γ md ops i cs) (by simpa using hsz) (by omega) (by rw[e0];exact hT) (fun l hl=>by
    unfold aWm at hl
    obtain⟨l0,hl0,rfl⟩:=List.mem_map.1 hl
    obtain⟨h1,h2⟩:=List.mem_filter.1 hl0
    obtain⟨s1',sf,f1,f2,f3⟩:=hfw l0 h1 h2
    rw[hs1]at f1;obtain rfl:=J0 f1
    exact⟨sf,f2,f3⟩) (hR'.un fun k hk=>hsub k hk))
  unfold wpOp
  simp only[hx]
  split
  ·rename_i hw;rw[J4 hw]at hstep;exact .inl hstep
  ·rename_i hw;rw[J3 hw]at hstep;exact hstep
end
def cWh (P:Program) (Γ:Env) (md:Nat→Nat) (L:List (List Nat)) (c:Code):Bool:=tJ (aM c)&&okT P Γ md (aM c) (aM c).size (List.range (aM c).size) L
theorem aXz {P:Program} {GL:Nat→Option (List AV)} {nt:Nat} {Q:Exit→S→Prop} {s:S} {code:Code} {Γ:Env} (L:List (List Nat)) (md:Nat→Nat) (ks:List Nat) (hm:P.follows .mixedOrders=true) (hΓ:eJ P GL Γ) (hc:rS code=true) (hd:lZ code=true) (ho:fK nt (aM code).toList=true) (hk:cWh P Γ md L code=true)
  (h: ∀K:S→Prop,(∀t,Q .normal t→K t)→aUe (fun l=>nH (xL P Γ GL md (rN code) (aF code) l (cX (rN code) s)) fun t=>K {t with fr:=gL ks t.fr}) L):Awp P GL nt code s Q:=by
 have h':=aDs (h (Q .normal) fun _ h=>h)
 clear h
 refine sX ?_
 cases code<;>first|(cases hc;done)|skip
 rename_i id ops d
 simp only[lZ]at hd
 subst hd
 intro c h1 h2 σ0 I0 w0 a w hR
 subst h1;subst h2
 simp only[aM,cWh,Bool.and_eq_true]at ho hk
 have h0:unl ops.size (Array.replicate ops.size false)=List.range ops.size:=by
  unfold unl
  refine List.filter_eq_self.2 fun k hk=>?_
  rw[List.mem_range]at hk
  rw[Array.getD_eq_getD_getElem?,Array.getElem?_replicate,J4 hk];rfl
 have hrun: ∀(l:List Nat) (s:S),xL P Γ c.GL md (rN (.region id ops true)) (aF (.region id ops true)) l s=dQ P Γ c.GL md ops l s:=by
  intro l
  induction l with
  |nil=>intro s;rfl
  |cons i r ih=>
   intro s
   have hl:(aF (.region id ops true))[i]? =(ops[i]?).map (aG ops):=by simp only[aF,aM,List.getElem?_map,Array.getElem?_toList]
   simp only[xL,dQ,hl]
   cases ops[i]? with
   |none=>rfl
   |some o=>
    simp only[Option.map_some,yR,vJ]
    congr 1
    funext s'
    exact ih s'
 refine wp_region_any hm (aJw (σ0:=σ0) (I0:=I0) (w0:=w0) (md:=md) (G:=fun sf=> ∃s',gC s' sf∧Q .normal {s' with fr:=gL ks s'.fr}) hΓ ho hk.1
  (fun s t hs he=>by obtain⟨s',e1,e2⟩:=hs;exact⟨s',e1.trans he,e2⟩)
  (fun s a' w' hs hR'=>by obtain⟨s',e1,e2⟩:=hs;exact⟨s',⟨_,e2,gP ks s',rfl⟩,hR'.eqv e1.symm⟩)
  ops.size _ (cX ops.size s) a _ L (by simp) (by rw[h0];simp) (by rw[h0];exact hk.2) (fun l hl=>?_) ?_)
 ·obtain⟨t,e1,e2⟩:=mR (h' l hl)
  rw[hrun]at e1
  exact⟨t,e1,t,gC.refl _,e2⟩
 ·exact((hR.enter ops.size).un fun k hk=>by rw[h0]at hk;exact List.mem_range.1 hk).world rfl rfl rfl rfl
end Go.AX

namespace Go.AX
open Go Go.Proofs
set_option maxRecDepth 8000
def xI (k:BitVec 16):CF:= {cBi k with h:=1}
def sB:List AV→Option AV
 |[.w16 k]=>some (.agg (cfC (xI k)))
 |_=>none
theorem aZg (k:BitVec 16):sB [.w16 k]=some (.agg (cfC (xI k))):=(rfl)
attribute [go_sem] aZg
theorem bHa:cL Tryz.prog GLh 6 sB:=by
 refine cC Tryz.func6 (aT rfl) ?_
 intro args r hg
 unfold sB at hg
 split at hg
 ·rename_i k
  obtain rfl:=J0 hg
  refine⟨J1 rfl,fun nx=>?_⟩
  refine aA rfl (bA [0,2] rfl rfl rfl fun K hK=>?_)
  simp(disch:=omega) only[Tryz.f6,go_sem,↓reduceIte]
  refine hK _ ?_
  refine aB (aA rfl (aC (Γ:=bC [(23,.pure false aDh)]) [2,3] (aH cVx aO) rfl rfl rfl (fun K hK=>?_)))
  simp(disch:=omega) only[Tryz.f6,go_sem,↓reduceIte,jI,List.nil_append,List.cons_append]
  refine hK _ ?_
  refine aB (aA rfl (bA [2,3] rfl rfl rfl fun K hK=>?_))
  simp(disch:=omega) only[Tryz.f6,go_sem,↓reduceIte,List.set_cons_succ,List.set_cons_zero]
  refine hK _ ?_
  refine aB (aA rfl (bA [2] rfl rfl rfl fun K hK=>?_))
  simp(disch:=omega) only[Tryz.f6,go_sem,↓reduceIte,U0,U1,J9]
  refine hK _ ?_
  refine aB (aS rfl ?_)
  simp(maxSteps:=400000) (disch:=omega) only[cN,bV,bK,bQ,Tryz.f6,go_sem,↓reduceIte,jI,ldV,U0,U1,J9]
  rfl
 cases hg
theorem bVy:bX Tryz.prog GLh 6 (.pure false sB):=⟨⟨_,Tryz.func6,rfl,rfl⟩,bHa⟩
theorem aNl (hp:H) (d s m:Nat) (C:RC) (e l:Nat) (M:MC) (h1:e≠l) (h2:e≠d) (h3:e≠s) (h4:e≠m) (h5:l≠d) (h6:l≠s) (h7:l≠m):kH (iL d s m C (iZ e l M hp)) e=some ⟨l,M⟩:=
 xR ⟨by rw[jN _ _ _ _ _ _ h2 h3 h4];exact(aBh h1).hd,by rw[jN _ _ _ _ _ _ h5 h6 h7];exact(aBh h1).hl,⟨h1,Ne.symm h1⟩⟩
theorem tC (hp:H) (d s m:Nat) (C:RC) (e l:Nat) (M:MC) (h2:e≠d) (h3:e≠s) (h4:e≠m) (h5:l≠d) (h6:l≠s) (h7:l≠m):iZ e l M (iL d s m C hp)=iL d s m C (iZ e l M hp):=by
 unfold iZ
 rw[jJ _ _ _ _ _ _ _ h5 h6 h7,jJ _ _ _ _ _ _ _ h2 h3 h4]
theorem xJ (hp:H) (e l l':Nat) (M M':MC) (_:e≠l):iZ e l' M' (del (iZ e l M hp) l)=iZ e l' M' (del hp l):=by
 funext k
 simp only[iZ,bJ,eV]
 by_cases q1:k=e
 ·simp[q1]
 by_cases q2:k=l'
 ·simp[q2]
 by_cases q3:k=l
 ·simp[q3]
 simp[q1,q2,q3]
theorem xS (d l:Nat) (M M':MC) (hp:H) (nx:Nat):bAl d l M hp nx (some M')=iZ d (nx+51) M' (del hp l):=(rfl)
theorem cUf (a b c d e f g h:B8):s8L [a,b,c,d,e,f,g,h]=some ⟨a,b,c,d,e,f,g,h⟩:=(rfl)
attribute [go_sem] aNl tC xJ xS cUf
def fsK (c:CF) (now:W32):KY:=⟨1#32,0,1,⟨0#8,0#8,0#8,0#8,0#8,0#8,0#8,0#8⟩,c.h,0#32,now,0#32⟩
def scK (c:CF) (now seen:W32):KY:=⟨2#32,1,2,⟨1#8,0#8,0#8,0#8,0#8,0#8,0#8,0#8⟩,c.h,0#32,now,seen⟩
def zU (c:CF) (now:W32):Nat→RC
 |0=>⟨c,[],0#32,[]⟩
 |1=>⟨c,[(1#32,fsK c now)],1#32,[]⟩
 |_=>⟨c,[(1#32,fsK c now),(2#32,scK c now (mx1 now))],2#32,[]⟩
def aDk (c:CF) (q:Nat) (now:W32):Nat→MC
 |0=>⟨c,q,[],0#32⟩
 |1=>⟨c,q,[fsK c now],1#32⟩
 |_=>⟨c,q,[fsK c now,scK c now (mx1 now)],2#32⟩
theorem yE (c:CF) (now:W32) (hh:c.h≤10): ∀i,ROk (zU c now i)
 |0=>ROk.new c
 |1=>(ROk.new c).mk' (by show(0#32:W32).toNat<_;decide) hh 0 ⟨0#8,0#8,0#8,0#8,0#8,0#8,0#8,0#8⟩ 1 now
 |i+2=>by
  have h:=((yE c now hh 1).mk' (by show(1#32:W32).toNat<_;decide) hh 1 ⟨1#8,0#8,0#8,0#8,0#8,0#8,0#8,0#8⟩ 2 now).snV 2#32 now
  exact h
def cGc (c:CF) (now:W32):RC:=⟨c,[(1#32,fsK c now),(2#32,scK c now 0#32)],2#32,[]⟩
def aXv (c:CF) (q:Nat) (now:W32):MC:=⟨c,q,[fsK c now,scK c now 0#32],2#32⟩
theorem yH (c:CF) (now:W32):mkV (zU c now 0) 0 ⟨0#8,0#8,0#8,0#8,0#8,0#8,0#8,0#8⟩ 1 now=(1#32,0,zU c now 1):=rfl
theorem yG (c:CF) (now:W32):mkV (zU c now 1) 1 ⟨1#8,0#8,0#8,0#8,0#8,0#8,0#8,0#8⟩ 2 now=(2#32,0,cGc c now):=rfl
theorem rJ (c:CF) (q:Nat) (now:W32):nK (aDk c q now 0) 0 ⟨0#8,0#8,0#8,0#8,0#8,0#8,0#8,0#8⟩ 1 now=(1#32,0,some (aDk c q now 1)):=rfl
theorem tS (c:CF) (q:Nat) (now:W32):nK (aDk c q now 1) 1 ⟨1#8,0#8,0#8,0#8,0#8,0#8,0#8,0#8⟩ 2 now=(2#32,0,some (aXv c q now)):=rfl
theorem aHp (c:CF) (now:W32):snV (cGc c now) 2#32 now=(0,zU c now 2):=rfl
theorem yF (c:CF) (q:Nat) (now:W32):mX (aXv c q now) 2#32 now=(0,aDk c q now 2):=rfl
theorem yJ (c:CF) (now:W32):(zU c now 0).last.toNat<1000000:=by show(0#32:W32).toNat<_;decide
theorem yI (c:CF) (now:W32):(zU c now 1).last.toNat<1000000:=by show(1#32:W32).toNat<_;decide
theorem aHq (c:CF) (now:W32): ∀i,(zU c now i).c=c
 |0=>rfl
 |1=>rfl
 |_+2=>rfl
theorem tT (c:CF) (q:Nat) (now:W32):(aXv c q now).L.length≤1000:=J1 rfl
def bUj:AO:=.cells [.v (.slice none 0 0),.v (.slice none 0 0),.v (.slice none 0 0)] true
def bCw (nx:Nat):Nat→Nat
 |0=>nx+32
 |1=>nx+232
 |_=>nx+1233
theorem bPv (nx:Nat):bCw nx 0=nx+32:=rfl
theorem bPu (nx:Nat):bCw nx 1=nx+232:=rfl
theorem aTp (nx:Nat):bCw nx 2=nx+1233:=rfl
theorem cFu:fM Tryz.prog 32=true:=by kernel_rfl
noncomputable def aPt:List AV→H→Nat→Option (AV×H×Nat)
 |[.agg cs,.w32 now],hp,nx=>aK (oW cs) fun c=>aN (c.h≤10) (some (.tup [.op (nx+18) 0,.op (nx+9) 0],iL (nx+18) (nx+15) (nx+16) (zU c now 2) (iZ (nx+9) (bCw nx 2) (aDk c (nx+7) now 2) (upd hp (nx+7) bUj)),nx+3000))
 |_,_,_=>none
theorem cCq (cs:List AV) (now:W32) (hp:H) (nx:Nat):aPt [.agg cs,.w32 now] hp nx=aK (oW cs) fun c=>aN (c.h≤10) (some (.tup [.op (nx+18) 0,.op (nx+9) 0],iL (nx+18) (nx+15) (nx+16) (zU c now 2) (iZ (nx+9) (bCw nx 2) (aDk c (nx+7) now 2) (upd hp (nx+7) bUj)),nx+3000)):=(rfl)
attribute [go_sem] cCq
set_option maxHeartbeats 2000000 in
theorem cRi:cQ Tryz.prog GLh 7 aPt:=by
 refine gF Tryz.func7 (aT rfl) ?_
 intro args hp nx r hp' nx' hg
 unfold aPt at hg
 split at hg
 ·rename_i cs now
  replace hg:=aJ hg;obtain⟨c,hcf,hg⟩:=hg
  have:=lF hcf;subst this
  replace hg:=aP hg;obtain⟨hh,hg⟩:=hg
  simp only[Option.some.injEq,Prod.mk.injEq]at hg;obtain⟨rfl,rfl,rfl⟩:=hg
  refine⟨J1 rfl,by omega,fun hnone=>?_⟩
  have hlt: ∀k o,hp k=some o→k<nx:=fun k o hk=>lI hnone hk
  have hcl:13≤(cfC c).length:=J1 rfl
  have hct:List.take 13 (cfC c)=cfC c:=rfl
  have hno:dB (cfC c)=true:=rfl
  have hcfx:=hcf
  rw[jI]at hcfx
  refine aA rfl (bA [1,2] rfl rfl rfl fun K hK=>?_)
  simp(disch:=omega) only[Tryz.f7,go_sem,↓reduceIte]
  refine hK _ ?_
  refine aB ?_
  refine lW 2 nx 0 rfl (by simp(disch:=omega) only[aV,↓reduceIte,eq_self]<;>rfl) ?_
  refine fF [1,2] ?_
  simp only[iB,fU,eB,↓reduceIte,Nat.reduceEqDiff,J9]
  refine aA rfl (aXz (Γ:=bC [(24,.heap aMq)]) [[0,1,3,4,2,5,6,7,8],[3,4,0,1,2,5,6,7,8],[3,4,2,5,6,0,1,7,8]] (fun k=>if k=0 then 1 else if k=2 then 1 else if k=1 then 0 else 2) [1,6,7] bZ (aH okd7 aO) rfl rfl rfl (by kernel_rfl) (fun K hK=>?_))
  simp(disch:=omega) only[Tryz.f7,aHu,aQh,go_sem,nJ,lY,hS,List.getElem?_cons_zero,List.getElem?_cons_succ,and_self,and_true,↓reduceIte,jI,hcfx,cK,List.nil_append,List.cons_append,U0,U1,J7,J9,List.all_cons,List.all_nil,Option.isSome_some,Bool.and_self]
  refine hK _ ?_
  refine aB ?_
  refine aDn (nx+3+6) 15 (cfC c++[.op (nx+3+4) 0]) [.w32 0#32] true (by simp(disch:=omega) only[jN,aV,↓reduceIte,eq_self]<;>rfl) (by omega) ?_
  simp(disch:=omega) only[jJ]
  refine aA rfl (aA rfl (bA [22,1,6,7] rfl rfl rfl fun K hK=>?_))
  simp(disch:=omega) only[Tryz.f7,go_sem,↓reduceIte,cFu]
  refine hK _ ?_
  refine aB (eC (.tmp 22) rfl rfl rfl (fun h=>?_) (fun h=>?_))
  ·refine aI rfl ?_
   cases h
  refine aI rfl (aQ rfl (aB (aA rfl (aA rfl (bA [1,6,7,8] rfl rfl rfl fun K hK=>?_)))))
  simp(disch:=omega) only[Tryz.f7,go_sem,↓reduceIte]
  refine hK _ ?_
  refine aB (aR 0 rfl rfl ?_)
  refine bR (fun i:Nat=> {fr:=[(1,.w32 now),(6,.op (nx+18) 0),(7,.op (nx+9) 0),(8,.i i)],hp:=iL (nx+18) (nx+15) (nx+16) (zU c now i) (iZ (nx+9) (bCw nx i) (aDk c (nx+7) now i) (upd hp (nx+7) bUj)),nx:=0,cx:=nx+50+1000*i}) (fun i=>i≤2) (fun i=>2-i) rfl ⟨0,Nat.zero_le _,⟨fun x=> .inr rfl,fun j o hj=>hU (fun j o hj=>by {simp only[iZ,bPv,bJ,Nat.add_assoc,Nat.reduceAdd]at hj⊢;by_cases q1:j=nx+9; · {rw[J4 q1]at hj⊢;exact hj};rw[J3 q1]at hj⊢;by_cases q2:j=nx+32; · {rw[J4 q2]at hj⊢;exact hj};rw[J3 q2]at hj⊢;rw[J3 q1];by_cases q3:j=nx+7; · {rw[J4 q3]at hj⊢;exact hj};rw[J3 q3]at hj⊢;have:=hlt j o hj;rw[J3 (by omega)];exact hj}) j o hj,by simp only;omega⟩⟩ ?_
  rintro i hi n0
  simp only at hi⊢
  rcases(by omega:i=0∨i=1∨i=2)with rfl|rfl|rfl
  ·have ok0:=yE c now hh 0
   have ok1:=yE c now hh 1
   rw[bPv,show((0:Nat):Int)=0 from rfl]
   refine aA rfl (aA rfl (bA [24,1,6,7,8] rfl rfl rfl fun K hK=>?_))
   simp(disch:=omega) only[Tryz.f7,go_sem,↓reduceIte,decide_true]
   refine hK _ ?_
   refine aB (eC (.tmp 24) rfl rfl rfl (fun h=>?_) (fun h=>?_))
   ·refine aI rfl (aQ rfl (aB (aA rfl (aR 1 rfl rfl (aA rfl (bA [1,6,7,8,9] rfl rfl rfl fun K hK=>?_))))))
    simp(disch:=omega) only[Tryz.f7,go_sem,↓reduceIte]
    refine hK _ ?_
    refine aB (aA rfl (aA rfl (bA [28,1,6,7,8,9] rfl rfl rfl fun K hK=>?_)))
    simp(disch:=omega) only[Tryz.f7,go_sem,↓reduceIte,decide_false]
    refine hK _ ?_
    refine aB (eC (.tmp 28) rfl rfl rfl (fun h=>?_) (fun h=>?_))
    ·refine aI rfl ?_
     cases h
    refine aI rfl (aQ rfl (aB (aA rfl (aC (Γ:=bC [(25,.heap uF)]) [1,6,7,8,9,10] (aH aZx aO) rfl rfl rfl (fun K hK=>?_)))))
    simp(disch:=omega) only[Tryz.f7,go_sem,↓reduceIte,yJ,aHq,ok0,hh,true_and]
    refine hK _ ?_
    refine aB (aA rfl (aC (Γ:=bC [(26,.heap sG)]) [1,6,7,8,10,12] (aH aWb aO) rfl rfl rfl (fun K hK=>?_)))
    simp(disch:=omega) only[Tryz.f7,go_sem,↓reduceIte,yH,true_and]
    refine hK _ ?_
    refine aB (aA rfl (bA [52,1,6,7,8,10,12] rfl rfl rfl fun K hK=>?_))
    simp(disch:=omega) only[Tryz.f7,go_sem,↓reduceIte,decide_false]
    refine hK _ ?_
    refine aB (eC (.tmp 52) rfl rfl rfl (fun h=>?_) (fun h=>?_))
    ·refine aI rfl ?_
     cases h
    refine aI rfl (aQ rfl (bU (aB (bA [1,6,7,8] rfl rfl rfl fun K hK=>?_))))
    simp(disch:=omega) only[Tryz.f7,go_sem,↓reduceIte]
    refine hK _ ?_
    refine bT ?_
    simp(disch:=omega) only[rJ,xS,pY,tC,xJ]
    refine⟨1,by omega,by omega,⟨fun x=> .inr rfl,fun j o hj=>hU (fun j o hj=>?_) j o hj,by simp only;omega⟩⟩
    rw[bPu]at hj
    simp only[Nat.add_assoc,Nat.reduceAdd]at hj⊢
    refine kV (fun j o hj=>?_) j o hj
    simp only[bJ,eV]at hj⊢
    by_cases q:j=nx+7
    ·rw[J4 q]at hj;rw[J3 (by omega),J4 q];exact hj
    rw[J3 q]at hj;have:=hlt j o hj;rw[J3 (by omega),J3 q];exact hj
   refine aI rfl ?_
   cases h
  ·have ok0:=yE c now hh 0
   have ok1:=yE c now hh 1
   rw[bPu,show((1:Nat):Int)=1 from rfl]
   refine aA rfl (aA rfl (bA [24,1,6,7,8] rfl rfl rfl fun K hK=>?_))
   simp(disch:=omega) only[Tryz.f7,go_sem,↓reduceIte,decide_true]
   refine hK _ ?_
   refine aB (eC (.tmp 24) rfl rfl rfl (fun h=>?_) (fun h=>?_))
   ·refine aI rfl (aQ rfl (aB (aA rfl (aR 1 rfl rfl (aA rfl (bA [1,6,7,8,9] rfl rfl rfl fun K hK=>?_))))))
    simp(disch:=omega) only[Tryz.f7,go_sem,↓reduceIte]
    refine hK _ ?_
    refine aB (aA rfl (aA rfl (bA [28,1,6,7,8,9] rfl rfl rfl fun K hK=>?_)))
    simp(disch:=omega) only[Tryz.f7,go_sem,↓reduceIte,decide_true]
    refine hK _ ?_
    refine aB (eC (.tmp 28) rfl rfl rfl (fun h=>?_) (fun h=>?_))
    ·refine aI rfl (bA [1,6,7,8,9] rfl rfl rfl fun K hK=>?_)
     simp(disch:=omega) only[Tryz.f7,go_sem,↓reduceIte]
     refine hK _ ?_
     refine aB (aA rfl (aC (Γ:=bC [(25,.heap uF)]) [1,6,7,8,9,10] (aH aZx aO) rfl rfl rfl (fun K hK=>?_)))
     simp(disch:=omega) only[Tryz.f7,go_sem,↓reduceIte,yI,aHq,ok1,hh,true_and]
     refine hK _ ?_
     refine aB (aA rfl (aC (Γ:=bC [(26,.heap sG)]) [1,6,7,8,10,12] (aH aWb aO) rfl rfl rfl (fun K hK=>?_)))
     simp(disch:=omega) only[Tryz.f7,go_sem,↓reduceIte,yG,true_and]
     refine hK _ ?_
     refine aB (aA rfl (bA [52,1,6,7,8,10,12] rfl rfl rfl fun K hK=>?_))
     simp(disch:=omega) only[Tryz.f7,go_sem,↓reduceIte,decide_true]
     refine hK _ ?_
     refine aB (eC (.tmp 52) rfl rfl rfl (fun h=>?_) (fun h=>?_))
     ·refine aI rfl (aA rfl (aC (Γ:=bC [(27,.heap aBj)]) [1,6,7,8,12] (aH bJf aO) rfl rfl rfl (fun K hK=>?_)))
      simp(disch:=omega) only[Tryz.f7,go_sem,↓reduceIte,tS,aHp]
      refine hK _ ?_
      refine aB (aC (Γ:=bC [(28,.heap xQ)]) [1,6,7,8] (aH cFi aO) rfl rfl rfl (fun K hK=>?_))
      simp(disch:=omega) only[Tryz.f7,go_sem,↓reduceIte,yF,tT]
      refine hK _ ?_
      refine bU (aB (bA [1,6,7,8] rfl rfl rfl fun K hK=>?_))
      simp(disch:=omega) only[Tryz.f7,go_sem,↓reduceIte]
      refine hK _ ?_
      refine bT ?_
      have hl2:(aXv c (nx+7) now).L.length=2:=rfl
      rw[hl2]
      refine⟨2,by omega,by omega,⟨fun x=> .inr rfl,fun j o hj=>hU (fun j o hj=>?_) j o hj,by simp only;omega⟩⟩
      rw[aTp]at hj
      simp only[Nat.add_assoc,Nat.reduceAdd]at hj⊢
      refine kV (fun j o hj=>?_) j o hj
      simp only[bJ,eV]at hj⊢
      by_cases q:j=nx+7
      ·rw[J4 q]at hj;rw[J3 (by omega),J4 q];exact hj
      rw[J3 q]at hj;have:=hlt j o hj;rw[J3 (by omega),J3 q];exact hj
     refine aI rfl ?_
     cases h
    refine aI rfl ?_
    cases h
   refine aI rfl ?_
   cases h
  rw[aTp,show((2:Nat):Int)=2 from rfl]
  refine aA rfl (aA rfl (bA [24,1,6,7,8] rfl rfl rfl fun K hK=>?_))
  simp(disch:=omega) only[Tryz.f7,go_sem,↓reduceIte,decide_false]
  refine hK _ ?_
  refine aB (eC (.tmp 24) rfl rfl rfl (fun h=>?_) (fun h=>?_))
  ·refine aI rfl ?_
   cases h
  refine aI rfl (bF 0 rfl rfl (aY (aZ (bE (aB (aA rfl (bA [4,5] rfl rfl rfl fun K hK=>?_)))))))
  simp(disch:=omega) only[Tryz.f7,go_sem,↓reduceIte]
  refine hK _ ?_
  refine aB (aS rfl ?_)
  exact⟨rfl,fun j o hj=>hj,by simp only;omega⟩
 cases hg
theorem bVx:bX Tryz.prog GLh 7 (.heap aPt):=⟨⟨_,Tryz.func7,rfl,rfl⟩,cRi⟩
end Go.AX

namespace Go.AX
open Go Go.Proofs
set_option maxRecDepth 8000
theorem rX {l:List W32} (h:l.Pairwise fun a b=>a.toNat≤b.toNat):iU l=l:=
 (kC l).eq_of_pairwise (fun _ _ _ _ h1 h2=>BitVec.eq_of_toNat_eq (Nat.le_antisymm h1 h2)) (nY l) h
def r2 (c:CF) (a b:KY) (last:W32) (tr:List (W32×TK)):RC:=⟨c,[(1#32,a),(2#32,b)],last,tr⟩
def r3 (c:CF) (a b d:KY) (tr:List (W32×TK)):RC:=⟨c,[(1#32,a),(2#32,b),(3#32,d)],3#32,tr⟩
def r4 (c:CF) (a b d e:KY):RC:=⟨c,[(1#32,a),(2#32,b),(3#32,d),(4#32,e)],4#32,[]⟩
theorem aDq (c:CF) (a b:KY) (last:W32) (tr:List (W32×TK)):iP (r2 c a b last tr)=[a,b]:=by
 have e:idsL (r2 c a b last tr)=[1#32,2#32]:=by show iU [1#32,2#32]=_;exact rX (by decide)
 unfold iP;rw[e];rfl
theorem nC (c:CF) (a b d:KY) (tr:List (W32×TK)):iP (r3 c a b d tr)=[a,b,d]:=by
 have e:idsL (r3 c a b d tr)=[1#32,2#32,3#32]:=by show iU [1#32,2#32,3#32]=_;exact rX (by decide)
 unfold iP;rw[e];rfl
theorem cRd (c:CF) (now:W32):zU c now 2=r2 c (fsK c now) (scK c now (mx1 now)) 2#32 []:=rfl
theorem jH (now:W32):mx1 now≠0#32:=by
 unfold mx1
 split
 ·decide
 rename_i h
 intro e
 subst e
 exact h (by decide)
def thK (c:CF) (sd:S8) (t:W32):KY:=⟨3#32,0,0,sd,c.h,0#32,t,0#32⟩
theorem bg_z (c:CF) (now sn t:W32) (sd:S8) (tr:List (W32×TK)):bgV (r2 c (fsK c now) (scK c now sn) 2#32 tr) 0 sd t=(3#32,0,r3 c (fsK c now) (scK c now sn) (thK c sd t) tr):=by
 unfold bgV
 rw[aDq]
 rfl
def fsR (c:CF) (now at':W32):KY:=tkV (fsK c now) 3 at'
def thA (c:CF) (sd:S8) (t at':W32):KY:=tkV (thK c sd t) 1 at'
theorem bJp (c:CF) (now sn t:W32) (sd:S8) (cf:CF) (h:sn≠0#32):nxV [fsK c now,scK c now sn,thK c sd t] cf=⟨3#32,1,bhV t cf.pr cf.kt⟩:=by
 have e2:iS [fsK c now,scK c now sn,thK c sd t] cf (scK c now sn)=[]:=by
  unfold iS
  rw[J3 (c:=(scK c now sn).role=0) (show¬(1:Int)=0 by decide),J4 (by rfl),J3 (c:=(scK c now sn).st=1) (show¬(2:Int)=1 by decide),J4 ⟨rfl,h⟩]
  rfl
 unfold nxV alD
 rw[List.flatMap_cons,List.flatMap_cons,e2]
 rfl
theorem nx_r3' (c:CF) (now sn t at':W32) (sd:S8) (cf:CF) (h:sn≠0#32):nxV [fsR c now at',scK c now sn,thA c sd t at'] cf=⟨1#32,4,bhV at' cf.pr cf.mx⟩:=by
 have e2:iS [fsR c now at',scK c now sn,thA c sd t at'] cf (scK c now sn)=[]:=by
  unfold iS
  rw[J3 (c:=(scK c now sn).role=0) (show¬(1:Int)=0 by decide),J4 (by rfl),J3 (c:=(scK c now sn).st=1) (show¬(2:Int)=1 by decide),J4 ⟨rfl,h⟩]
  rfl
 unfold nxV alD
 rw[List.flatMap_cons,List.flatMap_cons,e2]
 rfl
theorem aId (cf:CF) (f:Nat) (C:RC) (now:W32) (out:List KY) (h:(nxV (iP C) cf).id=0#32∨¬(nxV (iP C) cf).w≤now):jF cf (f+1) C now out=some (out,C):=by
 rw[jF,J4 h]
theorem aYs (c:CF) (now sn t at':W32) (sd:S8) (cf:CF) (tr:List (W32×TK)) (h:sn≠0#32) (h1:bhV t cf.pr cf.kt≤at') (h2: ¬bhV at' cf.pr cf.mx≤at') (f:Nat):
  jF cf (f+2) (r3 c (fsK c now) (scK c now sn) (thK c sd t) tr) at' []=some ([fsR c now at',thA c sd t at'],r3 c (fsR c now at') (scK c now sn) (thA c sd t at') tr):=by
 have e1:=bJp c now sn t sd cf h
 rw[jF,nC,e1,J3 (fun e=>e.elim (fun e=>absurd e (show¬(3#32:W32)=0#32 by decide)) (fun e=>e h1))]
 have ea:yN (lH 0 [fsK c now,scK c now sn,thK c sd t]) (r3 c (fsK c now) (scK c now sn) (thK c sd t) tr) at' []=some ([fsR c now at'],r3 c (fsR c now at') (scK c now sn) (thK c sd t) tr):=rfl
 rw[J4 rfl,ea,aX]
 have eg:iK 3#32 (r3 c (fsR c now at') (scK c now sn) (thK c sd t) tr).by'=some (thK c sd t):=rfl
 have et:(tnV (r3 c (fsR c now at') (scK c now sn) (thK c sd t) tr) 3#32 1 at').2=r3 c (fsR c now at') (scK c now sn) (thA c sd t at') tr:=rfl
 simp only[]
 rw[eg,aX,et]
 refine aId cf f _ at' _ (.inr ?_)
 rw[nC,nx_r3' c now sn t at' sd cf h]
 exact h2
end Go.AX

namespace Go.AX
open Go Go.Proofs
set_option maxRecDepth 8000
theorem aVr {a b:W32} (h:a.toNat+b.toNat<4294967296):plV a b=a+b:=by
 unfold plV
 rw[J3]
 rw[BitVec.lt_def,BitVec.toNat_sub]
 show¬(2^32-a.toNat+4294967295)%2^32<b.toNat
 have:=a.isLt
 omega
theorem tW {a b:W32} (h:a.toNat+b.toNat<4294967296):(a+b).toNat=a.toNat+b.toNat:=by
 rw[BitVec.toNat_add]
 exact Nat.mod_eq_of_lt h
theorem wW {t a b:W32} (h:t.toNat+a.toNat+b.toNat<4294967296):bhV t a b=t+a+b:=by
 unfold bhV
 rw[aVr (a:=t) (by omega),aVr (by rw[tW (by omega)];omega)]
theorem wV {t a b:W32} (h:t.toNat+a.toNat+b.toNat<4294967296):(bhV t a b).toNat=t.toNat+a.toNat+b.toNat:=by
 rw[wW h,tW (by rw[tW (by omega)];omega),tW (by omega)]
theorem aYb (x:BitVec 16):(BitVec.setWidth 32 (x&&&3#16)).toNat≤3:=by
 rcases cRs x with e|e|e|e<;>rw[e]<;>decide
theorem aRc (k:BitVec 16):(xI k).pr.toNat≤3:=aYb _
theorem aRd (k:BitVec 16):10≤(xI k).kt.toNat∧(xI k).kt.toNat≤40:=by
 show 10≤(10#32+BitVec.setWidth 32 (k&&&3#16)*10#32).toNat∧(10#32+BitVec.setWidth 32 (k&&&3#16)*10#32).toNat≤40
 rcases cRs k with e|e|e|e<;>rw[e]<;>decide
theorem bGu (k:BitVec 16):(xI k).mx=60#32:=rfl
theorem aVc (k:BitVec 16):(xI k).h≤10:=J1 rfl
theorem bOl (c:CF):List.take 13 (cfC c)=cfC c:=rfl
theorem bCd (c:CF):dB (cfC c)=true:=rfl
theorem dBl (c:CF):(cfC c).length=13:=rfl
theorem aYr (a0 a1 a2 a3 a4 a5 a6 a7 a8 a9 a10 a11 a12:AV) (c:CF):dV [a0,a1,a2,a3,a4,a5,a6,a7,a8,a9,a10,a11,a12] 0 (cfC c)=cfC c:=(rfl)
theorem dBk (c:CF):(List.drop 1 (cfC c)).head? =some (.w32 c.kt):=(rfl)
theorem dBj (c:CF):(List.drop 2 (cfC c)).head? =some (.w32 c.pr):=(rfl)
theorem dBi (c:CF):(List.drop 3 (cfC c)).head? =some (.w32 c.dt):=(rfl)
theorem dBh (c:CF):(List.drop 4 (cfC c)).head? =some (.w32 c.dp):=(rfl)
theorem dBg (c:CF):(List.drop 8 (cfC c)).head? =some (.w32 c.mx):=(rfl)
theorem nI_2:((2:Nat):Int)=2:=(rfl)
attribute [go_sem] nI_2 dBk dBj dBi dBh dBg bOl bCd dBl aYr
theorem aGj (c:CF) (now:W32) (hh:c.h≤10):ROk (r2 c (fsK c now) (scK c now (mx1 now)) 2#32 []):=yE c now hh 2
theorem aIr (c:CF) (a b:KY) (tr:List (W32×TK)):(r2 c a b 2#32 tr).last.toNat<1000000:=by show(2#32:W32).toNat<_;decide
theorem r2_h (c:CF) (a b:KY) (l:W32) (tr:List (W32×TK)):(r2 c a b l tr).c.h=c.h:=rfl
theorem r3_h (c:CF) (a b d:KY) (tr:List (W32×TK)):(r3 c a b d tr).c.h=c.h:=rfl
theorem r4_h (c:CF) (a b d e:KY):(r4 c a b d e).c.h=c.h:=rfl
theorem cUu (c:CF) (a b:KY) (l:W32) (tr:List (W32×TK)):(r2 c a b l tr).by'.length=2:=rfl
theorem cUt (c:CF) (a b d:KY) (tr:List (W32×TK)):(r3 c a b d tr).by'.length=3:=rfl
theorem cUq (c:CF) (a b d e:KY):(r4 c a b d e).by'.length=4:=rfl
attribute [go_sem] aIr r2_h r3_h r4_h cUu cUt cUq aDq nC cRd bg_z
theorem sg_a (c:CF) (now sn t at':W32) (sd:S8):sgL 0 [fsR c now at',scK c now sn,thA c sd t at']=[3#32]:=rfl
theorem vI (c:CF) (now sn t at':W32) (sd:S8) (cf:CF) (tr:List (W32×TK)) (h:sn≠0#32) (h1:bhV t cf.pr cf.kt≤at') (h2: ¬bhV at' cf.pr cf.mx≤at'):
  jF cf 100 (r3 c (fsK c now) (scK c now sn) (thK c sd t) tr) at' []=some ([fsR c now at',thA c sd t at'],r3 c (fsR c now at') (scK c now sn) (thA c sd t at') tr):=aYs c now sn t at' sd cf tr h h1 h2 98
def sdN (n:B8):S8:=⟨n,0#8,0#8,0#8,0#8,0#8,0#8,0#8⟩
def aCr:List AV→Option AV
 |[]=>some (.b true)
 |_=>none
theorem bMd:aCr []=some (.b true):=(rfl)
attribute [go_sem] bMd
set_option maxHeartbeats 1000000 in
theorem bYj:cL Tryz.prog GLh 5 aCr:=by
 refine cC Tryz.func5 (aT rfl) ?_
 intro args r hg
 unfold aCr at hg
 split at hg
 ·obtain rfl:=J0 hg
  refine⟨J1 rfl,fun nx=>?_⟩
  have hpr:=aRc 0#16
  have hkt:=aRd 0#16
  have hmx:=bGu 0#16
  have hh:=aVc 0#16
  obtain⟨c,hc⟩: ∃c,xI 0#16=c:=⟨_,rfl⟩
  rw[hc]at hpr hkt hmx hh
  have ok2:=aGj c 5#32 hh
  have hb1:bhV 10#32 c.pr c.kt=10#32+c.pr+c.kt:=wW (by show 10+_+_<_;omega)
  have hb2:(10#32+c.pr+c.kt).toNat=10+c.pr.toNat+c.kt.toNat:=by rw[←hb1];exact wV (by show 10+_+_<_;omega)
  have hm60:c.mx.toNat=60:=by rw[hmx];rfl
  have hst:=vI c 5#32 (mx1 5#32) 10#32 (10#32+c.pr+c.kt) (sdN 9#8) c [] (jH _) (by rw[hb1];exact BitVec.le_refl _) (by
   rw[BitVec.le_def,wV (by omega)];omega)
  have hnx:=bJp c 5#32 (mx1 5#32) 10#32 (sdN 9#8) c (jH _)
  rw[hb1]at hnx
  unfold sdN at hst hnx
  refine aA rfl (bA [] rfl rfl rfl fun K hK=>?_)
  simp(disch:=omega) only[Tryz.f5,go_sem]
  refine hK _ ?_
  refine aB (aA rfl (aC (Γ:=bC [(6,.pure false sB)]) [1] (aH bVy aO) rfl rfl rfl (fun K hK=>?_)))
  simp(disch:=omega) only[Tryz.f5,go_sem,↓reduceIte,hc]
  refine hK _ ?_
  refine aB ?_
  refine lW 1 (nx+1+1) 0 rfl (by simp(disch:=omega) only[aV,↓reduceIte,eq_self]<;>rfl) ?_
  refine fF [1] ?_
  simp only[iB,fU,eB,↓reduceIte,J9]
  refine aA rfl (aC (Γ:=bC [(7,.heap aPt)]) [1,2] (aH bVx aO) rfl rfl rfl (fun K hK=>?_))
  simp(disch:=omega) only[Tryz.f5,go_sem,↓reduceIte,hh]
  refine hK _ ?_
  refine aB (aA rfl (aA rfl (bA [17,1,2] rfl rfl rfl fun K hK=>?_)))
  simp(disch:=omega) only[Tryz.f5,go_sem,↓reduceIte,cFu]
  refine hK _ ?_
  refine aB (eC (.tmp 17) rfl rfl rfl (fun h=>?_) (fun h=>?_))
  ·refine aI rfl ?_
   cases h
  refine aI rfl (aQ rfl (aB (aA rfl (aC (Γ:=bC [(8,.heap bgG)]) [1,2,4,5] (aH aNa aO) rfl rfl rfl (fun K hK=>?_)))))
  simp(disch:=omega) only[Tryz.f5,go_sem,↓reduceIte,ok2,hh,true_and]
  refine hK _ ?_
  refine aB (aA rfl (bB (Γ:=bC [(18,.heap rU),(17,.pure true nxG)]) (fun k=>if k=2 then 1 else if k=1 then 0 else 2) [1,2,4,5,6,7,8] bZ (aH pA (aH bJe aO)) rfl rfl rfl (by kernel_rfl) (fun K hK=>?_)))
  simp(disch:=omega) only[Tryz.f5,go_sem,↓reduceIte,hnx,duC]
  refine hK _ ?_
  refine aB (aA rfl (aC (Γ:=bC [(15,.heap yS)]) [1,2,4,5,6,7,8,9] (aH aVz aO) rfl rfl rfl (fun K hK=>?_)))
  simp(disch:=omega) only[Tryz.f5,go_sem,↓reduceIte,hst]
  refine hK _ ?_
  refine aB (aA rfl (aC (Γ:=bC [(18,.heap rU),(21,.pure false sgG),(20,.pure true bBb)]) [0] (aH pA (aH aGi (aH cFe aO))) rfl rfl rfl (fun K hK=>?_)))
  simp(maxSteps:=400000) (disch:=omega) only[Tryz.f5,go_sem,↓reduceIte,sg_a,decide_true]
  refine hK _ ?_
  refine aB (aS rfl ?_)
  simp(disch:=omega) only[cN,bV,bK,bQ,Tryz.f5,go_sem,↓reduceIte]
 cases hg
theorem cKm:bX Tryz.prog GLh 5 (.pure true aCr):=⟨⟨_,Tryz.func5,rfl,rfl⟩,bYj⟩
end Go.AX

namespace Go.AX
open Go Go.Proofs
set_option maxRecDepth 8000
theorem bTs (a:B8):(cK (c8 (List.replicate 8 0#8)) 0 [.w8 a]).length=8:=(rfl)
theorem cTo (a b:B8):cK (cK (c8 (List.replicate 8 0#8)) 0 [.w8 a]) 1 [.w8 b]=[.w8 a,.w8 b,.w8 0#8,.w8 0#8,.w8 0#8,.w8 0#8,.w8 0#8,.w8 0#8]:=(rfl)
attribute [go_sem] bTs cTo
end Go.AX

namespace Go.AX
open Go Go.Proofs
set_option maxRecDepth 8000
end Go.AX

namespace Go.AX
open Go Go.Proofs
set_option maxRecDepth 8000
def trC' (C:RC) (k:KY):RC:= {C with tr:=trP C k}
theorem cGr (C:RC) (k:KY): {C with tr:=trP C k}=trC' C k:=rfl
theorem bSy (C:RC) (k:KY):iP (trC' C k)=iP C:=rfl
def dsV (tag:BitVec 16) (now:W32):List KY→RC→Option (Int×RC)
 |[],C=>some (130,C)
 |x::r,C=>aK (iK x.id C.by') fun k=>if pL (dkB k)=tag then some (snV (trC' C k) x.id now)else dsV tag now r (trC' C k)
@[irreducible] def aXl : Nat := 200000
theorem aOz:aXl=200000:=by unfold aXl;rfl
noncomputable def aPa:List AV→H→Nat→Option (AV×H×Nat)
 |[.op d 0,.w16 tag,.w32 now],hp,nx=>aK (iN hp d) fun t=>aN (ROk t.C∧0<t.C.by'.length∧t.C.by'.length≤100) (aK (dsV tag now (lH 1 (iP t.C)) t.C) fun R=>some (.i R.1,iL d t.s t.m R.2 hp,nx+aXl))
 |_,_,_=>none
theorem bOa (d:Nat) (tag:BitVec 16) (now:W32) (hp:H) (nx:Nat):aPa [.op d 0,.w16 tag,.w32 now] hp nx=aK (iN hp d) fun t=>aN (ROk t.C∧0<t.C.by'.length∧t.C.by'.length≤100) (aK (dsV tag now (lH 1 (iP t.C)) t.C) fun R=>some (.i R.1,iL d t.s t.m R.2 hp,nx+aXl)):=(rfl)
attribute [go_sem] bOa
structure DSI where
 q:Nat
 C:RC
 c:Nat
set_option maxHeartbeats 2000000 in
theorem cAu:cQ Tryz.prog GLh 11 aPa:=by
 refine gF Tryz.func11 (aT rfl) ?_
 intro args hp nx r hp' nx' hg
 unfold aPa at hg
 split at hg
 ·rename_i d tag now
  replace hg:=aJ hg;obtain⟨⟨s,m,C⟩,hD0,hg⟩:=hg
  have hD:=iV hD0
  replace hg:=aP hg;obtain⟨⟨hok,hpos,hC⟩,hg⟩:=hg
  replace hg:=aJ hg;obtain⟨R,hR,hg⟩:=hg
  simp only[Option.some.injEq,Prod.mk.injEq]at hg hD hC hok hR hpos;obtain⟨rfl,rfl,rfl⟩:=hg
  refine⟨J1 rfl,Nat.le_add_right _ _,fun hnone=>?_⟩
  have hN:=aOz
  have h1:=hD.hd;have h2:=hD.hs;have h3:=hD.hm
  obtain⟨n1,n2,n3,n4,n5,n6⟩:=hD.ne
  have hlt: ∀k o,hp k=some o→k<nx:=fun k o hk=>lI hnone hk
  have hd:=hlt _ _ h1
  have hs:=hlt _ _ h2
  have hm:=hlt _ _ h3
  have hset:=iQ hD
  have hC2:C.by'.length≤1000:=by omega
  have hal:=qL C
  obtain⟨Z,hZ⟩: ∃Z,lH 1 (iP C)=Z:=⟨_,rfl⟩
  have hZl:Z.length≤100:=by have:=jP 1 (iP C);rw[hZ]at this;omega
  rw[hZ]at hR
  rw[←hset,rZ]
  refine aA rfl (bA [0,1,2] rfl rfl rfl fun K hK=>?_)
  simp(disch:=omega) only[Tryz.f11,go_sem,↓reduceIte]
  refine hK _ ?_
  refine aB (aA rfl (aA rfl (aC (Γ:=bC [(18,.heap rU),(29,.pure false ofG)]) [0,1,2,13,14,15] (aH pA (aH aGh aO)) rfl rfl rfl (fun K hK=>?_))))
  simp(disch:=omega) only[Tryz.f11,go_sem,↓reduceIte,hC2,hal,hpos,hZ]
  refine hK _ ?_
  refine aB (aR 0 rfl rfl ?_)
  refine bR (fun p:DSI=> {fr:=[(0,.op d 0),(1,.w16 tag),(2,.w32 now),(13,.sl Z.length (jQ Z)),(14,.i Z.length),(15,.i p.q)],hp:=iL d s m p.C hp,nx:=0,cx:=p.c}) (fun p=>dsV tag now (Z.drop p.q) p.C=some R∧p.q≤Z.length∧ROk p.C∧p.c≤nx+100000+900*p.q∧nx≤p.c) (fun p=>Z.length-p.q) rfl ⟨⟨0,C,_⟩,⟨hR,Nat.zero_le _,hok,by simp only;omega,by simp only;omega⟩,⟨fun x=> .inr rfl,fun j o hj=>hj,U3 _⟩⟩ ?_
  rintro⟨q,C1,c1⟩ ⟨hac,hq,hok1,hcc,hcc2⟩ n0
  simp only at hac hq hok1 hcc hcc2⊢
  refine aA rfl (bA [16,0,1,2,13,14,15] rfl rfl rfl fun K hK=>?_)
  simp(disch:=omega) only[Tryz.f11,go_sem,↓reduceIte]
  refine hK _ ?_
  refine aB (aA rfl (aW (.tmp 16) rfl rfl rfl (fun h=>?_) (fun h=>?_)))
  ·refine aI rfl ?_
   have hqZ:q<Z.length:=by omega
   have hrow:=lC Z q hqZ
   have hkl:=iJ Z
   have hdl:15≤(List.drop (15*q) (jQ Z)).length:=by rw[List.length_drop];omega
   have e15:q*15=15*q:=by omega
   have hdr:Z.drop q=kyA Z q::Z.drop (q+1):=by rw[List.drop_eq_getElem_cons hqZ,kJ Z q hqZ]
   obtain⟨X,hX⟩: ∃X,kyA Z q=X:=⟨_,rfl⟩
   rw[hX]at hrow hdr
   rw[hdr,dsV]at hac
   replace hac:=aJ hac;obtain⟨k,hk,hac⟩:=hac
   have hok2:ROk (trC' C1 k):=hok1.trP (by rw[(hok1.key _ _ hk).1];exact hk)
   have hdk:=aAg k
   have hdd:dtN k=135∨dtN k=130:=by unfold dtN;split<;>simp
   refine aQ rfl (aB (aA rfl (aR 1 rfl rfl (aA rfl (bA [0,1,2,8,13,14,15] rfl rfl rfl fun K hK=>?_)))))
   simp(disch:=omega) only[Tryz.f11,go_sem,↓reduceIte,hrow,hdl,e15]
   refine hK _ ?_
   refine aB (aA rfl (aC (Γ:=bC [(32,.heap bOf)]) [0,1,2,8,9,13,14,15] (aH cWf aO) rfl rfl rfl (fun K hK=>?_)))
   simp(disch:=omega) only[Tryz.f11,go_sem,↓reduceIte,kyC,hk,hok1,cGr,J8,J9]
   refine hK _ ?_
   refine aB (aA rfl (aC (Γ:=bC [(33,.pure true aIc)]) [29,0,1,2,8,13,14,15] (aH ok40 aO) rfl rfl rfl (fun K hK=>?_)))
   simp(disch:=omega) only[Tryz.f11,go_sem,↓reduceIte,hdk,kK]
   refine hK _ ?_
   refine aB ?_
   by_cases ht:pL (dkB k)=tag
   ·rw[J4 ht]at hac
    obtain rfl:=J0 hac
    refine aW (.tmp 29) rfl rfl rfl (fun h=>?_) (fun h=>?_)
    ·refine aI rfl (aA rfl (aC (Γ:=bC [(27,.heap aBj)]) [6] (aH bJf aO) rfl rfl rfl (fun K hK=>?_)))
     simp(disch:=omega) only[Tryz.f11,go_sem,↓reduceIte,J8,J9]
     refine hK _ ?_
     refine aB (aS rfl (bN (bI (dF (bN (bI ?_))))))
     refine⟨rfl,fun j oo hj=>hU (fun j oo hj=>?_) j oo hj,by simp only;omega⟩
     have:=hlt j oo hj
     simp(disch:=omega) only[aV,bY,↓reduceIte]
     exact hj
    exact aI rfl (absurd ht h)
   rw[J3 ht]at hac
   refine aW (.tmp 29) rfl rfl rfl (fun h=>?_) (fun h=>?_)
   ·exact aI rfl (absurd h ht)
   refine aI rfl (aQ rfl (bU (aB (bA [0,1,2,13,14,15] rfl rfl rfl fun K hK=>?_))))
   simp(disch:=omega) only[Tryz.f11,go_sem,↓reduceIte]
   refine hK _ ?_
   refine bT ?_
   refine⟨⟨q+1,trC' C1 k,_⟩,⟨hac,by simp only;omega,hok2,by simp only;omega,by simp only;omega⟩,by simp only;omega,⟨fun x=> .inr (by simp only[Int.natCast_add,Int.natCast_one]),fun j oo hj=>hU (fun j oo hj=>?_) j oo hj,U3 _⟩⟩
   have:=hlt j oo hj
   simp(disch:=omega) only[aV,bY,↓reduceIte]
   exact hj
  refine aI rfl (bF 0 rfl rfl (aY (aZ (bE (aB (aA rfl ?_))))))
  obtain rfl:q=Z.length:=by omega
  rw[List.drop_length,dsV]at hac
  obtain rfl:=J0 hac
  refine bA [6] rfl rfl rfl fun K hK=>?_
  simp(disch:=omega) only[Tryz.f11,go_sem,↓reduceIte]
  refine hK _ ?_
  refine aB (aS rfl ?_)
  exact⟨rfl,fun j o hj=>hj,by simp only;omega⟩
 cases hg
theorem cVy:bX Tryz.prog GLh 11 (.heap aPa):=⟨⟨_,Tryz.func11,rfl,rfl⟩,cAu⟩
end Go.AX

namespace Go.AX
open Go Go.Proofs
set_option maxRecDepth 8000
def rg (c:CF) (a b:KY) (tr:List (W32×TK)):RC:=⟨c,[(2#32,a),(3#32,b)],3#32,tr⟩
def rh (c:CF) (a b:KY) (tr:List (W32×TK)):RC:=⟨c,[(1#32,a),(3#32,b)],3#32,tr⟩
theorem cUi (c:CF) (a b:KY) (tr:List (W32×TK)):(rg c a b tr).by'.length=2:=rfl
theorem cUh (c:CF) (a b:KY) (tr:List (W32×TK)):(rh c a b tr).by'.length=2:=rfl
attribute [go_sem] cUi cUh
end Go.AX

namespace Go.AX
open Go Go.Proofs
set_option maxRecDepth 8000
theorem bXh (a b:BitVec 64):aCh (.w64 a) (.w64 b)=some (.w64 (if b<a then b else a)):=(rfl)
attribute [go_sem] bXh
theorem cIf (a b:W32):BitVec.setWidth 32 (if 4294967295#64<BitVec.setWidth 64 a+BitVec.setWidth 64 b then 4294967295#64 else BitVec.setWidth 64 a+BitVec.setWidth 64 b)=plV a b:=by
 have ha:=a.isLt
 have hb:=b.isLt
 have e1:(BitVec.setWidth 64 a+BitVec.setWidth 64 b).toNat=a.toNat+b.toNat:=by
  rw[BitVec.toNat_add,BitVec.toNat_setWidth,BitVec.toNat_setWidth];omega
 have e2:(4294967295#32-a).toNat=4294967295-a.toNat:=by
  rw[BitVec.toNat_sub];simp only[BitVec.toNat_ofNat];omega
 apply BitVec.eq_of_toNat_eq
 unfold plV
 by_cases h:4294967295-a.toNat<b.toNat
 ·rw[J4 (by rw[BitVec.lt_def,e1];simp only[BitVec.toNat_ofNat];omega),J4 (by rw[BitVec.lt_def,e2];omega),BitVec.toNat_add,e2]
  simp only[BitVec.toNat_setWidth,BitVec.toNat_ofNat]
  omega
 rw[J3 (by rw[BitVec.lt_def,e1];simp only[BitVec.toNat_ofNat];omega),J3 (by rw[BitVec.lt_def,e2];omega),BitVec.toNat_add,BitVec.toNat_setWidth,e1]
theorem bHo:cL Tryz.prog GLh 13 rQ:=by
 refine cC Tryz.func13 (aT rfl) ?_
 intro args r hg
 unfold rQ at hg
 split at hg
 ·rename_i a b
  obtain rfl:=J0 hg
  refine⟨J1 rfl,fun nx=>?_⟩
  have hr:=cIf a b
  refine aA rfl (bA [0,1] rfl rfl rfl fun K hK=>?_)
  simp(disch:=omega) only[Tryz.f13,go_sem,↓reduceIte]
  refine hK _ ?_
  refine aB (aA rfl (bA [4] rfl rfl rfl fun K hK=>?_))
  simp(disch:=omega) only[Tryz.f13,go_sem,↓reduceIte,hr]
  refine hK _ ?_
  refine aB (aS rfl ?_)
  simp(disch:=omega) only[cN,bV,bK,bQ,Tryz.f13,go_sem,↓reduceIte]
 cases hg
theorem aVw:bX Tryz.prog GLh 13 (.pure true rQ):=⟨⟨_,Tryz.func13,rfl,rfl⟩,bHo⟩
def sgR (r:Int) (k:KY):Bool:=sgP r k&&decide (k.role=r)
theorem cUa (r:Int) (L:List KY):sgL r L=(L.filter (sgR r)).map (·.id):=by
 unfold sgL lH
 rw[List.filter_filter]
 rfl
end Go.AX

namespace Go.AX
open Go Go.Proofs
set_option maxRecDepth 8000
theorem cAh (P:Program) (t e:TypeId) (n:Nat) (hu:P.underlying t=some (.array n e)) (he:P.underlying e=some (.int .u8)) (hz:cD P e=some 1) (ha:cH P e=some false) (l m:List B8) (hl:l.length=n) (hm:m.length=n):
  eqT P 5 t (.agg (c8 l)) (.agg (c8 m))=some (decide (l=m)):=by
 have hld: ∀(l:List B8) (k:Nat),k<l.length→ldV P e ((c8 l).drop (k*1))=some (.w8 (l.getD k 0#8)):=by
  intro l k hk
  unfold ldV
  rw[ha,aX,J3 (by decide),Nat.mul_one]
  exact oC l k hk
 have he5: ∀a b:B8,eqT P 4 e (.w8 a) (.w8 b)=some (decide (a=b)):=by
  intro a b
  unfold eqT
  rw[he];rfl
 unfold eqT
 rw[hu]
 simp only[hz,aX]
 have key: ∀(r:Nat) (k:Nat),k+r=n→nO (eqT P 4 e) (fun i cs=>ldV P e (cs.drop (i*1))) (c8 l) (c8 m) (List.range' k r)=some (decide (l.drop k=m.drop k)):=by
  intro r
  induction r with
  |zero=>
   intro k hk
   rw[List.drop_of_length_le (by omega),List.drop_of_length_le (by omega)];rfl
  |succ r ih=>
   intro k hk
   rw[List.range'_succ]
   simp only[nO]
   rw[hld l k (by omega),hld m k (by omega)]
   simp only[aX,he5]
   rw[List.drop_eq_getElem_cons (by omega:k<l.length),List.drop_eq_getElem_cons (by omega:k<m.length)]
   have e1:l.getD k 0#8=l[k]'(by omega):=by simp[List.getD_eq_getElem?_getD,List.getElem?_eq_getElem (by omega:k<l.length)]
   have e2:m.getD k 0#8=m[k]'(by omega):=by simp[List.getD_eq_getElem?_getD,List.getElem?_eq_getElem (by omega:k<m.length)]
   rw[e1,e2]
   by_cases h:l[k]'(by omega)=m[k]'(by omega)
   ·rw[J4 (by simpa using h),ih (k+1) (by omega)]
    congr 1
    rw[decide_eq_decide,List.cons.injEq]
    exact⟨fun e=>⟨h,e⟩,fun e=>e.2⟩
   ·rw[J3 (by simpa using h)]
    congr 1;symm
    rw[decide_eq_false_iff_not,List.cons.injEq]
    exact fun e=>h e.1
 have:=key n 0 (by omega)
 rw[List.range_eq_range']
 exact this
theorem nN {p q:Prop} [Decidable p] [Decidable q] {x:Option Bool} (h1:p→x=some (decide q)) (h2: ¬p→¬q):(aK (some (decide p)) fun b=>if b=true then x else some false)=some (decide q):=by
 rw[aX]
 by_cases hp:p
 ·rw[J4 (J5 hp)];exact h1 hp
 rw[J3 (by rw[J6 hp];decide),J6 (h2 hp)]
theorem aJu (a b:W32):eqT Tryz.prog 5 23 (.w32 a) (.w32 b)=some (decide (a=b)):=by unfold eqT;rw[Tryz.underlying23];rfl
theorem bNn (a b:Int):eqT Tryz.prog 5 3 (.i a) (.i b)=some (decide (a=b)):=by unfold eqT;rw[Tryz.underlying3];rfl
theorem dAj (a b:S8):eqT Tryz.prog 5 41 (.agg (c8 a.l)) (.agg (c8 b.l))=some (decide (a.l=b.l)):=cAh _ 41 5 8 Tryz.underlying41 Tryz.underlying5 sz5 ag5 _ _ a.len b.len
theorem sh50:Tryz.prog.stoodInHeld 50=false:=by kernel_rfl
theorem eg50:Tryz.prog.eqGuardType Tryz.prog.depth 50=false:=by kernel_rfl
theorem cPe (a b:KY):eqT Tryz.prog 6 50 (.agg (kyC a)) (.agg (kyC b))=some (decide (a=b)):=by
 have e0: ∀k:KY,ldV Tryz.prog 23 ((kyC k).drop 0)=some (.w32 k.id):=fun k=>by unfold ldV;rw[ag23];rfl
 have e1: ∀k:KY,ldV Tryz.prog 3 ((kyC k).drop 1)=some (.i k.role):=fun k=>by unfold ldV;rw[ag3];rfl
 have e2: ∀k:KY,ldV Tryz.prog 3 ((kyC k).drop 2)=some (.i k.st):=fun k=>by unfold ldV;rw[ag3];rfl
 have e3: ∀k:KY,ldV Tryz.prog 41 ((kyC k).drop 3)=some (.agg (c8 k.seed.l)):=fun k=>by unfold ldV;rw[ag41,sz41];rfl
 have e4: ∀k:KY,ldV Tryz.prog 3 ((kyC k).drop 11)=some (.i k.h):=fun k=>by unfold ldV;rw[ag3];rfl
 have e5: ∀k:KY,ldV Tryz.prog 23 ((kyC k).drop 12)=some (.w32 k.next):=fun k=>by unfold ldV;rw[ag23];rfl
 have e6: ∀k:KY,ldV Tryz.prog 23 ((kyC k).drop 13)=some (.w32 k.since):=fun k=>by unfold ldV;rw[ag23];rfl
 have e7: ∀k:KY,ldV Tryz.prog 23 ((kyC k).drop 14)=some (.w32 k.seen):=fun k=>by unfold ldV;rw[ag23];rfl
 unfold eqT
 rw[Tryz.underlying50]
 simp only[cU _ sh50,oH,e0,e1,e2,e3,e4,e5,e6,e7,aX]
 rw[J4 (by decide),aJu]
 refine nN (fun h0=>?_) (fun h e=>h (by rw[e]))
 rw[J4 (by decide),bNn]
 refine nN (fun h1=>?_) (fun h e=>h (by rw[e]))
 rw[J4 (by decide),bNn]
 refine nN (fun h2=>?_) (fun h e=>h (by rw[e]))
 rw[J4 (by decide),dAj]
 refine nN (fun h3=>?_) (fun h e=>h (by rw[e]))
 rw[J4 (by decide),bNn]
 refine nN (fun h4=>?_) (fun h e=>h (by rw[e]))
 rw[J4 (by decide),aJu]
 refine nN (fun h5=>?_) (fun h e=>h (by rw[e]))
 rw[J4 (by decide),aJu]
 refine nN (fun h6=>?_) (fun h e=>h (by rw[e]))
 rw[J4 (by decide),aJu]
 refine nN (fun h7=>?_) (fun h e=>h (by rw[e]))
 rw[J5]
 obtain⟨a0,a1,a2,a3,a4,a5,a6,a7⟩:=a
 obtain⟨b0,b1,b2,b3,b4,b5,b6,b7⟩:=b
 simp only at h0 h1 h2 h3 h4 h5 h6 h7
 rw[h0,h1,h2,S8.inj h3,Int.ofNat.inj h4,h5,h6,h7]
attribute [go_sem] cPe eg50
noncomputable def aXb:List AV→Option AV
 |[.sl n xs,.sl m ys]=>aK (nM xs) fun a=>aK (nM ys) fun b=>aN (a.length=n∧b.length=m∧n≤1000∧m≤1000) (some (.b (decide (a=b))))
 |_=>none
theorem bMc (n m:Nat) (xs ys:List AV):aXb [.sl n xs,.sl m ys]=aK (nM xs) fun a=>aK (nM ys) fun b=>aN (a.length=n∧b.length=m∧n≤1000∧m≤1000) (some (.b (decide (a=b)))):=(rfl)
attribute [go_sem] bMc
set_option maxHeartbeats 1000000 in
theorem bYh:cL Tryz.prog GLh 14 aXb:=by
 refine cC Tryz.func14 (aT rfl) ?_
 intro args r hg
 unfold aXb at hg
 split at hg
 ·rename_i n xs m ys
  replace hg:=aJ hg;obtain⟨a,ha,hg⟩:=hg
  replace hg:=aJ hg;obtain⟨b,hb,hg⟩:=hg
  replace hg:=aP hg;obtain⟨⟨hn,hm,hbig,hbig2⟩,hg⟩:=hg
  obtain rfl:=J0 hg
  have:=lS ha;subst this
  have:=lS hb;subst this
  subst hn;subst hm
  clear hg ha hb
  refine⟨J1 rfl,fun nx=>?_⟩
  have hka:=iJ a
  have hkb:=iJ b
  refine aA rfl (bA [0,1] rfl rfl rfl fun K hK=>?_)
  simp(disch:=omega) only[Tryz.f14,go_sem,↓reduceIte]
  refine hK _ ?_
  refine aB (aA rfl (aA rfl (bA [10,0,1] rfl rfl rfl fun K hK=>?_)))
  simp(disch:=omega) only[Tryz.f14,go_sem,↓reduceIte]
  refine hK _ ?_
  refine aB (xF (.tmp 10) rfl rfl rfl (fun h=>?_) (fun h=>?_))
  ·refine aI rfl ?_
   have hl:decide (a=b)=false:=J6 (fun e=>h (by rw[e]))
   refine aA rfl (bA [4] rfl rfl rfl fun K hK=>?_)
   simp(disch:=omega) only[Tryz.f14,go_sem,↓reduceIte]
   refine hK _ ?_
   refine aB (aS rfl (bI ?_))
   simp(disch:=omega) only[cN,bV,bK,bQ,Tryz.f14,go_sem,↓reduceIte,hl]
  refine aI rfl ?_
  have hab:a.length=b.length:=by omega
  refine aQ rfl (aB (aA rfl (aA rfl (bA [0,1,5] rfl rfl rfl fun K hK=>?_))))
  simp(disch:=omega) only[Tryz.f14,go_sem,↓reduceIte]
  refine hK _ ?_
  refine aB (aR 0 rfl rfl (bR (fun p:KC=> {fr:=[(0,.sl a.length (jQ a)),(1,.sl b.length (jQ b)),(5,.i p.k)],hp:=fun _=>none,nx:=0,cx:=p.c}) (fun p=>p.k≤a.length∧a.take p.k=b.take p.k) (fun p=>a.length-p.k) rfl ⟨⟨0,_⟩,⟨Nat.zero_le _,rfl⟩,bD rfl rfl (U3 _)⟩ ?_))
  rintro⟨k,c⟩ ⟨hk,ht⟩ n0
  simp only at hk ht⊢
  refine aA rfl (aA rfl (bA [14,0,1,5] rfl rfl rfl fun K hK=>?_))
  simp(disch:=omega) only[Tryz.f14,go_sem,↓reduceIte]
  refine hK _ ?_
  refine aB (aW (.tmp 14) rfl rfl rfl (fun h=>?_) (fun h=>?_))
  ·refine aI rfl ?_
   have ha:k<a.length:=by omega
   have hb:k<b.length:=by omega
   have hra:=lC a k ha
   have hrb:=lC b k hb
   have hda:15≤(List.drop (15*k) (jQ a)).length:=by rw[List.length_drop];omega
   have hdb:15≤(List.drop (15*k) (jQ b)).length:=by rw[List.length_drop];omega
   have e15:k*15=15*k:=by omega
   obtain⟨X,hX⟩: ∃X,kyA a k=X:=⟨_,rfl⟩
   obtain⟨Y,hY⟩: ∃Y,kyA b k=Y:=⟨_,rfl⟩
   rw[hX]at hra
   rw[hY]at hrb
   refine aQ rfl (aB (aA rfl (aR 1 rfl rfl (aA rfl ?_))))
   by_cases hxy:X=Y
   ·have dxy:decide (X=Y)=true:=J5 hxy
    refine bB (Γ:=aL) (fun _=>2) [25,0,1,5] bZ (aD _ _) rfl rfl rfl (by kernel_rfl) (fun K hK=>?_)
    simp(disch:=omega) only[Tryz.f14,go_sem,↓reduceIte,hra,hrb,hda,hdb,e15,dxy,Bool.not_true]
    refine hK _ ?_
    refine aB (eC (.tmp 25) rfl rfl rfl (fun h=>?_) (fun h=>?_))
    ·refine aI rfl ?_
     cases h
    refine aI rfl (aQ rfl (bU (aB (bA [0,1,5] rfl rfl rfl fun K hK=>?_))))
    simp(disch:=omega) only[Tryz.f14,go_sem,↓reduceIte]
    refine hK _ ?_
    refine bT ?_
    refine⟨⟨k+1,_⟩,⟨by simp only;omega,?_⟩,by simp only;omega,bD ?_ rfl (U3 _)⟩
    ·rw[List.take_add_one,List.take_add_one,ht,List.getElem?_eq_getElem ha,List.getElem?_eq_getElem hb,kJ a k ha,kJ b k hb,hX,hY,hxy]
    simp only[Int.natCast_add,Int.natCast_one]
   have dxy:decide (X=Y)=false:=J6 hxy
   refine bB (Γ:=aL) (fun _=>2) [25,0,1,5] bZ (aD _ _) rfl rfl rfl (by kernel_rfl) (fun K hK=>?_)
   simp(disch:=omega) only[Tryz.f14,go_sem,↓reduceIte,hra,hrb,hda,hdb,e15,dxy,Bool.not_false]
   refine hK _ ?_
   refine aB (eC (.tmp 25) rfl rfl rfl (fun h=>?_) (fun h=>?_))
   ·refine aI rfl ?_
    have hl:decide (a=b)=false:=J6 (fun e=>hxy (by rw[←hX,←hY,e]))
    refine aA rfl (bA [4] rfl rfl rfl fun K hK=>?_)
    simp(disch:=omega) only[Tryz.f14,go_sem,↓reduceIte]
    refine hK _ ?_
    refine aB (aS rfl (bN (bI (dF (bN (bI ?_))))))
    simp(disch:=omega) only[cN,bV,bK,bQ,Tryz.f14,go_sem,↓reduceIte,hl]
   refine aI rfl ?_
   cases h
  refine aI rfl (bF 0 rfl rfl (aY (aZ (bE (aB (aA rfl ?_))))))
  obtain rfl:k=a.length:=by omega
  have hl:decide (a=b)=true:=J5 (by rw[List.take_length,hab,List.take_length]at ht;exact ht)
  refine bA [4] rfl rfl rfl fun K hK=>?_
  simp(disch:=omega) only[Tryz.f14,go_sem,↓reduceIte]
  refine hK _ ?_
  refine aB (aS rfl ?_)
  simp(disch:=omega) only[cN,bV,bK,bQ,Tryz.f14,go_sem,↓reduceIte,hl]
 cases hg
theorem dEa:bX Tryz.prog GLh 14 (.pure true aXb):=⟨⟨_,Tryz.func14,rfl,rfl⟩,bYh⟩
end Go.AX

namespace Go.AX
open Go Go.Proofs
set_option maxRecDepth 8000
def aEf (x:KY) (y:KY):Bool:=decide (y.role=1)&&decide (y.id<x.id)
def aZw (c:CF) (x:KY):Option KY→DU
 |none=>⟨x.id,-1,0#32⟩
 |some y=>⟨y.id,4,bhV x.seen c.dp c.dt⟩
def aRq (c:CF) (x:KY) (L:List KY):DU:=aZw c x (L.find? (aEf x))
def mdu (L:List KY) (c:CF) (x:KY):DU:=
 if x.role=0∧x.st=0 then⟨x.id,1,bhV x.since c.pr c.kt⟩
 else if x.role=0∧x.st=3 then⟨x.id,4,bhV x.since c.pr c.mx⟩
 else if x.role=1∧x.st=1 then⟨x.id,2,bhV x.since c.pr c.kt⟩
 else if x.role=1∧x.st=2∧x.seen≠0#32 then aRq c x L
 else⟨x.id,-1,0#32⟩
def mbt (b d:DU):DU:=if 0≤d.st∧(b.id=0#32∨d.w<b.w∨(d.w=b.w∧d.id<b.id))then d else b
def zE (L:List KY) (c:CF) (M:List KY):DU:=(M.map (mdu L c)).foldl mbt du0
def qV (L:List KY) (c:CF):DU:=zE L c L
theorem aSe (L:List KY) (c:CF) (k:Nat) (hk:k<L.length):zE L c (L.take (k+1))=mbt (zE L c (L.take k)) (mdu L c (kyA L k)):=by
 rw[zE,List.take_add_one,List.getElem?_eq_getElem hk,List.map_append,List.foldl_append,←kJ L k hk]
 rfl
theorem aHd (p:KY→Bool) (L:List KY) (k:Nat) (hk:k<L.length) (h:(L.take k).find? p=none):(L.take (k+1)).find? p=if p (kyA L k)=true then some (kyA L k)else none:=by
 rw[List.take_add_one,List.getElem?_eq_getElem hk,List.find?_append,h,←kJ L k hk]
 show List.find? p [L[k]]=_
 rw[List.find?_cons,List.find?_nil]
 cases p L[k]<;>rfl
theorem aHe (p:KY→Bool) (L:List KY) (k:Nat) {y:KY} (h:(L.take k).find? p=some y):L.find? p=some y:=by
 have e:L=L.take k++L.drop k:=(List.take_append_drop k L).symm
 rw[e,List.find?_append,h];rfl
noncomputable def bKq:List AV→Option AV
 |[.sl n xs,.agg cs]=>aK (nM xs) fun L=>aK (oW cs) fun c=>aN (L.length=n∧n≤1000) (some (.tup (duC (qV L c))))
 |_=>none
theorem bXf (n:Nat) (xs cs:List AV):bKq [.sl n xs,.agg cs]=aK (nM xs) fun L=>aK (oW cs) fun c=>aN (L.length=n∧n≤1000) (some (.tup (duC (qV L c)))):=(rfl)
attribute [go_sem] bXf
theorem aAk (t a b:W32):plV (plV t a) b=bhV t a b:=(rfl)
theorem vR {Q:Exit→S→Prop} {e:Exit} {t u:S} (ks:List Nat) (h:Q e u) (hu:u= {t with fr:=gL ks t.fr}): ∃u,Q e u∧Sub u t∧u.nx=t.nx:=⟨u,h,by subst hu;exact gP ks t,by subst hu;rfl⟩
structure OIX where
 k:Nat
 f:Option KY
 c:Nat
set_option maxHeartbeats 4000000 in
theorem cLv {Q:Exit→S→Prop} {L:List KY} {c:CF} {B:DU} {i:Nat} {X:KY} {hp:H} {nx cx:Nat} (hLl:L.length≤1000)
  (hQ: ∀nx' cx',cx≤cx'→Q .normal {fr:=[(0,.sl L.length (jQ L)),(3,.rp (cfC c)),(7,.w32 B.id),(8,.i B.st),(9,.w32 B.w),(10,.i i),(12,.w32 (mdu L c X).id),(13,.i (mdu L c X).st),(14,.w32 (mdu L c X).w)],hp:=hp,nx:=nx',cx:=cx'}):
  Awp Tryz.prog GLh Tryz.f19.ntmps (cl (cr (cr (cl (cl (cr (cl (cl (cr (cl (cr (cr (aE Tryz.f19))))))))))))) {fr:=[(0,.sl L.length (jQ L)),(3,.rp (cfC c)),(7,.w32 B.id),(8,.i B.st),(9,.w32 B.w),(10,.i i),(11,.rp (kyC X)),(12,.w32 X.id),(13,.i (-1)),(14,.w32 0#32)],hp:=hp,nx:=nx,cx:=cx} Q:=by
 refine sX ?_
 have hcl:13≤(cfC c).length:=J1 rfl
 have hkl:=iJ L
 by_cases r0:X.role=0
 ·have dr0:decide (X.role=0)=true:=J5 r0
  have dr1:decide (X.role=1)=false:=J6 (by omega)
  by_cases s0:X.st=0
  ·have ds0:decide (X.st=0)=true:=J5 s0
   have hm:mdu L c X=⟨X.id,1,bhV X.since c.pr c.kt⟩:=J4 ⟨r0,s0⟩
   refine aR 2 rfl rfl ?_
   refine aA rfl ?_
   refine bA [28,0,3,7,8,9,10,11,12,13,14] rfl rfl rfl fun K hK=>?_
   simp(disch:=omega) only[Tryz.f19,go_sem,↓reduceIte,dr0,ds0,beq_self_eq_true,kyC,J8,J7,J9]
   refine hK _ ?_
   refine aB ?_
   refine eC (.tmp 28) rfl rfl rfl (fun h=>?_) (fun h=>?_)
   ·skip
    refine aI rfl ?_
    refine bB (Γ:=bC [(13,.pure true rQ)]) (fun k=>if k=7 then 0 else 2) [0,3,7,8,9,10,12,13,14] bZ (aH aVw aO) rfl rfl rfl (by kernel_rfl) (fun K hK=>?_)
    simp(disch:=omega) only[Tryz.f19,go_sem,↓reduceIte,aAk,J8,J7,J9]
    refine hK _ ?_
    refine bU ?_
    rw[hm]at hQ
    (refine vR [0,3,7,8,9,10,12,13,14] (hQ _ _ ?_) rfl;first|omega|(simp only;omega))
   ·skip
    refine aI rfl ?_
    cases h
  ·have ds0:decide (X.st=0)=false:=J6 s0
   by_cases s3:X.st=3
   ·have ds3:decide (X.st=3)=true:=J5 s3
    have hm:mdu L c X=⟨X.id,4,bhV X.since c.pr c.mx⟩:=(J3 (fun e=>s0 e.2)).trans (J4 ⟨r0,s3⟩)
    refine aR 2 rfl rfl ?_
    refine aA rfl ?_
    refine bA [28,0,3,7,8,9,10,11,12,13,14] rfl rfl rfl fun K hK=>?_
    simp(disch:=omega) only[Tryz.f19,go_sem,↓reduceIte,dr0,ds0,beq_self_eq_true,kyC,J8,J7,J9]
    refine hK _ ?_
    refine aB ?_
    refine eC (.tmp 28) rfl rfl rfl (fun h=>?_) (fun h=>?_)
    ·skip
     refine aI rfl ?_
     cases h
    ·skip
     refine aI rfl ?_
     refine aA rfl ?_
     refine bA [45,0,3,7,8,9,10,11,12,13,14] rfl rfl rfl fun K hK=>?_
     simp(disch:=omega) only[Tryz.f19,go_sem,↓reduceIte,dr0,ds3,beq_self_eq_true,J8,J7,J9]
     refine hK _ ?_
     refine aB ?_
     refine eC (.tmp 45) rfl rfl rfl (fun h=>?_) (fun h=>?_)
     ·skip
      refine aI rfl ?_
      refine bB (Γ:=bC [(13,.pure true rQ)]) (fun k=>if k=7 then 0 else 2) [0,3,7,8,9,10,12,13,14] bZ (aH aVw aO) rfl rfl rfl (by kernel_rfl) (fun K hK=>?_)
      simp(disch:=omega) only[Tryz.f19,go_sem,↓reduceIte,aAk,J8,J7,J9]
      refine hK _ ?_
      refine bU ?_
      rw[hm]at hQ
      (refine vR [0,3,7,8,9,10,12,13,14] (hQ _ _ ?_) rfl;first|omega|(simp only;omega))
     ·skip
      refine aI rfl ?_
      cases h
   ·have ds3:decide (X.st=3)=false:=J6 s3
    have hm:mdu L c X=⟨X.id,-1,0#32⟩:=(J3 (fun e=>s0 e.2)).trans ((J3 (fun e=>s3 e.2)).trans ((J3 (fun e=>absurd e.1 (by omega))).trans (J3 (fun e=>absurd e.1 (by omega)))))
    refine aR 2 rfl rfl ?_
    refine aA rfl ?_
    refine bA [28,0,3,7,8,9,10,11,12,13,14] rfl rfl rfl fun K hK=>?_
    simp(disch:=omega) only[Tryz.f19,go_sem,↓reduceIte,dr0,ds0,beq_self_eq_true,kyC,J8,J7,J9]
    refine hK _ ?_
    refine aB ?_
    refine eC (.tmp 28) rfl rfl rfl (fun h=>?_) (fun h=>?_)
    ·skip
     refine aI rfl ?_
     cases h
    ·skip
     refine aI rfl ?_
     refine aA rfl ?_
     refine bA [45,0,3,7,8,9,10,11,12,13,14] rfl rfl rfl fun K hK=>?_
     simp(disch:=omega) only[Tryz.f19,go_sem,↓reduceIte,dr0,ds3,beq_self_eq_true,J8,J7,J9]
     refine hK _ ?_
     refine aB ?_
     refine eC (.tmp 45) rfl rfl rfl (fun h=>?_) (fun h=>?_)
     ·skip
      refine aI rfl ?_
      cases h
     ·skip
      refine aI rfl ?_
      refine aA rfl ?_
      refine bA [62,0,3,7,8,9,10,11,12,13,14] rfl rfl rfl fun K hK=>?_
      simp(disch:=omega) only[Tryz.f19,go_sem,↓reduceIte,dr1,J8,J7,J9]
      refine hK _ ?_
      refine aB ?_
      refine eC (.tmp 62) rfl rfl rfl (fun h=>?_) (fun h=>?_)
      ·skip
       refine aI rfl ?_
       cases h
      ·skip
       refine aI rfl ?_
       refine aA rfl ?_
       refine bA [79,0,3,7,8,9,10,11,12,13,14] rfl rfl rfl fun K hK=>?_
       simp(disch:=omega) only[Tryz.f19,go_sem,↓reduceIte,dr1,J8,J7,J9]
       refine hK _ ?_
       refine aB ?_
       refine eC (.tmp 79) rfl rfl rfl (fun h=>?_) (fun h=>?_)
       ·skip
        refine aI rfl ?_
        cases h
       ·skip
        refine aI rfl ?_
        refine aQ rfl ?_
        refine bU ?_
        rw[hm]at hQ
        (refine vR [0,3,7,8,9,10,12,13,14] (hQ _ _ ?_) rfl;first|omega|(simp only;omega))
 ·have dr0:decide (X.role=0)=false:=J6 r0
  by_cases r1:X.role=1
  ·have dr1:decide (X.role=1)=true:=J5 r1
   by_cases s1:X.st=1
   ·have ds1:decide (X.st=1)=true:=J5 s1
    have hm:mdu L c X=⟨X.id,2,bhV X.since c.pr c.kt⟩:=(J3 (fun e=>r0 e.1)).trans ((J3 (fun e=>r0 e.1)).trans (J4 ⟨r1,s1⟩))
    refine aR 2 rfl rfl ?_
    refine aA rfl ?_
    refine bA [28,0,3,7,8,9,10,11,12,13,14] rfl rfl rfl fun K hK=>?_
    simp(disch:=omega) only[Tryz.f19,go_sem,↓reduceIte,dr0,kyC,J8,J7,J9]
    refine hK _ ?_
    refine aB ?_
    refine eC (.tmp 28) rfl rfl rfl (fun h=>?_) (fun h=>?_)
    ·skip
     refine aI rfl ?_
     cases h
    ·skip
     refine aI rfl ?_
     refine aA rfl ?_
     refine bA [45,0,3,7,8,9,10,11,12,13,14] rfl rfl rfl fun K hK=>?_
     simp(disch:=omega) only[Tryz.f19,go_sem,↓reduceIte,dr0,J8,J7,J9]
     refine hK _ ?_
     refine aB ?_
     refine eC (.tmp 45) rfl rfl rfl (fun h=>?_) (fun h=>?_)
     ·skip
      refine aI rfl ?_
      cases h
     ·skip
      refine aI rfl ?_
      refine aA rfl ?_
      refine bA [62,0,3,7,8,9,10,11,12,13,14] rfl rfl rfl fun K hK=>?_
      simp(disch:=omega) only[Tryz.f19,go_sem,↓reduceIte,dr1,ds1,beq_self_eq_true,J8,J7,J9]
      refine hK _ ?_
      refine aB ?_
      refine eC (.tmp 62) rfl rfl rfl (fun h=>?_) (fun h=>?_)
      ·skip
       refine aI rfl ?_
       refine bB (Γ:=bC [(13,.pure true rQ)]) (fun k=>if k=7 then 0 else 2) [0,3,7,8,9,10,12,13,14] bZ (aH aVw aO) rfl rfl rfl (by kernel_rfl) (fun K hK=>?_)
       simp(disch:=omega) only[Tryz.f19,go_sem,↓reduceIte,aAk,J8,J7,J9]
       refine hK _ ?_
       refine bU ?_
       rw[hm]at hQ
       (refine vR [0,3,7,8,9,10,12,13,14] (hQ _ _ ?_) rfl;first|omega|(simp only;omega))
      ·skip
       refine aI rfl ?_
       cases h
   ·have ds1:decide (X.st=1)=false:=J6 s1
    by_cases s2:X.st=2
    ·have ds2:decide (X.st=2)=true:=J5 s2
     by_cases n0:X.seen=0#32
     ·have dn0:decide (X.seen=0#32)=true:=J5 n0
      have hm:mdu L c X=⟨X.id,-1,0#32⟩:=(J3 (fun e=>r0 e.1)).trans ((J3 (fun e=>r0 e.1)).trans ((J3 (fun e=>s1 e.2)).trans (J3 (fun e=>e.2.2 n0))))
      refine aR 2 rfl rfl ?_
      refine aA rfl ?_
      refine bA [28,0,3,7,8,9,10,11,12,13,14] rfl rfl rfl fun K hK=>?_
      simp(disch:=omega) only[Tryz.f19,go_sem,↓reduceIte,dr0,kyC,J8,J7,J9]
      refine hK _ ?_
      refine aB ?_
      refine eC (.tmp 28) rfl rfl rfl (fun h=>?_) (fun h=>?_)
      ·skip
       refine aI rfl ?_
       cases h
      ·skip
       refine aI rfl ?_
       refine aA rfl ?_
       refine bA [45,0,3,7,8,9,10,11,12,13,14] rfl rfl rfl fun K hK=>?_
       simp(disch:=omega) only[Tryz.f19,go_sem,↓reduceIte,dr0,J8,J7,J9]
       refine hK _ ?_
       refine aB ?_
       refine eC (.tmp 45) rfl rfl rfl (fun h=>?_) (fun h=>?_)
       ·skip
        refine aI rfl ?_
        cases h
       ·skip
        refine aI rfl ?_
        refine aA rfl ?_
        refine bA [62,0,3,7,8,9,10,11,12,13,14] rfl rfl rfl fun K hK=>?_
        simp(disch:=omega) only[Tryz.f19,go_sem,↓reduceIte,dr1,ds1,beq_self_eq_true,J8,J7,J9]
        refine hK _ ?_
        refine aB ?_
        refine eC (.tmp 62) rfl rfl rfl (fun h=>?_) (fun h=>?_)
        ·skip
         refine aI rfl ?_
         cases h
        ·skip
         refine aI rfl ?_
         refine aA rfl ?_
         refine bA [79,0,3,7,8,9,10,11,12,13,14] rfl rfl rfl fun K hK=>?_
         simp(disch:=omega) only[Tryz.f19,go_sem,↓reduceIte,dr1,ds2,dn0,Bool.not_true,beq_self_eq_true,J8,J7,J9]
         refine hK _ ?_
         refine aB ?_
         refine eC (.tmp 79) rfl rfl rfl (fun h=>?_) (fun h=>?_)
         ·skip
          refine aI rfl ?_
          cases h
         ·skip
          refine aI rfl ?_
          refine aQ rfl ?_
          refine bU ?_
          rw[hm]at hQ
          (refine vR [0,3,7,8,9,10,12,13,14] (hQ _ _ ?_) rfl;first|omega|(simp only;omega))
     ·have dn0:decide (X.seen=0#32)=false:=J6 n0
      have hm:mdu L c X=aRq c X L:=(J3 (fun e=>r0 e.1)).trans ((J3 (fun e=>r0 e.1)).trans ((J3 (fun e=>s1 e.2)).trans (J4 ⟨r1,s2,n0⟩)))
      refine aR 2 rfl rfl ?_
      refine aA rfl ?_
      refine bA [28,0,3,7,8,9,10,11,12,13,14] rfl rfl rfl fun K hK=>?_
      simp(disch:=omega) only[Tryz.f19,go_sem,↓reduceIte,dr0,kyC,J8,J7,J9]
      refine hK _ ?_
      refine aB ?_
      refine eC (.tmp 28) rfl rfl rfl (fun h=>?_) (fun h=>?_)
      ·skip
       refine aI rfl ?_
       cases h
      ·skip
       refine aI rfl ?_
       refine aA rfl ?_
       refine bA [45,0,3,7,8,9,10,11,12,13,14] rfl rfl rfl fun K hK=>?_
       simp(disch:=omega) only[Tryz.f19,go_sem,↓reduceIte,dr0,J8,J7,J9]
       refine hK _ ?_
       refine aB ?_
       refine eC (.tmp 45) rfl rfl rfl (fun h=>?_) (fun h=>?_)
       ·skip
        refine aI rfl ?_
        cases h
       ·skip
        refine aI rfl ?_
        refine aA rfl ?_
        refine bA [62,0,3,7,8,9,10,11,12,13,14] rfl rfl rfl fun K hK=>?_
        simp(disch:=omega) only[Tryz.f19,go_sem,↓reduceIte,dr1,ds1,beq_self_eq_true,J8,J7,J9]
        refine hK _ ?_
        refine aB ?_
        refine eC (.tmp 62) rfl rfl rfl (fun h=>?_) (fun h=>?_)
        ·skip
         refine aI rfl ?_
         cases h
        ·skip
         refine aI rfl ?_
         refine aA rfl ?_
         refine bA [79,0,3,7,8,9,10,11,12,13,14] rfl rfl rfl fun K hK=>?_
         simp(disch:=omega) only[Tryz.f19,go_sem,↓reduceIte,dr1,ds2,dn0,Bool.not_false,beq_self_eq_true,J8,J7,J9]
         refine hK _ ?_
         refine aB ?_
         refine eC (.tmp 79) rfl rfl rfl (fun h=>?_) (fun h=>?_)
         ·skip
          refine aI rfl ?_
          refine aA rfl ?_
          refine bA [0,3,7,8,9,10,11,12,13,14,15] rfl rfl rfl fun K hK=>?_
          simp(disch:=omega) only[Tryz.f19,go_sem,↓reduceIte]
          refine hK _ ?_
          refine aB ?_
          refine aR 3 rfl rfl ?_
          refine bR (fun p:OIX=> {fr:=[(0,.sl L.length (jQ L)),(3,.rp (cfC c)),(7,.w32 B.id),(8,.i B.st),(9,.w32 B.w),(10,.i i),(11,.rp (kyC X)),(12,.w32 (aZw c X p.f).id),(13,.i (aZw c X p.f).st),(14,.w32 (aZw c X p.f).w),(15,.i p.k)],hp:=hp,nx:=0,cx:=p.c}) (fun p=>p.k≤L.length∧(L.take p.k).find? (aEf X)=p.f∧cx≤p.c) (fun p=>L.length-p.k) rfl ⟨⟨0,none,_⟩,⟨Nat.zero_le _,rfl,by simp only;omega⟩,⟨fun x=> .inr rfl,fun j o h=>h,U3 _⟩⟩ ?_
          rintro⟨k,f,c1⟩ ⟨hk,hf,hc1⟩ n0
          simp only at hk hf hc1⊢
          rcases Nat.lt_or_ge k L.length with hkl1|hkl1
          ·skip
           have dk:decide ((k:Int)<(L.length:Int))=true:=J5 (by omega)
           rcases f with _|y
           ·skip
            have o1:(aZw c X none).st= -1:=rfl
            refine aA rfl ?_
            refine aA rfl ?_
            refine bA [100,0,3,7,8,9,10,11,12,13,14,15] rfl rfl rfl fun K hK=>?_
            simp(disch:=omega) only[Tryz.f19,go_sem,↓reduceIte,dk,o1,decide_true]
            refine hK _ ?_
            refine aB ?_
            refine eC (.tmp 100) rfl rfl rfl (fun h=>?_) (fun h=>?_)
            ·skip
             refine aI rfl ?_
             have hka0:=jW L k 0 hkl1 (by omega)
             have hka1:=jW L k 1 hkl1 (by omega)
             rw[Nat.add_zero]at hka0
             rw[←List.drop_drop]at hka1
             have e15:k*15=15*k:=by omega
             have hfn:=aHd (aEf X) L k hkl1 hf
             obtain⟨Y,hY⟩: ∃Y,kyA L k=Y:=⟨_,rfl⟩
             rw[hY]at hka0 hka1 hfn
             refine aQ rfl ?_
             refine aB ?_
             refine aA rfl ?_
             refine aR 4 rfl rfl ?_
             refine aA rfl ?_
             by_cases hy1:Y.role=1
             ·skip
              have dy1:decide (Y.role=1)=true:=J5 hy1
              by_cases hy2:Y.id<X.id
              ·skip
               have dy2:decide (Y.id<X.id)=true:=J5 hy2
               rw[J4 (by unfold aEf;rw[dy1,dy2];rfl)]at hfn
               refine bB (Γ:=aL) (fun k=>if k=4 then 0 else 2) [118,0,3,7,8,9,10,11,12,13,14,15] bZ (aD _ _) rfl rfl rfl (by kernel_rfl) (fun K hK=>?_)
               simp(disch:=omega) only[Tryz.f19,go_sem,↓reduceIte,hka0,hka1,e15,dy1,dy2,beq_self_eq_true,kyC,J8,J7,J9]
               refine hK _ ?_
               refine aB ?_
               refine eC (.tmp 118) rfl rfl rfl (fun h=>?_) (fun h=>?_)
               ·skip
                refine aI rfl ?_
                refine bB (Γ:=bC [(13,.pure true rQ)]) (fun _=>2) [0,3,7,8,9,10,11,12,13,14,15] bZ (aH aVw aO) rfl rfl rfl (by kernel_rfl) (fun K hK=>?_)
                simp(disch:=omega) only[Tryz.f19,go_sem,↓reduceIte,hka0,e15,aAk,kyC,J8,J7,J9]
                refine hK _ ?_
                refine bU (aB ?_)
                refine bA [0,3,7,8,9,10,11,12,13,14,15] rfl rfl rfl fun K hK=>?_
                simp(disch:=omega) only[Tryz.f19,go_sem,↓reduceIte]
                refine hK _ ?_
                refine bT ?_
                refine⟨⟨k+1,some Y,_⟩,⟨by simp only;omega,hfn,by simp only;omega⟩,by simp only;omega,⟨fun x=> .inr (by simp only[Int.natCast_add,Int.natCast_one];rfl),fun j o h=>h,U3 _⟩⟩
               ·skip
                refine aI rfl ?_
                cases h
              ·skip
               have dy2:decide (Y.id<X.id)=false:=J6 hy2
               rw[J3 (by unfold aEf;rw[dy1,dy2];decide)]at hfn
               refine bB (Γ:=aL) (fun k=>if k=4 then 0 else 2) [118,0,3,7,8,9,10,11,12,13,14,15] bZ (aD _ _) rfl rfl rfl (by kernel_rfl) (fun K hK=>?_)
               simp(disch:=omega) only[Tryz.f19,go_sem,↓reduceIte,hka0,hka1,e15,dy1,dy2,beq_self_eq_true,kyC,J8,J7,J9]
               refine hK _ ?_
               refine aB ?_
               refine eC (.tmp 118) rfl rfl rfl (fun h=>?_) (fun h=>?_)
               ·skip
                refine aI rfl ?_
                cases h
               ·skip
                refine aI rfl ?_
                refine aQ rfl ?_
                refine bU (aB ?_)
                refine bA [0,3,7,8,9,10,11,12,13,14,15] rfl rfl rfl fun K hK=>?_
                simp(disch:=omega) only[Tryz.f19,go_sem,↓reduceIte]
                refine hK _ ?_
                refine bT ?_
                refine⟨⟨k+1,none,_⟩,⟨by simp only;omega,hfn,by simp only;omega⟩,by simp only;omega,⟨fun x=> .inr (by simp only[Int.natCast_add,Int.natCast_one];rfl),fun j o h=>h,U3 _⟩⟩
             ·skip
              have dy1:decide (Y.role=1)=false:=J6 hy1
              rw[J3 (by unfold aEf;rw[dy1];exact Bool.false_ne_true)]at hfn
              refine bB (Γ:=aL) (fun k=>if k=4 then 0 else 2) [118,0,3,7,8,9,10,11,12,13,14,15] bZ (aD _ _) rfl rfl rfl (by kernel_rfl) (fun K hK=>?_)
              simp(disch:=omega) only[Tryz.f19,go_sem,↓reduceIte,hka1,e15,dy1,kyC,J8,J7,J9]
              refine hK _ ?_
              refine aB ?_
              refine eC (.tmp 118) rfl rfl rfl (fun h=>?_) (fun h=>?_)
              ·skip
               refine aI rfl ?_
               cases h
              ·skip
               refine aI rfl ?_
               refine aQ rfl ?_
               refine bU (aB ?_)
               refine bA [0,3,7,8,9,10,11,12,13,14,15] rfl rfl rfl fun K hK=>?_
               simp(disch:=omega) only[Tryz.f19,go_sem,↓reduceIte]
               refine hK _ ?_
               refine bT ?_
               refine⟨⟨k+1,none,_⟩,⟨by simp only;omega,hfn,by simp only;omega⟩,by simp only;omega,⟨fun x=> .inr (by simp only[Int.natCast_add,Int.natCast_one];rfl),fun j o h=>h,U3 _⟩⟩
            ·skip
             refine aI rfl ?_
             cases h
           ·skip
            have o1:(aZw c X (some y)).st=4:=rfl
            have hfin:=aHe (aEf X) L k hf
            refine aA rfl ?_
            refine aA rfl ?_
            refine bA [100,0,3,7,8,9,10,11,12,13,14,15] rfl rfl rfl fun K hK=>?_
            simp(disch:=omega) only[Tryz.f19,go_sem,↓reduceIte,dk,o1,decide_false]
            refine hK _ ?_
            refine aB ?_
            refine eC (.tmp 100) rfl rfl rfl (fun h=>?_) (fun h=>?_)
            ·skip
             refine aI rfl ?_
             cases h
            ·skip
             refine aI rfl ?_
             refine bF 3 rfl rfl ?_
             refine aY (aZ (bE ?_))
             refine bU ?_
             rw[hm,aRq,hfin]at hQ
             (refine vR [0,3,7,8,9,10,12,13,14] (hQ _ _ ?_) rfl;first|omega|(simp only;omega))
          ·skip
           have dk:decide ((k:Int)<(L.length:Int))=false:=J6 (by omega)
           have hfin:L.find? (aEf X)=f:=by rw[←hf,List.take_of_length_le hkl1]
           refine aA rfl ?_
           refine aA rfl ?_
           refine bA [100,0,3,7,8,9,10,11,12,13,14,15] rfl rfl rfl fun K hK=>?_
           simp(disch:=omega) only[Tryz.f19,go_sem,↓reduceIte,dk]
           refine hK _ ?_
           refine aB ?_
           refine eC (.tmp 100) rfl rfl rfl (fun h=>?_) (fun h=>?_)
           ·skip
            refine aI rfl ?_
            cases h
           ·skip
            refine aI rfl ?_
            refine bF 3 rfl rfl ?_
            refine aY (aZ (bE ?_))
            refine bU ?_
            rw[hm,aRq,hfin]at hQ
            (refine vR [0,3,7,8,9,10,12,13,14] (hQ _ _ ?_) rfl;first|omega|(simp only;omega))
         ·skip
          refine aI rfl ?_
          cases h
    ·have ds2:decide (X.st=2)=false:=J6 s2
     have hm:mdu L c X=⟨X.id,-1,0#32⟩:=(J3 (fun e=>r0 e.1)).trans ((J3 (fun e=>r0 e.1)).trans ((J3 (fun e=>s1 e.2)).trans (J3 (fun e=>s2 e.2.1))))
     refine aR 2 rfl rfl ?_
     refine aA rfl ?_
     refine bA [28,0,3,7,8,9,10,11,12,13,14] rfl rfl rfl fun K hK=>?_
     simp(disch:=omega) only[Tryz.f19,go_sem,↓reduceIte,dr0,kyC,J8,J7,J9]
     refine hK _ ?_
     refine aB ?_
     refine eC (.tmp 28) rfl rfl rfl (fun h=>?_) (fun h=>?_)
     ·skip
      refine aI rfl ?_
      cases h
     ·skip
      refine aI rfl ?_
      refine aA rfl ?_
      refine bA [45,0,3,7,8,9,10,11,12,13,14] rfl rfl rfl fun K hK=>?_
      simp(disch:=omega) only[Tryz.f19,go_sem,↓reduceIte,dr0,J8,J7,J9]
      refine hK _ ?_
      refine aB ?_
      refine eC (.tmp 45) rfl rfl rfl (fun h=>?_) (fun h=>?_)
      ·skip
       refine aI rfl ?_
       cases h
      ·skip
       refine aI rfl ?_
       refine aA rfl ?_
       refine bA [62,0,3,7,8,9,10,11,12,13,14] rfl rfl rfl fun K hK=>?_
       simp(disch:=omega) only[Tryz.f19,go_sem,↓reduceIte,dr1,ds1,beq_self_eq_true,J8,J7,J9]
       refine hK _ ?_
       refine aB ?_
       refine eC (.tmp 62) rfl rfl rfl (fun h=>?_) (fun h=>?_)
       ·skip
        refine aI rfl ?_
        cases h
       ·skip
        refine aI rfl ?_
        refine aA rfl ?_
        refine bA [79,0,3,7,8,9,10,11,12,13,14] rfl rfl rfl fun K hK=>?_
        simp(disch:=omega) only[Tryz.f19,go_sem,↓reduceIte,dr1,ds2,beq_self_eq_true,J8,J7,J9]
        refine hK _ ?_
        refine aB ?_
        refine eC (.tmp 79) rfl rfl rfl (fun h=>?_) (fun h=>?_)
        ·skip
         refine aI rfl ?_
         cases h
        ·skip
         refine aI rfl ?_
         refine aQ rfl ?_
         refine bU ?_
         rw[hm]at hQ
         (refine vR [0,3,7,8,9,10,12,13,14] (hQ _ _ ?_) rfl;first|omega|(simp only;omega))
  ·have dr1:decide (X.role=1)=false:=J6 r1
   have hm:mdu L c X=⟨X.id,-1,0#32⟩:=(J3 (fun e=>r0 e.1)).trans ((J3 (fun e=>r0 e.1)).trans ((J3 (fun e=>r1 e.1)).trans (J3 (fun e=>r1 e.1))))
   refine aR 2 rfl rfl ?_
   refine aA rfl ?_
   refine bA [28,0,3,7,8,9,10,11,12,13,14] rfl rfl rfl fun K hK=>?_
   simp(disch:=omega) only[Tryz.f19,go_sem,↓reduceIte,dr0,kyC,J8,J7,J9]
   refine hK _ ?_
   refine aB ?_
   refine eC (.tmp 28) rfl rfl rfl (fun h=>?_) (fun h=>?_)
   ·skip
    refine aI rfl ?_
    cases h
   ·skip
    refine aI rfl ?_
    refine aA rfl ?_
    refine bA [45,0,3,7,8,9,10,11,12,13,14] rfl rfl rfl fun K hK=>?_
    simp(disch:=omega) only[Tryz.f19,go_sem,↓reduceIte,dr0,J8,J7,J9]
    refine hK _ ?_
    refine aB ?_
    refine eC (.tmp 45) rfl rfl rfl (fun h=>?_) (fun h=>?_)
    ·skip
     refine aI rfl ?_
     cases h
    ·skip
     refine aI rfl ?_
     refine aA rfl ?_
     refine bA [62,0,3,7,8,9,10,11,12,13,14] rfl rfl rfl fun K hK=>?_
     simp(disch:=omega) only[Tryz.f19,go_sem,↓reduceIte,dr1,J8,J7,J9]
     refine hK _ ?_
     refine aB ?_
     refine eC (.tmp 62) rfl rfl rfl (fun h=>?_) (fun h=>?_)
     ·skip
      refine aI rfl ?_
      cases h
     ·skip
      refine aI rfl ?_
      refine aA rfl ?_
      refine bA [79,0,3,7,8,9,10,11,12,13,14] rfl rfl rfl fun K hK=>?_
      simp(disch:=omega) only[Tryz.f19,go_sem,↓reduceIte,dr1,J8,J7,J9]
      refine hK _ ?_
      refine aB ?_
      refine eC (.tmp 79) rfl rfl rfl (fun h=>?_) (fun h=>?_)
      ·skip
       refine aI rfl ?_
       cases h
      ·skip
       refine aI rfl ?_
       refine aQ rfl ?_
       refine bU ?_
       rw[hm]at hQ
       (refine vR [0,3,7,8,9,10,12,13,14] (hQ _ _ ?_) rfl;first|omega|(simp only;omega))
set_option maxHeartbeats 4000000 in
theorem cLw:cL Tryz.prog GLh 19 bKq:=by
 refine cC Tryz.func19 (aT rfl) ?_
 intro args r hg
 unfold bKq at hg
 split at hg
 ·rename_i n xs cs
  replace hg:=aJ hg;obtain⟨L,hL,hg⟩:=hg
  have:=lS hL;subst this
  replace hg:=aJ hg;obtain⟨c,hcf,hg⟩:=hg
  have:=lF hcf;subst this
  replace hg:=aP hg;obtain⟨⟨hn,hbig⟩,hg⟩:=hg
  obtain rfl:=J0 hg
  subst hn
  refine⟨J1 rfl,fun nx=>?_⟩
  have hkl:=iJ L
  refine aA rfl (bA [0,3] rfl rfl rfl fun K hK=>?_)
  simp(disch:=omega) only[Tryz.f19,go_sem,↓reduceIte]
  refine hK _ ?_
  refine aB ?_
  refine lW 3 nx 0 rfl (by simp(disch:=omega) only[aV,↓reduceIte,eq_self]<;>rfl) ?_
  refine aA rfl (bA [0,3,7,8,9] rfl rfl rfl fun K hK=>?_)
  simp(disch:=omega) only[Tryz.f19,go_sem,↓reduceIte]
  refine hK _ ?_
  refine aB (aA rfl (aA rfl (bA [0,3,7,8,9,10] rfl rfl rfl fun K hK=>?_)))
  simp(disch:=omega) only[Tryz.f19,go_sem,↓reduceIte]
  refine hK _ ?_
  refine aB (aR 0 rfl rfl (bR (fun p:KC=> {fr:=[(0,.sl L.length (jQ L)),(3,.rp (cfC c)),(7,.w32 (zE L c (L.take p.k)).id),(8,.i (zE L c (L.take p.k)).st),(9,.w32 (zE L c (L.take p.k)).w),(10,.i p.k)],hp:=fun _=>none,nx:=0,cx:=p.c}) (fun p=>p.k≤L.length) (fun p=>L.length-p.k) rfl ⟨⟨0,_⟩,Nat.zero_le _,⟨fun x=> .inr rfl,fun j o hj=>(nomatch (show(none:Option AO)=some o from hj)),U3 _⟩⟩ ?_))
  rintro⟨k,c1⟩ hk n0
  simp only at hk⊢
  refine aA rfl (aA rfl (bA [19,0,3,7,8,9,10] rfl rfl rfl fun K hK=>?_))
  simp(disch:=omega) only[Tryz.f19,go_sem,↓reduceIte]
  refine hK _ ?_
  refine aB (aW (.tmp 19) rfl rfl rfl (fun h=>?_) (fun h=>?_))
  ·refine aI rfl ?_
   have hkL:k<L.length:=by omega
   have hrow:=lC L k hkL
   have hdl:15≤(List.drop (15*k) (jQ L)).length:=by rw[List.length_drop];omega
   have e15:k*15=15*k:=by omega
   have hnb:=aSe L c k hkL
   obtain⟨B,hB⟩: ∃B,zE L c (L.take k)=B:=⟨_,rfl⟩
   obtain⟨X,hX⟩: ∃X,kyA L k=X:=⟨_,rfl⟩
   rw[hX]at hrow hnb
   rw[hB]at hnb⊢
   refine aQ rfl (aB (aA rfl (aR 1 rfl rfl (aA rfl (bA [0,3,7,8,9,10,11] rfl rfl rfl fun K hK=>?_)))))
   simp(disch:=omega) only[Tryz.f19,go_sem,↓reduceIte,hrow,hdl,e15]
   refine hK _ ?_
   refine aB ?_
   refine lW 11 (c1+4+4) 0 rfl (by simp(disch:=omega) only[aV,↓reduceIte,eq_self]<;>rfl) ?_
   refine aA rfl (bA [0,3,7,8,9,10,11,12,13,14] rfl rfl rfl fun K hK=>?_)
   simp(disch:=omega) only[Tryz.f19,go_sem,↓reduceIte,kyC,J8,J9]
   refine hK _ ?_
   refine aB (aA rfl (cLv (X:=X) hbig (fun nx' cx' hcx'=>?_)))
   refine aB ?_
   obtain⟨D,hD⟩: ∃D,mdu L c X=D:=⟨_,rfl⟩
   rw[hD]at hnb⊢
   by_cases g0:0≤D.st
   ·have d0:decide (0≤D.st)=true:=J5 g0
    by_cases h1:B.id=0#32
    ·have d1:decide (B.id=0#32)=true:=J5 h1
     have hbt:mbt B D=D:=J4 ⟨g0,.inl h1⟩
     rw[hbt]at hnb
     refine aA rfl (bA [152,0,3,7,8,9,10,12,13,14] rfl rfl rfl fun K hK=>?_)
     simp(disch:=omega) only[Tryz.f19,go_sem,↓reduceIte,d0,d1]
     refine hK _ ?_
     refine aB (eC (.tmp 152) rfl rfl rfl (fun h=>?_) (fun h=>?_))
     ·refine aI rfl (bA [0,3,7,8,9,10] rfl rfl rfl fun K hK=>?_)
      simp(disch:=omega) only[Tryz.f19,go_sem,↓reduceIte]
      refine hK _ ?_
      refine bU (aB (bA [0,3,7,8,9,10] rfl rfl rfl fun K hK=>?_))
      simp(disch:=omega) only[Tryz.f19,go_sem,↓reduceIte]
      refine hK _ ?_
      refine bT ?_
      refine⟨⟨k+1,_⟩,by simp only;omega,by simp only;omega,⟨fun x=> .inr (by simp only[hnb,Int.natCast_add,Int.natCast_one]),fun j o hj=>(nomatch (show(none:Option AO)=some o from hj)),U3 _⟩⟩
     refine aI rfl ?_
     cases h
    have d1:decide (B.id=0#32)=false:=J6 h1
    by_cases h2:D.w<B.w
    ·have d2:decide (D.w<B.w)=true:=J5 h2
     have hbt:mbt B D=D:=J4 ⟨g0,.inr (.inl h2)⟩
     rw[hbt]at hnb
     refine aA rfl (bA [152,0,3,7,8,9,10,12,13,14] rfl rfl rfl fun K hK=>?_)
     simp(disch:=omega) only[Tryz.f19,go_sem,↓reduceIte,d0,d1,d2]
     refine hK _ ?_
     refine aB (eC (.tmp 152) rfl rfl rfl (fun h=>?_) (fun h=>?_))
     ·refine aI rfl (bA [0,3,7,8,9,10] rfl rfl rfl fun K hK=>?_)
      simp(disch:=omega) only[Tryz.f19,go_sem,↓reduceIte]
      refine hK _ ?_
      refine bU (aB (bA [0,3,7,8,9,10] rfl rfl rfl fun K hK=>?_))
      simp(disch:=omega) only[Tryz.f19,go_sem,↓reduceIte]
      refine hK _ ?_
      refine bT ?_
      refine⟨⟨k+1,_⟩,by simp only;omega,by simp only;omega,⟨fun x=> .inr (by simp only[hnb,Int.natCast_add,Int.natCast_one]),fun j o hj=>(nomatch (show(none:Option AO)=some o from hj)),U3 _⟩⟩
     refine aI rfl ?_
     cases h
    have d2:decide (D.w<B.w)=false:=J6 h2
    by_cases h3:D.w=B.w
    ·have d3:decide (D.w=B.w)=true:=J5 h3
     by_cases h4:D.id<B.id
     ·have d4:decide (D.id<B.id)=true:=J5 h4
      have hbt:mbt B D=D:=J4 ⟨g0,.inr (.inr ⟨h3,h4⟩)⟩
      rw[hbt]at hnb
      refine aA rfl (bA [152,0,3,7,8,9,10,12,13,14] rfl rfl rfl fun K hK=>?_)
      simp(disch:=omega) only[Tryz.f19,go_sem,↓reduceIte,d0,d1,d2,d3,d4]
      refine hK _ ?_
      refine aB (eC (.tmp 152) rfl rfl rfl (fun h=>?_) (fun h=>?_))
      ·refine aI rfl (bA [0,3,7,8,9,10] rfl rfl rfl fun K hK=>?_)
       simp(disch:=omega) only[Tryz.f19,go_sem,↓reduceIte]
       refine hK _ ?_
       refine bU (aB (bA [0,3,7,8,9,10] rfl rfl rfl fun K hK=>?_))
       simp(disch:=omega) only[Tryz.f19,go_sem,↓reduceIte]
       refine hK _ ?_
       refine bT ?_
       refine⟨⟨k+1,_⟩,by simp only;omega,by simp only;omega,⟨fun x=> .inr (by simp only[hnb,Int.natCast_add,Int.natCast_one]),fun j o hj=>(nomatch (show(none:Option AO)=some o from hj)),U3 _⟩⟩
      refine aI rfl ?_
      cases h
     have d4:decide (D.id<B.id)=false:=J6 h4
     have hbt:mbt B D=B:=J3 (fun e=>e.2.elim h1 (fun e=>e.elim h2 (fun e=>h4 e.2)))
     rw[hbt]at hnb
     refine aA rfl (bA [152,0,3,7,8,9,10,12,13,14] rfl rfl rfl fun K hK=>?_)
     simp(disch:=omega) only[Tryz.f19,go_sem,↓reduceIte,d0,d1,d2,d3,d4]
     refine hK _ ?_
     refine aB (eC (.tmp 152) rfl rfl rfl (fun h=>?_) (fun h=>?_))
     ·refine aI rfl ?_
      cases h
     refine aI rfl (aQ rfl (bU (aB (bA [0,3,7,8,9,10] rfl rfl rfl fun K hK=>?_))))
     simp(disch:=omega) only[Tryz.f19,go_sem,↓reduceIte]
     refine hK _ ?_
     refine bT ?_
     refine⟨⟨k+1,_⟩,by simp only;omega,by simp only;omega,⟨fun x=> .inr (by simp only[hnb,Int.natCast_add,Int.natCast_one]),fun j o hj=>(nomatch (show(none:Option AO)=some o from hj)),U3 _⟩⟩
    have d3:decide (D.w=B.w)=false:=J6 h3
    have hbt:mbt B D=B:=J3 (fun e=>e.2.elim h1 (fun e=>e.elim h2 (fun e=>h3 e.1)))
    rw[hbt]at hnb
    refine aA rfl (bA [152,0,3,7,8,9,10,12,13,14] rfl rfl rfl fun K hK=>?_)
    simp(disch:=omega) only[Tryz.f19,go_sem,↓reduceIte,d0,d1,d2,d3]
    refine hK _ ?_
    refine aB (eC (.tmp 152) rfl rfl rfl (fun h=>?_) (fun h=>?_))
    ·refine aI rfl ?_
     cases h
    refine aI rfl (aQ rfl (bU (aB (bA [0,3,7,8,9,10] rfl rfl rfl fun K hK=>?_))))
    simp(disch:=omega) only[Tryz.f19,go_sem,↓reduceIte]
    refine hK _ ?_
    refine bT ?_
    refine⟨⟨k+1,_⟩,by simp only;omega,by simp only;omega,⟨fun x=> .inr (by simp only[hnb,Int.natCast_add,Int.natCast_one]),fun j o hj=>(nomatch (show(none:Option AO)=some o from hj)),U3 _⟩⟩
   have d0:decide (0≤D.st)=false:=J6 g0
   have hbt:mbt B D=B:=J3 (fun e=>g0 e.1)
   rw[hbt]at hnb
   refine aA rfl (bA [152,0,3,7,8,9,10,12,13,14] rfl rfl rfl fun K hK=>?_)
   simp(disch:=omega) only[Tryz.f19,go_sem,↓reduceIte,d0]
   refine hK _ ?_
   refine aB (eC (.tmp 152) rfl rfl rfl (fun h=>?_) (fun h=>?_))
   ·refine aI rfl ?_
    cases h
   refine aI rfl (aQ rfl (bU (aB (bA [0,3,7,8,9,10] rfl rfl rfl fun K hK=>?_))))
   simp(disch:=omega) only[Tryz.f19,go_sem,↓reduceIte]
   refine hK _ ?_
   refine bT ?_
   refine⟨⟨k+1,_⟩,by simp only;omega,by simp only;omega,⟨fun x=> .inr (by simp only[hnb,Int.natCast_add,Int.natCast_one]),fun j o hj=>(nomatch (show(none:Option AO)=some o from hj)),U3 _⟩⟩
  refine aI rfl (bF 0 rfl rfl (aY (aZ (bE (aB (aA rfl ?_))))))
  obtain rfl:k=L.length:=by omega
  rw[List.take_length]
  refine bA [4,5,6] rfl rfl rfl fun K hK=>?_
  simp(disch:=omega) only[Tryz.f19,go_sem,↓reduceIte]
  refine hK _ ?_
  refine aB (aS rfl ?_)
  simp(disch:=omega) only[cN,bV,bK,bQ,Tryz.f19,go_sem,↓reduceIte,duC]
  rfl
 cases hg
theorem cVl:bX Tryz.prog GLh 19 (.pure true bKq):=⟨⟨_,Tryz.func19,rfl,rfl⟩,cLw⟩
end Go.AX

namespace Go.AX
open Go Go.Proofs
set_option maxRecDepth 8000
set_option maxHeartbeats 4000000 in
theorem bHn:dH Tryz.prog GLh 58 aIu:=by
 refine cT Tryz.func58 (aT rfl) ?_
 intro args r hg
 unfold aIu at hg
 split at hg
 ·rename_i n k0
  replace hg:=aP hg;obtain⟨⟨hk1,hk8⟩,hg⟩:=hg
  obtain rfl:=J0 hg
  obtain⟨k,rfl⟩:=Int.eq_ofNat_of_zero_le (show 0≤k0 by omega)
  simp only[U2]at*
  clear hg
  refine⟨J1 rfl,fun nx=>?_⟩
  refine aA rfl (bA [0,1,2] rfl rfl rfl fun K hK=>?_)
  simp(disch:=omega) only[Tryz.f58,go_sem,↓reduceIte]
  refine hK _ ?_
  refine aB (aA rfl (aA rfl (bA [0,1,7] rfl rfl rfl fun K hK=>?_)))
  simp(disch:=omega) only[Tryz.f58,go_sem,↓reduceIte]
  refine hK _ ?_
  refine aB (iE 0 1 rfl (fF [0,1,7] ?_))
  simp only[iB,fU,eB,↓reduceIte,Nat.reduceEqDiff]
  refine aR 0 rfl rfl ?_
  refine bR (fun p:KIC=> {fr:=[(0,.os p.id 0 p.k 1 true),(1,.w32 n),(7,.i ((k:Int)-1-(p.k:Int)))],hp:=upd (fun _=>none) p.id (.cells (c8 (beL n k p.k)) true),nx:=0,cx:=p.c}) (fun p=>p.k≤k∧p.id<p.c) (fun p=>k-p.k) rfl ⟨⟨0,_,_⟩,⟨Nat.zero_le _,by simp only;omega⟩,bD (by simp only[Int.natCast_zero,Int.sub_zero]) rfl (U3 _)⟩ ?_
  rintro⟨j,id,c⟩ ⟨hj,hid⟩ n0
  simp only at hj hid⊢
  refine aA rfl (aA rfl (bA [11,0,1,7] rfl rfl rfl fun K hK=>?_))
  simp(disch:=omega) only[Tryz.f58,go_sem,↓reduceIte]
  refine hK _ ?_
  refine aB (aW (.tmp 11) rfl rfl rfl (fun h=>?_) (fun h=>?_))
  ·refine aI rfl ?_
   have e1:(8*((k:Int)-1-(j:Int))).toNat=8*(k-1-j):=by omega
   have hl:=cZ n k j
   refine aQ rfl (aB (aA rfl (aR 1 rfl rfl (bA [0,1,7] rfl rfl rfl fun K hK=>?_))))
   simp(disch:=omega) only[Tryz.f58,go_sem,↓reduceIte,e1,hl]
   refine hK _ ?_
   refine bU (aB (bA [0,1,7] rfl rfl rfl fun K hK=>?_))
   simp(disch:=omega) only[Tryz.f58,go_sem,↓reduceIte]
   refine hK _ ?_
   refine bT ?_
   have e2:(k:Int)-1-((j:Int)+1)=(k:Int)-1-(j:Int)-1:=by omega
   have e4:beL n k (j+1)=beL n k j++[(n>>>(8*(k-1-j))).setWidth 8]:=rfl
   refine⟨⟨j+1,c+2+7,_⟩,⟨by simp only;omega,by simp only;omega⟩,by simp only;omega,⟨fun _=> .inr ?_,fun j o h=>?_,U3 _⟩⟩
   ·simp only[Int.natCast_add,Int.natCast_one,e2]
   simp only at h
   exact bS (by simp(disch:=omega) only[aV,↓reduceIte,eq_self,e4]) (cB) j o h
  refine aI rfl (bF 0 rfl rfl (aY (aZ (bE (aB (aA rfl ?_))))))
  obtain rfl:j=k:=by omega
  have hl:=cZ n j j
  refine bA [6] rfl rfl rfl fun K hK=>?_
  simp(disch:=omega) only[Tryz.f58,go_sem,↓reduceIte]
  refine hK _ ?_
  refine aB (aS rfl ?_)
  simp(disch:=omega) only[fE,eO,bV,bK,bQ,Tryz.f58,go_sem,↓reduceIte,fQ,hl]
 cases hg
theorem cVj:bX Tryz.prog GLh 58 (.fresh false aIu):=⟨⟨_,Tryz.func58,rfl,rfl⟩,bHn⟩
set_option maxHeartbeats 4000000 in
theorem bHv:dH Tryz.prog GLh 48 qG:=by
 refine cT Tryz.func48 (aT rfl) ?_
 intro args r hg
 unfold qG at hg
 split at hg
 ·rename_i f p a n xs
  replace hg:=aJ hg;obtain⟨k,hk,hg⟩:=hg
  replace hg:=aP hg;obtain⟨⟨rfl,hn⟩,hg⟩:=hg
  obtain rfl:=J0 hg
  have:=bW hk;subst this
  clear hg hk
  refine⟨J1 rfl,fun nx=>?_⟩
  have e2:=cTh f
  have ekb:[(f>>>8).setWidth 8,f.setWidth 8]++[p,a]++k=wF f p a k:=rfl
  have ekl:(wF f p a k).length=4+k.length:=by rw[←ekb];simp;omega
  refine aA rfl (bA [1] rfl rfl rfl fun K hK=>?_)
  simp(disch:=omega) only[Tryz.f48,go_sem,↓reduceIte]
  refine hK _ ?_
  refine aB (lW 1 nx 0 rfl (by simp only[aV,if_true];rfl) ?_)
  refine aA rfl (bB (Γ:=bC [(58,.fresh false aIu)]) (fun k=>if k=1 then 1 else if k=5 then 1 else if k=7 then 1 else if k=11 then 1 else 2) [2] bZ (aH cVj aO) rfl rfl rfl (by kernel_rfl) (fun K hK=>?_))
  simp(disch:=omega) only[Tryz.f48,go_sem,↓reduceIte,e2,J8,U0,U1,J7,J9]
  refine hK _ ?_
  refine aB (aS rfl ?_)
  simp(disch:=omega) only[fE,eO,bV,bK,bQ,Tryz.f48,go_sem,↓reduceIte,ekl]
  rfl
 cases hg
theorem aVv:bX Tryz.prog GLh 48 (.fresh true qG):=⟨⟨_,Tryz.func48,rfl,rfl⟩,bHv⟩
def qB:List TK→List AV
 |[]=>[]
 |t::r=>c8 t.seed.l++qB r
def tZ:List TK→List AV
 |[]=>[]
 |t::r=>c8 (iR t.seed.l t.h 0)++tZ r
def hsC (R:List TK):List AV:=R.map fun t=> .i (t.h:Int)
theorem aMg: ∀R:List TK,(qB R).length=8*R.length
 |[]=>rfl
 |t::r=>by rw[qB,List.length_append,aMg r,iM,t.seed.len,List.length_cons];omega
theorem aMn: ∀R:List TK,(tZ R).length=8*R.length
 |[]=>rfl
 |t::r=>by rw[tZ,List.length_append,aMn r,iM,iW,List.length_cons];omega
theorem bZt (R:List TK):(hsC R).length=R.length:=by simp[hsC]
theorem aMh: ∀(R S:List TK),qB (R++S)=qB R++qB S
 |[],_=>rfl
 |t::r,S=>by rw[List.cons_append,qB,aMh r S,qB,List.append_assoc]
theorem aMo: ∀(R S:List TK),tZ (R++S)=tZ R++tZ S
 |[],_=>rfl
 |t::r,S=>by rw[List.cons_append,tZ,aMo r S,tZ,List.append_assoc]
def tk0:TK:=⟨⟨0#8,0#8,0#8,0#8,0#8,0#8,0#8,0#8⟩,0⟩
def tkA (R:List TK) (k:Nat):TK:=R.getD k tk0
theorem aVd: ∀(R:List TK) (k:Nat),k<R.length→(List.drop (8*k) (qB R)).take 8=c8 (tkA R k).seed.l
 |[],k,h=>by simp at h
 |t::r,0,_=>by
  have h8:(c8 t.seed.l).length=8:=by rw[iM,t.seed.len]
  rw[Nat.mul_zero,J9,qB,List.take_left' h8];rfl
 |t::r,k+1,h=>by
  have h8:(c8 t.seed.l).length=8:=by rw[iM,t.seed.len]
  rw[qB,show 8*(k+1)=(c8 t.seed.l).length+8*k by omega,List.drop_length_add_append,aVd r k (by simpa using h)];rfl
theorem aVh: ∀(R:List TK) (k:Nat),k<R.length→(List.drop (8*k) (tZ R)).take 8=c8 (iR (tkA R k).seed.l (tkA R k).h 0)
 |[],k,h=>by simp at h
 |t::r,0,_=>by
  have h8:(c8 (iR t.seed.l t.h 0)).length=8:=by rw[iM,iW]
  rw[Nat.mul_zero,J9,tZ,List.take_left' h8];rfl
 |t::r,k+1,h=>by
  have h8:(c8 (iR t.seed.l t.h 0)).length=8:=by rw[iM,iW]
  rw[tZ,show 8*(k+1)=(c8 (iR t.seed.l t.h 0)).length+8*k by omega,List.drop_length_add_append,aVh r k (by simpa using h)];rfl
theorem cZa (R:List TK) (k:Nat) (h:k<R.length):(List.drop k (hsC R)).head? =some (.i ((tkA R k).h:Int)):=by
 rw[List.head?_drop]
 simp[hsC,tkA,List.getD_eq_getElem?_getD,h]
theorem cUv: ∀ {R S:List TK},qB R=qB S→hsC R=hsC S→R=S
 |[],[],_,_=>rfl
 |[],t::s,_,h=>by simp[hsC]at h
 |t::r,[],_,h=>by simp[hsC]at h
 |⟨a,n⟩::r,⟨b,m⟩::s,h1,h2=>by
  rw[qB,qB]at h1
  obtain⟨e1,e2⟩:=List.append_inj h1 (by rw[iM,iM,a.len,b.len])
  simp only[hsC,List.map_cons,List.cons.injEq,AV.i.injEq]at h2
  have e3:a=b:=S8.inj (aTj e1)
  have e4:n=m:=Int.ofNat.inj h2.1
  rw[e3,e4,cUv e2 (by simpa [hsC]using h2.2)]
structure QT where
 a:Nat
 b:Nat
 c:Nat
 R:List TK
def qcC (Q:QT):List AV:=if Q.R=[]then[.v (.slice none 0 0),.v (.slice none 0 0),.v (.slice none 0 0)]else[.os Q.a 0 Q.R.length 8 true,.os Q.b 0 Q.R.length 1 true,.os Q.c 0 Q.R.length 8 true]
noncomputable instance:DecidableEq TK:=fun _ _=>Classical.propDecidable _
def setQ (q:Nat) (Q:QT) (hp:H):H:=if Q.R=[]then upd hp q (.cells (qcC Q) true)else upd (upd (upd (upd hp Q.a (.cells (qB Q.R) true)) Q.b (.cells (hsC Q.R) true)) Q.c (.cells (tZ Q.R) true)) q (.cells (qcC Q) true)
structure uX (hp:H) (q:Nat) (Q:QT):Prop where
 hq:hp q=some (.cells (qcC Q) true)
 z:Q.R=[]→Q.a=0∧Q.b=0∧Q.c=0
 h:Q.R≠[]→hp Q.a=some (.cells (qB Q.R) true)∧hp Q.b=some (.cells (hsC Q.R) true)∧hp Q.c=some (.cells (tZ Q.R) true)∧Q.a≠Q.b∧Q.a≠Q.c∧Q.b≠Q.c∧Q.a≠q∧Q.b≠q∧Q.c≠q
theorem bIa {Q:QT} (h:Q.R=[]):qcC Q=[.v (.slice none 0 0),.v (.slice none 0 0),.v (.slice none 0 0)]:=J4 h
theorem aGa {Q:QT} (h:Q.R≠[]):qcC Q=[.os Q.a 0 Q.R.length 8 true,.os Q.b 0 Q.R.length 1 true,.os Q.c 0 Q.R.length 8 true]:=J3 h
theorem uX.uniq {hp:H} {q:Nat} {Q P:QT} (h:uX hp q Q) (g:uX hp q P):Q=P:=by
 have e:=(AO.cells.inj (J0 (h.hq.symm.trans g.hq))).1
 by_cases hz:Q.R=[]
 ·by_cases gz:P.R=[]
  ·obtain⟨a1,a2,a3⟩:=h.z hz
   obtain⟨b1,b2,b3⟩:=g.z gz
   obtain⟨_,_,_,_⟩:=Q
   obtain⟨_,_,_,_⟩:=P
   simp only at*
   subst a1 a2 a3 b1 b2 b3 hz gz
   rfl
  rw[bIa hz,aGa gz]at e
  simp at e
 by_cases gz:P.R=[]
 ·rw[aGa hz,bIa gz]at e
  simp at e
 rw[aGa hz,aGa gz]at e
 simp only[List.cons.injEq,AV.os.injEq,and_true,true_and]at e
 obtain⟨⟨e1,_⟩,⟨e2,_⟩,⟨e3,_⟩⟩:=e
 obtain⟨h1,h2,_⟩:=h.h hz
 obtain⟨g1,g2,_⟩:=g.h gz
 rw[e1,g1]at h1
 rw[e2,g2]at h2
 have eR:=cUv (AO.cells.inj (J0 h1)).1 (AO.cells.inj (J0 h2)).1
 obtain⟨_,_,_,_⟩:=Q
 obtain⟨_,_,_,_⟩:=P
 simp only at*
 subst e1 e2 e3 eR
 rfl
open Classical in
noncomputable def qOf (hp:H) (q:Nat):Option QT:=if h: ∃Q:QT,uX hp q Q then some (Classical.choose h)else none
theorem aIt {hp:H} {q:Nat} {Q:QT} (h:uX hp q Q):qOf hp q=some Q:=by
 have hx: ∃Q:QT,uX hp q Q:=⟨Q,h⟩
 unfold qOf
 rw[dif_pos hx]
 exact congrArg some ((Classical.choose_spec hx).uniq h)
theorem vS {hp:H} {q:Nat} {Q:QT} (h:qOf hp q=some Q):uX hp q Q:=by
 unfold qOf at h
 split at h
 ·rename_i hx
  obtain rfl:=J0 h
  exact Classical.choose_spec hx
 cases h
def QOk (q:Nat) (Q:QT):Prop:=(Q.R=[]→Q.a=0∧Q.b=0∧Q.c=0)∧(Q.R≠[]→Q.a≠Q.b∧Q.a≠Q.c∧Q.b≠Q.c∧Q.a≠q∧Q.b≠q∧Q.c≠q)
theorem uX.ok {hp:H} {q:Nat} {Q:QT} (h:uX hp q Q):QOk q Q:=⟨h.z,fun e=>(h.h e).2.2.2⟩
theorem bGz {hp:H} {q:Nat} {Q:QT} (h:QOk q Q):uX (setQ q Q hp) q Q:=by
 by_cases hz:Q.R=[]
 ·refine⟨?_,h.1,fun e=>absurd hz e⟩
  unfold setQ;rw[J4 hz];simp[bJ]
 obtain⟨n1,n2,n3,n4,n5,n6⟩:=h.2 hz
 refine⟨?_,h.1,fun _=>⟨?_,?_,?_,h.2 hz⟩⟩<;>unfold setQ<;>rw[J3 hz]<;>simp[bJ,n1,n2,n3,n4,n5,n6]
theorem jZ (hp:H) (q:Nat) (Q:QT) (k:Nat) (h:k≠q) (h1:Q.R≠[]→k≠Q.a∧k≠Q.b∧k≠Q.c):setQ q Q hp k=hp k:=by
 unfold setQ
 split
 ·simp[bJ,h]
 rename_i hz
 obtain⟨a,b,c⟩:=h1 hz
 simp[bJ,h,a,b,c]
def jY (Q:QT) (hp:H):H:=if Q.R=[]then hp else del (del (del hp Q.a) Q.b) Q.c
theorem qP (Q:QT) (hp:H) (j:Nat) (o:AO) (h:jY Q hp j=some o):hp j=some o∧(Q.R≠[]→j≠Q.a∧j≠Q.b∧j≠Q.c):=by
 unfold jY at h
 split at h
 ·rename_i hz;exact⟨h,fun e=>absurd hz e⟩
 simp only[eV]at h
 split at h
 ·cases h
 split at h
 ·cases h
 split at h
 ·cases h
 exact⟨h,fun _=>⟨by assumption,by assumption,by assumption⟩⟩
theorem aFq {hp hp2:H} {q:Nat} {Q:QT} (h: ∀j o,hp j=some o→hp2 j=some o) (k:Nat) (o:AO) (hk:setQ q Q hp k=some o):setQ q Q hp2 k=some o:=by
 unfold setQ at hk⊢
 split at hk
 ·rename_i hz
  rw[J4 hz]
  simp only[bJ]at hk⊢
  split at hk
  ·rename_i e;rw[J4 e];exact hk
  rename_i e;rw[J3 e];exact h _ _ hk
 rename_i hz
 rw[J3 hz]
 simp only[bJ]at hk⊢
 repeat' split at hk
 all_goals first|(rename_i e;simp_all;done)|simp_all
theorem aBe {hp t:H} {q:Nat} {Q:QT} (hQ:uX t q Q) (h: ∀k o,k≠q→(Q.R≠[]→k≠Q.a∧k≠Q.b∧k≠Q.c)→hp k=some o→t k=some o) (k:Nat) (o:AO) (hk:setQ q Q hp k=some o):t k=some o:=by
 unfold setQ at hk
 split at hk
 ·rename_i hz
  simp only[bJ]at hk
  split at hk
  ·rename_i e;subst e;rw[hQ.hq];exact hk
  rename_i e;exact h _ _ e (fun e=>absurd hz e) hk
 rename_i hz
 obtain⟨h1,h2,h3,_⟩:=hQ.h hz
 simp only[bJ]at hk
 split at hk
 ·rename_i e;subst e;rw[hQ.hq];exact hk
 split at hk
 ·rename_i e;rw[e,h3];exact hk
 split at hk
 ·rename_i e;rw[e,h2];exact hk
 split at hk
 ·rename_i e;rw[e,h1];exact hk
 exact h _ _ (by assumption) (fun _=>⟨by assumption,by assumption,by assumption⟩) hk
theorem aZe {hp:H} {q:Nat} {Q:QT} (h:uX hp q Q):setQ q Q hp=hp:=by
 funext k
 by_cases e:k=q
 ·subst e
  rw[h.hq]
  unfold setQ
  split<;>simp[bJ]
 by_cases hz:Q.R=[]
 ·exact jZ _ _ _ _ e (fun e=>absurd hz e)
 obtain⟨h1,h2,h3,n1,n2,n3,n4,n5,n6⟩:=h.h hz
 unfold setQ
 rw[J3 hz]
 simp only[bJ,J3 e]
 split
 ·rename_i e;rw[e,h3]
 split
 ·rename_i e;rw[e,h2]
 split
 ·rename_i e;rw[e,h1]
 rfl
noncomputable def oA (Q:QT) (t:TK) (n:Nat):QT:=if t∈Q.R then Q else⟨n+9,n+16,n+23,Q.R++[t]⟩
theorem sD {Q:QT} {t:TK} (h:t∈Q.R) (n:Nat):oA Q t n=Q:=J4 h
theorem qQ {Q:QT} {t:TK} (h:t∉Q.R) (n:Nat):oA Q t n=⟨n+9,n+16,n+23,Q.R++[t]⟩:=J3 h
noncomputable def aZz:List AV→H→Nat→Option (AV×H×Nat)
 |[.op q 0,.agg xs,.i h],hp,nx=>aK (qOf hp q) fun Q=>aK (un8 xs) fun l=>aK (s8L l) fun sd=>aN (0≤h∧h≤10∧Q.R.length≤100) (some (.agg (c8 (iR sd.l h.toNat 0)),setQ q (oA Q ⟨sd,h.toNat⟩ (nx+92+100*Q.R.length)) (jY Q hp),nx+20000))
 |_,_,_=>none
theorem bWh (q:Nat) (xs:List AV) (h:Int) (hp:H) (nx:Nat):aZz [.op q 0,.agg xs,.i h] hp nx=aK (qOf hp q) fun Q=>aK (un8 xs) fun l=>aK (s8L l) fun sd=>aN (0≤h∧h≤10∧Q.R.length≤100) (some (.agg (c8 (iR sd.l h.toNat 0)),setQ q (oA Q ⟨sd,h.toNat⟩ (nx+92+100*Q.R.length)) (jY Q hp),nx+20000)):=(rfl)
attribute [go_sem] bWh
theorem aCd {R:List TK} {t:TK} {k:Nat} (hk:k<R.length) (h:t∉R.take k) (h2:tkA R k≠t):t∉R.take (k+1):=by
 rw[List.take_add_one,List.getElem?_eq_getElem hk,List.mem_append]
 intro e
 rcases e with e|e
 ·exact h e
 have:tkA R k=R[k]:=by simp[tkA,List.getD_eq_getElem?_getD,hk]
 rw[this]at h2
 simp at e
 exact h2 e.symm
theorem bTa {R:List TK} {k:Nat} (hk:k<R.length):tkA R k∈R:=by
 have:tkA R k=R[k]:=by simp[tkA,List.getD_eq_getElem?_getD,hk]
 rw[this];exact List.getElem_mem hk
end Go.AX

namespace Go.AX
open Go Go.Proofs
inductive FP where
 |all
 |at_ (R W:List Nat)
 |cal (hp hp':H)
def fpV:AV→List Nat
 | .os i _ _ _ _=>[i]
 | .op i _=>[i]
 | .mp i=>[i]
 |_=>[]
def rW (hp:H) (y:AV):Bool:=
 match y with
 | .os j off n e _=>match hp j with
  |some (.cells xs _)=>gH ((xs.drop off).take (n*e))
  |_=>false
 | .sl _ xs=>gH xs
 | .s _=>true
 | .v (.slice none 0 0)=>true
 |_=>false
def fpW (op:Op) (ρ:Operand→AV) (hp:H) (id:Nat):FP:=
 match op with
 | .store _ a _=> .at_ [] (fpV (ρ a))
 | .call c=>match c.callee,c.args.toList,c.argTypes.toList with
  | .builtin .append,[x,y],[_,_]=>if rW hp (ρ y)=true then .at_ (fpV (ρ y)) (id::fpV (ρ x))else .all
  |_,_,_=> .all
 |_=> .all
def fpR (op:Op) (ρ:Operand→AV):FP:=
 match op with
 | .load _ x=> .at_ (fpV (ρ x)) []
 |_=> .all
def fpE (P:Program) (Γ:Env) (m:Nat) (op:Op) (ρ:Operand→AV) (hp:H) (id:Nat):FP:=
 if gI P Γ m op=.P then .at_ [] []else
 match cls P op with
 | .pure=> .at_ [] []
 | .read=>fpR op ρ
 | .new=> .at_ [] [id]
 | .write=>fpW op ρ hp id
 | .call=> .all
def kZ (p:Nat→Option (Option AO)) (hp:H):H:=fun k=>match p k with|some o=>o|none=>hp k
theorem qK (hp:H) (i:Nat) (o:AO):kZ (fun k=>if k=i then some (some o)else none) hp=upd hp i o:=by
 funext k
 simp only[kZ,bJ]
 by_cases h:k=i
 ·simp[h]
 simp[h]
theorem wY (hp:H) (i id:Nat) (o:AO):kZ (fun k=>if k=id then some (some o)else if k=i then some none else none) hp=upd (del hp i) id o:=by
 funext k
 simp only[kZ,bJ,eV]
 by_cases h:k=id
 ·simp[h]
 by_cases h2:k=i
 ·subst h2;simp[h]
 simp[h,h2]
theorem bEt (hp:H) (p q:Nat→Option (Option AO)) (h: ∀k,p k≠none→q k=none):kZ p (kZ q hp)=kZ q (kZ p hp):=by
 funext k
 simp only[kZ]
 cases hp1:p k with
 |none=>simp
 |some o=>
  have:=h k (by rw[hp1];simp)
  rw[this]
def cSa (R W:List Nat) (f:H→Option (AV×H)) (hp:H):Prop:=
 ∀r,f hp=some r→∃p,(∀k,p k≠none→k∈W)∧r.2=kZ p hp∧∀hp2,(∀k,k∈R∨k∈W→hp2 k=hp k)→f hp2=some (r.1,kZ p hp2)
theorem bAr (P:Program) (t:TypeId) (a x:Operand) (ρ:Operand→AV) (id:Nat) (hp:H):cSa [] (fpV (ρ a)) (fun hp=>fR P (.store t a x) ρ hp id) hp:=by
 intro r hr
 simp only[fR]at hr⊢
 cases ha:ρ a with
 |op i off=>
  simp only[ha]at hr⊢
  replace hr:=aJ hr;obtain⟨cs,hcs,hr⟩:=hr
  replace hr:=aJ hr;obtain⟨z,hz,hr⟩:=hr
  replace hr:=aJ hr;obtain⟨o,ho,hr⟩:=hr
  cases o with
  |mapo es mt=>cases hr
  |cells xs mt=>
   simp only at hr
   replace hr:=aP hr;obtain⟨hg,hr⟩:=hr
   obtain rfl:=J0 hr
   refine⟨fun k=>if k=i then some (some (.cells (dV xs off cs) true))else none,fun k hk=>?_,(qK _ _ _).symm,fun hp2 h2=>?_⟩
   ·simp only[fpV]
    by_cases e:k=i
    ·simp[e]
    simp[e]at hk
   have:=h2 i (.inr (by simp[fpV]))
   rw[hcs,aX,hz,aX,this,ho,aX]
   simp only[]
   rw[cU _ hg,qK]
 |_=>simp only[ha]at hr;cases hr
theorem aQw {hp hp2:H} {y:AV} (h2: ∀k,k∈fpV y→hp2 k=hp k):rW hp2 y=rW hp y:=by
 unfold rW
 cases y with
 |os j off n e g=>simp only[];rw[h2 j (by simp[fpV])]
 |v v=>
  cases v with
  |slice a b c=>cases a<;>cases b<;>cases c<;>rfl
  |_=>rfl
 |_=>rfl
theorem bTo {hp hp2:H} {z:Nat} {y:AV} {my:Nat×List AV} (h:tX hp z y=some my) (hn:rW hp y=true) (h2: ∀k,k∈fpV y→hp2 k=hp k):
  gH my.2=true∧tX hp2 z y=some my∧rW hp2 y=true:=by
 unfold tX at h⊢
 unfold rW at hn⊢
 cases y with
 |s l=>
  simp only at h⊢
  replace h:=aP h;obtain⟨hg,h⟩:=h
  obtain rfl:=J0 h
  refine⟨?_,by rw[cU _ hg],trivial⟩
  simp only[gH,Bool.not_eq_true',List.any_eq_false,List.mem_map]
  rintro _ ⟨x,_,rfl⟩
  simp[wG]
 |sl n xs=>
  simp only[fG]at h hn⊢
  replace h:=aP h;obtain⟨hg,h⟩:=h
  obtain rfl:=J0 h
  exact⟨hn,by rw[cU _ hg],hn⟩
 |os j off n e g=>
  simp only[fG]at h hn⊢
  have e2:=h2 j (by simp[fpV])
  replace h:=aJ h;obtain⟨o,ho,h⟩:=h
  rw[e2,ho]
  rw[ho]at hn
  cases o with
  |mapo es mt=>cases h
  |cells xs mt=>
   simp only at h hn⊢
   replace h:=aP h;obtain⟨hg,h⟩:=h
   obtain rfl:=J0 h
   refine⟨?_,by rw[aX];simp only[];rw[cU _ hg],hn⟩
   rw[←hg.1];exact hn
 |v v=>
  cases v with
  |slice a b c=>
   cases a with
   |none=>
    cases b with
    |zero=>cases c with
     |zero=>
      simp only[fG]at h⊢
      obtain rfl:=J0 h
      exact⟨rfl,rfl,trivial⟩
     |succ c=>simp[fG]at h
    |succ b=>simp[fG]at h
   |some a=>simp[fG]at h
  |_=>simp[fG]at h
 |_=>simp[fG]at h
theorem aSh (P:Program) (t:TypeId) (x y:AV) (id:Nat) (hp:H) (hn:rW hp y=true):cSa (fpV y) (id::fpV x) (fun hp=>pK P t x y hp id) hp:=by
 intro r hr
 simp only[pK]at hr⊢
 cases ht:P.underlying t with
 |none=>simp[ht]at hr
 |some d=>
  cases d with
  |slice e=>
   simp only[ht]at hr⊢
   replace hr:=aJ hr;obtain⟨z,hz,hr⟩:=hr
   replace hr:=aJ hr;obtain⟨by_,hb,hr⟩:=hr
   replace hr:=aJ hr;obtain⟨zs,hzs,hr⟩:=hr
   replace hr:=aP hr;obtain⟨hg,hr⟩:=hr
   replace hr:=aJ hr;obtain⟨my,hmy,hr⟩:=hr
   have hsrc:=fun hp2 h2=>bTo (hp2:=hp2) hmy hn h2
   have hno:=(hsrc hp (fun _ _=>rfl)).1
   have hfz: ∀hp:H,uU hp my.2=some (my.2,hp):=fun hp=>J4 hno
   rw[hfz,aX]at hr
   simp only at hr
   have red: ∀hp2:H,(∀k,k∈fpV y→hp2 k=hp k)→(aK (cD P e) fun z=>aK (dU P e) fun by_=>aK (cG P e) fun zs=>aN (0<z∧zs.length=z) (aK (tX hp2 z y) fun my=>aK (uU hp2 my.2) fun fy=>zV z by_ x my.1 fy.1 fy.2 id))=zV z by_ x my.1 my.2 hp2 id:=by
    intro hp2 h2
    rw[hz,aX,hb,aX,hzs,aX,cU _ hg,(hsrc hp2 h2).2.1,aX,hfz,aX]
   have key: ∃p:Nat→Option (Option AO),(∀k,p k≠none→k∈id::fpV x)∧r.2=kZ p hp∧∀hp2:H,(∀k,k∈fpV x→hp2 k=hp k)→zV z by_ x my.1 my.2 hp2 id=some (r.1,kZ p hp2):=by
    unfold zV at hr⊢
    cases x with
    |os i off n e' g=>
     simp only at hr⊢
     replace hr:=aJ hr;obtain⟨o,ho,hr⟩:=hr
     cases o with
     |mapo es mt=>cases hr
     |cells xs mt=>
      simp only at hr
      unfold eqO at hr
      have dom: ∀(w:AO) (k:Nat),(if k=id then some (some w)else if k=i then some none else none:Option (Option AO))≠none→k∈id::fpV (.os i off n e' g):=by
       intro w k hk
       simp only[fpV,List.mem_cons,List.not_mem_nil,or_false]
       by_cases e1:k=id
       ·exact .inl e1
       by_cases e2:k=i
       ·exact .inr e2
       simp[e1,e2]at hk
      split at hr
      ·rename_i he
       simp only[kF]at hr
       replace hr:=aJ hr;obtain⟨o2,ho2,hr⟩:=hr
       obtain rfl:=J0 (ho.symm.trans ho2)
       simp only at hr
       replace hr:=aP hr;obtain⟨hg2,hr⟩:=hr
       obtain rfl:=J0 hr
       refine⟨fun k=>if k=id then some (some (.cells (xs.drop off++my.2) true))else if k=i then some none else none,dom _,(wY _ _ _ _).symm,fun hp2 h2=>?_⟩
       have e3:=h2 i (by simp[fpV])
       rw[e3,ho,aX]
       simp only[eqO]
       rw[J4 he]
       simp only[kF]
       rw[e3,ho,aX]
       simp only[]
       rw[cU _ hg2,wY]
      rename_i he
      unfold aDp at hr
      replace hr:=aP hr;obtain⟨hg2,hr⟩:=hr
      obtain rfl:=J0 hr
      refine⟨fun k=>if k=id then some (some (.cells ((xs.drop off).take (n*z)++my.2) true))else if k=i then some none else none,dom _,(wY _ _ _ _).symm,fun hp2 h2=>?_⟩
      have e3:=h2 i (by simp[fpV])
      rw[e3,ho,aX]
      simp only[eqO]
      rw[J3 he]
      unfold aDp
      rw[cU _ hg2,wY]
    |v v=>
     cases v with
     |slice a b c=>
      cases a with
      |none=>
       cases b with
       |zero=>cases c with
        |zero=>
         simp only[kF]at hr⊢
         replace hr:=aP hr;obtain⟨hg2,hr⟩:=hr
         obtain rfl:=J0 hr
         refine⟨fun k=>if k=id then some (some (.cells my.2 true))else none,fun k hk=>?_,(qK _ _ _).symm,fun hp2 h2=>by rw[cU _ hg2,qK]⟩
         by_cases e1:k=id
         ·simp[e1]
         simp[e1]at hk
        |succ c=>simp[kF]at hr
       |succ b=>simp[kF]at hr
      |some a=>simp[kF]at hr
     |_=>simp[kF]at hr
    |_=>simp[kF]at hr
   obtain⟨p,p1,p2,p3⟩:=key
   exact⟨p,p1,p2,fun hp2 h2=>by rw[red hp2 (fun k hk=>h2 k (.inl hk)),p3 hp2 (fun k hk=>h2 k (.inr (by simp[hk])))]⟩
  |_=>simp[ht]at hr
theorem bMw {m nx n:Nat} {hp hp2:H} {k:Nat} (h:hp2 k=hp k):mY m nx n hp2 k=mY m nx n hp k:=by
 unfold mY
 split
 ·exact h
 ·rfl
 simp only[]
 rw[h]
theorem bLf (P:Program) (t:TypeId) (x:Operand) (ρ:Operand→AV) {hp hp2:H} {v:AV} (h:lA P (.load t x) ρ hp=some v) (h2: ∀k,k∈fpV (ρ x)→hp2 k=hp k):lA P (.load t x) ρ hp2=some v:=by
 simp only[lA]at h⊢
 cases hx:ρ x with
 |op i off=>
  simp only[hx]at h⊢
  rw[h2 i (by simp[hx,fpV])]
  exact h
 |rp ys=>simp only[hx]at h⊢;exact h
 |_=>simp only[hx]at h;cases h
section
variable {P : Program} {Γ : Env} {GL : Nat → Option (List AV)} {md : Nat → Nat} {ops : Array Oper}
theorem aAf {op:Op} {ρ:Operand→AV} {m nx n:Nat} {hp:H} {id cx:Nat} {r:AV×H×Nat} {R W:List Nat} (hf: ∀f,ρ (.func f)=.fn f []) (hr:eff P Γ op ρ m nx n hp id cx=some r) (hfp:fpE P Γ m op ρ hp id=.at_ R W):
  ∃p,(∀k,p k≠none→k∈W)∧r.2.1=kZ p hp∧r.2.2=cx∧∀hp2,(∀k,k∈R∨k∈W→hp2 k=hp k)→(∀cx2,eff P Γ op ρ m nx n hp2 id cx2=some (r.1,kZ p hp2,cx2))∧fpE P Γ m op ρ hp2 id=.at_ R W:=by
 unfold fpE at hfp⊢
 by_cases hP:gI P Γ m op=.P
 ·rw[J4 hP]at hfp
  obtain⟨rfl,rfl⟩:=FP.at_.inj hfp
  refine⟨fun _=>none,fun k hk=>absurd rfl hk,?_,?_,fun hp2 _=>⟨fun cx2=>?_,by rw[J4 hP]⟩⟩
  ·have:=(aDd hf hP hp hp id id cx cx hr).1;rw[this];rfl
  ·have:=(aDd hf hP hp hp id id cx cx hr).1;rw[this]
  ·exact(aDd hf hP hp hp2 id id cx cx2 hr).2
 ·simp only[J3 hP]at hfp⊢
  unfold eff at hr⊢
  cases hc:cls P op with
  |pure=>
   simp only[hc]at hr hfp⊢
   obtain⟨rfl,rfl⟩:=FP.at_.inj hfp
   replace hr:=aJ hr;obtain⟨x,hx,hr⟩:=hr
   obtain rfl:=J0 hr
   exact⟨fun _=>none,fun k hk=>absurd rfl hk,rfl,rfl,fun hp2 _=>⟨fun cx2=>by rw[hx];rfl,by first|rfl|trivial⟩⟩
  |read=>
   simp only[hc]at hr hfp⊢
   replace hr:=aJ hr;obtain⟨x,hx,hr⟩:=hr
   obtain rfl:=J0 hr
   unfold fpR at hfp⊢
   cases op with
   |load t y=>
    simp only at hfp⊢
    obtain⟨rfl,rfl⟩:=FP.at_.inj hfp
    refine⟨fun _=>none,fun k hk=>absurd rfl hk,rfl,by first|rfl|trivial,fun hp2 h2=>⟨fun cx2=>?_,by first|rfl|trivial⟩⟩
    rw[bLf P t y ρ hx (fun k hk=>bMw (h2 k (.inl hk)))]
    rfl
   |_=>simp at hfp
  |new=>
   simp only[hc]at hr hfp⊢
   obtain⟨rfl,rfl⟩:=FP.at_.inj hfp
   replace hr:=aJ hr;obtain⟨x,hx,hr⟩:=hr
   obtain rfl:=J0 hr
   refine⟨fun k=>if k=id then some (some (.cells x.2 true))else none,fun k hk=>?_,(qK _ _ _).symm,rfl,fun hp2 _=>⟨fun cx2=>by rw[hx,aX,qK],by first|rfl|trivial⟩⟩
   by_cases e:k=id
   ·simp[e]
   ·simp[e]at hk
  |write=>
   simp only[hc]at hr hfp⊢
   replace hr:=aJ hr;obtain⟨x,hx,hr⟩:=hr
   obtain rfl:=J0 hr
   have go: ∀ {R W:List Nat},cSa R W (fun hp=>fR P op ρ hp id) hp→(∀hp2,(∀k,k∈R∨k∈W→hp2 k=hp k)→fpW op ρ hp2 id=.at_ R W)→
     ∃p,(∀k,p k≠none→k∈W)∧(x.1,x.2,cx).2.1=kZ p hp∧(x.1,x.2,cx).2.2=cx∧∀hp2,(∀k,k∈R∨k∈W→hp2 k=hp k)→(∀cx2:Nat,(aK (fR P op ρ hp2 id) fun p=>some (p.1,p.2,cx2))=some ((x.1,x.2,cx).1,kZ p hp2,cx2))∧fpW op ρ hp2 id=.at_ R W:=by
    intro R W hL hF
    obtain⟨p,p1,p2,p3⟩:=hL x hx
    exact⟨p,p1,p2,rfl,fun hp2 h2=>⟨fun cx2=>by rw[show fR P op ρ hp2 id=_ from p3 hp2 h2];rfl,hF hp2 h2⟩⟩
   unfold fpW at hfp
   cases op with
   |store t a y=>
    simp only at hfp
    obtain⟨rfl,rfl⟩:=FP.at_.inj hfp
    exact go (bAr P t a y ρ id hp) (fun hp2 _=>rfl)
   |call c=>
    obtain⟨callee,args,ats⟩:=c
    simp only at hfp
    split at hfp
    ·rename_i u v t1 t2 e2 e3
     split at hfp
     ·rename_i hn
      obtain⟨rfl,rfl⟩:=FP.at_.inj hfp
      have hint:eW P t2=true:=by
       simp only[fR]at hx
       rw[e2,e3]at hx
       simp only at hx
       by_cases hi:eW P t2=true
       ·exact hi
       ·rw[J3 hi]at hx
        replace hx:=aP hx;obtain⟨_,hx⟩:=hx
        unfold wX at hx
        cases hd:P.underlying t1 with
        |none=>simp[hd]at hx
        |some d=>
         cases d with
         |slice e=>
          simp only[hd]at hx
          replace hx:=aJ hx;obtain⟨z,hz,hx⟩:=hx
          replace hx:=aJ hx;obtain⟨by_,hb,hx⟩:=hx
          replace hx:=aJ hx;obtain⟨zs,hzs,hx⟩:=hx
          replace hx:=aP hx;obtain⟨hg,hx⟩:=hx
          replace hx:=aJ hx;obtain⟨mm,hmm,hx⟩:=hx
          unfold bCb at hmm
          unfold rW at hn
          cases hv:ρ v with
          |i q=>simp[hv]at hn
          |_=>simp[hv]at hmm
         |_=>simp[hd]at hx
      have hw: ∀hp2:H,fR P (.call ⟨.builtin .append,args,ats⟩) ρ hp2 id=pK P t1 (ρ u) (ρ v) hp2 id:=by
       intro hp2
       simp only[fR]
       rw[e2,e3]
       simp only[]
       rw[J4 hint]
      refine go ?_ (fun hp2 h2=>?_)
      ·have:=aSh P t1 (ρ u) (ρ v) id hp hn
       intro r hr
       simp only[hw]at hr⊢
       exact this r hr
      ·unfold fpW
       simp only[]
       rw[e2,e3]
       simp only[]
       have hxx:pK P t1 (ρ u) (ρ v) hp id=some x:=by rw[←hw];exact hx
       have hs:rW hp2 (ρ v)=true:=by rw[aQw (fun k hk=>h2 k (.inl hk))];exact hn
       rw[J4 hs]
     ·cases hfp
    ·cases hfp
   |_=>simp at hfp
  |call=>simp[hc]at hfp
theorem mZ {op:Op} {ρ ρ':Operand→AV} (m:Nat) (hp:H) (id:Nat) (h: ∀y∈op.operands,ρ y=ρ' y):fpE P Γ m op ρ hp id=fpE P Γ m op ρ' hp id:=by
 unfold fpE
 have e1:fpR op ρ=fpR op ρ':=by
  cases op with
  |load t x=>simp only[fpR];rw[h x (by simp[Op.operands])]
  |_=>rfl
 have e2:fpW op ρ hp id=fpW op ρ' hp id:=by
  cases op with
  |store t a x=>simp only[fpW];rw[h a (by simp[Op.operands])]
  |call c=>
   obtain⟨callee,args,ats⟩:=c
   have hA: ∀y∈args.toList,ρ y=ρ' y:=fun y hy=>h y (by simp only[Op.operands,Call.operands,Array.mem_append];exact .inr (Array.mem_toList_iff.1 hy))
   simp only[fpW]
   split
   ·rename_i x y t t' q1 q2
    rw[hA x (by rw[q1];simp),hA y (by rw[q1];simp)]
   rfl
  |_=>rfl
 rw[e1,e2]
def fpQ (f:FP) (hp hp':H):FP:=match f with
 | .all=> .cal hp hp'
 | .at_ R W=> .at_ R W
 | .cal a b=> .cal a b
def fpS (P:Program) (Γ:Env) (GL:Nat→Option (List AV)) (md:Nat→Nat) (ops:Array Oper) (k:Nat) (o:Oper) (s:S) (hp':H):FP:=
 match gdO ops s.fr o with
 |some true=>fpQ (fpE P Γ (md k) o.op (ev GL s.fr) s.hp (s.nx+k)) s.hp hp'
 |_=> .at_ [] []
def apL (xs ys:List Nat):Prop:= ∀x,x∈xs→∀y,y∈ys→x≠y
def aTz (x:Nat) (ys:List Nat):Prop:= ∀y,y∈ys→x≠y
theorem cEc (ys:List Nat):apL [] ys=True:=by simp[apL]
theorem bRv (x:Nat) (r ys:List Nat):apL (x::r) ys=(aTz x ys∧apL r ys):=by simp[apL,aTz]
theorem bRw (x:Nat):aTz x []=True:=by simp[aTz]
theorem bEw (x y:Nat) (r:List Nat):aTz x (y::r)=(x≠y∧aTz x r):=by simp[aTz]
def agL (xs:List Nat) (hp hp':H):Prop:= ∀x,x∈xs→hp' x=hp x
theorem dDl (hp hp':H):agL [] hp hp'=True:=by simp[agL]
theorem dDj (x:Nat) (r:List Nat) (hp hp':H):agL (x::r) hp hp'=(hp' x=hp x∧agL r hp hp'):=by simp[agL]
def rL:FP→FP→Prop
 | .at_ R W,.at_ R' W'=>apL W R'∧apL W W'∧apL R W'
 | .at_ R W,.all=>R=[]∧W=[]
 | .all,.at_ R W=>R=[]∧W=[]
 | .at_ R W,.cal hp hp'=>W=[]∧agL R hp hp'
 | .cal hp hp',.at_ R W=>W=[]∧agL R hp hp'
 |_,_=>False
theorem cAa {k:Nat} {o:Oper} {s t:S} (he:gC s t) (hp':H):fpS P Γ GL md ops k o s hp'=fpS P Γ GL md ops k o t hp':=by
 obtain⟨e1,e2,e3,e4⟩:=he
 unfold fpS
 rw[aXd e1 o,bNk e1,e2,e3]
theorem dDf {op:Op} {ρ:Operand→AV} {m:Nat} {hp:H} {id:Nat} {a b:H}:fpE P Γ m op ρ hp id≠.cal a b:=by
 unfold fpE
 split
 ·exact fun e=>by cases e
 split
 ·exact fun e=>by cases e
 ·unfold fpR;split<;>exact fun e=>by cases e
 ·exact fun e=>by cases e
 ·unfold fpW
  split
  ·exact fun e=>by cases e
  ·split
   ·split<;>exact fun e=>by cases e
   exact fun e=>by cases e
  exact fun e=>by cases e
 exact fun e=>by cases e
theorem aQv {i j:Nat} {x y:Oper} {s s1 s2:S} (hap:x.apart ops y=true) (_:i≠j)
  (h1:kA P Γ GL md ops i x s=some s1) (h2:kA P Γ GL md ops j y s1=some s2) (hd:rL (fpS P Γ GL md ops i x s s1.hp) (fpS P Γ GL md ops j y s1 s2.hp)):
  ∃t1 t2,kA P Γ GL md ops j y s=some t1∧kA P Γ GL md ops i x t1=some t2∧gC s2 t2∧fpS P Γ GL md ops j y s t1.hp=fpS P Γ GL md ops j y s1 s2.hp∧fpS P Γ GL md ops i x t1 t2.hp=fpS P Γ GL md ops i x s s1.hp:=by
 obtain⟨a1,a2,a3⟩:=Oper.apart_spec hap
 have hfn: ∀fr f,ev GL fr (.func f)=.fn f []:=fun _ _=>rfl
 unfold kA at h1 h2⊢
 unfold fpS at hd⊢
 replace h1:=aJ h1;obtain⟨bx,hbx,h1⟩:=h1
 replace h2:=aJ h2;obtain⟨by',hby,h2⟩:=h2
 cases bx with
 |false=>
  obtain rfl:=J0 h1
  simp only at hby h2 hd
  rw[jT a1]at hby
  rw[hby,aX]
  cases by' with
  |false=>
   obtain rfl:=J0 h2
   refine⟨_,{fr:=fA x.dst (.tup []) (fA y.dst (.tup []) s.fr),hp:=s.hp,nx:=s.nx,cx:=s.cx},rfl,?_,?_,?_,?_⟩
   ·simp only[];rw[jT a3,hbx,aX]
   ·exact⟨fun t=>jV a2 _ _ _ t,rfl,rfl,rfl⟩
   ·simp only[];rw[jT a1,hby]
   ·simp only[];rw[jT a3,hbx]
  |true=>
   replace h2:=aJ h2;obtain⟨r,hr,h2⟩:=h2
   obtain rfl:=J0 h2
   rw[kI _ _ _ _ _ _ (kO a1)]at hr
   simp only[hr,aX]
   refine⟨_,{fr:=fA x.dst (.tup []) (fA y.dst r.1 s.fr),hp:=r.2.1,nx:=s.nx,cx:=r.2.2},rfl,?_,?_,?_,?_⟩
   ·simp only[];rw[jT a3,hbx,aX]
   ·exact⟨fun t=>jV a2 _ _ _ t,rfl,rfl,rfl⟩
   ·rw[jT a1,hby];simp only[];rw[mZ _ _ _ (kO a1)]
   ·simp only[];rw[jT a3,hbx]
 |true=>
  replace h1:=aJ h1;obtain⟨rx,hrx,h1⟩:=h1
  obtain rfl:=J0 h1
  simp only at hby h2 hd
  rw[jT a1]at hby
  rw[hby,aX]
  cases by' with
  |false=>
   obtain rfl:=J0 h2
   refine⟨_,{fr:=fA x.dst rx.1 (fA y.dst (.tup []) s.fr),hp:=rx.2.1,nx:=s.nx,cx:=rx.2.2},rfl,?_,?_,?_,?_⟩
   ·simp only[]
    rw[jT a3,hbx,aX]
    simp only[]
    rw[kI _ _ _ _ _ _ (kO a3),hrx,aX]
   ·exact⟨fun t=>jV a2 _ _ _ t,rfl,rfl,rfl⟩
   ·simp only[];rw[jT a1,hby]
   ·simp only[];rw[jT a3,hbx];simp only[];rw[mZ _ _ _ (kO a3)]
  |true=>
   replace h2:=aJ h2;obtain⟨ry,hry,h2⟩:=h2
   obtain rfl:=J0 h2
   rw[jT a1,hby,hbx]at hd
   simp only at hd
   rw[mZ _ _ _ (kO a1)]at hd
   rw[kI _ _ _ _ _ _ (kO a1)]at hry
   have none_of: ∀ {p:Nat→Option (Option AO)} (_: ∀k,p k≠none→k∈([]:List Nat)) (hp:H),kZ p hp=hp:=by
    intro p hp0 hp
    funext k
    simp only[kZ]
    cases h:p k with
    |none=>rfl
    |some o=>exact absurd (hp0 k (by rw[h];simp)) (by simp)
   have quietX: ∀Rx,fpE P Γ (md i) x.op (ev GL s.fr) s.hp (s.nx+i)=.at_ Rx []→agL Rx rx.2.1 ry.2.1→∃t1 t2,(aK (eff P Γ y.op (ev GL s.fr) (md j) s.nx ops.size s.hp (s.nx+j) s.cx) fun r=>some ({fr:=fA y.dst r.1 s.fr,hp:=r.2.1,nx:=s.nx,cx:=r.2.2}:S))=some t1∧
      (aK (gdO ops t1.fr x) fun b=>match b with
       |true=>aK (eff P Γ x.op (ev GL t1.fr) (md i) t1.nx ops.size t1.hp (t1.nx+i) t1.cx) fun r=>some ({fr:=fA x.dst r.1 t1.fr,hp:=r.2.1,nx:=t1.nx,cx:=r.2.2}:S)
       |false=>some {t1 with fr:=fA x.dst (.tup []) t1.fr})=some t2∧
      gC {fr:=fA y.dst ry.1 (fA x.dst rx.1 s.fr),hp:=ry.2.1,nx:=s.nx,cx:=ry.2.2} t2∧
      fpQ (fpE P Γ (md j) y.op (ev GL s.fr) s.hp (s.nx+j)) s.hp t1.hp=fpQ (fpE P Γ (md j) y.op (ev GL s.fr) rx.2.1 (s.nx+j)) rx.2.1 ry.2.1∧
      (match gdO ops t1.fr x with|some true=>fpQ (fpE P Γ (md i) x.op (ev GL t1.fr) t1.hp (t1.nx+i)) t1.hp t2.hp|_=> .at_ [] [])=.at_ Rx []:=by
    intro Rx hfx hag
    obtain⟨p,p1,p2,p3,p4⟩:=aAf (hfn s.fr) hrx hfx
    rw[none_of p1]at p2
    rw[p2]at hag
    rw[p2,p3]at hry
    obtain⟨x1,x2⟩:=p4 ry.2.1 (fun k hk=>hk.elim (hag k) (fun h=>by simp at h))
    rw[hry,aX]
    refine⟨_,{fr:=fA x.dst rx.1 (fA y.dst ry.1 s.fr),hp:=ry.2.1,nx:=s.nx,cx:=ry.2.2},rfl,?_,⟨fun t=>jV a2 _ _ _ t,rfl,rfl,rfl⟩,by rw[p2],?_⟩
    ·simp only[]
     rw[jT a3,hbx,aX]
     simp only[]
     rw[kI _ _ _ _ _ _ (kO a3),x1 ry.2.2,aX,none_of p1]
    ·simp only[]
     rw[jT a3,hbx]
     simp only[]
     rw[mZ _ _ _ (kO a3),x2]
     rfl
   have quietY: ∀Ry,fpE P Γ (md j) y.op (ev GL s.fr) rx.2.1 (s.nx+j)=.at_ Ry []→agL Ry s.hp rx.2.1→∃t1 t2,(aK (eff P Γ y.op (ev GL s.fr) (md j) s.nx ops.size s.hp (s.nx+j) s.cx) fun r=>some ({fr:=fA y.dst r.1 s.fr,hp:=r.2.1,nx:=s.nx,cx:=r.2.2}:S))=some t1∧
      (aK (gdO ops t1.fr x) fun b=>match b with
       |true=>aK (eff P Γ x.op (ev GL t1.fr) (md i) t1.nx ops.size t1.hp (t1.nx+i) t1.cx) fun r=>some ({fr:=fA x.dst r.1 t1.fr,hp:=r.2.1,nx:=t1.nx,cx:=r.2.2}:S)
       |false=>some {t1 with fr:=fA x.dst (.tup []) t1.fr})=some t2∧
      gC {fr:=fA y.dst ry.1 (fA x.dst rx.1 s.fr),hp:=ry.2.1,nx:=s.nx,cx:=ry.2.2} t2∧
      fpE P Γ (md j) y.op (ev GL s.fr) s.hp (s.nx+j)=.at_ Ry []∧
      (match gdO ops t1.fr x with|some true=>fpQ (fpE P Γ (md i) x.op (ev GL t1.fr) t1.hp (t1.nx+i)) t1.hp t2.hp|_=> .at_ [] [])=fpQ (fpE P Γ (md i) x.op (ev GL s.fr) s.hp (s.nx+i)) s.hp rx.2.1:=by
    intro Ry hfy hag
    obtain⟨q,q1,q2,q3,q4⟩:=aAf (hfn s.fr) hry hfy
    rw[none_of q1]at q2
    obtain⟨y1,y2⟩:=q4 s.hp (fun k hk=>hk.elim (fun h=>(hag k h).symm) (fun h=>by simp at h))
    rw[none_of q1]at y1
    rw[y1 s.cx,aX]
    refine⟨_,{fr:=fA x.dst rx.1 (fA y.dst ry.1 s.fr),hp:=rx.2.1,nx:=s.nx,cx:=rx.2.2},rfl,?_,⟨fun t=>jV a2 _ _ _ t,q2,rfl,q3⟩,y2,?_⟩
    ·simp only[]
     rw[jT a3,hbx,aX]
     simp only[]
     rw[kI _ _ _ _ _ _ (kO a3),hrx,aX]
    ·simp only[]
     rw[jT a3,hbx]
     simp only[]
     rw[mZ _ _ _ (kO a3)]
   rw[jT a1,hby,hbx]
   simp only[]
   rw[mZ _ _ _ (kO a1)]
   cases hfx:fpE P Γ (md i) x.op (ev GL s.fr) s.hp (s.nx+i)with
   |cal a b=>exact absurd hfx dDf
   |all=>
    cases hfy:fpE P Γ (md j) y.op (ev GL s.fr) rx.2.1 (s.nx+j)with
    |cal a b=>exact absurd hfy dDf
    |all=>rw[hfx,hfy]at hd;exact hd.elim
    |at_ Ry Wy=>
     rw[hfx,hfy]at hd
     obtain⟨rfl,hag⟩:=hd
     obtain⟨t1,t2,c1,c2,c3,c4,c5⟩:=quietY Ry hfy hag
     exact⟨t1,t2,c1,c2,c3,by rw[c4];rfl,c5.trans (by rw[hfx])⟩
   |at_ Rx Wx=>
    cases hfy:fpE P Γ (md j) y.op (ev GL s.fr) rx.2.1 (s.nx+j)with
    |cal a b=>exact absurd hfy dDf
    |all=>
     rw[hfx,hfy]at hd
     obtain⟨rfl,hag⟩:=hd
     obtain⟨t1,t2,c1,c2,c3,c4,c5⟩:=quietX Rx hfx hag
     exact⟨t1,t2,c1,c2,c3,c4.trans (by rw[hfy]),c5⟩
    |at_ Ry Wy=>
     rw[hfx,hfy]at hd
     obtain⟨d1,d1',d2⟩:=hd
     obtain⟨p,p1,p2,p3,p4⟩:=aAf (hfn s.fr) hrx hfx
     obtain⟨q,q1,q2,q3,q4⟩:=aAf (hfn s.fr) hry hfy
     have hsame: ∀k,k∈Ry∨k∈Wy→s.hp k=rx.2.1 k:=by
      intro k hk
      rw[p2]
      simp only[kZ]
      cases hp:p k with
      |none=>rfl
      |some o=>
       have h5:=p1 k (by rw[hp];simp)
       rcases hk with hk|hk
       ·exact absurd rfl (d1 k h5 k hk)
       ·exact absurd rfl (d1' k h5 k hk)
     obtain⟨y1,y2⟩:=q4 s.hp hsame
     have hsame2: ∀k,k∈Rx∨k∈Wx→kZ q s.hp k=s.hp k:=by
      intro k hk
      simp only[kZ]
      cases hq:q k with
      |none=>rfl
      |some o=>
       have h5:=q1 k (by rw[hq];simp)
       rcases hk with hk|hk
       ·exact absurd rfl (d2 k hk k h5)
       ·exact absurd rfl (d1' k hk k h5)
     obtain⟨x1,x2⟩:=p4 (kZ q s.hp) hsame2
     have hcomm:kZ q (kZ p s.hp)=kZ p (kZ q s.hp):=bEt _ _ _ (fun k hk=>by
      have h5:=q1 k hk
      cases hp:p k with
      |none=>rfl
      |some o=>exact absurd rfl (d1' k (p1 k (by rw[hp];simp)) k h5))
     refine⟨{fr:=fA y.dst ry.1 s.fr,hp:=kZ q s.hp,nx:=s.nx,cx:=s.cx},{fr:=fA x.dst rx.1 (fA y.dst ry.1 s.fr),hp:=kZ p (kZ q s.hp),nx:=s.nx,cx:=s.cx},?_,?_,?_,?_,?_⟩
     ·rw[y1 s.cx,aX]
     ·simp only[]
      rw[jT a3,hbx,aX]
      simp only[]
      rw[kI _ _ _ _ _ _ (kO a3),x1 s.cx,aX]
     ·exact⟨fun t=>jV a2 _ _ _ t,by simp only[];rw[q2,p2,hcomm],rfl,by simp only[];rw[q3,p3]⟩
     ·rw[y2];rfl
     ·simp only[]
      rw[jT a3,hbx]
      simp only[]
      rw[mZ _ _ _ (kO a3),x2]
      rfl
end
end Go.AX

namespace Go.AX
open Go Go.Proofs
section
variable {P : Program} {Γ : Env} {c : Ctx} {σ0 : Nat → Loc} {I0 : Nat → Prop} {w0 : World} {GL : Nat → Option (List AV)} {md : Nat → Nat} {ops : Array Oper}
def aQn (P:Program) (Γ:Env) (GL:Nat→Option (List AV)) (md:Nat→Nat) (ops:Array Oper):List (Nat×FP)→S→S→Prop
 |[],s,sf=>s=sf
 |a::r,s,sf=> ∃o s1,ops[a.1]? =some o∧kA P Γ GL md ops a.1 o s=some s1∧fpS P Γ GL md ops a.1 o s s1.hp=a.2∧aQn P Γ GL md ops r s1 sf
theorem aQm: ∀(L:List (Nat×FP)) {s t sf:S},aQn P Γ GL md ops L s sf→gC s t→∃tf,aQn P Γ GL md ops L t tf∧gC sf tf
 |[],s,t,sf,h,he=>by obtain rfl:=h;exact⟨t,rfl,he⟩
 |a::r,s,t,sf,h,he=>by
  obtain⟨o,s1,h1,h2,h3,h4⟩:=h
  obtain⟨t1,e1,e2⟩:=aFn h2 he
  obtain⟨tf,e3,e4⟩:=aQm r h4 e2
  exact⟨tf,⟨o,t1,h1,e1,by rw[←cAa he,←e2.2.1];exact h3,e3⟩,e4⟩
theorem aOq {i:Nat} {x:Oper} {f:FP} (hx:ops[i]? =some x): ∀(L1 L2:List (Nat×FP)) {s sf:S},
  (∀a∈L1,a.1≠i∧∃y,ops[a.1]? =some y∧y.apart ops x=true∧rL a.2 f)→
  aQn P Γ GL md ops (L1++(i,f)::L2) s sf→∃s1 sf',kA P Γ GL md ops i x s=some s1∧fpS P Γ GL md ops i x s s1.hp=f∧aQn P Γ GL md ops (L1++L2) s1 sf'∧gC sf sf'
 |[],L2,s,sf,_,h=>by
  obtain⟨o,s1,h1,h2,h3,h4⟩:=h
  rw[hx]at h1
  obtain rfl:=J0 h1
  exact⟨s1,sf,h2,h3,h4,gC.refl _⟩
 |a::r,L2,s,sf,hl,h=>by
  obtain⟨hji,y,hy,hap,hc⟩:=hl a (by simp)
  obtain⟨o,sj,h1,h2,h3,h4⟩:=h
  rw[hy]at h1
  obtain rfl:=J0 h1
  obtain⟨s2,sf2,e1,e1',e2,e3⟩:=aOq hx r L2 (fun k hk=>hl k (by simp[hk])) h4
  obtain⟨t1,t2,c1,c2,c3,c4,c5⟩:=aQv hap hji h2 e1 (by rw[h3,e1'];exact hc)
  obtain⟨sf3,g1,g2⟩:=aQm (r++L2) e2 c3
  exact⟨t1,sf3,c1,c4.trans e1',⟨y,t2,hy,c2,c5.trans h3,g1⟩,e3.trans g2⟩
def cWi (ops:Array Oper) (a b:Nat×FP):Prop:=
 ((Region.before ops).getD b.1 0).testBit a.1=true∨∃x y,ops[a.1]? =some x∧ops[b.1]? =some y∧x.apart ops y=true∧rL a.2 b.2
theorem aJx (hΓ:eJ P c.GL Γ) {Q:Exit→Act→World→Prop} (hdst:fK c.nt ops.toList=true)
  (hedge: ∀j y,ops[j]? =some y→∀e∈y.after,Region.binds .any e=true→e.on<j) {s':S}
  (hQ: ∀a' w',R c σ0 I0 w0 (fun _=>False) s' a' w'→Q .normal a' w'):
  ∀(fuel:Nat) (listed:Array Bool) (L:List (Nat×FP)) (s sf:S) (a:Act) (w:World),listed.size=ops.size→L.length≤fuel→L.map Prod.fst=unl ops.size listed→
   (∀m o,listed.getD m false=true→ops[m]? =some o→∀e∈o.after,Region.binds .any e=true→listed.getD e.on false=true)→L.Pairwise (cWi ops)→
   aQn P Γ c.GL md ops L s sf→gC s' sf→R c σ0 I0 w0 (fun k=>k∈unl ops.size listed) s a w→wpAny P .any ops Q fuel listed a w:=by
 have mem_unl: ∀(listed:Array Bool) i,i∈unl ops.size listed↔i<ops.size∧listed.getD i true=false:=by
  intro listed i;simp[unl]
 have done: ∀(listed:Array Bool) (L:List (Nat×FP)) (s sf:S) (a:Act) (w:World),L.map Prod.fst=unl ops.size listed→unl ops.size listed=[]→aQn P Γ c.GL md ops L s sf→gC s' sf→R c σ0 I0 w0 (fun k=>k∈unl ops.size listed) s a w→Q .normal a w:=by
  intro listed L s sf a w hL h0 hrun heq hR
  rw[h0]at hL hR
  have:L=[]:=List.map_eq_nil_iff.1 hL
  subst this
  obtain rfl:=hrun
  exact hQ _ _ ((hR.un fun k hk=>hk.elim).eqv heq.symm)
 have noready: ∀(listed:Array Bool),listed.size=ops.size→(Region.ready .any ops listed=[]↔unl ops.size listed=[]):=by
  intro listed hsz
  constructor
  ·intro hr
   refine List.eq_nil_iff_forall_not_mem.2 fun i=>?_
   induction i using Nat.strongRecOn with
   |_ i ih=>
    intro hi
    obtain⟨hlt,hun⟩:=(mem_unl listed i).1 hi
    have:i∈Region.ready .any ops listed:=by
     rw[mem_ready]
     refine⟨hun,ops[i],Array.getElem?_eq_getElem hlt,fun e he hb=>?_⟩
     have hlt':=hedge i _ (Array.getElem?_eq_getElem hlt) e he hb
     have hn:=ih e.on hlt'
     rw[mem_unl]at hn
     have hs2:e.on<listed.size:=by omega
     rw[Array.getD_eq_getD_getElem?,Array.getElem?_eq_getElem hs2]at hn⊢
     simp only[Option.getD_some]at hn⊢
     cases hv:listed[e.on]with
     |true=>rfl
     |false=>exact absurd ⟨by omega,hv⟩ hn
    rw[hr]at this;cases this
  ·intro h0
   refine List.eq_nil_iff_forall_not_mem.2 fun i hi=>?_
   rw[mem_ready]at hi
   obtain⟨h1,o,ho,_⟩:=hi
   have:i∈unl ops.size listed:=(mem_unl listed i).2 ⟨(Array.getElem?_eq_some_iff.1 ho).1,h1⟩
   rw[h0]at this;cases this
 intro fuel
 induction fuel with
 |zero=>
  intro listed L s sf a w hsz hlen hL hdc hpw hrun heq hR
  have hL0:L=[]:=List.eq_nil_of_length_eq_zero (by omega)
  have h0:unl ops.size listed=[]:=by rw[←hL,hL0];rfl
  exact⟨(noready listed hsz).2 h0,done listed L s sf a w hL h0 hrun heq hR⟩
 |succ fuel ih=>
  intro listed L s sf a w hsz hlen hL hdc hpw hrun heq hR
  refine⟨fun hr=>done listed L s sf a w hL ((noready listed hsz).1 hr) hrun heq hR,fun i hi=>?_⟩
  obtain⟨hun,x,hx,hall⟩:=mem_ready.1 hi
  have hlt:=(Array.getElem?_eq_some_iff.1 hx).1
  have hmem:i∈unl ops.size listed:=(mem_unl listed i).2 ⟨hlt,hun⟩
  have hanc: ∀m j,Anc ops m j→(∀o,ops[m]? =some o→∀e∈o.after,Region.binds .any e=true→listed.getD e.on false=true)→listed.getD j false=true:=by
   intro m j ha
   induction ha with
   |edge ho he hb=>exact fun h=>h _ ho _ he hb
   |step ho he hb _ ih2=>exact fun h=>ih2 fun o ho' e' he' hb'=>hdc _ o (h _ ho _ he hb) ho' e' he' hb'
  have hmemL:i∈L.map Prod.fst:=by rw[hL];exact hmem
  obtain⟨⟨i',f⟩,hf,rfl⟩:=List.mem_map.1 hmemL
  obtain⟨L1,L2,hl⟩:=List.append_of_mem hf
  subst hl
  have hpu:(unl ops.size listed).Pairwise (· < ·):=List.Pairwise.filter _ List.pairwise_lt_range
  rw[←hL,List.map_append,List.map_cons]at hpu
  simp only at hpu
  have hlt1: ∀j∈L1.map Prod.fst,j<i':=fun j hj=>(List.pairwise_append.1 hpu).2.2 j hj i' (by simp)
  have hlt2: ∀j∈L2.map Prod.fst,i'<j:=fun j hj=>(List.pairwise_cons.1 (List.pairwise_append.1 hpu).2.1).1 j hj
  obtain⟨s1,sf1,f1,f1',f2,f3⟩:=aOq hx L1 L2 (fun a0 ha0=>by
   have hjm:a0.1∈unl ops.size listed:=by rw[←hL];simp only[List.map_append,List.mem_append];exact .inl (List.mem_map_of_mem ha0)
   obtain⟨hjlt,hjun⟩:=(mem_unl listed a0.1).1 hjm
   have hj1:=hlt1 a0.1 (List.mem_map_of_mem ha0)
   refine⟨by omega,?_⟩
   rcases(List.pairwise_append.1 hpw).2.2 a0 ha0 (i',f) (by simp)with h|⟨y,x',hy,hx',hap,hap1⟩
   ·have:=hanc i' a0.1 (oR ops i' a0.1 h) (fun o ho e he hb=>by rw[hx]at ho;obtain rfl:=J0 ho;exact hall e he hb)
    have hs2:a0.1<listed.size:=by omega
    rw[Array.getD_eq_getD_getElem?,Array.getElem?_eq_getElem hs2]at hjun this
    simp only[Option.getD_some]at hjun this
    rw[hjun]at this;cases this
   ·rw[hx]at hx'
    obtain rfl:=J0 hx'
    exact⟨y,hy,hap,hap1⟩) hrun
  have hnew:unl ops.size (listed.setIfInBounds i' true)=(L1++L2).map Prod.fst:=by
   have e1:unl ops.size (listed.setIfInBounds i' true)=(unl ops.size listed).filter (fun k=>k !=i'):=by
    unfold unl
    rw[List.filter_filter]
    refine List.filter_congr fun k hk=>?_
    by_cases hki:k=i'
    ·subst hki
     rw[Array.getD_eq_getD_getElem?,Array.getElem?_setIfInBounds_self_of_lt (by omega)];simp
    ·rw[getD_set_ne true (Ne.symm hki)]
     simp[hki]
   rw[e1,←hL,List.map_append,List.map_append,List.filter_append,List.map_cons,List.filter_cons]
   simp only[bne_self_eq_false,Bool.false_eq_true,if_false]
   congr 1
   ·exact List.filter_eq_self.2 fun k hk=>by have:=hlt1 k hk;simp;omega
   ·exact List.filter_eq_self.2 fun k hk=>by have:=hlt2 k hk;simp;omega
  have hun2: ∀k,k∈unl ops.size (listed.setIfInBounds i' true)→k∈unl ops.size listed∧k≠i':=by
   intro k hk
   rw[hnew,List.map_append,List.mem_append]at hk
   rw[←hL,List.map_append,List.map_cons,List.mem_append,List.mem_cons]
   rcases hk with hk|hk
   ·exact⟨.inl hk,by have:=hlt1 k hk;omega⟩
   ·exact⟨.inr (.inr hk),by have:=hlt2 k hk;omega⟩
  have hstep:=fX (K:=wpAny P .any ops Q fuel (listed.setIfInBounds i' true)) (Q:=Q) (ops:=ops) hΓ f1 (lU hdst (Array.mem_toList_iff.2 (Array.mem_of_getElem? hx))) (rem:=fun k=>k∈unl ops.size listed) hmem hR (fun a' w' hR'=>
   ih (listed.setIfInBounds i' true) (L1++L2) s1 sf1 a' w' (by simpa using hsz) (by simp at hlen⊢;omega) hnew.symm (fun m o hm ho e he hb=>by
     by_cases hmi:m=i'
     ·subst hmi
      rw[hx]at ho;obtain rfl:=J0 ho
      exact getD_set_true (hall e he hb)
     ·rw[getD_set_ne false (Ne.symm hmi)]at hm
      exact getD_set_true (hdc m o hm ho e he hb))
    (by
     rw[List.pairwise_append]at hpw⊢
     exact⟨hpw.1,(List.pairwise_cons.1 hpw.2.1).2,fun a ha b hb=>hpw.2.2 a ha b (by simp[hb])⟩)
    f2 (heq.trans f3) (hR'.un fun k hk=>hun2 k hk))
  unfold wpOp
  simp only[hx]
  split
  ·rename_i hw;rw[J4 hw]at hstep;exact .inl hstep
  ·rename_i hw;rw[J3 hw]at hstep;exact hstep
def fpP (P:Program) (Γ:Env) (GL:Nat→Option (List AV)) (m k:Nat) (o:LOp) (s:S) (hp':H):FP:=
 match gdS s.fr o.g with
 |some true=>fpQ (fpE P Γ m o.op (ev GL s.fr) s.hp (s.nx+k)) s.hp hp'
 |_=> .at_ [] []
def bEz (b:Bool) (k:Nat) (f:FP) (acc:List (Nat×FP)):List (Nat×FP):=if b=true then(k,f)::acc else acc
def aBs (P:Program) (Γ:Env) (GL:Nat→Option (List AV)) (md:Nat→Nat) (n:Nat) (hv:Nat→Bool):Nat→List LOp→List (Nat×FP)→S→Option (S×List (Nat×FP))
 |_,[],acc,s=>some (s,acc)
 |k,o::r,acc,s=>aK (rO P Γ GL (md k) n k o s) fun s'=>aBs P Γ GL md n hv (k+1) r (bEz (hv k) k (fpP P Γ GL (md k) k o s s'.hp) acc) s'
def pC:List (Nat×FP)→Nat→FP
 |[],_=> .all
 |a::r,i=>if i=a.1 then a.2 else pC r i
def aDr:List (Nat×Nat)→List (Nat×FP)→Prop
 |[],_=>True
 |p::r,acc=>rL (pC acc p.1) (pC acc p.2)∧aDr r acc
theorem aHt {acc:List (Nat×FP)}: ∀ {prs:List (Nat×Nat)},aDr prs acc→∀p∈prs,rL (pC acc p.1) (pC acc p.2)
 |q::r,h,p,hp=>by
  rcases List.mem_cons.1 hp with rfl|hp
  ·exact h.1
  exact aHt h.2 p hp
theorem cZp (P:Program) (Γ:Env) (GL:Nat→Option (List AV)) (md:Nat→Nat) (ops:Array Oper) (k:Nat) (o:Oper) (s:S) (hp':H):fpS P Γ GL md ops k o s hp'=fpP P Γ GL (md k) k (aG ops o) s hp':=by
 have:gdO ops s.fr o=gdS s.fr (aG ops o).g:=by
  unfold gdO aG
  cases o.guard with
  |none=>rfl
  |some p=>
   obtain⟨j,want⟩:=p
   simp only[Option.map_some]
   cases ops[j]? with
   |none=>rfl
   |some y=>
    simp only[Option.bind_some]
    cases y.dst with
    |none=>rfl
    |some t=>rfl
 unfold fpS fpP
 rw[this]
 rfl
theorem aBr {hv:Nat→Bool}: ∀(l:List Oper) (k:Nat) (acc:List (Nat×FP)) {s sf:S} {acc':List (Nat×FP)},(∀m,l[m]? =if m<l.length then ops[k+m]? else none)→
  aBs P Γ GL md ops.size hv k (l.map (aG ops)) acc s=some (sf,acc')→
  ∃L,L.map Prod.fst=List.range' k l.length∧aQn P Γ GL md ops L s sf∧(∀a∈L,hv a.1=true→pC acc' a.1=a.2)∧(∀a∈L,∃o s hp',ops[a.1]? =some o∧fpS P Γ GL md ops a.1 o s hp'=a.2)∧∀i,i<k→pC acc' i=pC acc i
 |[],k,acc,s,sf,acc',_,h=>by
  simp only[List.map_nil,aBs,Option.some.injEq,Prod.mk.injEq]at h
  obtain⟨rfl,rfl⟩:=h
  exact⟨[],rfl,rfl,fun _ h=>absurd h (by simp),fun _ h=>absurd h (by simp),fun _ _=>rfl⟩
 |o::r,k,acc,s,sf,acc',hl,h=>by
  simp only[List.map_cons,aBs]at h
  replace h:=aJ h;obtain⟨s1,h1,h⟩:=h
  have h0:ops[k]? =some o:=by have:=(hl 0).symm;simpa using this
  obtain⟨L,e1,e2,e3,e3',e4⟩:=aBr r (k+1) _ (fun m=>by have:=hl (m+1);simpa [Nat.add_assoc,Nat.add_comm 1 m]using this) h
  refine⟨(k,fpS P Γ GL md ops k o s s1.hp)::L,by simp[e1,List.range'_succ],⟨o,s1,h0,by rw[vJ];exact h1,rfl,e2⟩,fun a ha hh=>?_,fun a ha=>?_,fun i hi=>?_⟩
  ·rcases List.mem_cons.1 ha with rfl|ha
   ·have:=e4 k (by omega)
    rw[this]
    simp only at hh
    rw[hh,bEz,J4 rfl,pC,J4 rfl,cZp]
   ·exact e3 a ha hh
  ·rcases List.mem_cons.1 ha with rfl|ha
   ·exact⟨o,s,s1.hp,h0,rfl⟩
   ·exact e3' a ha
  ·rw[e4 i (by omega)]
   unfold bEz
   split
   ·rw[pC,J3 (by omega)]
   ·rfl
def aWc (P:Program) (Γ:Env) (md:Nat→Nat) (hv:Nat→Bool) (prs:List (Nat×Nat)) (ops:Array Oper):Bool:=
 let b:=Region.before ops
 (List.range ops.size).all fun j=>match ops[j]? with
  |none=>true
  |some y=>y.after.all (fun e=> !Region.binds .any e||decide (e.on<j))&&
   let bj:=b.getD j 0
   (List.range j).all fun i=>bj.testBit i||match ops[i]? with
    |none=>true
    |some x=>x.apart ops y&&(decide (gI P Γ (md i) x.op=.P)||decide (gI P Γ (md j) y.op=.P)||(hv i&&hv j&&prs.contains (i,j)))
theorem cFz {k:Nat} {o:Oper} {s:S} {hp':H} (h:gI P Γ (md k) o.op=.P):fpS P Γ GL md ops k o s hp'=.at_ [] []:=by
 unfold fpS
 split
 ·unfold fpE;rw[J4 h];rfl
 rfl
theorem bRr (f:FP):rL (.at_ [] []) f:=by
 cases f with
 |all=>exact⟨rfl,rfl⟩
 |cal a b=>exact⟨rfl,fun _ h=>by simp at h⟩
 |at_ R W=>exact⟨fun _ h=>by simp at h,fun _ h=>by simp at h,fun _ h=>by simp at h⟩
theorem bRq (f:FP):rL f (.at_ [] []):=by
 cases f with
 |all=>exact⟨rfl,rfl⟩
 |cal a b=>exact⟨rfl,fun _ h=>by simp at h⟩
 |at_ R W=>exact⟨fun _ _ _ h=>by simp at h,fun _ _ _ h=>by simp at h,fun _ _ _ h=>by simp at h⟩
theorem aPc (hm:P.follows .mixedOrders=true) (hΓ:eJ P c.GL Γ) {hv:Nat→Bool} {prs:List (Nat×Nat)} {id:Nat} {Q:Exit→Act→World→Prop} (hdst:fK c.nt ops.toList=true) (hok:aWc P Γ md hv prs ops=true) {s s':S} {acc:List (Nat×FP)} {a:Act} {w:World}
  (h:aBs P Γ c.GL md ops.size hv 0 (ops.toList.map (aG ops)) [] (cX ops.size s)=some (s',acc)) (hp:aDr prs acc) (hR:R c σ0 I0 w0 (fun _=>False) s a w) (hQ: ∀a' w',R c σ0 I0 w0 (fun _=>False) s' a' w'→Q .normal a' w'):
  (Code.region id ops true).wp P Q a w:=by
 have h0:unl ops.size (Array.replicate ops.size false)=List.range ops.size:=by
  unfold unl
  refine List.filter_eq_self.2 fun k hk=>?_
  rw[List.mem_range]at hk
  rw[Array.getD_eq_getD_getElem?,Array.getElem?_replicate,J4 hk];rfl
 have hchk: ∀j y,ops[j]? =some y→(∀e∈y.after,Region.binds .any e=true→e.on<j)∧∀i x,i<j→ops[i]? =some x→((Region.before ops).getD j 0).testBit i=true∨(x.apart ops y=true∧(gI P Γ (md i) x.op=.P∨gI P Γ (md j) y.op=.P∨(hv i=true∧hv j=true∧(i,j)∈prs))):=by
  intro j y hy
  have hlt:=(Array.getElem?_eq_some_iff.1 hy).1
  have h:=List.all_eq_true.1 hok j (List.mem_range.2 hlt)
  simp only[hy,Bool.and_eq_true]at h
  refine⟨fun e he hb=>?_,fun i x hi hx=>?_⟩
  ·have:=Array.all_eq_true_iff_forall_mem.1 h.1 e he
   simpa [hb]using this
  ·have:=List.all_eq_true.1 h.2 i (List.mem_range.2 hi)
   simp only[hx,Bool.or_eq_true,Bool.and_eq_true,decide_eq_true_eq]at this
   rcases this with h|⟨h1,(h2|h2)|⟨⟨h2,h3⟩,h4⟩⟩
   ·exact .inl h
   ·exact .inr ⟨h1,.inl h2⟩
   ·exact .inr ⟨h1,.inr (.inl h2)⟩
   ·exact .inr ⟨h1,.inr (.inr ⟨h2,h3,List.contains_iff_mem.1 h4⟩)⟩
 obtain⟨L,e1,e2,e3,e3',_⟩:=aBr ops.toList 0 [] (fun m=>by
  rw[Nat.zero_add]
  split
  ·rw[Array.getElem?_toList]
  ·rename_i hh;rw[List.getElem?_eq_none (by omega)]) h
 rw[Array.length_toList,←List.range_eq_range']at e1
 have hpw:L.Pairwise (cWi ops):=by
  have hlt:L.Pairwise fun a b=>a.1<b.1:=by
   have:(L.map Prod.fst).Pairwise (· < ·):=by rw[e1];exact List.pairwise_lt_range
   exact List.pairwise_map.1 this
  refine hlt.imp_of_mem fun {a b} ha hb hab=>?_
  obtain⟨x,sa,ha',hx,fx⟩:=e3' a ha
  obtain⟨y,sb,hb',hy,fy⟩:=e3' b hb
  rcases(hchk b.1 y hy).2 a.1 x hab hx with h|⟨hap,h|h|⟨h1,h2,h3⟩⟩
  ·exact .inl h
  ·refine .inr ⟨x,y,hx,hy,hap,?_⟩
   rw[←fx,cFz h];exact bRr _
  ·refine .inr ⟨x,y,hx,hy,hap,?_⟩
   rw[←fy,cFz h];exact bRq _
  ·refine .inr ⟨x,y,hx,hy,hap,?_⟩
   have:=aHt hp _ h3
   rw[e3 a ha h1,e3 b hb h2]at this
   exact this
 have hlen:L.length=ops.size:=by have:=congrArg List.length e1;simpa using this
 refine wp_region_any hm (aJx hΓ hdst (fun j y hy=>(hchk j y hy).1) hQ ops.size _ L (cX ops.size s) s' a _ (by simp) (by omega) (by rw[e1,h0]) (fun m o hl=>?_) hpw e2 (gC.refl _) ?_)
 ·rw[Array.getD_eq_getD_getElem?,Array.getElem?_replicate]at hl;split at hl<;>cases hl
 ·exact((hR.enter ops.size).un fun k hk=>by rw[h0]at hk;exact List.mem_range.1 hk).world rfl rfl rfl rfl
end
def bGm (o:Option (S×List (Nat×FP))) (Q:S→List (Nat×FP)→Prop):Prop:=match o with|some t=>Q t.1 t.2|none=>False
theorem aYa {P:Program} {GL:Nat→Option (List AV)} {nt:Nat} {Q:Exit→S→Prop} {s:S} {code:Code} {Γ:Env} (hv:Nat→Bool) (prs:List (Nat×Nat)) (md:Nat→Nat) (ks:List Nat) (hm:P.follows .mixedOrders=true) (hΓ:eJ P GL Γ) (hc:rS code=true) (hd:lZ code=true) (ho:fK nt (aM code).toList=true) (hk:aWc P Γ md hv prs (aM code)=true)
  (h: ∀K:S→Prop,(∀t,Q .normal t→K t)→bGm (aBs P Γ GL md (rN code) hv 0 (aF code) [] (cX (rN code) s)) fun t acc=>aDr prs acc∧K {t with fr:=gL ks t.fr}):Awp P GL nt code s Q:=by
 have h':=h (Q .normal) fun _ h=>h
 clear h
 refine sX ?_
 cases code<;>first|(cases hc;done)|skip
 rename_i id ops d
 simp only[lZ]at hd
 subst hd
 intro c h1 h2 σ0 I0 w0 a w hR
 subst h1;subst h2
 simp only[aM,aF,rN]at ho hk h'
 unfold bGm at h'
 split at h'
 ·rename_i t e
  obtain⟨t,acc⟩:=t
  obtain⟨hp,hq⟩:=h'
  exact aPc hm hΓ ho hk e hp hR fun a' w' hR'=>⟨t,⟨_,hq,gP ks t,rfl⟩,hR'⟩
 ·exact h'.elim
theorem bHi (P Γ GL md n hv k acc s):aBs P Γ GL md n hv k [] acc s=some (s,acc):=(rfl)
theorem aZk (P Γ GL md n hv k o r acc s):aBs P Γ GL md n hv k (o::r) acc s=aK (rO P Γ GL (md k) n k o s) fun s2=>aBs P Γ GL md n hv (k+1) r (bEz (hv k) k (fpP P Γ GL (md k) k o s s2.hp) acc) s2:=(rfl)
theorem cRy (k:Nat) (f:FP) (acc:List (Nat×FP)):bEz false k f acc=acc:=(rfl)
theorem cRx (k:Nat) (f:FP) (acc:List (Nat×FP)):bEz true k f acc=(k,f)::acc:=(rfl)
theorem aQy (t:S) (acc:List (Nat×FP)) (Q:S→List (Nat×FP)→Prop):bGm (some (t,acc)) Q=Q t acc:=(rfl)
@[congr] theorem cIe {P : Program} {Γ : Env} {GL : Nat → Option (List AV)} {md : Nat → Nat} {n k k' : Nat} {hv : Nat → Bool} {l : List LOp} {acc acc' : List (Nat × FP)} {s s' : S} (hk : k = k') (ha : acc = acc') (h : s = s') : aBs P Γ GL md n hv k l acc s = aBs P Γ GL md n hv k' l acc' s' := by rw [h, hk, ha]
def fpG (b:Option Bool) (f:FP):FP:=match b with|some true=>f|_=> .at_ [] []
theorem cZr (f:FP):fpG (some true) f=f:=(rfl)
theorem cOv (P Γ GL m k d op g fr hp nx cx hp'):fpP P Γ GL m k {d:=d,op:=op,g:=g} {fr:=fr,hp:=hp,nx:=nx,cx:=cx} hp'=fpG (gdS fr g) (fpQ (fpE P Γ m op (ev GL fr) hp (nx+k)) hp hp'):=by
 simp only[fpP,fpG]
theorem cZd (fr:List (Nat×AV)):gdS fr none=some true:=(rfl)
theorem cZc (fr:List (Nat×AV)) (t:Nat) (want:Bool):gdS fr (some (some t,want))=qZ want (dG fr t):=(rfl)
theorem bBk (P Γ t x ρ hp id):fpE P Γ 2 (.load t x) ρ hp id=.at_ (fpV (ρ x)) []:=(rfl)
theorem bBm (P Γ m t n ps ρ hp id):fpE P Γ m (.buildSlice t n ps) ρ hp id=.at_ [] [id]:=(rfl)
def fpA (b:Bool) (y x:List Nat) (id:Nat):FP:=if b=true then .at_ y (id::x)else .all
theorem cZt (y x:List Nat) (id:Nat):fpA true y x id=.at_ y (id::x):=(rfl)
theorem cAb (P Γ m x y t u ρ hp id):fpE P Γ m (.call {callee:=.builtin .append,args:= #[x,y],argTypes:= #[t,u]}) ρ hp id=fpA (rW hp (ρ y)) (fpV (ρ y)) (fpV (ρ x)) id:=(rfl)
def cHd (off n:Nat):Option AO→Bool|some (.cells xs _)=>gH ((xs.drop off).take n)|_=>false
theorem cHe (hp:H) (j off n e:Nat) (g:Bool):rW hp (.os j off n e g)=cHd off (n*e) (hp j):=by
 simp only[rW,cHd]
 all_goals (rcases hp j with _|o<;>first|rfl|(cases o<;>rfl))
theorem aYu (off n:Nat) (xs:List AV) (mt:Bool):cHd off n (some (.cells xs mt))=gH ((xs.drop off).take n):=(rfl)
theorem cOs (i off n e:Nat) (g:Bool):fpV (.os i off n e g)=[i]:=(rfl)
theorem cOt (i off:Nat):fpV (.op i off)=[i]:=(rfl)
theorem bZz:fpV (.v (.slice none 0 0))=[]:=(rfl)
theorem bEx (acc:List (Nat×FP)):aDr [] acc=True:=(rfl)
theorem aUd (i j:Nat) (r:List (Nat×Nat)) (acc:List (Nat×FP)):aDr ((i,j)::r) acc=(rL (pC acc i) (pC acc j)∧aDr r acc):=(rfl)
theorem aSg (k:Nat) (f:FP) (r:List (Nat×FP)) (i:Nat):pC ((k,f)::r) i=if i=k then f else pC r i:=(rfl)
theorem dDm (R W:List Nat) (hp hp':H):fpQ (.at_ R W) hp hp'=.at_ R W:=(rfl)
theorem dDk (hp hp':H):fpQ .all hp hp'=.cal hp hp':=(rfl)
def fpC (m:Nat):Option bFb→FP
 |some (.pure true _)=>if m=1 then .at_ [] []else .all
 |some (.pure false _)=>if m=0 then .all else .at_ [] []
 |_=> .all
theorem dDo (m:Nat) (G):fpC m (some (.heap G))=.all:=(rfl)
theorem dDi (P Γ m f xs ts ρ hp id):fpE P Γ m (.call {callee:=.value (.func f),args:=xs,argTypes:=ts}) ρ hp id=fpC m (Γ f):=by
 have hc:cls P (.call {callee:=.value (.func f),args:=xs,argTypes:=ts})=.call:=rfl
 unfold fpE gI
 rw[hc]
 simp only[]
 cases hG:Γ f with
 |none=>simp[fpC]
 |some g=>
  cases g with
  |pure b G=>
   cases b with
   |true=>
    simp only[fpC]
    by_cases h0:m=0
    ·subst h0;simp
    by_cases h1:m=1
    ·subst h1;simp
    rw[J3 h0,J3 h1,J3 h1];simp
   |false=>
    simp only[fpC]
    by_cases h0:m=0
    ·subst h0;simp
    rw[J3 h0,J3 h0];simp[h0]
  |fresh b G=>
   by_cases h0:m=0
   ·subst h0;simp[fpC]
   simp[fpC,h0]
  |heap G=>simp[fpC]
theorem dDg (R W:List Nat) (hp hp':H):rL (.cal hp hp') (.at_ R W)=(W=[]∧agL R hp hp'):=(rfl)
theorem bEv (R W R' W':List Nat):rL (.at_ R W) (.at_ R' W')=(apL W R'∧apL W W'∧apL R W'):=(rfl)
theorem bRu: ∀(xs:List Nat),apL xs []=True:=fun xs=>by simp[apL]
attribute [go_sem] dDm dDk dDo dDi dDg dDl dDj bHi aZk cRy cRx aQy cZr cOv cZd cZc bBk bBm cZt cAb cHe aYu cOs cOt bZz bEx aUd aSg bEv cEc bRu bRv bRw bEw
end Go.AX

namespace Go.AX
open Go Go.Proofs
set_option maxRecDepth 8000
theorem uX.upd {hp:H} {q:Nat} {Q:QT} (h:uX hp q Q) (j:Nat) (o:AO) (hq:j≠q) (hr:Q.R≠[]→j≠Q.a∧j≠Q.b∧j≠Q.c):uX (upd hp j o) q Q:=by
 refine⟨by rw[bJ,J3 (Ne.symm hq)];exact h.hq,h.z,fun e=>?_⟩
 obtain⟨a1,a2,a3,r⟩:=h.h e
 obtain⟨n1,n2,n3⟩:=hr e
 exact⟨by rw[bJ,J3 (Ne.symm n1)];exact a1,by rw[bJ,J3 (Ne.symm n2)];exact a2,by rw[bJ,J3 (Ne.symm n3)];exact a3,r⟩
theorem aVf (s:S8):List.take 8 (c8 s.l)=c8 s.l:=rfl
theorem cUx (a b c:Nat) (t:TK):qcC ⟨a,b,c,[]++[t]⟩=[.os a 0 1 8 true,.os b 0 1 1 true,.os c 0 1 8 true]:=J3 (by simp)
theorem cUw (a b c:Nat) (R:List TK) (t:TK):qcC ⟨a,b,c,R++[t]⟩=[.os a 0 (R.length+1) 8 true,.os b 0 (R.length+1) 1 true,.os c 0 (R.length+1) 8 true]:=by
 rw[aGa (by simp)]
 simp
theorem aWj (h:Int):gH [AV.i h]=true:=rfl
set_option maxHeartbeats 4000000 in
theorem cKt:cQ Tryz.prog GLh 47 aZz:=by
 refine gF Tryz.func47 (aT rfl) ?_
 intro args hp nx r hp' nx' hg
 unfold aZz at hg
 split at hg
 ·rename_i q xs h0
  replace hg:=aJ hg;obtain⟨Q,hQ0,hg⟩:=hg
  have hQ:=vS hQ0
  replace hg:=aJ hg;obtain⟨l8,hl8,hg⟩:=hg
  have:=iX _ hl8;subst this
  replace hg:=aJ hg;obtain⟨sd,hS8,hg⟩:=hg
  have:=vN hS8;subst this
  replace hg:=aP hg;obtain⟨⟨hh0,hh1,hRl⟩,hg⟩:=hg
  simp only[Option.some.injEq,Prod.mk.injEq]at hg;obtain⟨rfl,rfl,rfl⟩:=hg
  obtain⟨ht,rfl⟩:=Int.eq_ofNat_of_zero_le hh0
  simp only[U2]at*
  refine⟨J1 rfl,by omega,fun hnone=>?_⟩
  have hlt: ∀k o,hp k=some o→k<nx:=fun k o hk=>lI hnone hk
  have hql:=hlt _ _ hQ.hq
  have hsl:(c8 sd.l).length=8:=by rw[iM,sd.len]
  have hst:=aVf sd
  have hnl:=iW sd.l ht 0
  have hsl2:=sd.len
  have hrt:List.take 8 (c8 (iR sd.l ht 0))=c8 (iR sd.l ht 0):=List.take_of_length_le (by rw[iM,hnl];exact U3 _)
  by_cases hz:Q.R=[]
  ·have h1:=hQ.hq
   rw[bIa hz]at h1
   refine aA rfl (bA [0,2,4,6] rfl rfl rfl fun K hK=>?_)
   simp(disch:=omega) only[Tryz.f47,go_sem,↓reduceIte]
   refine hK _ ?_
   refine aB ?_
   refine lW 4 nx 0 rfl (by simp(disch:=omega) only[aV,bY,↓reduceIte,eq_self]<;>rfl) ?_
   refine fF [0,2,4,6] ?_
   simp only[iB,fU,eB,↓reduceIte,Nat.reduceEqDiff,J9]
   refine aA rfl (aA rfl (bA [0,2,4,6,7] rfl rfl rfl fun K hK=>?_))
   simp(disch:=omega) only[Tryz.f47,go_sem,↓reduceIte]
   refine hK _ ?_
   refine aB (aR 0 rfl rfl ?_)
   refine bR (fun p:Nat=> {fr:=[(0,.op q 0),(2,.i ht),(4,.rp (c8 sd.l)),(6,.op (nx+1) 0),(7,.i 0)],hp:=upd hp (nx+1) (.cells (c8 (List.replicate 8 0#8)) true),nx:=0,cx:=nx+80}) (fun p=>p=0) (fun p=>p) rfl ⟨0,rfl,⟨fun x=> .inr rfl,fun j o hj=>by {simp only[bJ]at hj⊢;by_cases e:j=nx+1; · {rw[J4 e]at hj;rw[J3 (by omega),J4 e];exact hj};rw[J3 e]at hj;have:=hlt j o hj;rw[J3 (by omega),J3 e,J3 (by omega)];exact hj},by simp only;omega⟩⟩ ?_
   rintro k hk n0
   simp only at hk⊢
   refine aA rfl (aA rfl (bA [15,0,2,4,6,7] rfl rfl rfl fun K hK=>?_))
   simp(disch:=omega) only[Tryz.f47,go_sem,↓reduceIte,h1,J8,J9]
   refine hK _ ?_
   refine aB (eC (.tmp 15) rfl rfl rfl (fun h=>?_) (fun h=>?_))
   ·refine aI rfl ?_
    cases h
   refine aI rfl ?_
   clear h
   refine bF 0 rfl rfl (aY (aZ (bE (aB (aA rfl (aC (Γ:=bC [(57,.pure true xM)]) [0,2,4,6,8] (aH cWo aO) rfl rfl rfl (fun K hK=>?_)))))))
   simp(disch:=omega) only[Tryz.f47,go_sem,↓reduceIte,kK,hsl2,hsl,hh0,hh1,true_and,U2]
   refine hK _ ?_
   refine aB (aA rfl (aYa (Γ:=aL) (fun k=>if k=6 then true else if k=8 then true else if k=9 then true else if k=13 then true else if k=15 then true else if k=16 then true else if k=20 then true else if k=21 then true else if k=22 then true else false) [(6,8),(6,13),(8,13),(9,13),(6,15),(8,15),(9,15),(13,15),(6,20),(8,20),(9,20),(13,20),(15,20),(16,20),(6,21),(8,21),(9,21),(13,21),(15,21),(16,21),(20,21),(6,22),(8,22),(9,22),(13,22),(15,22),(16,22),(20,22)] (fun k=>if k=7 then 1 else 2) [6,8] bZ (aD _ _) rfl rfl rfl (by kernel_rfl) (fun K hK=>?_)))
   simp(maxSteps:=400000) (disch:=omega) only[Tryz.f47,go_sem,and_self,and_true,true_and,ne_eq,not_false_eq_true,↓reduceIte,h1,hsl,hnl,wS,aWj,cK,List.nil_append,List.cons_append,J8,List.set_cons_succ,List.set_cons_zero,U0,U1,J7,J9]
   refine hK _ ?_
   refine aB (aA rfl (bA [6] rfl rfl rfl fun K hK=>?_))
   simp(disch:=omega) only[Tryz.f47,go_sem,↓reduceIte,hnl,J9]
   refine hK _ ?_
   refine aB (aS rfl ?_)
   have hnm:(⟨sd,ht⟩:TK)∉Q.R:=by rw[hz];simp
   have hqd:jY Q hp=hp:=J4 hz
   rw[qQ hnm,hz,hqd]
   refine⟨by simp(disch:=omega) only[bV,bK,bQ,Tryz.f47,go_sem,aV,ldV,↓reduceIte,eq_self,hnl,J9]<;>rfl,fun j o hj=>aBe (Q:=⟨_,_,_,[]++[⟨sd,ht⟩]⟩) ?_ ?_ j o hj,by simp only;omega⟩
   ·have et:List.take 8 (sd.l++List.drop 8 (List.replicate 8 0#8))=sd.l:=List.take_left' hsl2
    have et2:List.take 8 (iR sd.l ht 0++List.drop 8 (List.replicate 8 0#8))=iR sd.l ht 0:=List.take_left' hnl
    refine⟨?_,fun e=>by simp at e,fun _=>⟨?_,?_,?_,by simp only;omega,by simp only;omega,by simp only;omega,by simp only;omega,by simp only;omega,by simp only;omega⟩⟩
    ·rw[cUx]
     simp(disch:=omega) only[aV,bY,↓reduceIte,eq_self,List.length_nil,Nat.mul_zero,Nat.add_zero,Nat.add_assoc,Nat.reduceAdd]
    ·simp(disch:=omega) only[aV,bY,↓reduceIte,eq_self,List.length_nil,Nat.mul_zero,Nat.add_zero,Nat.add_assoc,Nat.reduceAdd,List.nil_append,qB,List.append_nil,et]
    ·simp(disch:=omega) only[aV,bY,↓reduceIte,eq_self,List.length_nil,Nat.mul_zero,Nat.add_zero,Nat.add_assoc,Nat.reduceAdd,List.nil_append,hsC,List.map_cons,List.map_nil]
    simp(disch:=omega) only[aV,bY,↓reduceIte,eq_self,List.length_nil,Nat.mul_zero,Nat.add_zero,Nat.add_assoc,Nat.reduceAdd,List.nil_append,tZ,List.append_nil,et2]
   intro k o hk1 hk2 hk3
   have:=hlt k o hk3
   simp(disch:=omega) only[aV,bY,↓reduceIte,hk1]
   exact hk3
  have h1:=hQ.hq
  rw[aGa hz]at h1
  obtain⟨h2,h3,h4,n1,n2,n3,n4,n5,n6⟩:=hQ.h hz
  have hal:=hlt _ _ h2
  have hbl:=hlt _ _ h3
  have hcl:=hlt _ _ h4
  have hls:=aMg Q.R
  have hlr:=aMn Q.R
  have hlh:=bZt Q.R
  refine aA rfl (bA [0,2,4,6] rfl rfl rfl fun K hK=>?_)
  simp(disch:=omega) only[Tryz.f47,go_sem,↓reduceIte]
  refine hK _ ?_
  refine aB ?_
  refine lW 4 nx 0 rfl (by simp(disch:=omega) only[aV,bY,↓reduceIte,eq_self]<;>rfl) ?_
  refine fF [0,2,4,6] ?_
  simp only[iB,fU,eB,↓reduceIte,Nat.reduceEqDiff,J9]
  refine aA rfl (aA rfl (bA [0,2,4,6,7] rfl rfl rfl fun K hK=>?_))
  simp(disch:=omega) only[Tryz.f47,go_sem,↓reduceIte]
  refine hK _ ?_
  refine aB (aR 0 rfl rfl ?_)
  refine bR (fun p:Nat=> {fr:=[(0,.op q 0),(2,.i ht),(4,.rp (c8 sd.l)),(6,.op (nx+1) 0),(7,.i p)],hp:=upd hp (nx+1) (.cells (c8 (List.replicate 8 0#8)) true),nx:=0,cx:=nx+80+100*p}) (fun p=>p≤Q.R.length∧(⟨sd,ht⟩:TK)∉Q.R.take p) (fun p=>Q.R.length-p) rfl ⟨0,⟨Nat.zero_le _,by simp⟩,⟨fun x=> .inr rfl,fun j o hj=>by {simp only[bJ]at hj⊢;by_cases e:j=nx+1; · {rw[J4 e]at hj;rw[J3 (by omega),J4 e];exact hj};rw[J3 e]at hj;have:=hlt j o hj;rw[J3 (by omega),J3 e,J3 (by omega)];exact hj},by simp only;omega⟩⟩ ?_
  rintro k ⟨hk,hni⟩ n0
  simp only at hk hni⊢
  rcases Nat.lt_or_ge k Q.R.length with hkR|hkR
  ·have dk:decide ((k:Int)<(Q.R.length:Int))=true:=J5 (by omega)
   refine aA rfl (aA rfl (bA [15,0,2,4,6,7] rfl rfl rfl fun K hK=>?_))
   simp(disch:=omega) only[Tryz.f47,go_sem,↓reduceIte,h1,dk,J8,J9]
   refine hK _ ?_
   refine aB (eC (.tmp 15) rfl rfl rfl (fun h=>?_) (fun h=>?_))
   ·refine aI rfl ?_
    have hrs:=aVd Q.R k hkR
    have hrr:=aVh Q.R k hkR
    have hrh:=cZa Q.R k hkR
    have hmem:=bTa hkR
    have e8:k*8=8*k:=by omega
    obtain⟨X,hX⟩: ∃X,tkA Q.R k=X:=⟨_,rfl⟩
    rw[hX]at hrs hrr hrh hmem
    have hxl:=X.seed.len
    have hd8:8≤(List.drop (8*k) (qB Q.R)).length:=by rw[List.length_drop];omega
    have hd9:8≤(List.drop (8*k) (tZ Q.R)).length:=by rw[List.length_drop];omega
    refine aQ rfl (aB (aA rfl (aR 1 rfl rfl (aA rfl ?_))))
    by_cases hs:X.seed.l=sd.l
    ·have ds:decide (X.seed.l=sd.l)=true:=J5 hs
     by_cases hh:(X.h:Int)=(ht:Int)
     ·have dh:decide ((X.h:Int)=(ht:Int))=true:=J5 hh
      have hXe:X=⟨sd,ht⟩:=by
       obtain⟨a,b⟩:=X
       obtain rfl:a=sd:=S8.inj hs
       obtain rfl:b=ht:=Int.ofNat.inj hh
       rfl
      refine bB (Γ:=aL) (fun k=>if k=7 then 1 else 2) [37,0,2,4,6,7] bZ (aD _ _) rfl rfl rfl (by kernel_rfl) (fun K hK=>?_)
      simp(disch:=omega) only[Tryz.f47,go_sem,↓reduceIte,h1,h2,h3,hd8,hrs,hrh,e8,hsl2,ds,dh,J8,J7,J9]
      refine hK _ ?_
      refine aB (eC (.tmp 37) rfl rfl rfl (fun h=>?_) (fun h=>?_))
      ·refine aI rfl ?_
       rw[hXe]at hrr hmem
       refine aA rfl (bA [6] rfl rfl rfl fun K hK=>?_)
       simp(disch:=omega) only[Tryz.f47,go_sem,↓reduceIte,h1,h4,hd9,hrr,e8,hnl,J8,J7,J9]
       refine hK _ ?_
       refine aB (aS rfl (bN (bI (dF (bN (bI ?_))))))
       rw[sD hmem]
       refine⟨by simp(disch:=omega) only[bV,bK,bQ,Tryz.f47,go_sem,aV,ldV,↓reduceIte,eq_self,hnl,hrt,J9]<;>rfl,fun j o hj=>aBe (Q:=Q) ?_ ?_ j o hj,by simp only;omega⟩
       ·exact hQ.upd _ _ (by omega) (fun _=>⟨by omega,by omega,by omega⟩)
       intro k2 o hk1 hk2 hk3
       obtain⟨hk4,hk5⟩:=qP _ _ _ _ hk3
       have:=hlt k2 o hk4
       simp(disch:=omega) only[aV,bY,↓reduceIte]
       exact hk4
      refine aI rfl ?_
      cases h
     have dh:decide ((X.h:Int)=(ht:Int))=false:=J6 hh
     refine bB (Γ:=aL) (fun k=>if k=7 then 1 else 2) [37,0,2,4,6,7] bZ (aD _ _) rfl rfl rfl (by kernel_rfl) (fun K hK=>?_)
     simp(disch:=omega) only[Tryz.f47,go_sem,↓reduceIte,h1,h2,h3,hd8,hrs,hrh,e8,hsl2,ds,dh,J8,J7,J9]
     refine hK _ ?_
     refine aB (eC (.tmp 37) rfl rfl rfl (fun h=>?_) (fun h=>?_))
     ·refine aI rfl ?_
      cases h
     refine aI rfl (aQ rfl (bU (aB (bA [0,2,4,6,7] rfl rfl rfl fun K hK=>?_))))
     simp(disch:=omega) only[Tryz.f47,go_sem,↓reduceIte]
     refine hK _ ?_
     refine bT ?_
     refine⟨k+1,⟨by omega,aCd hkR hni (by rw[hX];exact fun e=>hh (by rw[e]))⟩,by omega,⟨fun x=> .inr (by simp only[Int.natCast_add,Int.natCast_one]),fun j o hj=>hj,by simp only;omega⟩⟩
    have ds:decide (X.seed.l=sd.l)=false:=J6 hs
    refine bB (Γ:=aL) (fun k=>if k=7 then 1 else 2) [37,0,2,4,6,7] bZ (aD _ _) rfl rfl rfl (by kernel_rfl) (fun K hK=>?_)
    simp(disch:=omega) only[Tryz.f47,go_sem,↓reduceIte,h1,h2,hd8,hrs,e8,hsl2,ds,J8,J9]
    refine hK _ ?_
    refine aB (eC (.tmp 37) rfl rfl rfl (fun h=>?_) (fun h=>?_))
    ·refine aI rfl ?_
     cases h
    refine aI rfl (aQ rfl (bU (aB (bA [0,2,4,6,7] rfl rfl rfl fun K hK=>?_))))
    simp(disch:=omega) only[Tryz.f47,go_sem,↓reduceIte]
    refine hK _ ?_
    refine bT ?_
    refine⟨k+1,⟨by omega,aCd hkR hni (by rw[hX];exact fun e=>hs (by rw[e]))⟩,by omega,⟨fun x=> .inr (by simp only[Int.natCast_add,Int.natCast_one]),fun j o hj=>hj,by simp only;omega⟩⟩
   refine aI rfl ?_
   cases h
  have dk:decide ((k:Int)<(Q.R.length:Int))=false:=J6 (by omega)
  refine aA rfl (aA rfl (bA [15,0,2,4,6,7] rfl rfl rfl fun K hK=>?_))
  simp(disch:=omega) only[Tryz.f47,go_sem,↓reduceIte,h1,dk,J8,J9]
  refine hK _ ?_
  refine aB (eC (.tmp 15) rfl rfl rfl (fun h=>?_) (fun h=>?_))
  ·refine aI rfl ?_
   cases h
  refine aI rfl ?_
  clear h
  obtain rfl:k=Q.R.length:=by omega
  rw[List.take_length]at hni
  refine bF 0 rfl rfl (aY (aZ (bE (aB (aA rfl (aC (Γ:=bC [(57,.pure true xM)]) [0,2,4,6,8] (aH cWo aO) rfl rfl rfl (fun K hK=>?_)))))))
  simp(disch:=omega) only[Tryz.f47,go_sem,↓reduceIte,kK,hsl2,hsl,hh0,hh1,true_and,U2]
  refine hK _ ?_
  refine aB (aA rfl (aYa (Γ:=aL) (fun k=>if k=6 then true else if k=8 then true else if k=9 then true else if k=13 then true else if k=15 then true else if k=16 then true else if k=20 then true else if k=21 then true else if k=22 then true else false) [(6,8),(6,13),(8,13),(9,13),(6,15),(8,15),(9,15),(13,15),(6,20),(8,20),(9,20),(13,20),(15,20),(16,20),(6,21),(8,21),(9,21),(13,21),(15,21),(16,21),(20,21),(6,22),(8,22),(9,22),(13,22),(15,22),(16,22),(20,22)] (fun k=>if k=7 then 1 else 2) [6,8] bZ (aD _ _) rfl rfl rfl (by kernel_rfl) (fun K hK=>?_)))
  simp(maxSteps:=400000) (disch:=omega) only[Tryz.f47,go_sem,and_self,and_true,true_and,ne_eq,not_false_eq_true,↓reduceIte,h1,h2,h3,h4,n4,n5,hls,hlr,hlh,hsl,hnl,wS,aWj,cK,List.nil_append,List.cons_append,J8,List.set_cons_succ,List.set_cons_zero,U0,U1,J7,J9]
  refine hK _ ?_
  refine aB (aA rfl (bA [6] rfl rfl rfl fun K hK=>?_))
  simp(disch:=omega) only[Tryz.f47,go_sem,↓reduceIte,hnl,J9]
  refine hK _ ?_
  refine aB (aS rfl ?_)
  rw[qQ hni,show nx+92+100*Q.R.length+9=nx+80+100*Q.R.length+7+5+9 by omega,show nx+92+100*Q.R.length+16=nx+80+100*Q.R.length+7+5+16 by omega,show nx+92+100*Q.R.length+23=nx+80+100*Q.R.length+7+5+23 by omega]
  refine⟨by simp(disch:=omega) only[bV,bK,bQ,Tryz.f47,go_sem,aV,ldV,↓reduceIte,eq_self,hnl,J9]<;>rfl,fun j o hj=>aBe (Q:=⟨_,_,_,Q.R++[⟨sd,ht⟩]⟩) ?_ ?_ j o hj,by simp only;omega⟩
  ·have et:List.take 8 (sd.l++List.drop 8 (List.replicate 8 0#8))=sd.l:=List.take_left' hsl2
   have et2:List.take 8 (iR sd.l ht 0++List.drop 8 (List.replicate 8 0#8))=iR sd.l ht 0:=List.take_left' hnl
   refine⟨?_,fun e=>by simp at e,fun _=>⟨?_,?_,?_,by simp only;omega,by simp only;omega,by simp only;omega,by simp only;omega,by simp only;omega,by simp only;omega⟩⟩
   ·rw[cUw]
    simp(disch:=omega) only[aV,bY,↓reduceIte,eq_self]
   ·simp(disch:=omega) only[aV,kE,bY,↓reduceIte,eq_self,aMh,qB,List.append_nil,et]
   ·simp(disch:=omega) only[aV,kE,bY,↓reduceIte,eq_self,hsC,List.map_append,List.map_cons,List.map_nil]
   simp(disch:=omega) only[aV,bY,↓reduceIte,eq_self,aMo,tZ,List.append_nil,et2]
  intro k2 o hk1 hk2 hk3
  obtain⟨hk4,hk5⟩:=qP _ _ _ _ hk3
  obtain⟨hk6,hk7,hk8⟩:=hk5 hz
  have:=hlt k2 o hk4
  simp(disch:=omega) only[aV,kE,bY,↓reduceIte,hk1,hk6,hk7,hk8]
  exact hk4
 cases hg
theorem cEz:bX Tryz.prog GLh 47 (.heap aZz):=⟨⟨_,Tryz.func47,rfl,rfl⟩,cKt⟩
end Go.AX

namespace Go.AX
open Go Go.Proofs
def jS (id:W32):List KY→Option KY
 |[]=>none
 |k::r=>if id=k.id then some k else jS id r
def SL (L:List KY):Prop:=L.Pairwise fun a b=>a.id.toNat<b.id.toNat
theorem nB {id:W32} {k:KY}: ∀ {L:List KY},jS id L=some k→k∈L∧k.id=id
 |x::r,h=>by
  simp only[jS]at h
  split at h
  ·rename_i e
   obtain rfl:=J0 h
   exact⟨by simp,e.symm⟩
  obtain⟨h1,h2⟩:=nB h
  exact⟨by simp[h1],h2⟩
theorem jX {k:KY}: ∀ {L:List KY},SL L→k∈L→jS k.id L=some k
 |x::r,hs,h=>by
  rw[SL,List.pairwise_cons]at hs
  simp only[jS]
  rcases List.mem_cons.1 h with rfl|h
  ·rw[J4 rfl]
  have:=hs.1 k h
  rw[J3 (fun e=>by rw[e]at this;omega)]
  exact jX hs.2 h
theorem aDa {id:W32}: ∀ {L:List KY},(∀k∈L,k.id≠id)→jS id L=none
 |[],_=>rfl
 |x::r,h=>by
  simp only[jS]
  rw[J3 (fun e=>h x (by simp) e.symm)]
  exact aDa fun k hk=>h k (by simp[hk])
theorem SL.nodup {L:List KY} (h:SL L):L.Nodup:=List.Pairwise.imp (fun {a b} h e=>by rw[e]at h;omega) h
theorem SL.uniq {L M:List KY} (h1:SL L) (h2:SL M) (h: ∀id,jS id L=jS id M):L=M:=by
 have hp:L.Perm M:=(List.perm_ext_iff_of_nodup h1.nodup h2.nodup).2 fun k=>by
  constructor
  ·intro hk
   have:=jX h1 hk
   rw[h]at this
   exact(nB this).1
  intro hk
  have:=jX h2 hk
  rw[←h]at this
  exact(nB this).1
 refine hp.eq_of_pairwise (fun a b _ _ h3 h4=>?_) (show List.Pairwise (fun a b:KY=>a.id.toNat<b.id.toNat) L from h1) (show List.Pairwise (fun a b:KY=>a.id.toNat<b.id.toNat) M from h2)
 exact absurd h3 (by omega)
theorem aCw {β:Type} {id:W32}: ∀ {l:List (W32×β)},id∉l.map (·.1)→iK id l=none
 |[],_=>rfl
 |p::r,h=>by
  rw[List.map_cons,List.mem_cons]at h
  simp only[iK]
  rw[J3 (fun e=>h (.inl e))]
  exact aCw fun e=>h (.inr e)
theorem bGl {l:List W32} (h:l.Nodup):(iU l).Pairwise fun a b=>a.toNat<b.toNat:=by
 have h1:=nY l
 have h2:(iU l).Nodup:=(kC l).nodup_iff.2 h
 refine(List.pairwise_and_iff.2 ⟨h1,h2⟩).imp (fun {a b} h=>?_)
 have:a.toNat≠b.toNat:=fun e=>h.2 (BitVec.eq_of_toNat_eq e)
 omega
theorem aHh {f:W32→KY} (id:W32): ∀ {l:List W32},(∀i∈l,(f i).id=i)→jS id (l.map f)=if id∈l then some (f id)else none
 |[],_=>by simp[jS]
 |i::r,h=>by
  have hi:=h i (by simp)
  simp only[List.map_cons,jS,hi]
  by_cases e:id=i
  ·subst e;simp
  rw[J3 e,aHh id fun j hj=>h j (by simp[hj])]
  simp[e]
theorem aLg {C:RC} (h:ROk C): ∀i∈idsL C,((iK i C.by').getD ky0).id=i:=by
 intro i hi
 obtain⟨v,hv⟩:=wH i C.by' ((kC _).mem_iff.1 hi)
 rw[hv]
 exact(h.key _ _ hv).1
theorem bSc {C:RC} (h:ROk C):SL (iP C):=by
 unfold SL iP
 rw[List.pairwise_map]
 refine(bGl h.nb).imp_of_mem (fun {a b} ha hb hab=>?_)
 rw[aLg h a ha,aLg h b hb]
 exact hab
theorem aQg {C:RC} (h:ROk C) (id:W32):iK id C.by'=jS id (iP C):=by
 rw[iP,aHh id (aLg h)]
 by_cases hm:id∈C.by'.map (·.1)
 ·have hm':id∈idsL C:=(kC _).mem_iff.2 hm
  rw[J4 hm']
  obtain⟨v,hv⟩:=wH id C.by' hm
  rw[hv];rfl
 have hm': ¬id∈idsL C:=fun e=>hm ((kC _).mem_iff.1 e)
 rw[J3 hm',aCw hm]
theorem aUc {C:RC} (h:ROk C) {L:List KY} (hs:SL L) (hg: ∀id,iK id C.by'=jS id L):iP C=L:=
 (bSc h).uniq hs fun id=>by rw[←aQg h,hg]
theorem qX {L:List KY} {i:Nat} (h:i<L.length):kyA L i=L[i]:=by simp[kyA,List.getD_eq_getElem?_getD,h]
theorem aHi (id:W32) (k:KY): ∀(L:List KY),jS id (L++[k])=match jS id L with|some x=>some x|none=>if id=k.id then some k else none
 |[]=>rfl
 |x::r=>by
  simp only[List.cons_append,jS]
  by_cases e:id=x.id
  ·rw[J4 e,J4 e]
  rw[J3 e,J3 e,aHi id k r]
theorem aDb: ∀ {L:List KY},SL L→∀ {i:Nat},i<L.length→jS (kyA L i).id L=some (kyA L i):=by
 intro L hs i hi
 refine jX hs ?_
 rw[qX hi];exact List.getElem_mem hi
theorem aHf (id:W32) (k':KY): ∀ {L:List KY} {i:Nat},SL L→i<L.length→k'.id=(kyA L i).id→jS id (L.set i k')=if id=k'.id then some k' else jS id L
 |x::r,0,hs,_,he=>by
  have he:k'.id=x.id:=he
  simp only[List.set_cons_zero,jS,he]
  split<;>rfl
 |x::r,i+1,hs,hi,he=>by
  have he2:k'.id=(kyA r i).id:=he
  have hi2:i<r.length:=by simpa using hi
  rw[SL,List.pairwise_cons]at hs
  have hlt:x.id.toNat<k'.id.toNat:=by
   rw[he2,qX hi2];exact hs.1 _ (List.getElem_mem hi2)
  simp only[List.set_cons_succ,jS]
  by_cases e:id=x.id
  ·rw[J4 e,J3 (fun e2=>by rw[←e2,e]at hlt;omega),J4 e]
  rw[J3 e,J3 e,aHf id k' hs.2 hi2 he2]
theorem aUh {k':KY}: ∀ {L:List KY} {i:Nat},SL L→i<L.length→k'.id=(kyA L i).id→SL (L.set i k')
 |x::r,0,hs,_,he=>by
  have he:k'.id=x.id:=he
  rw[SL,List.pairwise_cons]at hs
  rw[List.set_cons_zero,SL,List.pairwise_cons]
  exact⟨fun b hb=>by rw[he];exact hs.1 b hb,hs.2⟩
 |x::r,i+1,hs,hi,he=>by
  have he2:k'.id=(kyA r i).id:=he
  have hi2:i<r.length:=by simpa using hi
  rw[SL,List.pairwise_cons]at hs
  rw[List.set_cons_succ,SL,List.pairwise_cons]
  refine⟨fun b hb=>?_,aUh hs.2 hi2 he2⟩
  rcases List.mem_or_eq_of_mem_set hb with h|rfl
  ·exact hs.1 b h
  rw[he2,qX hi2];exact hs.1 _ (List.getElem_mem hi2)
theorem aHg (id:W32): ∀ {L:List KY} {i:Nat},SL L→i<L.length→jS id (L.take i++L.drop (i+1))=if id=(kyA L i).id then none else jS id L
 |x::r,0,hs,_=>by
  rw[SL,List.pairwise_cons]at hs
  have e0:(kyA (x::r) 0)=x:=rfl
  rw[e0]
  show jS id r=_
  simp only[jS]
  by_cases e:id=x.id
  ·rw[J4 e]
   exact aDa fun k hk e2=>by have:=hs.1 k hk;rw[e2,e]at this;omega
  rw[J3 e,J3 e]
 |x::r,i+1,hs,hi=>by
  have hi2:i<r.length:=by simpa using hi
  rw[SL,List.pairwise_cons]at hs
  have e0:kyA (x::r) (i+1)=kyA r i:=rfl
  rw[e0]
  have hlt:x.id.toNat<(kyA r i).id.toNat:=by rw[qX hi2];exact hs.1 _ (List.getElem_mem hi2)
  show jS id (x::(r.take i++r.drop (i+1)))=_
  simp only[jS]
  by_cases e:id=x.id
  ·rw[J4 e,J3 (fun e2=>by rw[←e2,e]at hlt;omega),J4 e]
  rw[J3 e,J3 e,aHg id hs.2 hi2]
theorem bSg {L:List KY} {i:Nat} (hs:SL L):SL (L.take i++L.drop (i+1)):=by
 refine List.Pairwise.sublist ?_ hs
 have h:=List.take_append_drop i L
 calc
  List.Sublist (L.take i++L.drop (i+1)) (L.take i++L.drop i):=by
    refine List.Sublist.append (List.Sublist.refl _) ?_
    rw[←List.drop_drop]
    exact List.drop_sublist 1 _
  _=L:=h
theorem bSh {L:List KY} {k:KY} (hs:SL L) (h: ∀x∈L,x.id.toNat<k.id.toNat):SL (L++[k]):=by
 rw[SL,List.pairwise_append]
 exact⟨hs,List.pairwise_singleton _ _,fun a ha b hb=>by rw[List.mem_singleton]at hb;rw[hb];exact h a ha⟩
theorem aHj (id:W32): ∀(L:List KY) (n:Nat),(fdN id L n= -1∧jS id L=none)∨∃i,i<L.length∧fdN id L n=((n+i:Nat):Int)∧(kyA L i).id=id∧jS id L=some (kyA L i)
 |[],n=> .inl ⟨rfl,rfl⟩
 |x::r,n=>by
  simp only[fdN,jS]
  by_cases e:x.id=id
  ·right
   exact⟨0,by simp,by rw[J4 e];rfl,e,by rw[J4 e.symm];rfl⟩
  rw[J3 e,J3 (fun h=>e h.symm)]
  rcases aHj id r (n+1)with⟨h1,h2⟩|⟨i,h1,h2,h3,h4⟩
  ·exact .inl ⟨h1,h2⟩
  right
  refine⟨i+1,by simpa using h1,?_,h3,h4⟩
  rw[h2,show n+1+i=n+(i+1)by omega]
theorem kX (L:List KY) (id:W32):(kB L id= -1∧jS id L=none)∨∃i:Nat,i<L.length∧kB L id=(i:Int)∧(kyA L i).id=id∧jS id L=some (kyA L i):=by
 rcases aHj id L 0 with h|⟨i,h1,h2,h3,h4⟩
 ·exact .inl h
 exact .inr ⟨i,h1,by rw[kB,h2,Nat.zero_add],h3,h4⟩
structure RM (C:RC) (M:MC):Prop where
 ok:ROk C
 l:iP C=M.L
 last:C.last=M.last
 c:C.c=M.c
theorem RM.sl {C:RC} {M:MC} (h:RM C M):SL M.L:=h.l▸bSc h.ok
theorem RM.get {C:RC} {M:MC} (h:RM C M) (id:W32):iK id C.by'=jS id M.L:=h.l▸aQg h.ok id
theorem RM.len {C:RC} {M:MC} (h:RM C M):C.by'.length=M.L.length:=by rw[←h.l,qL]
theorem RM.le {C:RC} {M:MC} (h:RM C M) {x:KY} (hx:x∈M.L):x.id.toNat≤M.last.toNat:=by
 have:=h.ok.key x.id x (by rw[h.get];exact jX h.sl hx)
 rw[←h.last];exact this.2.2.2
theorem RM.upd {C C':RC} {M:MC} (h:RM C M) (hok:ROk C') {i:Nat} (hi:i<M.L.length) {k':KY} (he:k'.id=(kyA M.L i).id) (hb:C'.by'=kT k'.id k' C.by') (hl:C'.last=C.last) (hc:C'.c=C.c):RM C' {M with L:=M.L.set i k'}:=by
 refine⟨hok,aUc hok (aUh h.sl hi he) fun id=>?_,hl.trans h.last,hc.trans h.c⟩
 rw[hb,jK,aHf id k' h.sl hi he,h.get]
theorem RM.seen {C:RC} {M:MC} (h:RM C M) (id now:W32):(snV C id now).1=(mX M id now).1∧RM (snV C id now).2 (mX M id now).2:=by
 have hok:=h.ok.snV id now
 rcases kX M.L id with⟨h1,h2⟩|⟨i,h1,h2,h3,h4⟩
 ·have e1:=bGn (now:=now) ((h.get id).trans h2)
  have e2:mX M id now=(130,M):=by unfold mX;rw[h1,J4 (by decide)]
  rw[e1,e2];exact⟨rfl,h⟩
 have e1:=aMa (now:=now) ((h.get id).trans h4)
 have e2:mX M id now=if(kyA M.L i).role≠1∨(kyA M.L i).st≠2∨(kyA M.L i).seen≠0#32 then(131,M)else(0,aNk M i now):=by
  unfold mX
  rw[h2,J3 (by omega),U2]
 rw[e1]at hok
 rw[e1,e2]
 split
 ·exact⟨rfl,h⟩
 rename_i hc
 rw[J3 hc]at hok
 refine⟨rfl,h.upd hok h1 rfl ?_ rfl rfl⟩
 show kT id ({kyA M.L i with seen:=mx1 now}:KY) C.by'=kT (kyA M.L i).id ({kyA M.L i with seen:=mx1 now}:KY) C.by'
 rw[h3]
theorem RM.mk' {C:RC} {M:MC} (h:RM C M) (hl:C.last.toNat<1000000) (hh:C.c.h≤10) (role:Int) (sd:S8) (st:Int) (now:W32):
  (mkV C role sd st now).1=(nK M role sd st now).1∧(mkV C role sd st now).2.1=(nK M role sd st now).2.1∧RM (mkV C role sd st now).2.2 ((nK M role sd st now).2.2.getD M):=by
 have hok:=h.ok.mkV hl hh role sd st now
 unfold mkV nK at*
 by_cases hb:(role≠0∧role≠1)∨st<0∨3<st
 ·rw[J4 hb,J4 hb];exact⟨rfl,rfl,h⟩
 ·rw[J3 hb]at hok⊢
  rw[J3 hb]
  rw[h.len]at hok⊢
  by_cases h16:16≤M.L.length
  ·rw[J4 h16,J4 h16];exact⟨rfl,rfl,h⟩
  ·rw[J3 h16]at hok⊢
   rw[J3 h16]
   have ek:aRx C role sd st now=wA M role sd st now:=by unfold aRx wA;rw[h.last,h.c]
   have hla:M.last.toNat<1000000:=by rw[←h.last];exact hl
   have hlast:(M.last+1#32).toNat=M.last.toNat+1:=by
    rw[BitVec.toNat_add]
    show(M.last.toNat+1)%4294967296=_
    omega
   have hlt: ∀x∈M.L,x.id.toNat<(wA M role sd st now).id.toNat:=fun x hx=>by
    show _<(M.last+1#32).toNat
    have:=h.le hx;omega
   refine⟨by rw[h.last],rfl,⟨hok,aUc hok (bSh h.sl hlt) fun id=>?_,by show C.last+1#32=M.last+1#32;rw[h.last],h.c⟩⟩
   show iK id (kT (C.last+1#32) (aRx C role sd st now) C.by')=jS id (M.L++[wA M role sd st now])
   rw[jK,aHi,h.get,h.last,ek]
   rcases hf:jS id M.L with _|x
   ·rfl
   ·have:=hlt x (nB hf).1
    rw[(nB hf).2]at this
    exact J3 fun e=>by rw[e]at this;exact absurd this (Nat.lt_irrefl _)
def kG (M:MC) (id:W32) (st:Int) (now:W32):Int×MC:=
 if kB M.L id<0 then(130,M)
 else if st≤(kyA M.L (kB M.L id).toNat).st∨4<st then(131,M)
 else if st=4 then(0,aSa M (kB M.L id).toNat)else(0,xP M (kB M.L id).toNat st now)
theorem RM.turn {C:RC} {M:MC} (h:RM C M) (id:W32) (st:Int) (now:W32):(tnV C id st now).1=(kG M id st now).1∧RM (tnV C id st now).2 (kG M id st now).2:=by
 have hok:=h.ok.tnV id st now
 rcases kX M.L id with⟨h1,h2⟩|⟨i,h1,h2,h3,h4⟩
 ·have e1:=aUp (st:=st) (now:=now) ((h.get id).trans h2)
  have e2:kG M id st now=(130,M):=by unfold kG;rw[h1,J4 (by decide)]
  rw[e1,e2];exact⟨rfl,h⟩
 have e1:=aUo (st:=st) (now:=now) ((h.get id).trans h4)
 have e2:kG M id st now=if st≤(kyA M.L i).st∨4<st then(131,M)else if st=4 then(0,aSa M i)else(0,xP M i st now):=by
  unfold kG
  rw[h2,J3 (by omega),U2]
 rw[e1]at hok
 rw[e1,e2]
 split
 ·exact⟨rfl,h⟩
 rename_i hc
 rw[J3 hc]at hok
 split
 ·rename_i h4'
  rw[J4 h4']at hok
  refine⟨rfl,⟨hok,aUc hok (bSg h.sl) fun j=>?_,h.last,h.c⟩⟩
  show iK j (rE id C.by')=jS j (M.L.take i++M.L.drop (i+1))
  rw[sP _ _ _ h.ok.nb,aHg j h.sl h1,h.get,h3]
 rename_i h4'
 rw[J3 h4']at hok
 refine⟨rfl,h.upd hok h1 rfl ?_ rfl rfl⟩
 show kT id ({kyA M.L i with st:=st,since:=now}:KY) C.by'=kT (kyA M.L i).id ({kyA M.L i with st:=st,since:=now}:KY) C.by'
 rw[h3]
end Go.AX

namespace Go.AX
open Go Go.Proofs
set_option maxRecDepth 8000
theorem bFf (Q:QT) (hp:H) (j:Nat) (o:AO) (h:Q.R≠[]→j≠Q.a∧j≠Q.b∧j≠Q.c):jY Q (upd hp j o)=upd (jY Q hp) j o:=by
 unfold jY
 split
 ·rfl
 rename_i hz
 obtain⟨a,b,c⟩:=h hz
 funext k
 simp only[eV,bJ]
 by_cases e:k=j
 ·subst e;simp[a,b,c]
 simp[e]
theorem pZ (q:Nat) (Q:QT) (hp:H) (j:Nat) (o:AO) (hq:j≠q) (h:Q.R≠[]→j≠Q.a∧j≠Q.b∧j≠Q.c):upd (setQ q Q hp) j o=setQ q Q (upd hp j o):=by
 funext k
 by_cases e:k=j
 ·subst e
  rw[bJ,J4 rfl,jZ _ _ _ _ hq h,bJ,J4 rfl]
 unfold setQ
 split<;>simp[bJ,e]
def rdN (k:KY):Nat:=if k.role=1 then 3 else 0
noncomputable def aMs:List AV→H→Nat→Option (AV×H×Nat)
 |[.op e 0,.w32 id],hp,nx=>aK (kH hp e) fun t=>aK (qOf hp t.M.q) fun Q=>aK (jS id t.M.L) fun k=>aN (t.M.L.length≤100∧Q.R.length≤100∧k.h≤10)
   (some (.tup [.os (nx+94+rdN k+60*t.M.L.length+20000) 0 12 1 true,.b true],upd (setQ t.M.q (oA Q ⟨k.seed,k.h⟩ (nx+183+rdN k+60*t.M.L.length+100*Q.R.length)) (jY Q hp)) (nx+94+rdN k+60*t.M.L.length+20000) (.cells (c8 (dkB k)) true),nx+40000))
 |_,_,_=>none
theorem bHz (e:Nat) (id:W32) (hp:H) (nx:Nat):aMs [.op e 0,.w32 id] hp nx=aK (kH hp e) fun t=>aK (qOf hp t.M.q) fun Q=>aK (jS id t.M.L) fun k=>aN (t.M.L.length≤100∧Q.R.length≤100∧k.h≤10)
   (some (.tup [.os (nx+94+rdN k+60*t.M.L.length+20000) 0 12 1 true,.b true],upd (setQ t.M.q (oA Q ⟨k.seed,k.h⟩ (nx+183+rdN k+60*t.M.L.length+100*Q.R.length)) (jY Q hp)) (nx+94+rdN k+60*t.M.L.length+20000) (.cells (c8 (dkB k)) true),nx+40000)):=(rfl)
attribute [go_sem] bHz
set_option maxHeartbeats 4000000 in
theorem bUw:cQ Tryz.prog GLh 30 aMs:=by
 refine gF Tryz.func30 (aT rfl) ?_
 intro args hp nx r hp' nx' hg
 unfold aMs at hg
 split at hg
 ·rename_i e id
  replace hg:=aJ hg;obtain⟨⟨l,M⟩,hM0,hg⟩:=hg
  have hM:=kW hM0
  replace hg:=aJ hg;obtain⟨Q,hQ0,hg⟩:=hg
  replace hg:=aJ hg;obtain⟨k,hk,hg⟩:=hg
  replace hg:=aP hg;obtain⟨⟨hL,hRl,hkh⟩,hg⟩:=hg
  simp only[Option.some.injEq,Prod.mk.injEq]at hg hM hQ0 hL hk
  obtain⟨rfl,rfl,rfl⟩:=hg
  refine⟨J1 rfl,by omega,fun hnone=>?_⟩
  have hQ:=vS hQ0
  have hlt: ∀k o,hp k=some o→k<nx:=fun k o hk=>lI hnone hk
  have h1:=hM.hd;have h2:=hM.hl
  obtain⟨m1,m2⟩:=hM.ne
  have hel:=hlt _ _ h1
  have hll:=hlt _ _ h2
  have hql:=hlt _ _ hQ.hq
  have hqr:Q.R≠[]→Q.a<nx∧Q.b<nx∧Q.c<nx:=fun hz=>by
   obtain⟨a1,a2,a3,_⟩:=hQ.h hz
   exact⟨hlt _ _ a1,hlt _ _ a2,hlt _ _ a3⟩
  have hqu: ∀(j:Nat) (o:AO),nx≤j→qOf (upd hp j o) M.q=some Q:=fun j o hj=>aIt (hQ.upd j o (by omega) (fun hz=>by have:=hqr hz;omega))
  have hqd: ∀(j:Nat) (o:AO),nx≤j→jY Q (upd hp j o)=upd (jY Q hp) j o:=fun j o hj=>bFf Q hp j o (fun hz=>by have:=hqr hz;omega)
  have hsq: ∀(n j:Nat) (h:H) (o:AO),nx≤j→j<n→setQ M.q (oA Q ⟨k.seed,k.h⟩ n) (upd h j o)=upd (setQ M.q (oA Q ⟨k.seed,k.h⟩ n) h) j o:=fun n j h o hj hn=>(pZ _ _ _ _ _ (by omega) (fun hz=>by
   by_cases hm:(⟨k.seed,k.h⟩:TK)∈Q.R
   ·rw[sD hm]at hz⊢;have:=hqr hz;omega
   rw[qQ hm];exact⟨by simp only;omega,by simp only;omega,by simp only;omega⟩)).symm
  have hsn: ∀(n j:Nat),nx≤j→j<n→setQ M.q (oA Q ⟨k.seed,k.h⟩ n) (jY Q hp) j=none:=fun n j hj hn=>by
   rw[jZ _ _ _ _ (by omega) (fun hz=>by
    by_cases hm:(⟨k.seed,k.h⟩:TK)∈Q.R
    ·rw[sD hm]at hz⊢;have:=hqr hz;omega
    rw[qQ hm];exact⟨by simp only;omega,by simp only;omega,by simp only;omega⟩)]
   cases hx:jY Q hp j with
   |none=>rfl
   |some o=>have:=hlt _ _ (qP _ _ _ _ hx).1;omega
  have hL2:M.L.length≤1000:=by omega
  rcases kX M.L id with⟨e1,e2⟩|⟨i,hi,hfv,hid,hf⟩
  ·rw[e2]at hk;cases hk
  have hke:kyA M.L i=k:=J0 (hf.symm.trans hk)
  have hkl:=iJ M.L
  have e15:i*15=15*i:=by omega
  have ha1:=jW M.L i 1 hi (by omega)
  have ha11:=jW M.L i 11 hi (by omega)
  have hrow:=lC M.L i hi
  rw[hke]at ha1 ha11 hrow
  have hrs:(List.drop (15*i+3) (jQ M.L)).take 8=c8 k.seed.l:=by
   rw[wE M.L i 3 hi,hke];rfl
  have hd3:8≤(List.drop (15*i+3) (jQ M.L)).length:=by rw[List.length_drop];omega
  have hnl:=iW k.seed.l k.h 0
  have hsl2:=k.seed.len
  have hdl:=aAg k
  have hs8:s8L k.seed.l=some k.seed:=rfl
  have hst:List.take 8 (c8 (iR k.seed.l k.h 0))=c8 (iR k.seed.l k.h 0):=List.take_of_length_le (by rw[iM,hnl];exact U3 _)
  refine aA rfl (bA [0,1] rfl rfl rfl fun K hK=>?_)
  simp(disch:=omega) only[Tryz.f30,go_sem,↓reduceIte]
  refine hK _ ?_
  refine aB (aA rfl (aC (Γ:=bC [(38,.heap zJ)]) [0,6] (aH aWa aO) rfl rfl rfl (fun K hK=>?_)))
  simp(disch:=omega) only[Tryz.f30,go_sem,↓reduceIte,hM0,hL2,hfv]
  refine hK _ ?_
  refine aB (aA rfl (aA rfl (bA [13,0,6] rfl rfl rfl fun K hK=>?_)))
  simp(disch:=omega) only[Tryz.f30,go_sem,↓reduceIte]
  refine hK _ ?_
  refine aB (aW (.tmp 13) rfl rfl rfl (fun h=>?_) (fun h=>?_))
  ·refine aI rfl ?_
   omega
  refine aI rfl ?_
  clear h
  refine aQ rfl (aB (aA rfl (bA [0,6,7] rfl rfl rfl fun K hK=>?_)))
  simp(disch:=omega) only[Tryz.f30,go_sem,↓reduceIte]
  refine hK _ ?_
  refine aB (aA rfl (aA rfl (bA [22,0,6,7] rfl rfl rfl fun K hK=>?_)))
  simp(disch:=omega) only[Tryz.f30,go_sem,↓reduceIte,h1,h2,jR,ha1,e15,kyC,J8,J7,J9]
  refine hK _ ?_
  refine aB (aW (.tmp 22) rfl rfl rfl (fun h=>?_) (fun h=>?_))
  ·refine aI rfl ?_
   have edk:wF 257#16 3#8 253#8 (iR k.seed.l k.h 0)=dkB k:=by unfold dkB flK;rw[J4 h]
   refine bA [0,6,7] rfl rfl rfl fun K hK=>?_
   simp(disch:=omega) only[Tryz.f30,go_sem,↓reduceIte,BitVec.reduceOr]
   refine hK _ ?_
   refine aB (aA rfl (aKy (Γ:=bC [(47,.heap aZz)]) 20 21 [0,1,2,3,4,5,6,7,8,9,10,11,12,13,14,15,16,17,18,19,20,21,22] [21,0,1,2,3,4,5,6,7,8,9,10,11,12,13,14,15,16,17,18,19,20,22] (fun k=>if k=20 then 0 else 2) [7,8] bZ (aH cEz aO) (by decide) rfl rfl rfl (by kernel_rfl) (fun K hK=>?_) (fun K hK=>?_)))
   ·simp(disch:=omega) only[Tryz.f30,go_sem,nJ,lY,hS,List.getElem?_cons_zero,List.getElem?_cons_succ,↓reduceIte,h1,h2,jR,ha11,hrs,hd3,e15,kyC,hQ0,hs8,kK,hRl,true_and,U2,J8,J7,J9]
    refine hK _ ?_
    refine aB (aA rfl (aC (Γ:=bC [(48,.fresh true qG)]) [4,5] (aH aVv aO) rfl rfl rfl (fun K hK=>?_)))
    simp(disch:=omega) only[Tryz.f30,go_sem,↓reduceIte,hnl,hst,edk,hdl,iA,true_and,J9,List.all_cons,List.all_nil,Option.isSome_some,Bool.and_self]
    refine hK _ ?_
    refine aB (aS rfl ?_)
    have er:rdN k=3:=J4 h
    rw[er,show nx+183+3+60*M.L.length+100*Q.R.length=nx+2+4+50+60*M.L.length+2+1+9+3+23+92+100*Q.R.length by omega,show nx+94+3+60*M.L.length+20000=nx+2+4+50+60*M.L.length+2+1+9+3+23+20000+3 by omega]
    refine⟨rfl,fun j o hj=>?_,by simp only;omega⟩
    simp only[bJ]at hj⊢
    split at hj
    ·rename_i ej;rw[J4 ej];exact hj
    rename_i ej
    rw[J3 ej,J3 (fun e2=>by rw[e2,hsn _ _ (by omega) (by omega)]at hj;cases hj)]
    exact hj
   simp(disch:=omega) only[Tryz.f30,go_sem,nJ,lY,hS,List.getElem?_cons_zero,List.getElem?_cons_succ,↓reduceIte,h1,h2,jR,ha11,hrs,hd3,e15,kyC,hqu,hqd,hsq,hs8,kK,hRl,true_and,U2,J8,J7,J9]
   refine hK _ ?_
   refine aB (aA rfl (aC (Γ:=bC [(48,.fresh true qG)]) [4,5] (aH aVv aO) rfl rfl rfl (fun K hK=>?_)))
   simp(disch:=omega) only[Tryz.f30,go_sem,↓reduceIte,hnl,hst,edk,hdl,iA,true_and,J9,List.all_cons,List.all_nil,Option.isSome_some,Bool.and_self]
   refine hK _ ?_
   refine aB (aS rfl ?_)
   have er:rdN k=3:=J4 h
   rw[er,show nx+183+3+60*M.L.length+100*Q.R.length=nx+2+4+50+60*M.L.length+2+1+9+3+23+92+100*Q.R.length by omega,show nx+94+3+60*M.L.length+20000=nx+2+4+50+60*M.L.length+2+1+9+3+23+20000+3 by omega]
   refine⟨rfl,fun j o hj=>?_,by simp only;omega⟩
   simp only[bJ]at hj⊢
   split at hj
   ·rename_i ej;rw[J4 ej];exact hj
   rename_i ej
   rw[J3 ej,J3 (fun e2=>by rw[e2,hsn _ _ (by omega) (by omega)]at hj;cases hj)]
   exact hj
  refine aI rfl ?_
  have edk:wF 256#16 3#8 253#8 (iR k.seed.l k.h 0)=dkB k:=by unfold dkB flK;rw[J3 h]
  refine aQ rfl (aB (aA rfl (aKy (Γ:=bC [(47,.heap aZz)]) 20 21 [0,1,2,3,4,5,6,7,8,9,10,11,12,13,14,15,16,17,18,19,20,21,22] [21,0,1,2,3,4,5,6,7,8,9,10,11,12,13,14,15,16,17,18,19,20,22] (fun k=>if k=20 then 0 else 2) [7,8] bZ (aH cEz aO) (by decide) rfl rfl rfl (by kernel_rfl) (fun K hK=>?_) (fun K hK=>?_))))
  ·simp(disch:=omega) only[Tryz.f30,go_sem,nJ,lY,hS,List.getElem?_cons_zero,List.getElem?_cons_succ,↓reduceIte,h1,h2,jR,ha11,hrs,hd3,e15,kyC,hQ0,hs8,kK,hRl,true_and,U2,J8,J7,J9]
   refine hK _ ?_
   refine aB (aA rfl (aC (Γ:=bC [(48,.fresh true qG)]) [4,5] (aH aVv aO) rfl rfl rfl (fun K hK=>?_)))
   simp(disch:=omega) only[Tryz.f30,go_sem,↓reduceIte,hnl,hst,edk,hdl,iA,true_and,J9,List.all_cons,List.all_nil,Option.isSome_some,Bool.and_self]
   refine hK _ ?_
   refine aB (aS rfl ?_)
   have er:rdN k=0:=J3 h
   rw[er,show nx+183+0+60*M.L.length+100*Q.R.length=nx+2+4+50+60*M.L.length+2+1+9+23+92+100*Q.R.length by omega,show nx+94+0+60*M.L.length+20000=nx+2+4+50+60*M.L.length+2+1+9+23+20000+3 by omega]
   refine⟨rfl,fun j o hj=>?_,by simp only;omega⟩
   simp only[bJ]at hj⊢
   split at hj
   ·rename_i ej;rw[J4 ej];exact hj
   rename_i ej
   rw[J3 ej,J3 (fun e2=>by rw[e2,hsn _ _ (by omega) (by omega)]at hj;cases hj)]
   exact hj
  simp(disch:=omega) only[Tryz.f30,go_sem,nJ,lY,hS,List.getElem?_cons_zero,List.getElem?_cons_succ,↓reduceIte,h1,h2,jR,ha11,hrs,hd3,e15,kyC,hqu,hqd,hsq,hs8,kK,hRl,true_and,U2,J8,J7,J9]
  refine hK _ ?_
  refine aB (aA rfl (aC (Γ:=bC [(48,.fresh true qG)]) [4,5] (aH aVv aO) rfl rfl rfl (fun K hK=>?_)))
  simp(disch:=omega) only[Tryz.f30,go_sem,↓reduceIte,hnl,hst,edk,hdl,iA,true_and,J9,List.all_cons,List.all_nil,Option.isSome_some,Bool.and_self]
  refine hK _ ?_
  refine aB (aS rfl ?_)
  have er:rdN k=0:=J3 h
  rw[er,show nx+183+0+60*M.L.length+100*Q.R.length=nx+2+4+50+60*M.L.length+2+1+9+23+92+100*Q.R.length by omega,show nx+94+0+60*M.L.length+20000=nx+2+4+50+60*M.L.length+2+1+9+23+20000+3 by omega]
  refine⟨rfl,fun j o hj=>?_,by simp only;omega⟩
  simp only[bJ]at hj⊢
  split at hj
  ·rename_i ej;rw[J4 ej];exact hj
  rename_i ej
  rw[J3 ej,J3 (fun e2=>by rw[e2,hsn _ _ (by omega) (by omega)]at hj;cases hj)]
  exact hj
 cases hg
theorem cVk:bX Tryz.prog GLh 30 (.heap aMs):=⟨⟨_,Tryz.func30,rfl,rfl⟩,bUw⟩
end Go.AX
