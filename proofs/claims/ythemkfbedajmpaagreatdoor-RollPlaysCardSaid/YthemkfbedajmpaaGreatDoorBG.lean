/-
  Rolls, part mB: the document's tags; DSs that are seen; keys that are begun. Rolls, part mC: the document's step. Rolls, part mD: the document's step, walked. Rolls, part mE: keys that the document begins. Rolls, part mF: the plain law: ring and document side by side; two keys of a role at most. Rolls, part mG: the plain law: a step of both. Rolls, part mH: the plain law: keys that are begun, DSs that are seen, by both; the heap that holds both. Rolls, part mJ: the plain law: few trees at all. Rolls, part mI: the statement RollAlways, walked. Rolls, part mM: the document's signers, as new memory. Rolls, part mK: the plain law of scripts: both answer alike. Rolls, part mL: the statement RollPlays, walked.
-/
import Derived.Test.YthemkfbedajmpaaGreatDoorBF
namespace Go.AX
open Go Go.Proofs
set_option maxRecDepth 8000
noncomputable def yW:List AV→H→Nat→Option (AV×H×Nat)
 |[.op e 0,.w32 id],hp,nx=>aK (kH hp e) fun t=>aK (qOf hp t.M.q) fun Q=>aK (jS id t.M.L) fun k=>aN (t.M.L.length≤100∧Q.R.length≤100∧k.h≤10)
   (some (.w16 (pL (dkB k)),setQ t.M.q (oA Q ⟨k.seed,k.h⟩ (nx+192+rdN k+60*t.M.L.length+100*Q.R.length)) (jY Q hp),nx+50000))
 |_,_,_=>none
theorem bHj (e:Nat) (id:W32) (hp:H) (nx:Nat):yW [.op e 0,.w32 id] hp nx=aK (kH hp e) fun t=>aK (qOf hp t.M.q) fun Q=>aK (jS id t.M.L) fun k=>aN (t.M.L.length≤100∧Q.R.length≤100∧k.h≤10)
   (some (.w16 (pL (dkB k)),setQ t.M.q (oA Q ⟨k.seed,k.h⟩ (nx+192+rdN k+60*t.M.L.length+100*Q.R.length)) (jY Q hp),nx+50000)):=(rfl)
attribute [go_sem] bHj
set_option maxHeartbeats 1000000 in
theorem aZl:cQ Tryz.prog GLh 10 yW:=by
 refine gF Tryz.func10 (aT rfl) ?_
 intro args hp nx r hp' nx' hg
 unfold yW at hg
 split at hg
 ·rename_i e id
  replace hg:=aJ hg;obtain⟨⟨l,M⟩,hM0,hg⟩:=hg
  replace hg:=aJ hg;obtain⟨Q,hQ0,hg⟩:=hg
  replace hg:=aJ hg;obtain⟨k,hk,hg⟩:=hg
  replace hg:=aP hg;obtain⟨⟨hL,hRl,hkh⟩,hg⟩:=hg
  simp only[Option.some.injEq,Prod.mk.injEq]at hg hQ0 hL hk
  obtain⟨rfl,rfl,rfl⟩:=hg
  refine⟨J1 rfl,by omega,fun hnone=>?_⟩
  have hlt: ∀k o,hp k=some o→k<nx:=fun k o hk=>lI hnone hk
  have hdl:=aAg k
  have hQ:=vS hQ0
  have hql:=hlt _ _ hQ.hq
  have hqr:Q.R≠[]→Q.a<nx∧Q.b<nx∧Q.c<nx:=fun hz=>by
   obtain⟨a1,a2,a3,_⟩:=hQ.h hz
   exact⟨hlt _ _ a1,hlt _ _ a2,hlt _ _ a3⟩
  refine aA rfl (bA [0,1] rfl rfl rfl fun K hK=>?_)
  simp(disch:=omega) only[Tryz.f10,go_sem,↓reduceIte]
  refine hK _ ?_
  refine aB (aA rfl (aC (Γ:=bC [(30,.heap aMs)]) [5] (aH cVk aO) rfl rfl rfl (fun K hK=>?_)))
  simp(disch:=omega) only[Tryz.f10,go_sem,↓reduceIte,hM0,hQ0,hk,hL,hRl,hkh,true_and]
  refine hK _ ?_
  refine aB (aA rfl (aC (Γ:=bC [(31,.pure true aIc)]) [4] (aH ok41 aO) rfl rfl rfl (fun K hK=>?_)))
  simp(disch:=omega) only[Tryz.f10,go_sem,↓reduceIte,hdl,kK]
  refine hK _ ?_
  refine aB (aS rfl ?_)
  have hr3:rdN k≤3:=by unfold rdN;split<;>omega
  rw[show nx+192+rdN k+60*M.L.length+100*Q.R.length=nx+1+8+183+rdN k+60*M.L.length+100*Q.R.length by omega]
  refine⟨rfl,fun j o hj=>?_,by simp only;omega⟩
  simp only[bJ]
  rw[J3]
  ·exact hj
  intro ej
  subst ej
  rw[jZ _ _ _ _ (by omega) (fun hz=>by
   by_cases hm:(⟨k.seed,k.h⟩:TK)∈Q.R
   ·rw[sD hm]at hz⊢;have:=hqr hz;omega
   rw[qQ hm];exact⟨by simp only;omega,by simp only;omega,by simp only;omega⟩)]at hj
  have:=hlt _ _ (qP _ _ _ _ hj).1
  omega
 cases hg
theorem aVx:bX Tryz.prog GLh 10 (.heap yW):=⟨⟨_,Tryz.func10,rfl,rfl⟩,aZl⟩
def aFi (q e l:Nat) (Q:QT):Prop:=e≠q∧l≠q∧(Q.R≠[]→e≠Q.a∧e≠Q.b∧e≠Q.c∧l≠Q.a∧l≠Q.b∧l≠Q.c)
def QI (Q:QT) (nx cx:Nat) (Q':QT):Prop:=Q'=Q∨(Q'.R≠[]∧nx≤Q'.a∧Q'.a<Q'.b∧Q'.b<Q'.c∧Q'.c<cx)
theorem QI.up {Q Q':QT} {nx cx cx':Nat} (h:QI Q nx cx Q') (hc:cx≤cx'):QI Q nx cx' Q':=h.elim .inl fun h=> .inr ⟨h.1,h.2.1,h.2.2.1,h.2.2.2.1,by omega⟩
theorem QI.add {Q Q':QT} {nx cx n:Nat} (h:QI Q nx cx Q') (t:TK) (hn:nx≤n) (hc:cx≤n+24):QI Q nx (n+24) (oA Q' t n):=by
 by_cases hm:t∈Q'.R
 ·rw[sD hm];exact h.up hc
 rw[qQ hm];exact .inr ⟨by simp,by simp only;omega,by simp only;omega,by simp only;omega,by simp only;omega⟩
theorem bUy (Q:QT) (t:TK) (n:Nat):(oA Q t n).R≠[]:=by
 by_cases hm:t∈Q.R
 ·rw[sD hm];exact List.ne_nil_of_mem hm
 rw[qQ hm];simp
theorem QI.ok {Q Q':QT} {q nx cx:Nat} (h:QI Q nx cx Q') (hQ:QOk q Q) (hq:q<nx):QOk q Q':=by
 rcases h with rfl|⟨h1,h2,h3,h4,h5⟩
 ·exact hQ
 exact⟨fun e=>absurd e h1,fun _=>⟨by omega,by omega,by omega,by omega,by omega,by omega⟩⟩
theorem QI.sep {Q Q':QT} {q e l nx cx:Nat} (h:QI Q nx cx Q') (hQ:aFi q e l Q) (he:e<nx) (hl:l<nx):aFi q e l Q':=by
 rcases h with rfl|⟨h1,h2,h3,h4,h5⟩
 ·exact hQ
 exact⟨hQ.1,hQ.2.1,fun _=>⟨by omega,by omega,by omega,by omega,by omega,by omega⟩⟩
theorem aMt {hp:H} {q e l:Nat} {Q:QT} {M:MC} (hok:QOk q Q) (hs:aFi q e l Q):qOf (iZ e l M (setQ q Q hp)) q=some Q:=by
 refine aIt ?_
 unfold iZ
 exact((bGz hok).upd l _ hs.2.1 (fun h=>⟨(hs.2.2 h).2.2.2.1,(hs.2.2 h).2.2.2.2.1,(hs.2.2 h).2.2.2.2.2⟩)).upd e _ hs.1 (fun h=>⟨(hs.2.2 h).1,(hs.2.2 h).2.1,(hs.2.2 h).2.2.1⟩)
theorem bIb {hp:H} {q e l nx cx:Nat} {Q P P':QT} {M:MC} (hlt: ∀k o,hp k=some o→k<nx) (hQP:QI Q nx cx P) (hsP:aFi q e l P) (hsP':aFi q e l P') (hP':P'.R≠[])
  (j:Nat) (o:AO) (h:iZ e l M (setQ q P' (jY Q hp)) j=some o):setQ q P' (jY P (iZ e l M (setQ q P (jY Q hp)))) j=some o:=by
 have hdel: ∀k,(P.R≠[]→k≠P.a∧k≠P.b∧k≠P.c)→jY P (iZ e l M (setQ q P (jY Q hp))) k=iZ e l M (setQ q P (jY Q hp)) k:=by
  intro k hk
  unfold jY
  by_cases hz:P.R=[]
  ·rw[J4 hz]
  ·obtain⟨a,b,c⟩:=hk hz
   rw[J3 hz]
   simp[eV,a,b,c]
 by_cases hj1:j=e
 ·subst hj1
  rw[jZ _ _ _ _ hsP'.1 (fun hz=>⟨(hsP'.2.2 hz).1,(hsP'.2.2 hz).2.1,(hsP'.2.2 hz).2.2.1⟩),hdel _ (fun hz=>⟨(hsP.2.2 hz).1,(hsP.2.2 hz).2.1,(hsP.2.2 hz).2.2.1⟩)]
  rw[mT]at h⊢;exact h
 ·by_cases hj2:j=l
  ·subst hj2
   rw[jZ _ _ _ _ hsP'.2.1 (fun hz=>⟨(hsP'.2.2 hz).2.2.2.1,(hsP'.2.2 hz).2.2.2.2.1,(hsP'.2.2 hz).2.2.2.2.2⟩),hdel _ (fun hz=>⟨(hsP.2.2 hz).2.2.2.1,(hsP.2.2 hz).2.2.2.2.1,(hsP.2.2 hz).2.2.2.2.2⟩)]
   rw[mS _ _ _ _ hj1]at h⊢;exact h
  ·rw[qA _ _ _ _ _ hj1 hj2]at h
   by_cases hin:j=q∨j=P'.a∨j=P'.b∨j=P'.c
   ·unfold setQ at h⊢
    rw[J3 hP']at h⊢
    simp only[bJ]at h⊢
    by_cases x1:j=q
    ·rw[J4 x1]at h⊢;exact h
    ·rw[J3 x1]at h⊢
     by_cases x2:j=P'.c
     ·rw[J4 x2]at h⊢;exact h
     ·rw[J3 x2]at h⊢
      by_cases x3:j=P'.b
      ·rw[J4 x3]at h⊢;exact h
      ·rw[J3 x3]at h⊢
       by_cases x4:j=P'.a
       ·rw[J4 x4]at h⊢;exact h
       ·exact absurd hin (by simp[x1,x2,x3,x4])
   ·simp only[not_or]at hin
    rw[jZ _ _ _ _ hin.1 (fun _=>hin.2)]at h⊢
    obtain⟨h1,h2⟩:=qP _ _ _ _ h
    have hj:=hlt _ _ h1
    have hPj:P.R≠[]→j≠P.a∧j≠P.b∧j≠P.c:=fun hz=>by
     rcases hQP with rfl|⟨_,a,b,c,_⟩
     ·exact h2 hz
     ·exact⟨by omega,by omega,by omega⟩
    rw[hdel _ hPj,qA _ _ _ _ _ hj1 hj2,jZ _ _ _ _ hin.1 hPj]
    exact h
structure MDI where
 i:Nat
 Q:QT
noncomputable def zS (Ln:Nat) (tag:BitVec 16):List KY→Nat→QT→Option (Option KY×QT)
 |[],_,Q=>some (none,Q)
 |x::r,n,Q=>if x.role=1 then aN (x.h≤10∧Q.R.length≤100) (
   if pL (dkB x)=tag then some (some x,oA Q ⟨x.seed,x.h⟩ (n+192+rdN x+60*Ln+100*Q.R.length))else zS Ln tag r (n+60000) (oA Q ⟨x.seed,x.h⟩ (n+192+rdN x+60*Ln+100*Q.R.length)))
  else zS Ln tag r (n+60000) Q
noncomputable instance (L:List KY):Decidable (SL L):=Classical.propDecidable _
noncomputable instance (q e l:Nat) (Q:QT):Decidable (aFi q e l Q):=Classical.propDecidable _
def zQ (M:MC) (now:W32):Option KY→Int×MC
 |none=>(130,M)
 |some x=>mX M x.id now
noncomputable def bHy:List AV→H→Nat→Option (AV×H×Nat)
 |[.op e 0,.w16 tag,.w32 now],hp,nx=>aK (kH hp e) fun t=>aK (qOf hp t.M.q) fun Q=>aK (zS t.M.L.length tag t.M.L (nx+210) Q) fun R=>aN (t.M.L.length≤50∧SL t.M.L∧aFi t.M.q e t.l Q)
   (some (.i (zQ t.M now R.1).1,iZ e t.l (zQ t.M now R.1).2 (setQ t.M.q R.2 (jY Q hp)),nx+4000000))
 |_,_,_=>none
theorem bUu (e:Nat) (tag:BitVec 16) (now:W32) (hp:H) (nx:Nat):bHy [.op e 0,.w16 tag,.w32 now] hp nx=aK (kH hp e) fun t=>aK (qOf hp t.M.q) fun Q=>aK (zS t.M.L.length tag t.M.L (nx+210) Q) fun R=>aN (t.M.L.length≤50∧SL t.M.L∧aFi t.M.q e t.l Q)
   (some (.i (zQ t.M now R.1).1,iZ e t.l (zQ t.M now R.1).2 (setQ t.M.q R.2 (jY Q hp)),nx+4000000)):=(rfl)
attribute [go_sem] bUu
set_option maxHeartbeats 4000000 in
theorem cIw:cQ Tryz.prog GLh 12 bHy:=by
 refine gF Tryz.func12 (aT rfl) ?_
 intro args hp nx r hp' nx' hg
 unfold bHy at hg
 split at hg
 ·rename_i e tag now
  replace hg:=aJ hg;obtain⟨⟨l,M⟩,hM0,hg⟩:=hg
  have hM:=kW hM0
  replace hg:=aJ hg;obtain⟨Q,hQ0,hg⟩:=hg
  replace hg:=aJ hg;obtain⟨R,hR,hg⟩:=hg
  replace hg:=aP hg;obtain⟨⟨hL,hsl,hsep⟩,hg⟩:=hg
  simp only[Option.some.injEq,Prod.mk.injEq]at hg hM hQ0 hR hL hsl hsep
  obtain⟨rfl,rfl,rfl⟩:=hg
  refine⟨J1 rfl,by omega,fun hnone=>?_⟩
  have hQ:=vS hQ0
  have hlt: ∀k o,hp k=some o→k<nx:=fun k o hk=>lI hnone hk
  have h1:=hM.hd;have h2:=hM.hl
  obtain⟨m1,m2⟩:=hM.ne
  have hel:=hlt _ _ h1
  have hll:=hlt _ _ h2
  have hql:=hlt _ _ hQ.hq
  have hkl:=iJ M.L
  have hL2:M.L.length≤100:=by omega
  have hL3:M.L.length≤1000:=by omega
  have hs1:=oE hM
  have hs2:=aZe hQ
  refine aA rfl (bA [0,1,2] rfl rfl rfl fun K hK=>?_)
  simp(disch:=omega) only[Tryz.f12,go_sem,↓reduceIte]
  refine hK _ ?_
  refine aB (aA rfl (aA rfl (bA [0,1,2,7] rfl rfl rfl fun K hK=>?_)))
  simp(disch:=omega) only[Tryz.f12,go_sem,↓reduceIte]
  refine hK _ ?_
  refine aB (aR 0 rfl rfl ?_)
  refine bR (fun p:MDI=> {fr:=[(0,.op e 0),(1,.w16 tag),(2,.w32 now),(7,.i p.i)],hp:=iZ e l M (setQ M.q p.Q (jY Q hp)),nx:=0,cx:=nx+180+60000*p.i}) (fun p=>p.i≤M.L.length∧zS M.L.length tag (M.L.drop p.i) (nx+210+60000*p.i) p.Q=some R∧QI Q nx (nx+180+60000*p.i) p.Q) (fun p=>M.L.length-p.i) rfl ⟨⟨0,Q⟩,⟨Nat.zero_le _,hR,.inl rfl⟩,⟨fun x=> .inr rfl,fun j o hj=>by {rw[←hs1,←hs2];exact kV (fun j o hj=>aFq (fun j o hj=>(qP _ _ _ _ hj).1) j o hj) j o hj},by simp only;omega⟩⟩ ?_
  rintro⟨i,P⟩ ⟨hi,hmd,hqi⟩ n0
  simp only at hi hmd hqi⊢
  have hPok:=hqi.ok hQ.ok hql
  have hPsep:=hqi.sep hsep hel hll
  have hqp:=aMt (hp:=jY Q hp) (M:=M) hPok hPsep
  have hmg:=vZ (setQ M.q P (jY Q hp)) e l M m1
  have ha:=mT (setQ M.q P (jY Q hp)) e l M
  have hb:=mS (setQ M.q P (jY Q hp)) e l M m2
  rcases Nat.lt_or_ge i M.L.length with hiL|hiL
  ·have dk:decide ((i:Int)<(M.L.length:Int))=true:=J5 (by omega)
   refine aA rfl (aA rfl (bA [14,0,1,2,7] rfl rfl rfl fun K hK=>?_))
   simp(disch:=omega) only[Tryz.f12,go_sem,↓reduceIte,ha,dk,jR,J8,J7,J9]
   refine hK _ ?_
   refine aB (eC (.tmp 14) rfl rfl rfl (fun h=>?_) (fun h=>?_))
   ·refine aI rfl ?_
    have hdr:M.L.drop i=kyA M.L i::M.L.drop (i+1):=by rw[List.drop_eq_getElem_cons hiL,kJ M.L i hiL]
    have ha0:=jW M.L i 0 hiL (by omega)
    have ha1:=jW M.L i 1 hiL (by omega)
    rw[Nat.add_zero]at ha0
    have e15:i*15=15*i:=by omega
    have hfk:=aDb hsl hiL
    obtain⟨X,hX⟩: ∃X,kyA M.L i=X:=⟨_,rfl⟩
    rw[hX]at hdr ha0 ha1 hfk
    rw[hdr,zS]at hmd
    refine aQ rfl (aB (aA rfl (aR 1 rfl rfl (aA rfl ?_))))
    by_cases hx:X.role=1
    ·have dx:decide (X.role=1)=true:=J5 hx
     rw[J4 hx]at hmd
     replace hmd:=aP hmd;obtain⟨⟨hxh,hPR⟩,hmd⟩:=hmd
     have hr3:rdN X≤3:=by unfold rdN;split<;>omega
     have hnn:nx+210+60000*i+192+rdN X+60*M.L.length+100*P.R.length=nx+180+60000*i+7+23+192+rdN X+60*M.L.length+100*P.R.length:=by omega
     have hqi':=hqi.add (n:=nx+180+60000*i+7+23+192+rdN X+60*M.L.length+100*P.R.length) ⟨X.seed,X.h⟩ (by omega) (by omega)
     have hne':=bUy P ⟨X.seed,X.h⟩ (nx+180+60000*i+7+23+192+rdN X+60*M.L.length+100*P.R.length)
     obtain⟨P',hP'⟩: ∃P',oA P ⟨X.seed,X.h⟩ (nx+180+60000*i+7+23+192+rdN X+60*M.L.length+100*P.R.length)=P':=⟨_,rfl⟩
     rw[hP']at hqi' hne'
     have hPsep':=hqi'.sep hsep hel hll
     have hmg':=vZ (setQ M.q P' (jY Q hp)) e l M m1
     have ha':=mT (setQ M.q P' (jY Q hp)) e l M
     have hb':=mS (setQ M.q P' (jY Q hp)) e l M m2
     by_cases ht:pL (dkB X)=tag
     ·have dt:decide (pL (dkB X)=tag)=true:=J5 ht
      rw[J4 ht]at hmd
      rw[hnn,hP']at hmd
      obtain rfl:=J0 hmd
      refine aC (Γ:=bC [(10,.heap yW)]) [39,0,1,2,7] (aH aVx aO) rfl rfl rfl (fun K hK=>?_)
      simp(disch:=omega) only[Tryz.f12,go_sem,↓reduceIte,ha,hb,jR,ha0,ha1,e15,dx,dt,hqp,hmg,hfk,hL2,hPR,hxh,true_and,beq_self_eq_true,kyC,J8,J7,J9]
      refine hK _ ?_
      refine aB ?_
      rw[hP']
      refine yK (bIb (M:=M) hlt hqi hPsep hPsep' hne') (eC (.tmp 39) rfl rfl rfl (fun h=>?_) (fun h=>?_))
      ·refine aI rfl (aA rfl (aC (Γ:=bC [(28,.heap xQ)]) [6] (aH cFi aO) rfl rfl rfl (fun K hK=>?_)))
       simp(disch:=omega) only[Tryz.f12,go_sem,↓reduceIte,ha',hb',hmg',hL3,jR,ha0,e15,kyC,J8,J7,J9]
       refine hK _ ?_
       refine aB (aS rfl (bN (bI (dF (bN (bI ?_))))))
       exact⟨rfl,fun j o hj=>hj,by simp only;omega⟩
      refine aI rfl ?_
      cases h
     have dt:decide (pL (dkB X)=tag)=false:=J6 ht
     rw[J3 ht]at hmd
     rw[hnn,hP']at hmd
     refine aC (Γ:=bC [(10,.heap yW)]) [39,0,1,2,7] (aH aVx aO) rfl rfl rfl (fun K hK=>?_)
     simp(disch:=omega) only[Tryz.f12,go_sem,↓reduceIte,ha,hb,jR,ha0,ha1,e15,dx,dt,hqp,hmg,hfk,hL2,hPR,hxh,true_and,beq_self_eq_true,kyC,J8,J7,J9]
     refine hK _ ?_
     refine aB ?_
     rw[hP']
     refine yK (bIb (M:=M) hlt hqi hPsep hPsep' hne') (eC (.tmp 39) rfl rfl rfl (fun h=>?_) (fun h=>?_))
     ·refine aI rfl ?_
      cases h
     refine aI rfl (aQ rfl (bU (aB (bA [0,1,2,7] rfl rfl rfl fun K hK=>?_))))
     simp(disch:=omega) only[Tryz.f12,go_sem,↓reduceIte]
     refine hK _ ?_
     refine bT ?_
     refine⟨⟨i+1,P'⟩,⟨by simp only;omega,by simp only;rw[show nx+210+60000*(i+1)=nx+210+60000*i+60000 by omega];exact hmd,hqi'.up (by simp only;omega)⟩,by simp only;omega,⟨fun x=> .inr (by simp only[Int.natCast_add,Int.natCast_one]),fun j o hj=>hj,by simp only;omega⟩⟩
    have dx:decide (X.role=1)=false:=J6 hx
    rw[J3 hx]at hmd
    refine aC (Γ:=bC [(10,.heap yW)]) [39,0,1,2,7] (aH aVx aO) rfl rfl rfl (fun K hK=>?_)
    simp(disch:=omega) only[Tryz.f12,go_sem,↓reduceIte,ha,hb,jR,ha1,e15,dx,true_and,kyC,J8,J7,J9]
    refine hK _ ?_
    refine aB (eC (.tmp 39) rfl rfl rfl (fun h=>?_) (fun h=>?_))
    ·refine aI rfl ?_
     cases h
    refine aI rfl (aQ rfl (bU (aB (bA [0,1,2,7] rfl rfl rfl fun K hK=>?_))))
    simp(disch:=omega) only[Tryz.f12,go_sem,↓reduceIte]
    refine hK _ ?_
    refine bT ?_
    refine⟨⟨i+1,P⟩,⟨by simp only;omega,by simp only;rw[show nx+210+60000*(i+1)=nx+210+60000*i+60000 by omega];exact hmd,hqi.up (by simp only;omega)⟩,by simp only;omega,⟨fun x=> .inr (by simp only[Int.natCast_add,Int.natCast_one]),fun j o hj=>hj,by simp only;omega⟩⟩
   refine aI rfl ?_
   cases h
  have dk:decide ((i:Int)<(M.L.length:Int))=false:=J6 (by omega)
  rw[List.drop_of_length_le (by omega),zS]at hmd
  obtain rfl:=J0 hmd
  refine aA rfl (aA rfl (bA [14,0,1,2,7] rfl rfl rfl fun K hK=>?_))
  simp(disch:=omega) only[Tryz.f12,go_sem,↓reduceIte,ha,dk,jR,J8,J7,J9]
  refine hK _ ?_
  refine aB (eC (.tmp 14) rfl rfl rfl (fun h=>?_) (fun h=>?_))
  ·refine aI rfl ?_
   cases h
  refine aI rfl (bF 0 rfl rfl (aY (aZ (bE (aB (aA rfl (bA [6] rfl rfl rfl fun K hK=>?_)))))))
  simp(disch:=omega) only[Tryz.f12,go_sem,↓reduceIte]
  refine hK _ ?_
  refine aB (aS rfl ?_)
  exact⟨rfl,fun j o hj=>hj,by simp only;omega⟩
 cases hg
theorem cVn:bX Tryz.prog GLh 12 (.heap bHy):=⟨⟨_,Tryz.func12,rfl,rfl⟩,cIw⟩
end Go.AX

namespace Go.AX
open Go Go.Proofs
set_option maxRecDepth 8000
theorem cYb (k:KY):(kyC k).head? =some (.w32 k.id):=(rfl)
theorem cYa (k:KY):(List.drop 1 (kyC k)).head? =some (.i k.role):=(rfl)
theorem cXz (k:KY):(List.drop 2 (kyC k)).head? =some (.i k.st):=(rfl)
theorem cMx (k:KY):(kyC k).length=15:=(rfl)
theorem cMv (a0 a1 a2 a3 a4 a5 a6 a7 a8 a9 a10 a11 a12 a13 a14:AV) (k:KY):cK [a0,a1,a2,a3,a4,a5,a6,a7,a8,a9,a10,a11,a12,a13,a14] 0 (kyC k)=kyC k:=(rfl)
theorem bYe (k:KY):List.take 15 (kyC k)=kyC k:=(rfl)
theorem cMt (a0 a1 a2 a3 a4 a5 a6 a7 a8 a9 a10 a11 a12 a13 a14:AV) (k:KY):dV [a0,a1,a2,a3,a4,a5,a6,a7,a8,a9,a10,a11,a12,a13,a14] 0 (kyC k)=kyC k:=(rfl)
attribute [go_sem] cMt cYb cYa cXz cMx cMv bYe aNg
def aFh (k:KY):Bool:=decide (k.role=0)&&decide (k.st=1)
def aIo (M:MC) (now:W32) (out:List KY):MC×List KY:=match M.L.find? aFh with
 |none=>(M,out)
 |some k=>((kG M k.id 3 now).2,out++[tkV k 3 now])
def kD (M:MC) (x:KY) (D:DU) (now:W32) (out:List KY):MC×List KY:=if x.role=0∧D.st=1 then aIo M now out else(M,out)
def mtL (M:MC) (id:W32) (st:Int) (l n:Nat):Nat:=if 0≤kB M.L id∧¬(st≤(kyA M.L (kB M.L id).toNat).st∨4<st)∧st=4 then n+93+60*M.L.length else l
def pN (c:CF):Nat→MC→Nat→Nat→W32→List KY→Option (List KY×MC×Nat)
 |0,_,_,_,_,_=>none
 |f+1,M,l,n,now,out=>
  if(qV M.L c).id=0#32∨now<(qV M.L c).w then some (out,M,l)
  else aK (jS (qV M.L c).id M.L) fun x=>aN (M.L.length≤50) (
   pN c f (kG (kD M x (qV M.L c) now out).1 (qV M.L c).id (qV M.L c).st now).2 (mtL (kD M x (qV M.L c) now out).1 (qV M.L c).id (qV M.L c).st l (n+50000)) (n+100000) now ((kD M x (qV M.L c) now out).2++[tkV x (qV M.L c).st now]))
theorem aNj (M:MC) (id:W32) (st:Int) (now:W32):(kG M id st now).2.L.length≤M.L.length:=by
 unfold kG
 split
 ·exact U3 _
 split
 ·exact U3 _
 split
 ·show(M.L.take _++M.L.drop _).length≤_
  rw[List.length_append,List.length_take,List.length_drop];omega
 show(M.L.set _ _).length≤_
 rw[List.length_set];exact U3 _
theorem qU {M:MC} (h:SL M.L) (id:W32) (st:Int) (now:W32):SL (kG M id st now).2.L:=by
 unfold kG
 rcases kX M.L id with⟨h1,_⟩|⟨i,h1,h2,h3,h4⟩
 ·rw[h1,J4 (by decide)];exact h
 rw[h2,J3 (by omega),U2]
 split
 ·exact h
 split
 ·exact bSg h
 exact aUh h h1 rfl
theorem aJi (M:MC) (id:W32) (st:Int) (now:W32):(kG M id st now).2.q=M.q∧(kG M id st now).2.c=M.c∧(kG M id st now).2.last=M.last:=by
 unfold kG
 split
 ·exact⟨rfl,rfl,rfl⟩
 split
 ·exact⟨rfl,rfl,rfl⟩
 split<;>exact⟨rfl,rfl,rfl⟩
theorem kU {P:Program} {GL:Nat→Option (List AV)} {nt:Nat} {code:Code} {Q:Exit→S→Prop} {fr:List (Nat×AV)} {hp:H} {nx cx:Nat} (cx':Nat) (hc:cx≤cx')
  (h:Awp P GL nt code {fr:=fr,hp:=hp,nx:=nx,cx:=cx'} Q):Awp P GL nt code {fr:=fr,hp:=hp,nx:=nx,cx:=cx} Q:=tU h ⟨fun _=> .inr rfl,fun _ _ h=>h,hc⟩ rfl
theorem cXl (e l:Nat) (M:MC) (id:W32) (now:W32) (h:H) (nx:Nat):uA e l M id 3 now (iZ e l M h) nx=((kG M id 3 now).1,iZ e l (kG M id 3 now).2 h):=by
 unfold uA kG
 split
 ·rfl
 split
 ·rfl
 rw[J3 (show¬(3:Int)=4 by decide),J3 (show¬(3:Int)=4 by decide),sA]
theorem cXk (e l:Nat) (M:MC) (id:W32) (st:Int) (now:W32) (h:H) (n:Nat) (_:e≠l) (hh:h l=none) (j:Nat) (o:AO) (hj:iZ e (mtL M id st l n) (kG M id st now).2 h j=some o):
  (uA e l M id st now (iZ e l M h) (n+5)).2 j=some o:=by
 unfold uA
 unfold mtL kG at hj
 split
 ·rename_i h1
  rw[J3 (fun x=>by omega),J4 h1]at hj
  exact hj
 ·rename_i h1
  rw[J3 h1]at hj
  split
  ·rename_i h2
   rw[J3 (fun x=>x.2.1 h2),J4 h2]at hj
   exact hj
  ·rename_i h2
   rw[J3 h2]at hj
   split
   ·rename_i h4
    rw[J4 ⟨by omega,h2,h4⟩,J4 h4]at hj
    rw[show n+5+88+60*M.L.length=n+93+60*M.L.length by omega]
    simp only[iZ,bJ,eV]at hj⊢
    by_cases x1:j=e
    ·rw[J4 x1]at hj⊢;exact hj
    ·rw[J3 x1]at hj⊢
     by_cases x2:j=n+93+60*M.L.length
     ·rw[J4 x2]at hj⊢;exact hj
     ·rw[J3 x2]at hj⊢
      have x3:j≠l:=fun e2=>by rw[e2,hh]at hj;cases hj
      rw[J3 x3,J3 x1,J3 x3];exact hj
   ·rename_i h4
    rw[J3 (fun x=>h4 x.2.2),J3 h4]at hj
    rw[sA];exact hj
theorem aGq (M:MC) (id:W32) (st:Int) (l n:Nat):mtL M id st l n=l∨mtL M id st l n=n+93+60*M.L.length:=by
 unfold mtL
 split
 ·exact .inr rfl
 exact .inl rfl
theorem aJs (L:List KY) {id:W32} {k:KY} (h:jS id L=some k): ∃i:Nat,i<L.length∧kB L id=(i:Int)∧kyA L i=k:=by
 rcases kX L id with⟨h1,h2⟩|⟨i,h1,h2,h3,h4⟩
 ·rw[h2]at h;cases h
 exact⟨i,h1,h2,J0 (h4.symm.trans h)⟩
theorem bNf {L:List KY} (hs:SL L) {i:Nat} (hi:i<L.length):kB L (kyA L i).id=(i:Int):=by
 obtain⟨i2,h1,h2,h3⟩:=aJs L (aDb hs hi)
 rw[h2]
 rw[qX h1,qX hi]at h3
 have hp:=List.pairwise_iff_getElem.1 hs
 rcases Nat.lt_trichotomy i i2 with h|h|h
 ·have:=hp i i2 hi h1 h;rw[h3]at this;exact absurd this (Nat.lt_irrefl _)
 ·rw[h]
 have:=hp i2 i h1 hi h;rw[h3]at this;exact absurd this (Nat.lt_irrefl _)
theorem bYg {L:List KY} {i:Nat} (k:KY) (hi:i<L.length):kyA (L.set i k) i=k:=by
 rw[qX (by rw[List.length_set];exact hi)]
 simp
theorem aIs {Q:Exit→S→Prop} {e:Exit} {t u:S} (ks:List Nat) (h:Q e u) (hf:u.fr=gL ks t.fr) (hh: ∀j o,u.hp j=some o→t.hp j=some o) (hc:t.cx≤u.cx) (hn:u.nx=t.nx): ∃u,Q e u∧Sub u t∧u.nx=t.nx:=
 ⟨u,h,⟨fun k=>by rw[hf];exact uR ks t.fr k,hh,hc⟩,hn⟩
theorem aVm {M:MC} (h:SL M.L) (x:KY) (D:DU) (now:W32) (out:List KY):SL (kD M x D now out).1.L∧(kD M x D now out).1.L.length≤M.L.length∧(kD M x D now out).1.q=M.q∧(kD M x D now out).1.c=M.c∧(kD M x D now out).1.last=M.last∧(kD M x D now out).2.length≤out.length+1:=by
 unfold kD
 split
 ·unfold aIo
  split
  ·exact⟨h,U3 _,rfl,rfl,rfl,Nat.le_succ _⟩
  rename_i k hk
  obtain⟨q1,q2,q3⟩:=aJi M k.id 3 now
  exact⟨qU h _ _ _,aNj _ _ _ _,q1,q2,q3,by rw[List.length_append];exact U3 _⟩
 exact⟨h,U3 _,rfl,rfl,rfl,Nat.le_succ _⟩
set_option maxHeartbeats 4000000 in
theorem bWz {Q:Exit→S→Prop} {e l o n idx c nx:Nat} {M:MC} {x:KY} {D:DU} {now:W32} {out:List KY} {g:H} (hel:e≠l) (hoe:o≠e) (hol:o≠l) (hoi:o≠idx) (hie:idx≠e) (hil:idx≠l) (hc1:e<c) (hc2:l<c) (hc3:o<c) (hc4:idx<c) (hcn:c≤n+5000) (hL:M.L.length≤50) (hsl:SL M.L) (hout:out.length≤20000) (hh: ∀k o,g k=some o→k<c) (hgo:g o=none)
  (hQ: ∀o' nx' cx',(o'=o∨c≤o')→o'≠e→o'≠l→o'≠idx→o'<cx'→c≤cx'→cx'≤n+45000→Q .normal {fr:=[(0,.op e 0),(1,.w32 now),(5,.os o' 0 (kD M x D now out).2.length 15 true),(6,.w32 D.id),(7,.i D.st),(9,.op idx 0)],hp:=iZ e l (kD M x D now out).1 (upd (upd g o' (.cells (jQ (kD M x D now out).2) true)) idx (.cells (kyC x) true)),nx:=nx',cx:=cx'}):
  Awp Tryz.prog GLh Tryz.f16.ntmps (cl (cr (cr (cr (cl (cl (cl (cr (cr (aE Tryz.f16)))))))))) {fr:=[(0,.op e 0),(1,.w32 now),(5,.os o 0 out.length 15 true),(6,.w32 D.id),(7,.i D.st),(9,.op idx 0)],hp:=iZ e l M (upd (upd g o (.cells (jQ out) true)) idx (.cells (kyC x) true)),nx:=nx,cx:=c} Q:=by
 refine sX ?_
 have hkl:=iJ M.L
 have hko:=iJ out
 have hno:=tK out
 have hL3:M.L.length≤1000:=by omega
 by_cases hr:x.role=0
 ·have dr:decide (x.role=0)=true:=J5 hr
  by_cases hs:D.st=1
  ·have ds:decide (D.st=1)=true:=J5 hs
   have hA:kD M x D now out=aIo M now out:=J4 ⟨hr,hs⟩
   rw[hA]at hQ
   refine aA rfl ?_
   refine bA [47,0,1,5,6,7,9] rfl rfl rfl fun K hK=>?_
   simp(disch:=omega) only[Tryz.f16,go_sem,↓reduceIte,dr,ds,beq_self_eq_true]
   refine hK _ ?_
   refine aB ?_
   refine eC (.tmp 47) rfl rfl rfl (fun h=>?_) (fun h=>?_)
   ·skip
    refine aI rfl ?_
    refine aA rfl ?_
    refine bA [0,1,5,6,7,9,10] rfl rfl rfl fun K hK=>?_
    simp(disch:=omega) only[Tryz.f16,go_sem,↓reduceIte]
    refine hK _ ?_
    refine aB ?_
    refine aR 2 rfl rfl ?_
    refine bR (fun p:Nat=> {fr:=[(0,.op e 0),(1,.w32 now),(5,.os o 0 out.length 15 true),(6,.w32 D.id),(7,.i D.st),(9,.op idx 0),(10,.i p)],hp:=iZ e l M (upd (upd g o (.cells (jQ out) true)) idx (.cells (kyC x) true)),nx:=0,cx:=n+5100+300*p}) (fun p=>p≤M.L.length∧(M.L.take p).find? aFh=none) (fun p=>M.L.length-p) rfl ⟨0,⟨Nat.zero_le _,rfl⟩,⟨fun x=> .inr rfl,fun j o hj=>hj,by simp only;omega⟩⟩ ?_
    rintro i ⟨hi,hf⟩ n0
    simp only at hi hf⊢
    rcases Nat.lt_or_ge i M.L.length with hiL|hiL
    ·skip
     have dk:decide ((i:Int)<(M.L.length:Int))=true:=J5 (by omega)
     refine aA rfl ?_
     refine aA rfl ?_
     refine bA [54,0,1,5,6,7,9,10] rfl rfl rfl fun K hK=>?_
     simp(disch:=omega) only[Tryz.f16,go_sem,↓reduceIte,mT,dk,jR,J8,J7,J9]
     refine hK _ ?_
     refine aB ?_
     refine eC (.tmp 54) rfl rfl rfl (fun h=>?_) (fun h=>?_)
     ·skip
      refine aI rfl ?_
      have ha0:=jW M.L i 0 hiL (by omega)
      have ha1:=jW M.L i 1 hiL (by omega)
      have ha2:=jW M.L i 2 hiL (by omega)
      rw[Nat.add_zero]at ha0
      have e15:i*15=15*i:=by omega
      have hfn:=aHd aFh M.L i hiL hf
      have hfk:=aDb hsl hiL
      obtain⟨X,hX⟩: ∃X,kyA M.L i=X:=⟨_,rfl⟩
      rw[hX]at ha0 ha1 ha2 hfk hfn
      refine aQ rfl ?_
      refine aB ?_
      refine aA rfl ?_
      refine aR 3 rfl rfl ?_
      refine aA rfl ?_
      by_cases hx1:X.role=0
      ·skip
       have dx1:decide (X.role=0)=true:=J5 hx1
       by_cases hx2:X.st=1
       ·skip
        have dx2:decide (X.st=1)=true:=J5 hx2
        rw[J4 (by unfold aFh;rw[dx1,dx2];rfl)]at hfn
        have hff:=aHe aFh M.L (i+1) hfn
        have hV:aIo M now out=((kG M X.id 3 now).2,out++[tkV X 3 now]):=by unfold aIo;rw[hff]
        have hfv:=bNf hsl hiL
        rw[hX]at hfv
        have hmt:(kG M X.id 3 now).2=xP M i 3 now:=by
         unfold kG
         rw[hfv,J3 (by omega),U2,hX,hx2,J3 (by omega),J3 (by decide)]
        have hm1:kyA (xP M i 3 now).L i=tkV X 3 now:=by
         show kyA (M.L.set i _) i=_
         rw[bYg _ hiL,hX];rfl
        have hm2:(xP M i 3 now).L.length=M.L.length:=by show(M.L.set i _).length=_;rw[List.length_set]
        have hm3:=lC (xP M i 3 now).L i (by rw[hm2];exact hiL)
        have hm4:=iJ (xP M i 3 now).L
        rw[hm1]at hm3
        rw[hm2]at hm4
        rw[hmt]at hV
        obtain⟨M1,hM1⟩: ∃M1,xP M i 3 now=M1:=⟨_,rfl⟩
        rw[hM1]at hV hm2 hm3 hm4
        have hd15:15≤(List.drop (15*i) (jQ M1.L)).length:=by rw[List.length_drop];omega
        refine bA [76,0,1,5,6,7,9,10] rfl rfl rfl fun K hK=>?_
        simp(disch:=omega) only[Tryz.f16,go_sem,↓reduceIte,mT,mS,jR,ha1,ha2,e15,dx1,dx2,beq_self_eq_true,J8,J7,J9]
        refine hK _ ?_
        refine aB ?_
        refine eC (.tmp 76) rfl rfl rfl (fun h=>?_) (fun h=>?_)
        ·skip
         refine aI rfl ?_
         refine aA rfl ?_
         refine aC (Γ:=bC [(39,.heap xO)]) [0,1,5,6,7,9,10] (aH cFj aO) rfl rfl rfl (fun K hK=>?_)
         simp(disch:=omega) only[Tryz.f16,go_sem,↓reduceIte,mT,mS,jR,ha0,e15,cXl,hL3,vZ,J8,J7,J9]
         refine hK _ ?_
         refine aB ?_
         rw[hmt,hM1]
         refine aA rfl ?_
         refine bA [0,1,5,6,7,9] rfl rfl rfl fun K hK=>?_
         simp(disch:=omega) only[Tryz.f16,go_sem,↓reduceIte,mT,mS,jR,hm2,hm3,hd15,e15,hko,aNg,J8,J7,J9]
         refine hK _ ?_
         refine aB ?_
         refine bF 2 rfl rfl ?_
         refine mW (aY (aZ (bE ?_))) rfl
         have hol':(out++[tkV X 3 now]).length=out.length+1:=by rw[List.length_append];rfl
         have hoc':jQ (out++[tkV X 3 now])=jQ out++kyC (tkV X 3 now):=by rw[lD,sL]
         rw[hV]at hQ
         simp only[hol',hoc']at hQ
         refine aIs [0,1,5,6,7,9] (hQ (n+5100+300*i+7+20+11+300+60*M.L.length+9) _ (n+5100+300*i+7+20+11+300+60*M.L.length+11) (.inr (by omega)) (by omega) (by omega) (by omega) (by omega) (by omega) (by omega)) rfl (fun j oo hj=>kV (fun j oo hj=>?_) j oo hj) (U3 _) rfl
         simp only[bJ,eV]at hj⊢
         by_cases j1:j=idx
         ·rw[J4 j1]at hj;rw[J3 (by omega),J3 (by omega),J3 (by omega),J4 j1];exact hj
         ·rw[J3 j1]at hj
          by_cases j2:j=n+5100+300*i+7+20+11+300+60*M.L.length+9
          ·rw[J4 j2]at hj⊢;exact hj
          ·rw[J3 j2]at hj
           have j3:=hh _ _ hj
           have j4:j≠o:=fun e2=>by rw[e2,hgo]at hj;cases hj
           rw[J3 j2,J3 j4,J3 (by omega),J3 j1,J3 j4];exact hj
        ·skip
         refine aI rfl ?_
         cases h
       ·skip
        have dx2:decide (X.st=1)=false:=J6 hx2
        rw[J3 (by unfold aFh;rw[dx1,dx2];decide)]at hfn
        refine bA [76,0,1,5,6,7,9,10] rfl rfl rfl fun K hK=>?_
        simp(disch:=omega) only[Tryz.f16,go_sem,↓reduceIte,mT,mS,jR,ha1,ha2,e15,dx1,dx2,beq_self_eq_true,J8,J7,J9]
        refine hK _ ?_
        refine aB ?_
        refine eC (.tmp 76) rfl rfl rfl (fun h=>?_) (fun h=>?_)
        ·skip
         refine aI rfl ?_
         cases h
        ·skip
         refine aI rfl ?_
         refine aQ rfl ?_
         refine bU (aB ?_)
         refine bA [0,1,5,6,7,9,10] rfl rfl rfl fun K hK=>?_
         simp(disch:=omega) only[Tryz.f16,go_sem,↓reduceIte]
         refine hK _ ?_
         refine bT ?_
         refine⟨i+1,⟨by omega,hfn⟩,by omega,⟨fun x=> .inr (by simp only[Int.natCast_add,Int.natCast_one]),fun j o hj=>hj,by simp only;omega⟩⟩
      ·skip
       have dx1:decide (X.role=0)=false:=J6 hx1
       rw[J3 (by unfold aFh;rw[dx1];exact Bool.false_ne_true)]at hfn
       refine bA [76,0,1,5,6,7,9,10] rfl rfl rfl fun K hK=>?_
       simp(disch:=omega) only[Tryz.f16,go_sem,↓reduceIte,mT,mS,jR,ha1,e15,dx1,J8,J7,J9]
       refine hK _ ?_
       refine aB ?_
       refine eC (.tmp 76) rfl rfl rfl (fun h=>?_) (fun h=>?_)
       ·skip
        refine aI rfl ?_
        cases h
       ·skip
        refine aI rfl ?_
        refine aQ rfl ?_
        refine bU (aB ?_)
        refine bA [0,1,5,6,7,9,10] rfl rfl rfl fun K hK=>?_
        simp(disch:=omega) only[Tryz.f16,go_sem,↓reduceIte]
        refine hK _ ?_
        refine bT ?_
        refine⟨i+1,⟨by omega,hfn⟩,by omega,⟨fun x=> .inr (by simp only[Int.natCast_add,Int.natCast_one]),fun j o hj=>hj,by simp only;omega⟩⟩
     ·skip
      refine aI rfl ?_
      cases h
    ·skip
     have dk:decide ((i:Int)<(M.L.length:Int))=false:=J6 (by omega)
     rw[List.take_of_length_le hiL]at hf
     have hV:aIo M now out=(M,out):=by unfold aIo;rw[hf]
     rw[hV]at hQ
     refine aA rfl ?_
     refine aA rfl ?_
     refine bA [54,0,1,5,6,7,9,10] rfl rfl rfl fun K hK=>?_
     simp(disch:=omega) only[Tryz.f16,go_sem,↓reduceIte,mT,dk,jR,J8,J7,J9]
     refine hK _ ?_
     refine aB ?_
     refine eC (.tmp 54) rfl rfl rfl (fun h=>?_) (fun h=>?_)
     ·skip
      refine aI rfl ?_
      cases h
     ·skip
      refine aI rfl ?_
      refine bF 2 rfl rfl ?_
      refine aY (aZ (bE ?_))
      refine aIs [0,1,5,6,7,9] (hQ o _ (n+40000) (.inl rfl) hoe hol hoi (by omega) (by omega) (by omega)) rfl (fun j oo hj=>hj) (by simp only;omega) rfl
   ·skip
    refine aI rfl ?_
    cases h
  ·have ds:decide (D.st=1)=false:=J6 hs
   have hA:kD M x D now out=(M,out):=J3 (fun e=>hs e.2)
   rw[hA]at hQ
   refine aA rfl ?_
   refine bA [47,0,1,5,6,7,9] rfl rfl rfl fun K hK=>?_
   simp(disch:=omega) only[Tryz.f16,go_sem,↓reduceIte,dr,ds,beq_self_eq_true]
   refine hK _ ?_
   refine aB ?_
   refine eC (.tmp 47) rfl rfl rfl (fun h=>?_) (fun h=>?_)
   ·skip
    refine aI rfl ?_
    cases h
   ·skip
    refine aI rfl ?_
    refine aQ rfl ?_
    refine aIs [0,1,5,6,7,9] (hQ o _ (n+40000) (.inl rfl) hoe hol hoi (by omega) (by omega) (by omega)) rfl (fun j oo hj=>hj) (by simp only;omega) rfl
 ·have dr:decide (x.role=0)=false:=J6 hr
  have hA:kD M x D now out=(M,out):=J3 (fun e=>hr e.1)
  rw[hA]at hQ
  refine aA rfl ?_
  refine bA [47,0,1,5,6,7,9] rfl rfl rfl fun K hK=>?_
  simp(disch:=omega) only[Tryz.f16,go_sem,↓reduceIte,dr]
  refine hK _ ?_
  refine aB ?_
  refine eC (.tmp 47) rfl rfl rfl (fun h=>?_) (fun h=>?_)
  ·skip
   refine aI rfl ?_
   cases h
  ·skip
   refine aI rfl ?_
   refine aQ rfl ?_
   refine aIs [0,1,5,6,7,9] (hQ o _ (n+40000) (.inl rfl) hoe hol hoi (by omega) (by omega) (by omega)) rfl (fun j oo hj=>hj) (by simp only;omega) rfl
end Go.AX

namespace Go.AX
open Go Go.Proofs
set_option maxRecDepth 8000
@[irreducible] def bXa : Nat := 10300000
theorem aWo:bXa=10300000:=by unfold bXa;rfl
noncomputable def aCg:List AV→H→Nat→Option (AV×H×Nat)
 |[.op e 0,.w32 now],hp,nx=>aK (kH hp e) fun t=>aK (pN t.M.c 100 t.M t.l (nx+100) now []) fun R=>aN (SL t.M.L∧t.M.L.length≤50) (some (.sl R.1.length (jQ R.1),iZ e R.2.2 R.2.1 (del hp t.l),nx+bXa))
 |_,_,_=>none
theorem bAj (e:Nat) (now:W32) (hp:H) (nx:Nat):aCg [.op e 0,.w32 now] hp nx=aK (kH hp e) fun t=>aK (pN t.M.c 100 t.M t.l (nx+100) now []) fun R=>aN (SL t.M.L∧t.M.L.length≤50) (some (.sl R.1.length (jQ R.1),iZ e R.2.2 R.2.1 (del hp t.l),nx+bXa)):=(rfl)
attribute [go_sem] bAj
theorem aGm: ∀L:List KY,dB (jQ L)=true
 |[]=>rfl
 |k::r=>by rw[jQ,aGn,aGm r];rfl
theorem cMw (k:KY) (s:Int) (w:W32):((kyC k).set 2 (.i s)).set 13 (.w32 w)=kyC (tkV k s w):=(rfl)
attribute [go_sem] cMw
structure MSI where
 f:Nat
 M:MC
 l:Nat
 out:List KY
 o:Nat
set_option maxHeartbeats 8000000 in
theorem bKl:cQ Tryz.prog GLh 16 aCg:=by
 refine gF Tryz.func16 (aT rfl) ?_
 intro args hp nx r hp' nx' hg
 unfold aCg at hg
 split at hg
 ·rename_i e now
  replace hg:=aJ hg;obtain⟨⟨l0,M0⟩,hM0,hg⟩:=hg
  have hM:=kW hM0
  replace hg:=aJ hg;obtain⟨R,hR,hg⟩:=hg
  replace hg:=aP hg;obtain⟨⟨hsl0,hL0⟩,hg⟩:=hg
  simp only[Option.some.injEq,Prod.mk.injEq]at hg hM hR hL0 hsl0
  obtain⟨rfl,rfl,rfl⟩:=hg
  refine⟨J1 rfl,Nat.le_add_right _ _,fun hnone=>?_⟩
  have hN:=aWo
  have hlt: ∀k o,hp k=some o→k<nx:=fun k o hk=>lI hnone hk
  have h1:=hM.hd;have h2:=hM.hl
  obtain⟨m1,m2⟩:=hM.ne
  have hel:=hlt _ _ h1
  have hll:=hlt _ _ h2
  have hs1:=oE hM
  obtain⟨c,hc⟩: ∃c,M0.c=c:=⟨_,rfl⟩
  rw[hc]at hR
  have hdl: ∀k,k=l0∨nx≤k→del hp l0 k=none:=fun k hk=>by
   rw[eV]
   split
   ·rfl
   exact hnone k (hk.elim (fun e=>absurd e (by assumption)) id)
  have hdlt: ∀k o,del hp l0 k=some o→k<nx∧k≠l0:=fun k o hk=>by
   rw[eV]at hk
   split at hk
   ·cases hk
   exact⟨hlt _ _ hk,by assumption⟩
  refine aA rfl (bA [0,1] rfl rfl rfl fun K hK=>?_)
  simp(disch:=omega) only[Tryz.f16,go_sem,↓reduceIte]
  refine hK _ ?_
  refine aB (aA rfl (bA [0,1,5] rfl rfl rfl fun K hK=>?_))
  simp(disch:=omega) only[Tryz.f16,go_sem,↓reduceIte]
  refine hK _ ?_
  refine aB (iE 5 15 rfl (fF [0,1,5] ?_))
  simp only[iB,fU,eB,↓reduceIte,Nat.reduceEqDiff]
  refine aR 0 rfl rfl ?_
  refine bR (fun p:MSI=> {fr:=[(0,.op e 0),(1,.w32 now),(5,.os p.o 0 p.out.length 15 true)],hp:=iZ e p.l p.M (upd (del hp l0) p.o (.cells (jQ p.out) true)),nx:=0,cx:=nx+100+100000*(100-p.f)}) (fun p=>pN c p.f p.M p.l (nx+100+100000*(100-p.f)) now p.out=some R∧p.f≤100∧p.M.L.length≤50∧SL p.M.L∧p.out.length≤2*(100-p.f)∧p.M.c=c∧p.l≠e∧(p.l=l0∨nx≤p.l)∧p.l<nx+100+100000*(100-p.f)∧nx≤p.o∧p.o≠p.l∧p.o<nx+100+100000*(100-p.f)) (fun p=>p.f) rfl ⟨⟨100,M0,l0,[],_⟩,⟨hR,U3 _,hL0,hsl0,Nat.zero_le _,hc,m2,.inl rfl,by simp only;omega,by simp only;omega,by simp only;omega,by simp only;omega⟩,⟨fun x=> .inr rfl,fun j o hj=>by {have hj':iZ e l0 M0 (upd (del hp l0) (nx+1+1) (.cells (jQ []) true)) j=some o:=hj;show upd hp (nx+1+1) (.cells [] true) j=some o;simp only[iZ,bJ,eV]at hj'⊢;by_cases x1:j=e; · {rw[J4 x1]at hj';rw[J3 (by omega),x1,h1];exact hj'};rw[J3 x1]at hj';by_cases x2:j=l0; · {rw[J4 x2]at hj';rw[J3 (by omega),x2,h2];exact hj'};rw[J3 x2,J3 x2]at hj';exact hj'},by simp only;omega⟩⟩ ?_
  rintro⟨f,M,l,out,o⟩ ⟨hst,hf,hL,hsl,hout,hMc,hle,hlo,hlc,ho1,ho2,ho3⟩ n0
  simp only at hst hf hL hsl hout hMc hle hlo hlc ho1 ho2 ho3⊢
  have hkl:=iJ M.L
  have hko:=iJ out
  have hL3:M.L.length≤1000:=by omega
  have hcf:=aDi M.c
  rw[jI]at hcf
  obtain⟨f,rfl⟩: ∃f',f=f'+1:=by
   cases f with
   |zero=>cases hst
   |succ f=>exact⟨f,rfl⟩
  rw[←hMc]at hst
  obtain⟨D,hD⟩: ∃D,qV M.L M.c=D:=⟨_,rfl⟩
  rw[pN,hD]at hst
  obtain⟨n,hn⟩: ∃n,nx+100+100000*(100-(f+1))=n:=⟨_,rfl⟩
  rw[hn]at hst hlc ho3⊢
  have hng:nx+100≤n:=by omega
  have hnl:n≤nx+100+9900000:=by omega
  have hng2:nx+100+100000*(100-f)=n+100000:=by omega
  have hnk:=aGm M.L
  refine aR 1 rfl rfl (aA rfl (bB (Γ:=bC [(19,.pure true bKq)]) (fun k=>if k=8 then 0 else 2) [0,1,5,6,7,8] bZ (aH cVl aO) rfl rfl rfl (by kernel_rfl) (fun K hK=>?_)))
  simp(disch:=omega) only[Tryz.f16,go_sem,↓reduceIte,mT,mS,jR,hcf,hL3,hD,hnk,sK,duC,J8,U0,U1,J7,J9,Bool.and_self]
  refine hK _ ?_
  refine aB ?_
  by_cases hid:D.id=0#32
  ·have d1:decide (D.id=0#32)=true:=J5 hid
   rw[J4 (.inl hid)]at hst
   obtain rfl:=J0 hst
   refine aA rfl (aA rfl (bA [30,0,1,5,6,7] rfl rfl rfl fun K hK=>?_))
   simp(disch:=omega) only[Tryz.f16,go_sem,↓reduceIte,d1]
   refine hK _ ?_
   refine aB (eC (.tmp 30) rfl rfl rfl (fun h=>?_) (fun h=>?_))
   ·refine aI rfl (aA rfl (bA [4] rfl rfl rfl fun K hK=>?_))
    simp(disch:=omega) only[Tryz.f16,go_sem,↓reduceIte]
    refine hK _ ?_
    refine aB ?_
    refine pS 4 o 0 out.length 15 rfl (by simp(disch:=omega) only[qA,aV,↓reduceIte,eq_self]<;>rfl) (by omega) ?_
    rw[J9,List.take_of_length_le (by omega)]
    refine aS rfl (bI (bN (dF (bN ?_))))
    simp(disch:=omega) only[aBg]
    refine⟨rfl,fun j oo hj=>?_,by simp only;omega⟩
    refine kV (fun j oo hj=>?_) j oo hj
    have:=hdlt _ _ hj
    simp only[bJ]
    rw[J3 (by omega),J3 (by omega)];exact hj
   refine aI rfl ?_
   cases h
  have d1:decide (D.id=0#32)=false:=J6 hid
  by_cases hw:now<D.w
  ·have d2:decide (now<D.w)=true:=J5 hw
   rw[J4 (.inr hw)]at hst
   obtain rfl:=J0 hst
   refine aA rfl (aA rfl (bA [30,0,1,5,6,7] rfl rfl rfl fun K hK=>?_))
   simp(disch:=omega) only[Tryz.f16,go_sem,↓reduceIte,d1,d2]
   refine hK _ ?_
   refine aB (eC (.tmp 30) rfl rfl rfl (fun h=>?_) (fun h=>?_))
   ·refine aI rfl (aA rfl (bA [4] rfl rfl rfl fun K hK=>?_))
    simp(disch:=omega) only[Tryz.f16,go_sem,↓reduceIte]
    refine hK _ ?_
    refine aB ?_
    refine pS 4 o 0 out.length 15 rfl (by simp(disch:=omega) only[qA,aV,↓reduceIte,eq_self]<;>rfl) (by omega) ?_
    rw[J9,List.take_of_length_le (by omega)]
    refine aS rfl (bI (bN (dF (bN ?_))))
    simp(disch:=omega) only[aBg]
    refine⟨rfl,fun j oo hj=>?_,by simp only;omega⟩
    refine kV (fun j oo hj=>?_) j oo hj
    have:=hdlt _ _ hj
    simp only[bJ]
    rw[J3 (by omega),J3 (by omega)];exact hj
   refine aI rfl ?_
   cases h
  have d2:decide (now<D.w)=false:=J6 hw
  rw[J3 (fun e=>e.elim hid hw)]at hst
  replace hst:=aJ hst;obtain⟨x,hx,hst⟩:=hst
  replace hst:=aP hst;obtain⟨_,hst⟩:=hst
  obtain⟨i,hi,hfv,hke⟩:=aJs M.L hx
  have hrow:=lC M.L i hi
  rw[hke]at hrow
  have e15:i*15=15*i:=by omega
  have hd15:15≤(List.drop (15*i) (jQ M.L)).length:=by rw[List.length_drop];omega
  refine aA rfl (aA rfl (bA [30,0,1,5,6,7] rfl rfl rfl fun K hK=>?_))
  simp(disch:=omega) only[Tryz.f16,go_sem,↓reduceIte,d1,d2]
  refine hK _ ?_
  refine aB (eC (.tmp 30) rfl rfl rfl (fun h=>?_) (fun h=>?_))
  ·refine aI rfl ?_
   cases h
  refine aI rfl ?_
  clear h
  refine aQ rfl (aB (aA rfl (aXz (Γ:=bC [(38,.heap zJ)]) [[0,1,2,3,4,5,6,9,7,8,10],[0,1,2,3,9,4,5,6,7,8,10],[4,5,6,0,1,2,3,9,7,8,10],[4,5,6,9,0,1,2,3,7,8,10],[9,0,1,2,3,4,5,6,7,8,10],[9,4,5,6,0,1,2,3,7,8,10]] (fun k=>if k=6 then 0 else 2) [0,1,5,6,7,9] bZ (aH aWa aO) rfl rfl rfl (by kernel_rfl) (fun K hK=>?_))))
  simp(disch:=omega) only[Tryz.f16,aHu,aQh,go_sem,nJ,lY,hS,List.getElem?_cons_zero,List.getElem?_cons_succ,and_self,and_true,↓reduceIte,mT,mS,jR,hL3,hfv,hrow,hd15,e15,J8,J7,J9]
  refine hK _ ?_
  refine aB ?_
  obtain⟨idx,hidx⟩: ∃i,n+16+7+9=i:=⟨_,rfl⟩
  rw[hidx]
  refine aA rfl (bWz (n:=n) (D:=D) (x:=x) (out:=out) (Ne.symm hle) (by omega) ho2 (by omega) (by omega) (by omega) (by omega) (by omega) (by omega) (by omega) (by omega) hL hsl (by omega) (fun k oo hk=>by have:=hdlt _ _ hk;omega) (hdl o (.inr ho1)) (fun o' nx' cx' a0 a1 a2 a3 a4 a5 a6=>?_))
  refine aB ?_
  obtain⟨b1,b2,b3,b4,b5,b6⟩:=aVm hsl x D now out
  obtain⟨A,hA⟩: ∃A,kD M x D now out=A:=⟨_,rfl⟩
  rw[hA]at hst b1 b2 b3 b4 b5 b6⊢
  have hAL:A.1.L.length≤1000:=by omega
  have hA2:A.2.length≤20000:=by omega
  refine kU (n+50000) (by omega) (aA rfl (aC (Γ:=bC [(39,.heap xO)]) [0,1,5,7,9] (aH cFj aO) rfl rfl rfl (fun K hK=>?_)))
  simp(disch:=omega) only[Tryz.f16,go_sem,↓reduceIte,vZ,hAL]
  refine hK _ ?_
  refine aB ?_
  refine yK (cXk e l A.1 D.id D.st now _ (n+50000) (Ne.symm hle) (by simp only[bJ];rw[J3 (by omega),J3 (by omega)];exact hdl l hlo)) ?_
  have hl2:=aGq A.1 D.id D.st l (n+50000)
  obtain⟨q1,q2,q3⟩:=aJi A.1 D.id D.st now
  have q4:=aNj A.1 D.id D.st now
  have q5:=qU b1 D.id D.st now
  obtain⟨l2,hl2e⟩: ∃l2,mtL A.1 D.id D.st l (n+50000)=l2:=⟨_,rfl⟩
  obtain⟨M2,hM2⟩: ∃M2,(kG A.1 D.id D.st now).2=M2:=⟨_,rfl⟩
  rw[hl2e,hM2]at hst
  rw[hl2e]at hl2
  rw[hM2]at q1 q2 q4 q5
  rw[hl2e,hM2]
  have c1:l2≠e:=by omega
  have c2:l2≠o':=by omega
  have c3:l2≠idx:=by omega
  have hno:=tK A.2
  have hkA:=iJ A.2
  refine aA rfl (bA [0,1,5,9] rfl rfl rfl fun K hK=>?_)
  simp(disch:=omega) only[Tryz.f16,go_sem,↓reduceIte]
  refine hK _ ?_
  refine aB (bA [0,1,5] rfl rfl rfl fun K hK=>?_)
  simp(disch:=omega) only[Tryz.f16,go_sem,↓reduceIte,hkA,J9]
  refine hK _ ?_
  refine bU (bT ?_)
  have hol':(A.2++[tkV x D.st now]).length=A.2.length+1:=by rw[List.length_append];rfl
  have hoc':jQ (A.2++[tkV x D.st now])=jQ A.2++kyC (tkV x D.st now):=by rw[lD,sL]
  refine⟨⟨f,M2,l2,A.2++[tkV x D.st now],n+50000+5+300+60*A.1.L.length+6+3⟩,⟨by simp only;rw[hng2,←hMc];exact hst,by simp only;omega,by simp only;omega,q5,by simp only;rw[hol'];omega,by simp only;rw[q2,b4];exact hMc,c1,by simp only;omega,by simp only;omega,by simp only;omega,by simp only;omega,by simp only;omega⟩,by simp only;omega,⟨fun x=> .inr (by simp only[hol']),fun j oo hj=>?_,by simp only;omega⟩⟩
  simp only[hoc']at hj
  refine kV (fun j oo hj=>?_) j oo hj
  simp only[bJ,eV]at hj⊢
  by_cases j1:j=n+50000+5+300+60*A.1.L.length+6+3
  ·rw[J4 j1]at hj⊢;exact hj
  rw[J3 j1]at hj⊢
  by_cases j2:j=l0
  ·rw[J4 j2]at hj;cases hj
  rw[J3 j2]at hj
  have:=hlt _ _ hj
  rw[J3 (by omega),J3 (by omega),J3 (by omega),J3 (by omega),J3 j2];exact hj
 cases hg
theorem cVm:bX Tryz.prog GLh 16 (.heap aCg):=⟨⟨_,Tryz.func16,rfl,rfl⟩,bKl⟩
end Go.AX

namespace Go.AX
open Go Go.Proofs
set_option maxRecDepth 8000
def nL (M:MC) (role:Int) (sd:S8) (now:W32):W32×Int×Option MC:=
 if role≠0∧role≠1 then(0#32,131,none)else if 2≤(lH role M.L).length then(0#32,140,none)else nK M role sd (if role=1 then 1 else 0) now
noncomputable def bAo:List AV→H→Nat→Option (AV×H×Nat)
 |[.op e 0,.i role,.agg xs,.w32 now],hp,nx=>aK (kH hp e) fun t=>aK (un8 xs) fun l=>aK (s8L l) fun sd=>aN (t.M.L.length≤50)
   (some (.tup [.w32 (nL t.M role sd now).1,.i (nL t.M role sd now).2.1],bAl e t.l t.M hp (nx+5000) (nL t.M role sd now).2.2,nx+6000))
 |_,_,_=>none
theorem bXl (e:Nat) (role:Int) (now:W32) (xs:List AV) (hp:H) (nx:Nat):bAo [.op e 0,.i role,.agg xs,.w32 now] hp nx=aK (kH hp e) fun t=>aK (un8 xs) fun l=>aK (s8L l) fun sd=>aN (t.M.L.length≤50)
   (some (.tup [.w32 (nL t.M role sd now).1,.i (nL t.M role sd now).2.1],bAl e t.l t.M hp (nx+5000) (nL t.M role sd now).2.2,nx+6000)):=(rfl)
attribute [go_sem] bXl
theorem aBu (r:Int) (L:List KY) (k:Nat) (hk:k<L.length):(lH r (L.take (k+1))).length=(lH r (L.take k)).length+if(kyA L k).role=r then 1 else 0:=by
 rw[List.take_add_one,List.getElem?_eq_getElem hk,←kJ L k hk]
 unfold lH
 rw[List.filter_append,List.length_append]
 congr 1
 simp only[Option.toList_some,List.filter_cons,List.filter_nil]
 by_cases h:L[k].role=r
 ·rw[J4 (J5 h),J4 h];rfl
 rw[J3 (by simp[h]),J3 h];rfl
theorem aFw (r:Int) (L:List KY):(lH r L).length≤L.length:=List.length_filter_le _ _
theorem cUe (s:S8):s8L s.l=some s:=(rfl)
set_option maxHeartbeats 4000000 in
theorem cMg:cQ Tryz.prog GLh 9 bAo:=by
 refine gF Tryz.func9 (aT rfl) ?_
 intro args hp nx r hp' nx' hg
 unfold bAo at hg
 split at hg
 ·rename_i e role xs now
  replace hg:=aJ hg;obtain⟨⟨l,M⟩,hM0,hg⟩:=hg
  have hM:=kW hM0
  replace hg:=aJ hg;obtain⟨l8,hl8,hg⟩:=hg
  have:=iX _ hl8;subst this
  replace hg:=aJ hg;obtain⟨sd,hS8,hg⟩:=hg
  have:=vN hS8;subst this
  replace hg:=aP hg;obtain⟨hL,hg⟩:=hg
  simp only[Option.some.injEq,Prod.mk.injEq]at hg hM hL
  obtain⟨rfl,rfl,rfl⟩:=hg
  refine⟨J1 rfl,by omega,fun hnone=>?_⟩
  have hlt: ∀k o,hp k=some o→k<nx:=fun k o hk=>lI hnone hk
  have h1:=hM.hd;have h2:=hM.hl
  obtain⟨m1,m2⟩:=hM.ne
  have hel:=hlt _ _ h1
  have hll:=hlt _ _ h2
  have hkl:=iJ M.L
  have hst:=aVf sd
  have hsl2:=sd.len
  refine aA rfl (bA [0,1,3,6] rfl rfl rfl fun K hK=>?_)
  simp(disch:=omega) only[Tryz.f9,go_sem,↓reduceIte]
  refine hK _ ?_
  refine aB ?_
  refine lW 6 nx 0 rfl (by simp(disch:=omega) only[aV,↓reduceIte,eq_self]<;>rfl) ?_
  refine fF [0,1,3,6] ?_
  simp only[iB,fU,eB,↓reduceIte,Nat.reduceEqDiff,J9]
  rcases(by omega:role=0∨role=1∨(role≠0∧role≠1))with hr|hr|⟨hr0,hr1⟩
  ·subst hr
   refine aA rfl (aA rfl (bA [18,0,1,3,6] rfl rfl rfl fun K hK=>?_))
   simp(disch:=omega) only[Tryz.f9,go_sem,↓reduceIte,decide_true]
   refine hK _ ?_
   refine aB (eC (.tmp 18) rfl rfl rfl (fun h=>?_) (fun h=>?_))
   ·refine aI rfl ?_
    cases h
   refine aI rfl ?_
   clear h
   refine aQ rfl (aB (aA rfl (bA [0,1,3,6,10] rfl rfl rfl fun K hK=>?_)))
   simp(disch:=omega) only[Tryz.f9,go_sem,↓reduceIte]
   refine hK _ ?_
   refine aB (aA rfl (aA rfl (bA [0,1,3,6,10,11] rfl rfl rfl fun K hK=>?_)))
   simp(disch:=omega) only[Tryz.f9,go_sem,↓reduceIte]
   refine hK _ ?_
   refine aB ?_
   refine yK (hp':=hp) (fun j o hj=>by {have:=hlt j o hj;simp(disch:=omega) only[aV,bY,↓reduceIte];exact hj}) ?_
   refine aR 0 rfl rfl ?_
   refine bR (fun p:Nat=> {fr:=[(0,.op e 0),(1,.i 0),(3,.w32 now),(6,.rp (c8 sd.l)),(10,.i (lH 0 (M.L.take p)).length),(11,.i p)],hp:=hp,nx:=0,cx:=nx+40+50*p}) (fun p=>p≤M.L.length) (fun p=>M.L.length-p) rfl ⟨0,Nat.zero_le _,⟨fun x=> .inr rfl,fun j o hj=>hj,by simp only;omega⟩⟩ ?_
   rintro i hi n0
   simp only at hi⊢
   rcases Nat.lt_or_ge i M.L.length with hiL|hiL
   ·have dk:decide ((i:Int)<(M.L.length:Int))=true:=J5 (by omega)
    have ha1:=jW M.L i 1 hiL (by omega)
    have e15:i*15=15*i:=by omega
    have hrn:=aBu 0 M.L i hiL
    have hrb:=aFw 0 (M.L.take i)
    rw[List.length_take]at hrb
    obtain⟨X,hX⟩: ∃X,kyA M.L i=X:=⟨_,rfl⟩
    rw[hX]at ha1 hrn
    refine aA rfl (aA rfl (bA [25,0,1,3,6,10,11] rfl rfl rfl fun K hK=>?_))
    simp(disch:=omega) only[Tryz.f9,go_sem,↓reduceIte,h1,jR,dk,J8,J7,J9]
    refine hK _ ?_
    refine aB (eC (.tmp 25) rfl rfl rfl (fun h=>?_) (fun h=>?_))
    ·refine aI rfl ?_
     by_cases hx:X.role=0
     ·have dx:decide (X.role=0)=true:=J5 hx
      rw[J4 hx]at hrn
      refine aQ rfl (aB (aA rfl (aR 1 rfl rfl (aA rfl (bA [37,0,1,3,6,10,11] rfl rfl rfl fun K hK=>?_)))))
      simp(disch:=omega) only[Tryz.f9,go_sem,↓reduceIte,h1,h2,jR,ha1,e15,dx,J8,J7,J9]
      refine hK _ ?_
      refine aB (eC (.tmp 37) rfl rfl rfl (fun h=>?_) (fun h=>?_))
      ·refine aI rfl (bA [0,1,3,6,10,11] rfl rfl rfl fun K hK=>?_)
       simp(disch:=omega) only[Tryz.f9,go_sem,↓reduceIte]
       refine hK _ ?_
       refine bU (aB (bA [0,1,3,6,10,11] rfl rfl rfl fun K hK=>?_))
       simp(disch:=omega) only[Tryz.f9,go_sem,↓reduceIte]
       refine hK _ ?_
       refine bT ?_
       exact⟨i+1,by omega,by omega,⟨fun x=> .inr (by simp only[hrn,Int.natCast_add,Int.natCast_one]),fun j o hj=>hj,by simp only;omega⟩⟩
      refine aI rfl ?_
      cases h
     have dx:decide (X.role=0)=false:=J6 hx
     rw[J3 hx]at hrn
     refine aQ rfl (aB (aA rfl (aR 1 rfl rfl (aA rfl (bA [37,0,1,3,6,10,11] rfl rfl rfl fun K hK=>?_)))))
     simp(disch:=omega) only[Tryz.f9,go_sem,↓reduceIte,h1,h2,jR,ha1,e15,dx,J8,J7,J9]
     refine hK _ ?_
     refine aB (eC (.tmp 37) rfl rfl rfl (fun h=>?_) (fun h=>?_))
     ·refine aI rfl ?_
      cases h
     refine aI rfl (aQ rfl (bU (aB (bA [0,1,3,6,10,11] rfl rfl rfl fun K hK=>?_))))
     simp(disch:=omega) only[Tryz.f9,go_sem,↓reduceIte]
     refine hK _ ?_
     refine bT ?_
     exact⟨i+1,by omega,by omega,⟨fun x=> .inr (by simp only[hrn,Nat.add_zero,Int.natCast_add,Int.natCast_one]),fun j o hj=>hj,by simp only;omega⟩⟩
    refine aI rfl ?_
    cases h
   have dk:decide ((i:Int)<(M.L.length:Int))=false:=J6 (by omega)
   rw[List.take_of_length_le hiL]
   obtain⟨Z,hZ⟩: ∃Z,(lH 0 M.L).length=Z:=⟨_,rfl⟩
   rw[hZ]
   refine aA rfl (aA rfl (bA [25,0,1,3,6,10,11] rfl rfl rfl fun K hK=>?_))
   simp(disch:=omega) only[Tryz.f9,go_sem,↓reduceIte,h1,jR,dk,J8,J7,J9]
   refine hK _ ?_
   refine aB (eC (.tmp 25) rfl rfl rfl (fun h=>?_) (fun h=>?_))
   ·refine aI rfl ?_
    cases h
   refine aI rfl ?_
   clear h
   refine bF 0 rfl rfl (aY (aZ (bE (aB (aA rfl (aA rfl (bA [41,0,1,3,6] rfl rfl rfl fun K hK=>?_)))))))
   simp(disch:=omega) only[Tryz.f9,go_sem,↓reduceIte]
   refine hK _ ?_
   refine aB (aW (.tmp 41) rfl rfl rfl (fun h=>?_) (fun h=>?_))
   ·refine aI rfl ?_
    have eb:nL M 0 sd now=(0#32,140,none):=by unfold nL;rw[J3 (by omega),hZ,J4 (by omega)]
    rw[eb]
    refine aA rfl (bA [8,9] rfl rfl rfl fun K hK=>?_)
    simp(disch:=omega) only[Tryz.f9,go_sem,↓reduceIte]
    refine hK _ ?_
    refine aB (aS rfl (bI ?_))
    exact⟨rfl,fun j o hj=>hj,by simp only;omega⟩
   refine aI rfl ?_
   have eb:nL M 0 sd now=nK M 0 sd 0 now:=by unfold nL;rw[J3 (by omega),hZ,J3 (by omega)];rfl
   rw[eb]
   clear h
   refine aQ rfl (aB (aA rfl (bA [0,1,3,6,12] rfl rfl rfl fun K hK=>?_)))
   simp(disch:=omega) only[Tryz.f9,go_sem,↓reduceIte]
   refine hK _ ?_
   refine aB (aA rfl (aA rfl (bA [43,0,1,3,6,12] rfl rfl rfl fun K hK=>?_)))
   simp(disch:=omega) only[Tryz.f9,go_sem,↓reduceIte,decide_false]
   refine hK _ ?_
   refine aB (eC (.tmp 43) rfl rfl rfl (fun h=>?_) (fun h=>?_))
   ·refine aI rfl ?_
    cases h
   refine aI rfl (aQ rfl (aB (aA rfl (kU (nx+4990) (by omega) (aC (Γ:=bC [(26,.heap sG)]) [8,9] (aH aWb aO) rfl rfl rfl (fun K hK=>?_))))))
   simp(disch:=omega) only[Tryz.f9,go_sem,↓reduceIte,hM0,kK,hsl2,cUe]
   refine hK _ ?_
   refine aB (aS rfl ?_)
   exact⟨rfl,fun j o hj=>hj,by simp only;omega⟩
  ·subst hr
   refine aA rfl (aA rfl (bA [18,0,1,3,6] rfl rfl rfl fun K hK=>?_))
   simp(disch:=omega) only[Tryz.f9,go_sem,↓reduceIte,decide_true,decide_false]
   refine hK _ ?_
   refine aB (eC (.tmp 18) rfl rfl rfl (fun h=>?_) (fun h=>?_))
   ·refine aI rfl ?_
    cases h
   refine aI rfl ?_
   clear h
   refine aQ rfl (aB (aA rfl (bA [0,1,3,6,10] rfl rfl rfl fun K hK=>?_)))
   simp(disch:=omega) only[Tryz.f9,go_sem,↓reduceIte]
   refine hK _ ?_
   refine aB (aA rfl (aA rfl (bA [0,1,3,6,10,11] rfl rfl rfl fun K hK=>?_)))
   simp(disch:=omega) only[Tryz.f9,go_sem,↓reduceIte]
   refine hK _ ?_
   refine aB ?_
   refine yK (hp':=hp) (fun j o hj=>by {have:=hlt j o hj;simp(disch:=omega) only[aV,bY,↓reduceIte];exact hj}) ?_
   refine aR 0 rfl rfl ?_
   refine bR (fun p:Nat=> {fr:=[(0,.op e 0),(1,.i 1),(3,.w32 now),(6,.rp (c8 sd.l)),(10,.i (lH 1 (M.L.take p)).length),(11,.i p)],hp:=hp,nx:=0,cx:=nx+40+50*p}) (fun p=>p≤M.L.length) (fun p=>M.L.length-p) rfl ⟨0,Nat.zero_le _,⟨fun x=> .inr rfl,fun j o hj=>hj,by simp only;omega⟩⟩ ?_
   rintro i hi n0
   simp only at hi⊢
   rcases Nat.lt_or_ge i M.L.length with hiL|hiL
   ·have dk:decide ((i:Int)<(M.L.length:Int))=true:=J5 (by omega)
    have ha1:=jW M.L i 1 hiL (by omega)
    have e15:i*15=15*i:=by omega
    have hrn:=aBu 1 M.L i hiL
    have hrb:=aFw 1 (M.L.take i)
    rw[List.length_take]at hrb
    obtain⟨X,hX⟩: ∃X,kyA M.L i=X:=⟨_,rfl⟩
    rw[hX]at ha1 hrn
    refine aA rfl (aA rfl (bA [25,0,1,3,6,10,11] rfl rfl rfl fun K hK=>?_))
    simp(disch:=omega) only[Tryz.f9,go_sem,↓reduceIte,h1,jR,dk,J8,J7,J9]
    refine hK _ ?_
    refine aB (eC (.tmp 25) rfl rfl rfl (fun h=>?_) (fun h=>?_))
    ·refine aI rfl ?_
     by_cases hx:X.role=1
     ·have dx:decide (X.role=1)=true:=J5 hx
      rw[J4 hx]at hrn
      refine aQ rfl (aB (aA rfl (aR 1 rfl rfl (aA rfl (bA [37,0,1,3,6,10,11] rfl rfl rfl fun K hK=>?_)))))
      simp(disch:=omega) only[Tryz.f9,go_sem,↓reduceIte,h1,h2,jR,ha1,e15,dx,J8,J7,J9]
      refine hK _ ?_
      refine aB (eC (.tmp 37) rfl rfl rfl (fun h=>?_) (fun h=>?_))
      ·refine aI rfl (bA [0,1,3,6,10,11] rfl rfl rfl fun K hK=>?_)
       simp(disch:=omega) only[Tryz.f9,go_sem,↓reduceIte]
       refine hK _ ?_
       refine bU (aB (bA [0,1,3,6,10,11] rfl rfl rfl fun K hK=>?_))
       simp(disch:=omega) only[Tryz.f9,go_sem,↓reduceIte]
       refine hK _ ?_
       refine bT ?_
       exact⟨i+1,by omega,by omega,⟨fun x=> .inr (by simp only[hrn,Int.natCast_add,Int.natCast_one]),fun j o hj=>hj,by simp only;omega⟩⟩
      refine aI rfl ?_
      cases h
     have dx:decide (X.role=1)=false:=J6 hx
     rw[J3 hx]at hrn
     refine aQ rfl (aB (aA rfl (aR 1 rfl rfl (aA rfl (bA [37,0,1,3,6,10,11] rfl rfl rfl fun K hK=>?_)))))
     simp(disch:=omega) only[Tryz.f9,go_sem,↓reduceIte,h1,h2,jR,ha1,e15,dx,J8,J7,J9]
     refine hK _ ?_
     refine aB (eC (.tmp 37) rfl rfl rfl (fun h=>?_) (fun h=>?_))
     ·refine aI rfl ?_
      cases h
     refine aI rfl (aQ rfl (bU (aB (bA [0,1,3,6,10,11] rfl rfl rfl fun K hK=>?_))))
     simp(disch:=omega) only[Tryz.f9,go_sem,↓reduceIte]
     refine hK _ ?_
     refine bT ?_
     exact⟨i+1,by omega,by omega,⟨fun x=> .inr (by simp only[hrn,Nat.add_zero,Int.natCast_add,Int.natCast_one]),fun j o hj=>hj,by simp only;omega⟩⟩
    refine aI rfl ?_
    cases h
   have dk:decide ((i:Int)<(M.L.length:Int))=false:=J6 (by omega)
   rw[List.take_of_length_le hiL]
   obtain⟨Z,hZ⟩: ∃Z,(lH 1 M.L).length=Z:=⟨_,rfl⟩
   rw[hZ]
   refine aA rfl (aA rfl (bA [25,0,1,3,6,10,11] rfl rfl rfl fun K hK=>?_))
   simp(disch:=omega) only[Tryz.f9,go_sem,↓reduceIte,h1,jR,dk,J8,J7,J9]
   refine hK _ ?_
   refine aB (eC (.tmp 25) rfl rfl rfl (fun h=>?_) (fun h=>?_))
   ·refine aI rfl ?_
    cases h
   refine aI rfl ?_
   clear h
   refine bF 0 rfl rfl (aY (aZ (bE (aB (aA rfl (aA rfl (bA [41,0,1,3,6] rfl rfl rfl fun K hK=>?_)))))))
   simp(disch:=omega) only[Tryz.f9,go_sem,↓reduceIte]
   refine hK _ ?_
   refine aB (aW (.tmp 41) rfl rfl rfl (fun h=>?_) (fun h=>?_))
   ·refine aI rfl ?_
    have eb:nL M 1 sd now=(0#32,140,none):=by unfold nL;rw[J3 (by omega),hZ,J4 (by omega)]
    rw[eb]
    refine aA rfl (bA [8,9] rfl rfl rfl fun K hK=>?_)
    simp(disch:=omega) only[Tryz.f9,go_sem,↓reduceIte]
    refine hK _ ?_
    refine aB (aS rfl (bI ?_))
    exact⟨rfl,fun j o hj=>hj,by simp only;omega⟩
   refine aI rfl ?_
   have eb:nL M 1 sd now=nK M 1 sd 1 now:=by unfold nL;rw[J3 (by omega),hZ,J3 (by omega)];rfl
   rw[eb]
   clear h
   refine aQ rfl (aB (aA rfl (bA [0,1,3,6,12] rfl rfl rfl fun K hK=>?_)))
   simp(disch:=omega) only[Tryz.f9,go_sem,↓reduceIte]
   refine hK _ ?_
   refine aB (aA rfl (aA rfl (bA [43,0,1,3,6,12] rfl rfl rfl fun K hK=>?_)))
   simp(disch:=omega) only[Tryz.f9,go_sem,↓reduceIte,decide_true]
   refine hK _ ?_
   refine aB (eC (.tmp 43) rfl rfl rfl (fun h=>?_) (fun h=>?_))
   ·refine aI rfl (bA [0,1,3,6,12] rfl rfl rfl fun K hK=>?_)
    simp(disch:=omega) only[Tryz.f9,go_sem,↓reduceIte]
    refine hK _ ?_
    refine aB (aA rfl (kU (nx+4990) (by omega) (aC (Γ:=bC [(26,.heap sG)]) [8,9] (aH aWb aO) rfl rfl rfl (fun K hK=>?_))))
    simp(disch:=omega) only[Tryz.f9,go_sem,↓reduceIte,hM0,kK,hsl2,cUe]
    refine hK _ ?_
    refine aB (aS rfl ?_)
    exact⟨rfl,fun j o hj=>hj,by simp only;omega⟩
   refine aI rfl ?_
   cases h
  have d0:decide (role=0)=false:=J6 hr0
  have d1:decide (role=1)=false:=J6 hr1
  have eb:nL M role sd now=(0#32,131,none):=J4 ⟨hr0,hr1⟩
  rw[eb]
  refine aA rfl (aA rfl (bA [18,0,1,3,6] rfl rfl rfl fun K hK=>?_))
  simp(disch:=omega) only[Tryz.f9,go_sem,↓reduceIte,d0,d1,Bool.not_false]
  refine hK _ ?_
  refine aB (eC (.tmp 18) rfl rfl rfl (fun h=>?_) (fun h=>?_))
  ·refine aI rfl (aA rfl (bA [8,9] rfl rfl rfl fun K hK=>?_))
   simp(disch:=omega) only[Tryz.f9,go_sem,↓reduceIte]
   refine hK _ ?_
   refine aB (aS rfl (bI ?_))
   exact⟨rfl,fun j o hj=>by {have:=hlt j o hj;simp(disch:=omega) only[aV,bY,↓reduceIte];exact hj},by simp only;omega⟩
  refine aI rfl ?_
  cases h
 cases hg
theorem cVi:bX Tryz.prog GLh 9 (.heap bAo):=⟨⟨_,Tryz.func9,rfl,rfl⟩,cMg⟩
end Go.AX

namespace Go.AX
open Go Go.Proofs
set_option maxRecDepth 8000
def upK (id:W32) (f:KY→KY) (L:List KY):List KY:=L.map fun k=>if k.id=id then f k else k
def rmK (id:W32) (L:List KY):List KY:=L.filter fun k=>decide (k.id≠id)
theorem SL.ne {L:List KY} (h:SL L) {i j:Nat} (hi:i<L.length) (hj:j<L.length) (e:L[i].id=L[j].id):i=j:=by
 have hp:=List.pairwise_iff_getElem.1 h
 rcases Nat.lt_trichotomy i j with x|x|x
 ·have:=hp i j hi hj x;rw[e]at this;exact absurd this (Nat.lt_irrefl _)
 ·exact x
 have:=hp j i hj hi x;rw[e]at this;exact absurd this (Nat.lt_irrefl _)
theorem bGt {L:List KY} (hs:SL L) {i:Nat} (hi:i<L.length) (f:KY→KY):L.set i (f (kyA L i))=upK (kyA L i).id f L:=by
 refine List.ext_getElem (by simp[upK]) fun j h1 h2=>?_
 have hj:j<L.length:=by simpa using h1
 have ek:=qX hi
 simp only[upK,List.getElem_map,List.getElem_set]
 by_cases e:i=j
 ·subst e;simp[ek]
 rw[J3 e,J3 (fun x=>e (hs.ne hj hi (x.trans (by rw[ek]))).symm)]
theorem cJy {L:List KY} (hs:SL L) {i:Nat} (hi:i<L.length):L.take i++L.drop (i+1)=rmK (kyA L i).id L:=by
 rw[qX hi]
 have e:L=L.take i++L[i]::L.drop (i+1):=by rw[←List.drop_eq_getElem_cons hi,List.take_append_drop]
 have h1:rmK L[i].id (L.take i)=L.take i:=List.filter_eq_self.2 fun k hk=>by
  obtain⟨j,hj,rfl⟩:=List.getElem_of_mem hk
  rw[List.length_take]at hj
  simp only[List.getElem_take,decide_eq_true_eq]
  exact fun x=>by have:=hs.ne (by omega) hi x;omega
 have h2:rmK L[i].id (L.drop (i+1))=L.drop (i+1):=List.filter_eq_self.2 fun k hk=>by
  obtain⟨j,hj,rfl⟩:=List.getElem_of_mem hk
  rw[List.length_drop]at hj
  simp only[List.getElem_drop,decide_eq_true_eq]
  exact fun x=>by have:=hs.ne (by omega) hi x;omega
 have h3:rmK L[i].id L=rmK L[i].id (L.take i)++rmK L[i].id (L[i]::L.drop (i+1)):=by
  conv=>lhs;arg 2;rw[e]
  exact List.filter_append _ _
 rw[h3,h1]
 congr 1
 unfold rmK at h2⊢
 rw[List.filter_cons_of_neg (by simp),h2]
theorem vY {M:MC} (hs:SL M.L) {id:W32} {k:KY} (hk:jS id M.L=some k) (st:Int) (now:W32):
  (kG M id st now).2.L=if st≤k.st∨4<st then M.L else if st=4 then rmK id M.L else upK id (fun k=> {k with st:=st,since:=now}) M.L:=by
 obtain⟨i,h1,h2,h3⟩:=aJs M.L hk
 have hid:=(nB hk).2
 unfold kG
 rw[h2,J3 (by omega),U2,h3]
 split
 ·rfl
 ·split
  ·show M.L.take i++M.L.drop (i+1)=_
   rw[cJy hs h1,h3,hid]
  ·show M.L.set i _=_
   have:=bGt hs h1 (fun k=> {k with st:=st,since:=now})
   rw[h3,hid]at this
   rw[←this]
   simp only[h3,hid]
theorem aVi (r:Int) (id:W32) (f:KY→KY) (hf: ∀k,(f k).role=k.role) (L:List KY):lH r (upK id f L)=upK id f (lH r L):=by
 unfold lH upK
 rw[List.filter_map]
 congr 1
 refine List.filter_congr fun k _=>?_
 simp only[Function.comp]
 split
 ·rw[hf]
 rfl
theorem oY (r:Int) (id:W32) (L:List KY):lH r (rmK id L)=rmK id (lH r L):=by
 unfold lH rmK
 rw[List.filter_filter,List.filter_filter]
 refine List.filter_congr fun k _=>?_
 rw[Bool.and_comm]
theorem SL.role {L:List KY} (h:SL L) (r:Int):SL (lH r L):=List.Pairwise.sublist List.filter_sublist h
theorem jU {r:Int} {L:List KY} {k:KY}:k∈lH r L↔k∈L∧k.role=r:=by simp[lH]
def ZS (Z:List KY):Prop:=(∃a,Z=[a]∧a.st=1)∨∃a b,Z=[a,b]∧((a.st=1∧b.st=0)∨(a.st=3∧b.st=1))
def KS (K:List KY):Prop:=(∃x,K=[x]∧x.st=2∧x.seen≠0#32)∨∃x y,K=[x,y]∧x.st=2∧x.seen≠0#32∧((y.st=1∧y.seen=0#32)∨y.st=2)
structure INV (L:List KY):Prop where
 sl:SL L
 rl: ∀k∈L,k.role=0∨k.role=1
 z:ZS (lH 0 L)
 k:KS (lH 1 L)
theorem INV.len {L:List KY} (h:INV L):L.length=(lH 0 L).length+(lH 1 L).length:=by
 have hr:=h.rl
 clear h
 induction L with
 |nil=>rfl
 |cons a r ih=>
  have ih:=ih fun k hk=>hr k (by simp[hk])
  unfold lH at ih⊢
  rcases hr a (by simp)with e|e
  ·rw[List.filter_cons_of_pos (by simp[e]),List.filter_cons_of_neg (by simp[e]),List.length_cons,List.length_cons];omega
  rw[List.filter_cons_of_neg (by simp[e]),List.filter_cons_of_pos (by simp[e]),List.length_cons,List.length_cons];omega
theorem INV.le4 {L:List KY} (h:INV L):2≤L.length∧L.length≤4:=by
 rw[h.len]
 have hz:(lH 0 L).length=1∨(lH 0 L).length=2:=by
  rcases h.z with⟨a,e,_⟩|⟨a,b,e,_⟩<;>rw[e]
  ·exact .inl rfl
  exact .inr rfl
 have hk:(lH 1 L).length=1∨(lH 1 L).length=2:=by
  rcases h.k with⟨a,e,_⟩|⟨a,b,e,_⟩<;>rw[e]
  ·exact .inl rfl
  exact .inr rfl
 omega
def Due (L:List KY) (c:CF) (D:DU):Prop:=
 (∃a b,lH 0 L=[a,b]∧a.st=1∧b.st=0∧D=⟨b.id,1,bhV b.since c.pr c.kt⟩)∨(∃a b,lH 0 L=[a,b]∧a.st=3∧b.st=1∧D=⟨a.id,4,bhV a.since c.pr c.mx⟩)∨
 (∃x y,lH 1 L=[x,y]∧x.st=2∧x.seen≠0#32∧y.st=1∧y.seen=0#32∧D=⟨y.id,2,bhV y.since c.pr c.kt⟩)∨(∃x y,lH 1 L=[x,y]∧x.st=2∧y.st=2∧y.seen≠0#32∧D=⟨x.id,4,bhV y.seen c.dp c.dt⟩)
theorem lt_w {a b:W32} (h:a.toNat<b.toNat):a<b:=by rw[BitVec.lt_def];exact h
theorem aWl {a b:W32} (h:a.toNat≤b.toNat): ¬b<a:=by rw[BitVec.lt_def];omega
theorem aXj {L:List KY} (h:INV L) (c:CF) {x:KY} (hx:x∈L):
  (iS L c x=[]∧(mdu L c x).st<0)∨(iS L c x=[mdu L c x]∧0≤(mdu L c x).st∧Due L c (mdu L c x)):=by
 rcases h.rl x hx with hr|hr
 ·have hxr:x∈lH 0 L:=jU.2 ⟨hx,hr⟩
  rcases h.z with⟨a,e,ha⟩|⟨a,b,e,hab⟩
  ·rw[e,List.mem_singleton]at hxr
   subst hxr
   left
   constructor
   ·unfold iS;rw[J4 hr,J3 (by omega),J3 (by omega)]
   ·unfold mdu;rw[J3 (by omega),J3 (by omega),J3 (by omega),J3 (by omega)];show(-1:Int)<0;decide
  ·rw[e]at hxr
   simp only[List.mem_cons,List.not_mem_nil,or_false]at hxr
   rcases hab with⟨h1,h2⟩|⟨h1,h2⟩
   ·rcases hxr with rfl|rfl
    ·left
     constructor
     ·unfold iS;rw[J4 hr,J3 (by omega),J3 (by omega)]
     ·unfold mdu;rw[J3 (by omega),J3 (by omega),J3 (by omega),J3 (by omega)];show(-1:Int)<0;decide
    ·right
     have em:mdu L c x=⟨x.id,1,bhV x.since c.pr c.kt⟩:=J4 ⟨hr,h2⟩
     rw[em]
     refine⟨by unfold iS;rw[J4 hr,J4 h2],by show(0:Int)≤1;decide,.inl ⟨a,x,e,h1,h2,rfl⟩⟩
   ·rcases hxr with rfl|rfl
    ·right
     have em:mdu L c x=⟨x.id,4,bhV x.since c.pr c.mx⟩:=(J3 (by omega)).trans (J4 ⟨hr,h1⟩)
     rw[em]
     refine⟨by unfold iS;rw[J4 hr,J3 (by omega),J4 h1],by show(0:Int)≤4;decide,.inr (.inl ⟨x,b,e,h1,h2,rfl⟩)⟩
    ·left
     constructor
     ·unfold iS;rw[J4 hr,J3 (by omega),J3 (by omega)]
     ·unfold mdu;rw[J3 (by omega),J3 (by omega),J3 (by omega),J3 (by omega)];show(-1:Int)<0;decide
 ·have hxr:x∈lH 1 L:=jU.2 ⟨hx,hr⟩
  have hfo: ∀x:KY,L.find? (aEf x)=(lH 1 L).find? fun y=>decide (y.id<x.id):=by
   intro x
   unfold lH
   rw[List.find?_filter]
   congr 1
   funext y
   simp[aEf]
  have hsk:=h.sl.role 1
  rcases h.k with⟨a,e,h1,h2⟩|⟨a,b,e,h1,h2,h3⟩
  ·rw[e]at hxr hsk
   rw[List.mem_singleton]at hxr
   subst hxr
   left
   have hn: ¬x.id<x.id:=aWl (U3 _)
   constructor
   ·unfold iS
    rw[J3 (by omega),J4 hr,J3 (by omega),J4 ⟨h1,h2⟩]
    unfold wP
    rw[e]
    simp[hn]
   ·unfold mdu
    rw[J3 (by omega),J3 (by omega),J3 (by omega),J4 ⟨hr,h1,h2⟩]
    unfold aRq
    rw[hfo,e]
    simp only[List.find?_cons,J6 hn,List.find?_nil]
    show(-1:Int)<0;decide
  ·rw[e]at hxr hsk
   have hlt:a.id.toNat<b.id.toNat:=(List.pairwise_cons.1 hsk).1 b (by simp)
   simp only[List.mem_cons,List.not_mem_nil,or_false]at hxr
   have hna: ¬a.id<a.id:=aWl (U3 _)
   have hnb: ¬b.id<b.id:=aWl (U3 _)
   have hnba: ¬b.id<a.id:=aWl (by omega)
   have hab:a.id<b.id:=lt_w hlt
   rcases hxr with rfl|rfl
   ·left
    constructor
    ·unfold iS
     rw[J3 (by omega),J4 hr,J3 (by omega),J4 ⟨h1,h2⟩]
     unfold wP
     rw[e]
     simp[hna,hnba]
    ·unfold mdu
     rw[J3 (by omega),J3 (by omega),J3 (by omega),J4 ⟨hr,h1,h2⟩]
     unfold aRq
     rw[hfo,e]
     simp only[List.find?_cons,J6 hna,J6 hnba,List.find?_nil]
     show(-1:Int)<0;decide
   ·rcases h3 with⟨h3,h4⟩|h3
    ·right
     have em:mdu L c x=⟨x.id,2,bhV x.since c.pr c.kt⟩:=(J3 (by omega)).trans ((J3 (by omega)).trans (J4 ⟨hr,h3⟩))
     rw[em]
     refine⟨by unfold iS;rw[J3 (by omega),J4 hr,J4 h3],by show(0:Int)≤2;decide,.inr (.inr (.inl ⟨a,x,e,h1,h2,h3,h4,rfl⟩))⟩
    ·by_cases hsn:x.seen=0#32
     ·left
      constructor
      ·unfold iS;rw[J3 (by omega),J4 hr,J3 (by omega),J3 (fun q=>q.2 hsn)]
      ·unfold mdu;rw[J3 (by omega),J3 (by omega),J3 (by omega),J3 (fun q=>q.2.2 hsn)];show(-1:Int)<0;decide
     ·right
      have em:mdu L c x=⟨a.id,4,bhV x.seen c.dp c.dt⟩:=by
       unfold mdu
       rw[J3 (by omega),J3 (by omega),J3 (by omega),J4 ⟨hr,h3,hsn⟩]
       unfold aRq
       rw[hfo,e]
       simp only[List.find?_cons,J5 hab]
       rfl
      rw[em]
      refine⟨?_,by show(0:Int)≤4;decide,.inr (.inr (.inr ⟨a,x,e,h1,h3,hsn,rfl⟩))⟩
      unfold iS
      rw[J3 (by omega),J4 hr,J3 (by omega),J4 ⟨h3,hsn⟩]
      unfold wP
      rw[e]
      simp[hab,hnb]
theorem xY {L:List KY} (h:INV L) (c:CF): ∀(xs:List KY) (b:DU),(∀x∈xs,x∈L)→(xs.flatMap (iS L c)).foldl btr b=(xs.map (mdu L c)).foldl mbt b
 |[],_,_=>rfl
 |x::r,b,hx=>by
  rw[List.flatMap_cons,List.foldl_append,List.map_cons,List.foldl_cons]
  rcases aXj h c (hx x (by simp))with⟨e1,e2⟩|⟨e1,e2,_⟩
  ·rw[e1,List.foldl_nil]
   have:mbt b (mdu L c x)=b:=J3 (fun e=>by omega)
   rw[this]
   exact xY h c r b fun y hy=>hx y (by simp[hy])
  rw[e1,List.foldl_cons,List.foldl_nil]
  have:mbt b (mdu L c x)=btr b (mdu L c x):=by
   unfold mbt btr
   by_cases q:b.id=0#32∨(mdu L c x).w<b.w∨((mdu L c x).w=b.w∧(mdu L c x).id<b.id)
   ·rw[J4 ⟨e2,q⟩,J4 q]
   rw[J3 (fun e=>q e.2),J3 q]
  rw[this]
  exact xY h c r _ fun y hy=>hx y (by simp[hy])
theorem aWf {L:List KY} (h:INV L) (c:CF):nxV L c=qV L c:=xY h c L du0 fun _ h=>h
theorem aXf {L:List KY} (h:INV L) (c:CF): ∀(xs:List KY) (b:DU),(∀x∈xs,x∈L)→(b=du0∨Due L c b)→((xs.map (mdu L c)).foldl mbt b=du0∨Due L c ((xs.map (mdu L c)).foldl mbt b))
 |[],_,_,hb=>hb
 |x::r,b,hx,hb=>by
  rw[List.map_cons,List.foldl_cons]
  refine aXf h c r _ (fun y hy=>hx y (by simp[hy])) ?_
  unfold mbt
  split
  ·rename_i q
   rcases aXj h c (hx x (by simp))with⟨_,e2⟩|⟨_,_,e3⟩
   ·omega
   exact .inr e3
  exact hb
theorem cLb {L:List KY} (h:INV L) (c:CF):qV L c=du0∨Due L c (qV L c):=aXf h c L du0 (fun _ h=>h) (.inl rfl)
end Go.AX

namespace Go.AX
open Go Go.Proofs
set_option maxRecDepth 8000
theorem sH {L:List KY} (h:SL L) {k k':KY} (hk:k∈L) (hk':k'∈L) (e:k.id=k'.id):k=k':=by
 have h1:=jX h hk
 have h2:=jX h hk'
 rw[e]at h1
 exact J0 (h1.symm.trans h2)
theorem bFh {L:List KY} {id:W32} {f:KY→KY} {w:KY} (h:w∈L) (hn:w.id≠id):w∈upK id f L:=by
 rw[upK,List.mem_map]
 exact⟨w,h,J3 hn⟩
theorem cIl {L:List KY} {id:W32} {w:KY} (h:w∈L) (hn:w.id≠id):w∈rmK id L:=by
 rw[rmK,List.mem_filter]
 exact⟨h,J5 hn⟩
theorem aAq {L:List KY} {id:W32} {f:KY→KY} (h: ∀k∈L,k.id≠id):upK id f L=L:=by
 unfold upK
 conv=>rhs;rw[←List.map_id L]
 exact List.map_congr_left fun k hk=>J3 (h k hk)
theorem aVl {L:List KY} {id:W32} (h: ∀k∈L,k.id≠id):rmK id L=L:=List.filter_eq_self.2 fun k hk=>J5 (h k hk)
theorem aOs (id' id:W32) (f:KY→KY) (hf: ∀k,(f k).id=k.id): ∀L:List KY,jS id' (upK id f L)=(jS id' L).map fun k=>if k.id=id then f k else k
 |[]=>rfl
 |x::r=>by
  have ih:=aOs id' id f hf r
  unfold upK at ih⊢
  rw[List.map_cons]
  simp only[jS]
  have e:(if x.id=id then f x else x).id=x.id:=by split<;>simp[hf]
  rw[e]
  by_cases h:id'=x.id
  ·rw[J4 h,J4 h];rfl
  rw[J3 h,J3 h,ih]
theorem bNg (id' id:W32) (st:Int) (now:W32) (L:List KY):jS id' (upK id (fun k=> {k with st:=st,since:=now}) L)=(jS id' L).map fun k=>if k.id=id then {k with st:=st,since:=now} else k:=aOs id' id (fun k=> {k with st:=st,since:=now}) (fun _=>rfl) L
theorem kR (r:Int) (id:W32) (st:Int) (now:W32) (L:List KY):lH r (upK id (fun k=> {k with st:=st,since:=now}) L)=upK id (fun k=> {k with st:=st,since:=now}) (lH r L):=aVi r id (fun k=> {k with st:=st,since:=now}) (fun _=>rfl) L
def zmu:List KY→Nat
 |[_,b]=>if b.st=0 then 2 else 1
 |_=>0
def kmu:List KY→Nat
 |[_,y]=>if y.st=1∨y.seen≠0#32 then 1 else 0
 |_=>0
def mu (L:List KY):Nat:=zmu (lH 0 L)+kmu (lH 1 L)
theorem cXi (L:List KY):mu L≤3:=by
 have h1:zmu (lH 0 L)≤2:=by
  unfold zmu
  split
  ·split<;>omega
  omega
 have h2:kmu (lH 1 L)≤1:=by
  unfold kmu
  split
  ·split<;>omega
  omega
 unfold mu;omega
def WP (L0:List KY) (c:CF) (now:W32) (L:List KY):Prop:= ∀w∈L0,w.st=0→w∈L∨bhV w.since c.pr c.kt≤now
def OP (L0:List KY) (c:CF) (now:W32) (out:List KY):Prop:= ∀t∈out,∀w∈L0,w.st=0→w.id=t.id→bhV w.since c.pr c.kt≤now
def SB (now:W32) (L:List KY):Prop:= ∀k∈L,k.since.toNat≤now.toNat
theorem SB.up {now:W32} {L:List KY} (h:SB now L) (id:W32) (st:Int):SB now (upK id (fun k=> {k with st:=st,since:=now}) L):=by
 intro k hk
 rw[upK,List.mem_map]at hk
 obtain⟨x,hx,rfl⟩:=hk
 split
 ·exact U3 _
 exact h x hx
theorem SB.rm {now:W32} {L:List KY} (h:SB now L) (id:W32):SB now (rmK id L):=fun k hk=>h k ((List.mem_filter.1 hk).1)
theorem OP.push {L0 L:List KY} {c:CF} {now:W32} {out:List KY} (h:OP L0 c now out) (hw:WP L0 c now L) (hs:SL L) {k:KY} (hk:k∈L) (st:Int) (hd:k.st=0→bhV k.since c.pr c.kt≤now):OP L0 c now (out++[tkV k st now]):=by
 intro t ht w hw0 hst hid
 rw[List.mem_append,List.mem_singleton]at ht
 rcases ht with ht|rfl
 ·exact h t ht w hw0 hst hid
 rcases hw w hw0 hst with h1|h1
 ·have:w=k:=sH hs h1 hk hid
  subst this
  exact hd hst
 exact h1
theorem WP.up {L0 L:List KY} {c:CF} {now:W32} (h:WP L0 c now L) (hs:SL L) {k:KY} (hk:k∈L) (f:KY→KY) (hd:k.st=0→bhV k.since c.pr c.kt≤now):WP L0 c now (upK k.id f L):=by
 intro w hw hst
 rcases h w hw hst with h1|h1
 ·by_cases e:w.id=k.id
  ·have:w=k:=sH hs h1 hk e
   subst this
   exact .inr (hd hst)
  exact .inl (bFh h1 e)
 exact .inr h1
theorem WP.rm {L0 L:List KY} {c:CF} {now:W32} (h:WP L0 c now L) (hs:SL L) {k:KY} (hk:k∈L) (hd:k.st=0→bhV k.since c.pr c.kt≤now):WP L0 c now (rmK k.id L):=by
 intro w hw hst
 rcases h w hw hst with h1|h1
 ·by_cases e:w.id=k.id
  ·have:w=k:=sH hs h1 hk e
   subst this
   exact .inr (hd hst)
  exact .inl (cIl h1 e)
 exact .inr h1
theorem bSe (L:List KY):L.find? aFh=(lH 0 L).find? fun k=>decide (k.st=1):=by
 unfold lH
 rw[List.find?_filter]
 congr 1
 funext y
 simp[aFh]
theorem bHu {L:List KY} (h: ∀k∈L,k.role=0∨k.role=1) (id:W32) (st:Int) (now:W32): ∀k∈upK id (fun k=> {k with st:=st,since:=now}) L,k.role=0∨k.role=1:=by
 intro k hk
 rw[upK,List.mem_map]at hk
 obtain⟨x,hx,rfl⟩:=hk
 split
 ·exact h x hx
 exact h x hx
theorem cTj {C:RC} {M:MC} {L0:List KY} {D:DU} {now:W32} {out:List KY} (h:RM C M) (hi:INV M.L) (hD:qV M.L M.c=D) (hdue:Due M.L M.c D) (hw:D.w≤now) (hid:D.id≠0#32)
  (hwp:WP L0 M.c now M.L) (hop:OP L0 M.c now out) (hsb:SB now M.L):
  ∃x C',jS D.id M.L=some x∧(∀f,jF M.c (f+1) C now out=jF M.c f C' now ((kD M x D now out).2++[tkV x D.st now]))∧RM C' (kG (kD M x D now out).1 D.id D.st now).2∧INV (kG (kD M x D now out).1 D.id D.st now).2.L∧
   mu (kG (kD M x D now out).1 D.id D.st now).2.L<mu M.L∧WP L0 M.c now (kG (kD M x D now out).1 D.id D.st now).2.L∧OP L0 M.c now ((kD M x D now out).2++[tkV x D.st now])∧SB now (kG (kD M x D now out).1 D.id D.st now).2.L:=by
 have hnx:nxV (iP C) M.c=D:=by rw[h.l,aWf hi,hD]
 have hs:=hi.sl
 have hgo: ∀f,jF M.c (f+1) C now out=aK (if D.st=1 then yN (lH 0 (iP C)) C now out else some (out,C)) fun p=>aK (iK D.id p.2.by') fun k=>jF M.c f (tnV p.2 D.id D.st now).2 now (p.1++[tkV k D.st now]):=by
  intro f
  rw[jF,hnx,J3 (fun e=>e.elim hid (fun e=>e hw))]
 have zk: ∀ {z k:KY},z∈lH 0 M.L→k∈lH 1 M.L→k.id≠z.id:=by
  intro z k hz hk e
  have h1:=jU.1 hz
  have h2:=jU.1 hk
  have:=sH hs h2.1 h1.1 e
  subst this
  omega
 rcases hdue with⟨a,b,e,ha,hb,rfl⟩|⟨a,b,e,ha,hb,rfl⟩|⟨a,b,e,ha,ha2,hb,hb2,rfl⟩|⟨a,b,e,ha,hb,hb2,rfl⟩
 ·-- a Zsk takes over
  have haL:a∈M.L:=(jU.1 (by rw[e];simp:a∈lH 0 M.L)).1
  have hbL:b∈M.L:=(jU.1 (by rw[e];simp:b∈lH 0 M.L)).1
  have hbr:b.role=0:=(jU.1 (by rw[e];simp:b∈lH 0 M.L)).2
  have hne:a.id≠b.id:=fun x=>by have:=sH hs haL hbL x;subst this;omega
  have fa:=jX hs haL
  have fb:=jX hs hbL
  have hact:M.L.find? aFh=some a:=by rw[bSe,e,List.find?_cons,J5 ha]
  have hA:kD M b ⟨b.id,1,bhV b.since M.c.pr M.c.kt⟩ now out=((kG M a.id 3 now).2,out++[tkV a 3 now]):=by
   unfold kD
   rw[J4 ⟨hbr,rfl⟩]
   unfold aIo
   rw[hact]
  have r1:=vY hs fa 3 now
  rw[J3 (by omega),J3 (by omega)]at r1
  have s1:=qU hs a.id 3 now
  have fb1:jS b.id (kG M a.id 3 now).2.L=some b:=by
   rw[r1,bNg,fb]
   simp only[Option.map_some,J3 (Ne.symm hne)]
  have r2:=vY s1 fb1 1 now
  rw[J3 (by omega),J3 (by omega),r1]at r2
  have t1:=(h.turn a.id 3 now).2
  have t2:=(t1.turn b.id 1 now).2
  have hc1:=(aJi M a.id 3 now).2.1
  have ha1:a∈M.L:=haL
  have hwa:=hwp.up hs haL (fun k=> {k with st:=3,since:=now}) (fun x=>by omega)
  have hb1:b∈upK a.id (fun k=> {k with st:=3,since:=now}) M.L:=bFh hbL (Ne.symm hne)
  have hs1:SL (upK a.id (fun k=> {k with st:=3,since:=now}) M.L):=r1▸s1
  refine⟨b,_,fb,fun f=>?_,by rw[hA];exact t2,?_,?_,?_,?_,?_⟩
  ·rw[hgo,J4 rfl,h.l,e,yN,J4 ha,h.get,fa,aX,yN,J3 (by omega),yN,aX]
   simp only[]
   rw[t1.get,fb1,aX,hA]
  ·rw[hA]
   simp only[]
   refine⟨qU s1 _ _ _,by rw[r2];exact bHu (bHu hi.rl _ _ _) _ _ _,?_,?_⟩
   ·rw[r2,kR,kR,e]
    simp only[upK,List.map_cons,List.map_nil,J4,J3 (Ne.symm hne),J3 hne]
    exact .inr ⟨_,_,rfl,.inr ⟨rfl,rfl⟩⟩
   ·rw[r2,kR,kR,aAq (id:=a.id) (fun k hk=>zk (by rw[e];simp) hk),aAq (fun k hk=>zk (by rw[e];simp) hk)]
    exact hi.k
  ·rw[hA]
   simp only[]
   unfold mu
   rw[r2,kR,kR,kR,kR,aAq (id:=a.id) (fun k hk=>zk (by rw[e];simp) hk),aAq (L:=lH 1 M.L) (fun k hk=>zk (by rw[e];simp) hk),e]
   simp only[upK,List.map_cons,List.map_nil,J4,J3 (Ne.symm hne),J3 hne,zmu,hb]
   rw[J3 (show¬(1:Int)=0 by decide)]
   omega
  ·rw[hA]
   simp only[]
   rw[r2]
   exact hwa.up hs1 hb1 _ (fun _=>hw)
  ·rw[hA]
   simp only[]
   exact(hop.push hwp hs haL 3 (fun x=>by omega)).push hwa hs1 hb1 1 (fun _=>hw)
  ·rw[hA]
   simp only[]
   rw[r2]
   exact(hsb.up _ _).up _ _
 ·-- the old Zsk goes
  have haL:a∈M.L:=(jU.1 (by rw[e];simp:a∈lH 0 M.L)).1
  have hbL:b∈M.L:=(jU.1 (by rw[e];simp:b∈lH 0 M.L)).1
  have hne:a.id≠b.id:=fun x=>by have:=sH hs haL hbL x;subst this;omega
  have fa:=jX hs haL
  have hA:kD M a ⟨a.id,4,bhV a.since M.c.pr M.c.mx⟩ now out=(M,out):=J3 (fun x=>absurd x.2 (show¬(4:Int)=1 by decide))
  have r1:=vY hs fa 4 now
  rw[J3 (by omega),J4 rfl]at r1
  have t1:=(h.turn a.id 4 now).2
  refine⟨a,_,fa,fun f=>?_,by rw[hA];exact t1,?_,?_,?_,?_,?_⟩
  ·rw[hgo,J3 (show¬(4:Int)=1 by decide),aX]
   simp only[]
   rw[h.get,fa,aX,hA]
  ·rw[hA]
   simp only[]
   refine⟨qU hs _ _ _,by rw[r1];exact fun k hk=>hi.rl k ((List.mem_filter.1 hk).1),?_,?_⟩
   ·rw[r1,oY,e]
    refine .inl ⟨b,?_,hb⟩
    simp[rmK,Ne.symm hne]
   ·rw[r1,oY,aVl (fun k hk=>zk (by rw[e];simp) hk)]
    exact hi.k
  ·rw[hA]
   simp only[]
   unfold mu
   rw[r1,oY,oY,aVl (L:=lH 1 M.L) (fun k hk=>zk (by rw[e];simp) hk),e]
   have:rmK a.id [a,b]=[b]:=by simp[rmK,Ne.symm hne]
   rw[this]
   simp only[zmu]
   rw[J3 (by omega)]
   omega
  ·rw[hA];simp only[];rw[r1];exact hwp.rm hs haL (fun x=>by omega)
  ·rw[hA];exact hop.push hwp hs haL 4 (fun x=>by omega)
  ·rw[hA];simp only[];rw[r1];exact hsb.rm _
 ·-- a Ksk is Ready
  have haL:a∈M.L:=(jU.1 (by rw[e];simp:a∈lH 1 M.L)).1
  have hbL:b∈M.L:=(jU.1 (by rw[e];simp:b∈lH 1 M.L)).1
  have hbr:b.role=1:=(jU.1 (by rw[e];simp:b∈lH 1 M.L)).2
  have hne:a.id≠b.id:=fun x=>by have:=sH hs haL hbL x;subst this;omega
  have fb:=jX hs hbL
  have hA:kD M b ⟨b.id,2,bhV b.since M.c.pr M.c.kt⟩ now out=(M,out):=J3 (fun x=>absurd x.2 (show¬(2:Int)=1 by decide))
  have r1:=vY hs fb 2 now
  rw[J3 (by omega),J3 (by omega)]at r1
  have t1:=(h.turn b.id 2 now).2
  have hz0: ∀k∈lH 0 M.L,k.id≠b.id:=fun k hk=>Ne.symm (zk hk (by rw[e];simp))
  refine⟨b,_,fb,fun f=>?_,by rw[hA];exact t1,?_,?_,?_,?_,?_⟩
  ·rw[hgo,J3 (show¬(2:Int)=1 by decide),aX]
   simp only[]
   rw[h.get,fb,aX,hA]
  ·rw[hA]
   simp only[]
   refine⟨qU hs _ _ _,by rw[r1];exact bHu hi.rl _ _ _,?_,?_⟩
   ·rw[r1,kR,aAq hz0]
    exact hi.z
   ·rw[r1,kR,e]
    simp only[upK,List.map_cons,List.map_nil,J4,J3 hne]
    exact .inr ⟨_,_,rfl,ha,ha2,.inr rfl⟩
  ·rw[hA]
   simp only[]
   unfold mu
   rw[r1,kR,kR,aAq hz0,e]
   simp only[upK,List.map_cons,List.map_nil,J4,J3 hne,kmu,hb]
   rw[J3 (fun x=>x.elim (fun x=>absurd x (show¬(2:Int)=1 by decide)) (fun x=>x hb2)),J4 (.inl trivial)]
   omega
  ·rw[hA];simp only[];rw[r1];exact hwp.up hs hbL _ (fun x=>by omega)
  ·rw[hA];exact hop.push hwp hs hbL 2 (fun x=>by omega)
  ·rw[hA];simp only[];rw[r1];exact hsb.up _ _
 ·-- the old Ksk goes
  have haL:a∈M.L:=(jU.1 (by rw[e];simp:a∈lH 1 M.L)).1
  have hbL:b∈M.L:=(jU.1 (by rw[e];simp:b∈lH 1 M.L)).1
  have har:a.role=1:=(jU.1 (by rw[e];simp:a∈lH 1 M.L)).2
  have hsk:=hs.role 1
  rw[e]at hsk
  have hne:a.id≠b.id:=fun x=>by have:=(List.pairwise_cons.1 hsk).1 b (by simp);rw[x]at this;exact absurd this (Nat.lt_irrefl _)
  have fa:=jX hs haL
  have hA:kD M a ⟨a.id,4,bhV b.seen M.c.dp M.c.dt⟩ now out=(M,out):=J3 (fun x=>absurd x.2 (show¬(4:Int)=1 by decide))
  have r1:=vY hs fa 4 now
  rw[J3 (by omega),J4 rfl]at r1
  have t1:=(h.turn a.id 4 now).2
  have hz0: ∀k∈lH 0 M.L,k.id≠a.id:=fun k hk=>Ne.symm (zk hk (by rw[e];simp))
  have hrk:rmK a.id [a,b]=[b]:=by simp[rmK,Ne.symm hne]
  refine⟨a,_,fa,fun f=>?_,by rw[hA];exact t1,?_,?_,?_,?_,?_⟩
  ·rw[hgo,J3 (show¬(4:Int)=1 by decide),aX]
   simp only[]
   rw[h.get,fa,aX,hA]
  ·rw[hA]
   simp only[]
   refine⟨qU hs _ _ _,by rw[r1];exact fun k hk=>hi.rl k ((List.mem_filter.1 hk).1),?_,?_⟩
   ·rw[r1,oY,aVl hz0]
    exact hi.z
   ·rw[r1,oY,e,hrk]
    exact .inl ⟨b,rfl,hb,hb2⟩
  ·rw[hA]
   simp only[]
   unfold mu
   rw[r1,oY,oY,aVl hz0,e,hrk]
   simp only[kmu]
   rw[J4 (.inr hb2)]
   omega
  ·rw[hA];simp only[];rw[r1];exact hwp.rm hs haL (fun x=>by omega)
  ·rw[hA];exact hop.push hwp hs haL 4 (fun x=>by omega)
  ·rw[hA];simp only[];rw[r1];exact hsb.rm _
theorem aFm {L0:List KY} {now:W32}: ∀(n:Nat) {C:RC} {M:MC} {out:List KY} (f l nn:Nat),mu M.L≤n→n<f→RM C M→INV M.L→WP L0 M.c now M.L→OP L0 M.c now out→SB now M.L→
  ∃out' C' M' l',jF M.c f C now out=some (out',C')∧pN M.c f M l nn now out=some (out',M',l')∧RM C' M'∧INV M'.L∧OP L0 M.c now out'∧SB now M'.L∧M'.c=M.c∧M'.q=M.q∧M'.last=M.last∧(l'=l∨nn≤l')∧l'≤l+nn+100000*f∧out'.length≤out.length+2*f∧(l'=l∨l'<nn+100000*f)
 |n,C,M,out,0,l,nn,_,hf,_,_,_,_,_=>by omega
 |n,C,M,out,f+1,l,nn,hm,hf,h,hi,hwp,hop,hsb=>by
  obtain⟨D,hD⟩: ∃D,qV M.L M.c=D:=⟨_,rfl⟩
  have hnx:nxV (iP C) M.c=D:=by rw[h.l,aWf hi,hD]
  by_cases hstop:D.id=0#32∨now<D.w
  ·refine⟨out,C,M,l,?_,?_,h,hi,hop,hsb,rfl,rfl,rfl,.inl rfl,by omega,by omega,.inl rfl⟩
   ·rw[jF,hnx,J4]
    rcases hstop with x|x
    ·exact .inl x
    ·exact .inr (by rw[BitVec.le_def];rw[BitVec.lt_def]at x;omega)
   ·rw[pN,hD,J4 hstop]
  ·have hid:D.id≠0#32:=fun x=>hstop (.inl x)
   have hw:D.w≤now:=by
    have: ¬now<D.w:=fun x=>hstop (.inr x)
    rw[BitVec.lt_def]at this
    rw[BitVec.le_def];omega
   have hdue:Due M.L M.c D:=by
    rcases cLb hi M.c with x|x
    ·rw[hD]at x;rw[x]at hid;exact absurd rfl hid
    ·rw[hD]at x;exact x
   obtain⟨x,C',q1,q2,q3,q4,q5,q6,q7,q8⟩:=cTj h hi hD hdue hw hid hwp hop hsb
   obtain⟨p1,p2,p3,p4,p5,p6⟩:=aVm hi.sl x D now out
   obtain⟨v1,v2,v3⟩:=aJi (kD M x D now out).1 D.id D.st now
   have hle:=hi.le4
   have hl2:=aGq (kD M x D now out).1 D.id D.st l (nn+50000)
   have hc:(kG (kD M x D now out).1 D.id D.st now).2.c=M.c:=v2.trans p4
   obtain⟨n,rfl⟩: ∃n',n=n'+1:=⟨n-1,by omega⟩
   obtain⟨out',C'',M'',l'',w1,w2,w3,w4,w5,w6,w7,w8,w9,w10,w11,w12,w13⟩:=aFm (L0:=L0) (now:=now) n (C:=C') (M:=(kG (kD M x D now out).1 D.id D.st now).2) (out:=(kD M x D now out).2++[tkV x D.st now]) f (mtL (kD M x D now out).1 D.id D.st l (nn+50000)) (nn+100000) (by omega) (by omega) q3 q4 (by rw[hc];exact q6) (by rw[hc];exact q7) q8
   rw[hc]at w1 w2 w5 w7
   have hlen:((kD M x D now out).2++[tkV x D.st now]).length=(kD M x D now out).2.length+1:=by rw[List.length_append];rfl
   refine⟨out',C'',M'',l'',?_,?_,w3,w4,w5,w6,w7,w8.trans (v1.trans p3),w9.trans (v3.trans p5),by omega,by omega,by omega,by omega⟩
   ·rw[q2];exact w1
   ·rw[pN,hD,J3 hstop,q1,aX,cU _ (by omega)]
    exact w2
end Go.AX

namespace Go.AX
open Go Go.Proofs
set_option maxRecDepth 8000
theorem aFx (r:Int) (L:List KY) (k:KY):lH r (L++[k])=lH r L++if k.role=r then[k]else[]:=by
 unfold lH
 rw[List.filter_append]
 congr 1
 by_cases h:k.role=r
 ·rw[J4 h];simp[h]
 rw[J3 h];simp[h]
theorem INV.rl1 {L:List KY} (h:INV L):(lH 0 L).length=1∨(lH 0 L).length=2:=by
 rcases h.z with⟨a,e,_⟩|⟨a,b,e,_⟩<;>rw[e]
 ·exact .inl rfl
 exact .inr rfl
theorem INV.rl2 {L:List KY} (h:INV L):(lH 1 L).length=1∨(lH 1 L).length=2:=by
 rcases h.k with⟨a,e,_⟩|⟨a,b,e,_⟩<;>rw[e]
 ·exact .inl rfl
 exact .inr rfl
theorem INV.add {L:List KY} (h:INV L) {k:KY} (hlt: ∀x∈L,x.id.toNat<k.id.toNat) (hk:(k.role=0∧k.st=0∧(lH 0 L).length=1)∨(k.role=1∧k.st=1∧k.seen=0#32∧(lH 1 L).length=1)):INV (L++[k]):=by
 refine⟨bSh h.sl hlt,fun x hx=>?_,?_,?_⟩
 ·rw[List.mem_append,List.mem_singleton]at hx
  rcases hx with hx|rfl
  ·exact h.rl x hx
  rcases hk with h|h
  ·exact .inl h.1
  exact .inr h.1
 ·rw[aFx]
  rcases hk with⟨h1,h2,h3⟩|⟨h1,h2,h3,h4⟩
  ·rw[J4 h1]
   rcases h.z with⟨a,e,ha⟩|⟨a,b,e,_⟩
   ·rw[e];exact .inr ⟨a,k,rfl,.inl ⟨ha,h2⟩⟩
   rw[e]at h3;exact absurd h3 (show¬2=1 by decide)
  rw[J3 (by omega),List.append_nil];exact h.z
 rw[aFx]
 rcases hk with⟨h1,h2,h3⟩|⟨h1,h2,h3,h4⟩
 ·rw[J3 (by omega),List.append_nil];exact h.k
 rw[J4 h1]
 rcases h.k with⟨a,e,ha,hb⟩|⟨a,b,e,_⟩
 ·rw[e];exact .inr ⟨a,k,rfl,ha,hb,.inl ⟨h2,h3⟩⟩
 rw[e]at h4;exact absurd h4 (show¬2=1 by decide)
theorem cRf {C:RC} {M:MC} (h:RM C M) (hi:INV M.L) (hl:M.last.toNat<1000000) (hh:M.c.h≤10) (role st:Int) (hr:(role=0∧st=0)∨(role=1∧st=1)) (hn:(lH role M.L).length=1) (sd:S8) (now:W32):
  (bgV C role sd now).2.2=(mkV C role sd st now).2.2∧nK M role sd st now=(M.last+1#32,0,some (aEj M (wA M role sd st now)))∧RM (mkV C role sd st now).2.2 (aEj M (wA M role sd st now))∧INV (aEj M (wA M role sd st now)).L:=by
 have h4:=hi.le4
 have em:nK M role sd st now=(M.last+1#32,0,some (aEj M (wA M role sd st now))):=by
  unfold nK
  rw[J3 (by omega),J3 (by omega)]
 obtain⟨m1,m2,m3⟩:=h.mk' (by rw[h.last];exact hl) (by rw[h.c];exact hh) role sd st now
 rw[em]at m1 m2 m3
 refine⟨?_,em,m3,?_⟩
 ·have eb:bgS role 1=some st:=by
   rcases hr with⟨rfl,rfl⟩|⟨rfl,rfl⟩<;>rfl
  unfold bgV
  rw[J3 (by omega),h.l,hn,eb]
  simp only[]
  rw[J3 (by rw[m2];simp),J3 (by omega)]
 ·refine hi.add (fun x hx=>?_) ?_
  ·have:=h.le hx
   show _<(M.last+1#32).toNat
   rw[BitVec.toNat_add]
   show _<(M.last.toNat+1)%4294967296
   omega
  ·rcases hr with⟨rfl,rfl⟩|⟨rfl,rfl⟩
   ·exact .inl ⟨rfl,rfl,hn⟩
   ·exact .inr ⟨rfl,rfl,rfl,hn⟩
theorem aXw {C:RC} {M:MC} (h:RM C M) (hi:INV M.L) (hl:M.last.toNat<1000000) (hh:M.c.h≤10) (role:Int) (sd:S8) (now:W32):
  ∃o:Option MC,(nL M role sd now).2.2=o∧RM (bgV C role sd now).2.2 (o.getD M)∧INV (o.getD M).L∧(o.getD M).c=M.c∧(o.getD M).q=M.q∧(o.getD M).last.toNat≤M.last.toNat+1∧(SB now M.L→SB now (o.getD M).L):=by
 have fin: ∀st,(role=0∧st=0)∨(role=1∧st=1)→(lH role M.L).length=1→(nL M role sd now).2.2=(nK M role sd st now).2.2→∃o:Option MC,(nL M role sd now).2.2=o∧RM (bgV C role sd now).2.2 (o.getD M)∧INV (o.getD M).L∧(o.getD M).c=M.c∧(o.getD M).q=M.q∧(o.getD M).last.toNat≤M.last.toNat+1∧(SB now M.L→SB now (o.getD M).L):=by
  intro st hr hn e
  obtain⟨a1,a2,a3,a4⟩:=cRf h hi hl hh role st hr hn sd now
  rw[e,a2]
  refine⟨_,rfl,by rw[a1];exact a3,a4,rfl,rfl,?_,fun hs k hk=>?_⟩
  ·show(M.last+1#32).toNat≤_
   rw[BitVec.toNat_add]
   show(M.last.toNat+1)%4294967296≤_
   omega
  ·rcases List.mem_append.1 hk with hk|hk
   ·exact hs k hk
   ·rw[List.mem_singleton]at hk;subst hk;exact U3 _
 have two: ∀e:Int,(role=0∨role=1)→(lH role M.L).length=2→∃o:Option MC,(nL M role sd now).2.2=o∧RM (bgV C role sd now).2.2 (o.getD M)∧INV (o.getD M).L∧(o.getD M).c=M.c∧(o.getD M).q=M.q∧(o.getD M).last.toNat≤M.last.toNat+1∧(SB now M.L→SB now (o.getD M).L):=by
  intro e hr hn
  have e1:nL M role sd now=(0#32,140,none):=by unfold nL;rw[J3 (by omega),J4 (by omega)]
  have e2:bgV C role sd now=(0#32,140,C):=by
   unfold bgV
   rw[J3 (by omega),h.l,hn]
   rfl
  rw[e1,e2]
  exact⟨none,rfl,h,hi,rfl,rfl,Nat.le_succ _,id⟩
 by_cases h0:role=0
 ·subst h0
  rcases hi.rl1 with hn|hn
  ·exact fin 0 (.inl ⟨rfl,rfl⟩) hn (by unfold nL;rw[J3 (by omega),J3 (by omega)];rfl)
  ·exact two 0 (.inl rfl) hn
 ·by_cases h1:role=1
  ·subst h1
   rcases hi.rl2 with hn|hn
   ·exact fin 1 (.inr ⟨rfl,rfl⟩) hn (by unfold nL;rw[J3 (by omega),J3 (by omega)];rfl)
   ·exact two 0 (.inr rfl) hn
  ·have e1:nL M role sd now=(0#32,131,none):=J4 ⟨h0,h1⟩
   have e2:bgV C role sd now=(0#32,131,C):=J4 ⟨h0,h1⟩
   rw[e1,e2]
   exact⟨none,rfl,h,hi,rfl,rfl,Nat.le_succ _,id⟩
theorem bIc (Q:QT) (t:TK) (n:Nat):(oA Q t n).R.length≤Q.R.length+1:=by
 by_cases hm:t∈Q.R
 ·rw[sD hm];omega
 rw[qQ hm];simp
theorem aCj {Ln:Nat} {tag:BitVec 16} {nx:Nat} {Q0:QT} (hLn:Ln≤50): ∀(L:List KY) (n:Nat) {Q:QT},(∀x∈L,x.h≤10)→Q.R.length+L.length≤100→nx≤n→QI Q0 nx n Q→
  ∃Q',zS Ln tag L n Q=some ((lH 1 L).find? fun x=>decide (pL (dkB x)=tag),Q')∧QI Q0 nx (n+60000*L.length) Q'∧Q'.R.length≤Q.R.length+L.length
 |[],n,Q,_,_,_,hq=>⟨Q,rfl,hq,U3 _⟩
 |x::r,n,Q,hh,hQ,hn,hq=>by
  rw[List.length_cons]at hQ
  have hr3:rdN x≤3:=by unfold rdN;split<;>omega
  by_cases hx:x.role=1
  ·have eR:lH 1 (x::r)=x::lH 1 r:=by unfold lH;rw[List.filter_cons_of_pos (by simp[hx])]
   rw[zS,J4 hx,cU _ ⟨hh x (by simp),by omega⟩,eR,List.find?_cons]
   have q1:QI Q0 nx (n+192+rdN x+60*Ln+100*Q.R.length+24) (oA Q ⟨x.seed,x.h⟩ (n+192+rdN x+60*Ln+100*Q.R.length)):=hq.add _ (by omega) (by omega)
   have hl:=bIc Q ⟨x.seed,x.h⟩ (n+192+rdN x+60*Ln+100*Q.R.length)
   by_cases e:pL (dkB x)=tag
   ·rw[J4 e,J5 e]
    exact⟨_,rfl,q1.up (by rw[List.length_cons];omega),by rw[List.length_cons];omega⟩
   ·rw[J3 e,J6 e]
    obtain⟨Q',a1,a2,a3⟩:=aCj hLn r (n+60000) (fun y hy=>hh y (by simp[hy])) (by omega) (by omega) (q1.up (by omega))
    exact⟨Q',a1,a2.up (by rw[List.length_cons];omega),by rw[List.length_cons];omega⟩
  ·have eR:lH 1 (x::r)=lH 1 r:=by unfold lH;rw[List.filter_cons_of_neg (by simp[hx])]
   rw[zS,J3 hx,eR]
   obtain⟨Q',a1,a2,a3⟩:=aCj hLn r (n+60000) (fun y hy=>hh y (by simp[hy])) (by omega) (by omega) (hq.up (by omega))
   exact⟨Q',a1,a2.up (by rw[List.length_cons];omega),by rw[List.length_cons];omega⟩
theorem RM.h {C:RC} {M:MC} (h:RM C M) {x:KY} (hx:x∈M.L):x.h≤10:=(h.ok.key x.id x (by rw[h.get];exact jX h.sl hx)).2.1
theorem aVj (r:Int) (id sn:W32) (L:List KY):lH r (upK id (fun k=> {k with seen:=sn}) L)=upK id (fun k=> {k with seen:=sn}) (lH r L):=aVi r id (fun k=> {k with seen:=sn}) (fun _=>rfl) L
theorem bXb {M:MC} (hi:INV M.L) (id now:W32):INV (mX M id now).2.L∧(mX M id now).2.c=M.c∧(mX M id now).2.q=M.q∧(mX M id now).2.last=M.last∧(∀t,SB t M.L→SB t (mX M id now).2.L):=by
 rcases kX M.L id with⟨h1,h2⟩|⟨i,h1,h2,h3,h4⟩
 ·have e2:mX M id now=(130,M):=by unfold mX;rw[h1,J4 (by decide)]
  rw[e2];exact⟨hi,rfl,rfl,rfl,fun _ h=>h⟩
 have e2:mX M id now=if(kyA M.L i).role≠1∨(kyA M.L i).st≠2∨(kyA M.L i).seen≠0#32 then(131,M)else(0,aNk M i now):=by
  unfold mX
  rw[h2,J3 (by omega),U2]
 rw[e2]
 split
 ·exact⟨hi,rfl,rfl,rfl,fun _ h=>h⟩
 rename_i hc
 have c1:(kyA M.L i).role=1:=Classical.byContradiction fun x=>hc (.inl x)
 have c2:(kyA M.L i).st=2:=Classical.byContradiction fun x=>hc (.inr (.inl x))
 have c3:(kyA M.L i).seen=0#32:=Classical.byContradiction fun x=>hc (.inr (.inr x))
 have hs:=hi.sl
 have eL:(aNk M i now).L=upK (kyA M.L i).id (fun k=> {k with seen:=mx1 now}) M.L:=bGt hs h1 (fun k=> {k with seen:=mx1 now})
 have hmem:kyA M.L i∈M.L:=(nB h4).1
 generalize kyA M.L i=k at*
 have hk1:k∈lH 1 M.L:=jU.2 ⟨hmem,c1⟩
 have hz0: ∀z∈lH 0 M.L,z.id≠k.id:=fun z hz e=>by
  have h1:=jU.1 hz
  have:=sH hs h1.1 hmem e
  subst this;omega
 have hm1:=jH now
 refine⟨⟨?_,?_,?_,?_⟩,rfl,rfl,rfl,fun t ht=>?_⟩
 ·rw[eL]
  exact(List.pairwise_map.2 (hs.imp fun {a b} h=>by
   have e: ∀c:KY,(if c.id=k.id then {c with seen:=mx1 now} else c:KY).id=c.id:=fun c=>by split<;>rfl
   rw[e,e];exact h))
 ·rw[eL]
  intro x hx
  rw[upK,List.mem_map]at hx
  obtain⟨y,hy,rfl⟩:=hx
  split
  ·exact hi.rl y hy
  exact hi.rl y hy
 ·rw[eL,aVj,aAq hz0];exact hi.z
 ·rw[eL,aVj]
  rcases hi.k with⟨x,e,x1,x2⟩|⟨x,y,e,x1,x2,x3⟩
  ·rw[e,List.mem_singleton]at hk1
   subst hk1
   exact absurd c3 x2
  have hsk:=hs.role 1
  rw[e]at hsk hk1⊢
  have hne:x.id≠y.id:=fun q=>by have:=(List.pairwise_cons.1 hsk).1 y (by simp);rw[q]at this;exact absurd this (Nat.lt_irrefl _)
  simp only[List.mem_cons,List.not_mem_nil,or_false]at hk1
  rcases hk1 with rfl|rfl
  ·exact absurd c3 x2
  simp only[upK,List.map_cons,List.map_nil,J4,J3 hne]
  exact .inr ⟨x,_,rfl,x1,x2,.inr c2⟩
 rw[eL]
 intro x hx
 rw[upK,List.mem_map]at hx
 obtain⟨y,hy,rfl⟩:=hx
 split
 ·exact ht y hy
 exact ht y hy
theorem bUt {M:MC} (hi:INV M.L) (now:W32): ∀o:Option KY,INV (zQ M now o).2.L∧(zQ M now o).2.c=M.c∧(zQ M now o).2.q=M.q∧(zQ M now o).2.last=M.last∧(∀t,SB t M.L→SB t (zQ M now o).2.L)
 |none=>⟨hi,rfl,rfl,rfl,fun _ h=>h⟩
 |some x=>bXb hi x.id now
def bH (d s m:Nat) (C:RC) (e l:Nat) (M:MC) (q:Nat) (Q:QT):H:=iL d s m C (iZ e l M (setQ q Q (fun _=>none)))
structure AP (d s m e l q:Nat) (Q:QT):Prop where
 r:d≠s∧d≠m∧s≠m
 el:e≠l
 ed:e≠d∧e≠s∧e≠m
 ld:l≠d∧l≠s∧l≠m
 qd:d≠q∧s≠q∧m≠q
 sep:aFi q e l Q
 ok:QOk q Q
 qr:Q.R≠[]→d≠Q.a∧d≠Q.b∧d≠Q.c∧s≠Q.a∧s≠Q.b∧s≠Q.c∧m≠Q.a∧m≠Q.b∧m≠Q.c
theorem rK {d s m e l q:Nat} {Q:QT} (h:AP d s m e l q Q) (C:RC) (M:MC):iN (bH d s m C e l M q Q) d=some ⟨s,m,C⟩:=aVk _ _ _ _ _ h.r.1 h.r.2.1 h.r.2.2
theorem aDm {d s m e l q:Nat} {Q:QT} (h:AP d s m e l q Q) (C:RC) (M:MC):kH (bH d s m C e l M q Q) e=some ⟨l,M⟩:=aNl _ _ _ _ _ _ _ _ h.el h.ed.1 h.ed.2.1 h.ed.2.2 h.ld.1 h.ld.2.1 h.ld.2.2
theorem bRh {d s m e l q:Nat} {Q:QT} (h:AP d s m e l q Q) (C:RC) (M:MC):qOf (bH d s m C e l M q Q) q=some Q:=by
 refine aIt ?_
 have hx:=vS (aMt (hp:=fun _=>none) (M:=M) h.ok h.sep)
 unfold bH iL
 exact((hx.upd s _ h.qd.2.1 (fun z=>⟨(h.qr z).2.2.2.1,(h.qr z).2.2.2.2.1,(h.qr z).2.2.2.2.2.1⟩)).upd m _ h.qd.2.2 (fun z=>⟨(h.qr z).2.2.2.2.2.2.1,(h.qr z).2.2.2.2.2.2.2.1,(h.qr z).2.2.2.2.2.2.2.2⟩)).upd d _ h.qd.1 (fun z=>⟨(h.qr z).1,(h.qr z).2.1,(h.qr z).2.2.1⟩)
theorem aAl (d s m e l q:Nat) (Q:QT) (C C':RC) (M:MC):iL d s m C' (bH d s m C e l M q Q)=bH d s m C' e l M q Q:=rZ _ _ _ _ _ _
theorem aZf {q:Nat} {Q:QT} {k:Nat} (h:k≠q) (h1:Q.R≠[]→k≠Q.a∧k≠Q.b∧k≠Q.c):del (setQ q Q (fun _=>none)) k=setQ q Q (fun _=>none):=by
 funext j
 rw[eV]
 split
 ·rename_i e;rw[e,jZ _ _ _ _ h h1]
 rfl
theorem cDs {d s m e l q:Nat} {Q:QT} (h:AP d s m e l q Q) (C:RC) (M M':MC):iZ e l M' (bH d s m C e l M q Q)=bH d s m C e l M' q Q:=by
 unfold bH
 rw[tC _ _ _ _ _ _ _ _ h.ed.1 h.ed.2.1 h.ed.2.2 h.ld.1 h.ld.2.1 h.ld.2.2,sA]
theorem aQf {d s m e l q:Nat} {Q:QT} (h:AP d s m e l q Q) (C:RC) (M M':MC) {l':Nat} (hl:l'≠d∧l'≠s∧l'≠m):iZ e l' M' (del (bH d s m C e l M q Q) l)=bH d s m C e l' M' q Q:=by
 unfold bH
 rw[pY _ _ _ _ _ _ h.ld.1 h.ld.2.1 h.ld.2.2,tC _ _ _ _ _ _ _ _ h.ed.1 h.ed.2.1 h.ed.2.2 hl.1 hl.2.1 hl.2.2,xJ _ _ _ _ _ _ h.el,aZf h.sep.2.1 (fun z=>⟨(h.sep.2.2 z).2.2.2.1,(h.sep.2.2 z).2.2.2.2.1,(h.sep.2.2 z).2.2.2.2.2⟩)]
theorem aZd (hp:H) {q e l:Nat} {Q:QT} (h:aFi q e l Q) (M:MC):setQ q Q (iZ e l M hp)=iZ e l M (setQ q Q hp):=by
 unfold iZ
 rw[←pZ _ _ _ _ _ h.1 (fun z=>⟨(h.2.2 z).1,(h.2.2 z).2.1,(h.2.2 z).2.2.1⟩),←pZ _ _ _ _ _ h.2.1 (fun z=>⟨(h.2.2 z).2.2.2.1,(h.2.2 z).2.2.2.2.1,(h.2.2 z).2.2.2.2.2⟩)]
theorem aXy {d s m e l q:Nat} {Q Q':QT} (h:AP d s m e l q Q) (h':AP d s m e l q Q') (C:RC) (M:MC):setQ q Q' (jY Q (bH d s m C e l M q Q))=bH d s m C e l M q Q':=by
 have h1:jY Q (bH d s m C e l M q Q)=iL d s m C (iZ e l M (jY Q (setQ q Q (fun _=>none)))):=by
  unfold jY bH
  by_cases z:Q.R=[]
  ·rw[J4 z,J4 z]
  rw[J3 z,J3 z]
  obtain⟨a1,a2,a3,b1,b2,b3,c1,c2,c3⟩:=h.qr z
  obtain⟨e1,e2,e3,l1,l2,l3⟩:=h.sep.2.2 z
  rw[pY _ _ _ _ _ _ (Ne.symm a1) (Ne.symm b1) (Ne.symm c1),pY _ _ _ _ _ _ (Ne.symm a2) (Ne.symm b2) (Ne.symm c2),pY _ _ _ _ _ _ (Ne.symm a3) (Ne.symm b3) (Ne.symm c3),vM _ _ _ _ _ (Ne.symm e1) (Ne.symm l1),vM _ _ _ _ _ (Ne.symm e2) (Ne.symm l2),vM _ _ _ _ _ (Ne.symm e3) (Ne.symm l3)]
 have h2:setQ q Q' (jY Q (setQ q Q (fun _=>none)))=setQ q Q' (fun _=>none):=by
  funext j
  by_cases e:j=q∨(Q'.R≠[]∧(j=Q'.a∨j=Q'.b∨j=Q'.c))
  ·unfold setQ
   by_cases z:Q'.R=[]
   ·rw[J4 z,J4 z]
    have:j=q:=e.elim id fun x=>absurd z x.1
    simp[bJ,this]
   rw[J3 z,J3 z]
   simp only[bJ]
   by_cases x1:j=q
   ·rw[J4 x1,J4 x1]
   rw[J3 x1,J3 x1]
   by_cases x2:j=Q'.c
   ·rw[J4 x2,J4 x2]
   rw[J3 x2,J3 x2]
   by_cases x3:j=Q'.b
   ·rw[J4 x3,J4 x3]
   rw[J3 x3,J3 x3]
   by_cases x4:j=Q'.a
   ·rw[J4 x4,J4 x4]
   rcases e with e|⟨_,e|e|e⟩
   ·exact absurd e x1
   ·exact absurd e x4
   ·exact absurd e x3
   exact absurd e x2
  have e1:j≠q:=fun x=>e (.inl x)
  have e2:Q'.R≠[]→j≠Q'.a∧j≠Q'.b∧j≠Q'.c:=fun z=>⟨fun x=>e (.inr ⟨z,.inl x⟩),fun x=>e (.inr ⟨z,.inr (.inl x)⟩),fun x=>e (.inr ⟨z,.inr (.inr x)⟩)⟩
  rw[jZ _ _ _ _ e1 e2,jZ _ _ _ _ e1 e2]
  rcases hh:jY Q (setQ q Q (fun _=>none)) j with _|o
  ·rfl
  obtain⟨x1,x2⟩:=qP _ _ _ _ hh
  rw[jZ _ _ _ _ e1 x2]at x1
  cases x1
 rw[h1]
 have h3:setQ q Q' (iL d s m C (iZ e l M (jY Q (setQ q Q (fun _=>none)))))=iL d s m C (setQ q Q' (iZ e l M (jY Q (setQ q Q (fun _=>none))))):=by
  unfold iL
  rw[←pZ _ _ _ _ _ h'.qd.1 (fun z=>⟨(h'.qr z).1,(h'.qr z).2.1,(h'.qr z).2.2.1⟩),←pZ _ _ _ _ _ h'.qd.2.2 (fun z=>⟨(h'.qr z).2.2.2.2.2.2.1,(h'.qr z).2.2.2.2.2.2.2.1,(h'.qr z).2.2.2.2.2.2.2.2⟩),←pZ _ _ _ _ _ h'.qd.2.1 (fun z=>⟨(h'.qr z).2.2.2.1,(h'.qr z).2.2.2.2.1,(h'.qr z).2.2.2.2.2.1⟩)]
 rw[h3,aZd _ h'.sep,h2]
 rfl
end Go.AX

namespace Go.AX
open Go Go.Proofs
set_option maxRecDepth 8000
theorem aUt {α:Type} [DecidableEq α]: ∀(R S:List α),R.Nodup→(∀t∈R,t∈S)→R.length≤S.length
 |[],_,_,_=>Nat.zero_le _
 |a::r,S,hn,hs=>by
  have ha:=hs a (by simp)
  obtain⟨h1,h2⟩:=List.nodup_cons.1 hn
  have:=aUt r (S.erase a) h2 fun t ht=>(List.mem_erase_of_ne (show t≠a from fun e=>by rw[e]at ht;exact h1 ht)).2 (hs t (by simp[ht]))
  rw[List.length_erase_of_mem ha]at this
  have:=List.length_pos_of_mem ha
  rw[List.length_cons];omega
def seS (c:CF):List TK:=[⟨⟨0#8,0#8,0#8,0#8,0#8,0#8,0#8,0#8⟩,c.h⟩,⟨⟨1#8,0#8,0#8,0#8,0#8,0#8,0#8,0#8⟩,c.h⟩,⟨⟨0#8,3#8,0#8,0#8,0#8,0#8,0#8,0#8⟩,c.h⟩,⟨⟨1#8,3#8,0#8,0#8,0#8,0#8,0#8,0#8⟩,c.h⟩,⟨⟨2#8,3#8,0#8,0#8,0#8,0#8,0#8,0#8⟩,c.h⟩,⟨⟨3#8,3#8,0#8,0#8,0#8,0#8,0#8,0#8⟩,c.h⟩,⟨⟨4#8,3#8,0#8,0#8,0#8,0#8,0#8,0#8⟩,c.h⟩]
theorem bHe (c:CF) (x:B8):(⟨⟨x%5#8,3#8,0#8,0#8,0#8,0#8,0#8,0#8⟩,c.h⟩:TK)∈seS c:=by
 have h:(x%5#8).toNat<5:=by rw[BitVec.toNat_umod];exact Nat.mod_lt _ (by decide)
 have h5:x%5#8=0#8∨x%5#8=1#8∨x%5#8=2#8∨x%5#8=3#8∨x%5#8=4#8:=by
  have h0:(x%5#8).toNat=0∨(x%5#8).toNat=1∨(x%5#8).toNat=2∨(x%5#8).toNat=3∨(x%5#8).toNat=4:=by omega
  rcases h0 with e|e|e|e|e
  ·exact .inl (BitVec.eq_of_toNat_eq e)
  ·exact .inr (.inl (BitVec.eq_of_toNat_eq e))
  ·exact .inr (.inr (.inl (BitVec.eq_of_toNat_eq e)))
  ·exact .inr (.inr (.inr (.inl (BitVec.eq_of_toNat_eq e))))
  exact .inr (.inr (.inr (.inr (BitVec.eq_of_toNat_eq e))))
 rcases h5 with e|e|e|e|e<;>rw[e]<;>simp[seS]
def KG (c:CF) (L:List KY):Prop:= ∀k∈L,(⟨k.seed,k.h⟩:TK)∈seS c
def QG (c:CF) (Q:QT):Prop:=Q.R.Nodup∧∀t∈Q.R,t∈seS c
theorem QG.len {c:CF} {Q:QT} (h:QG c Q):Q.R.length≤7:=aUt Q.R (seS c) h.1 h.2
theorem QG.add {c:CF} {Q:QT} (h:QG c Q) {t:TK} (ht:t∈seS c) (n:Nat):QG c (oA Q t n):=by
 by_cases hm:t∈Q.R
 ·rw[sD hm];exact h
 rw[qQ hm]
 refine⟨List.nodup_append.2 ⟨h.1,by simp,fun x hx y hy=>?_⟩,fun x hx=>?_⟩
 ·rw[List.mem_singleton]at hy;subst hy
  exact fun e=>hm (e▸hx)
 rcases List.mem_append.1 hx with hx|hx
 ·exact h.2 x hx
 rw[List.mem_singleton]at hx;subst hx;exact ht
theorem aSc {c:CF} {Ln:Nat} {tag:BitVec 16}: ∀(L:List KY) (n:Nat) {Q:QT} {r:Option KY×QT},KG c L→QG c Q→zS Ln tag L n Q=some r→QG c r.2
 |[],n,Q,r,_,hq,h=>by
  obtain rfl:=J0 h
  exact hq
 |x::L,n,Q,r,hk,hq,h=>by
  have hk':KG c L:=fun y hy=>hk y (by simp[hy])
  have hx:=hk x (by simp)
  rw[zS]at h
  split at h
  ·replace h:=aP h;obtain⟨_,h⟩:=h
   split at h
   ·obtain rfl:=J0 h
    exact hq.add hx _
   exact aSc L _ hk' (hq.add hx _) h
  exact aSc L _ hk' hq h
theorem KG.set {c:CF} {L:List KY} (h:KG c L) (i:Nat) (f:KY→KY) (hf: ∀k,(f k).seed=k.seed∧(f k).h=k.h):KG c (L.set i (f (kyA L i))):=by
 intro k hk
 by_cases hi:i<L.length
 ·rcases List.mem_or_eq_of_mem_set hk with hk|rfl
  ·exact h k hk
  rw[(hf _).1,(hf _).2]
  exact h _ (by rw[←kJ L i hi];exact List.getElem_mem _)
 rw[List.set_eq_of_length_le (by omega)]at hk
 exact h k hk
theorem bKk {c:CF} {M:MC} (h:KG c M.L) (id:W32) (st:Int) (now:W32):KG c (kG M id st now).2.L:=by
 unfold kG
 split
 ·exact h
 split
 ·exact h
 split
 ·intro k hk
  rcases List.mem_append.1 hk with hk|hk
  ·exact h k (List.mem_of_mem_take hk)
  exact h k (List.mem_of_mem_drop hk)
 exact h.set _ (fun k=> {k with st:=st,since:=now}) (fun _=>⟨rfl,rfl⟩)
theorem cLs {c:CF} {M:MC} (h:KG c M.L) (id now:W32):KG c (mX M id now).2.L:=by
 unfold mX
 split
 ·exact h
 split
 ·exact h
 exact h.set _ (fun k=> {k with seen:=mx1 now}) (fun _=>⟨rfl,rfl⟩)
theorem cIx {c:CF} {M:MC} (h:KG c M.L) (now:W32): ∀o:Option KY,KG c (zQ M now o).2.L
 |none=>h
 |some x=>cLs h x.id now
theorem cIn {c:CF} {M:MC} (h:KG c M.L) (x:KY) (D:DU) (now:W32) (out:List KY):KG c (kD M x D now out).1.L:=by
 unfold kD
 split
 ·unfold aIo
  split
  ·exact h
  exact bKk h _ _ _
 exact h
theorem bKm {c cf:CF} {now:W32}: ∀(f:Nat) {M:MC} {l nn:Nat} {out:List KY} {r:List KY×MC×Nat},KG c M.L→pN cf f M l nn now out=some r→KG c r.2.1.L
 |0,M,l,nn,out,r,_,h=>by cases h
 |f+1,M,l,nn,out,r,hk,h=>by
  rw[pN]at h
  split at h
  ·obtain rfl:=J0 h;exact hk
  replace h:=aJ h;obtain⟨x,_,h⟩:=h
  replace h:=aP h;obtain⟨_,h⟩:=h
  exact bKm f (bKk (cIn hk _ _ _ _) _ _ _) h
theorem cLx {c:CF} {M:MC} (h:KG c M.L) (hc:M.c=c) (role st:Int) {sd:S8} (hs:(⟨sd,c.h⟩:TK)∈seS c) (now:W32):KG c ((nK M role sd st now).2.2.getD M).L:=by
 unfold nK
 split
 ·exact h
 split
 ·exact h
 intro k hk
 rcases List.mem_append.1 hk with hk|hk
 ·exact h k hk
 rw[List.mem_singleton]at hk
 subst hk
 show(⟨sd,M.c.h⟩:TK)∈seS c
 rw[hc];exact hs
theorem bKx {c:CF} {M:MC} (h:KG c M.L) (hc:M.c=c) (role:Int) {sd:S8} (hs:(⟨sd,c.h⟩:TK)∈seS c) (now:W32):KG c ((nL M role sd now).2.2.getD M).L:=by
 unfold nL
 split
 ·exact h
 split
 ·exact h
 exact cLx h hc _ _ hs now
theorem cRe (c:CF) (q:Nat) (now:W32):KG c (aDk c q now 2).L:=by
 intro k hk
 have hk':k∈[fsK c now,scK c now (mx1 now)]:=hk
 simp only[List.mem_cons,List.not_mem_nil,or_false]at hk'
 rcases hk' with rfl|rfl
 ·simp[seS,fsK]
 simp[seS,scK]
theorem QG.nil (c:CF):QG c ⟨0,0,0,[]⟩:=⟨List.nodup_nil,fun _ h=>by cases h⟩
end Go.AX

namespace Go.AX
open Go Go.Proofs
set_option maxRecDepth 8000
theorem dCl {d s m e l q:Nat} {Q:QT} (h:AP d s m e l q Q) (C:RC) (M:MC):bH d s m C e l M q Q e=some (.cells (mgC l M) true):=by
 unfold bH;rw[jN _ _ _ _ _ _ h.ed.1 h.ed.2.1 h.ed.2.2,mT]
theorem dCk {d s m e l q:Nat} {Q:QT} (h:AP d s m e l q Q) (C:RC) (M:MC):bH d s m C e l M q Q l=some (.cells (jQ M.L) true):=by
 unfold bH;rw[jN _ _ _ _ _ _ h.ld.1 h.ld.2.1 h.ld.2.2,mS _ _ _ _ (Ne.symm h.el)]
theorem AP.setl {d s m e l l' q:Nat} {Q:QT} (h:AP d s m e l q Q) (hl:l'≠e∧l'≠d∧l'≠s∧l'≠m∧l'≠q) (hQ:Q.R≠[]→l'≠Q.a∧l'≠Q.b∧l'≠Q.c):AP d s m e l' q Q:=
 ⟨h.r,Ne.symm hl.1,h.ed,⟨hl.2.1,hl.2.2.1,hl.2.2.2.1⟩,h.qd,⟨h.sep.1,hl.2.2.2.2,fun z=>⟨(h.sep.2.2 z).1,(h.sep.2.2 z).2.1,(h.sep.2.2 z).2.2.1,hQ z⟩⟩,h.ok,h.qr⟩
theorem AP.setQ {d s m e l q nx cx:Nat} {Q Q':QT} (h:AP d s m e l q Q) (hi:QI Q nx cx Q') (hd:d<nx∧s<nx∧m<nx∧e<nx∧l<nx∧q<nx):AP d s m e l q Q':=by
 refine⟨h.r,h.el,h.ed,h.ld,h.qd,hi.sep h.sep hd.2.2.2.1 hd.2.2.2.2.1,hi.ok h.ok hd.2.2.2.2.2,?_⟩
 rcases hi with rfl|⟨h1,h2,h3,h4,h5⟩
 ·exact h.qr
 exact fun _=>by omega
theorem AP.add {d s m e l q n:Nat} {Q:QT} (h:AP d s m e l q Q) (t:TK) (hd:d<n∧s<n∧m<n∧e<n∧l<n∧q<n):AP d s m e l q (oA Q t n):=
 h.setQ (QI.add (nx:=n) (cx:=n) (.inl rfl) t (U3 _) (by omega)) hd
theorem cRl {d s m e l q:Nat} {Q:QT} (h:AP d s m e l q Q) (C:RC) (M:MC) (t:TK) (n:Nat) (h1:d<n) (h2:s<n) (h3:m<n) (h4:e<n) (h5:l<n) (h6:q<n):setQ q (oA Q t n) (jY Q (bH d s m C e l M q Q))=bH d s m C e l M q (oA Q t n):=
 aXy h (h.add t ⟨h1,h2,h3,h4,h5,h6⟩) C M
structure ACT where
 w:Int
 r:Int
 n:W32
 s:B8
 g:B8
def yO (a:ACT):List AV:=[.i a.w,.i a.r,.w32 a.n,.w8 a.s,.w8 a.g]
def mN:List ACT→List AV
 |[]=>[]
 |a::r=>yO a++mN r
theorem aHw: ∀A,(mN A).length=5*A.length
 |[]=>rfl
 |a::r=>by rw[mN,List.length_append,aHw r,List.length_cons];show 5+_=_;omega
def ac0:ACT:=⟨0,0,0#32,0#8,0#8⟩
def acA (A:List ACT) (k:Nat):ACT:=A.getD k ac0
theorem aQk: ∀(A:List ACT) (k:Nat),k<A.length→((mN A).drop (5*k)).take 5=yO (acA A k)
 |a::r,0,_=>by
  show((yO a++mN r).take 5)=yO a
  exact List.take_left' rfl
 |a::r,k+1,h=>by
  have:5*(k+1)=(yO a).length+5*k:=by show _=5+_;omega
  rw[mN,this,←List.drop_drop,List.drop_left]
  exact aQk r k (by simpa using h)
open Classical in
theorem aHv: ∀A:List ACT,(A.map yO).flatten=mN A
 |[]=>rfl
 |a::r=>by rw[List.map_cons,List.flatten_cons,aHv r];rfl
structure FIX where
 g:Nat
 C:RC
 M:MC
 l:Nat
 Q:QT
 now:W32
 o:Nat
theorem cJa (q:Nat) (hp:H):upd hp q bUj=setQ q ⟨0,0,0,[]⟩ hp:=by unfold setQ;rw[J4 rfl];rfl
def LT (o:Nat) (Q:QT):Prop:=Q.R≠[]→Q.a<o∧Q.b<o∧Q.c<o
theorem LT.up {o o':Nat} {Q:QT} (h:LT o Q) (ho:o≤o'):LT o' Q:=fun z=>by have:=h z;omega
theorem QI.lt {Q Q':QT} {nx cx o:Nat} (h:QI Q nx cx Q') (h1:LT nx Q) (h2:nx≤o) (h3:cx≤o):LT o Q':=by
 rcases h with rfl|h
 ·exact h1.up h2
 exact fun _=>by omega
theorem cCp (c:CF) (q:Nat) (now:W32) (hh:c.h≤10):RM (r2 c (fsK c now) (scK c now (mx1 now)) 2#32 []) (aDk c q now 2)∧INV (aDk c q now 2).L∧SB now (aDk c q now 2).L:=by
 refine⟨⟨aGj c now hh,aDq _ _ _ _ _,rfl,rfl⟩,⟨?_,?_,.inl ⟨fsK c now,rfl,rfl⟩,.inl ⟨scK c now (mx1 now),rfl,rfl,jH now⟩⟩,?_⟩
 ·show SL [fsK c now,scK c now (mx1 now)]
  refine List.pairwise_cons.2 ⟨fun x hx=>?_,List.pairwise_cons.2 ⟨fun x hx=>by simp at hx,List.Pairwise.nil⟩⟩
  rw[List.mem_singleton]at hx;subst hx
  show(1#32:W32).toNat<(2#32:W32).toNat
  decide
 ·intro k hk
  have hk':k∈[fsK c now,scK c now (mx1 now)]:=hk
  simp only[List.mem_cons,List.not_mem_nil,or_false]at hk'
  rcases hk' with rfl|rfl
  ·exact .inl rfl
  exact .inr rfl
 intro k hk
 have hk':k∈[fsK c now,scK c now (mx1 now)]:=hk
 simp only[List.mem_cons,List.not_mem_nil,or_false]at hk'
 rcases hk' with rfl|rfl<;>exact U3 _
theorem bFy (a0 a1 a2 a3 a4 b0 b1 b2 b3 b4:AV):dV [a0,a1,a2,a3,a4] 0 [b0,b1,b2,b3,b4]=[b0,b1,b2,b3,b4]:=(rfl)
attribute [go_sem] bFy
def omL (l nx:Nat):Option MC→Nat
 |none=>l
 |some _=>nx+51
theorem bJa (l nx:Nat) (o:Option MC):omL l nx o=l∨omL l nx o=nx+51:=by cases o<;>simp[omL]
theorem aWq {d s m e l q:Nat} {Q:QT} (h:AP d s m e l q Q) (C:RC) (M:MC) (nx:Nat) (o:Option MC) (h1:d<nx) (h2:s<nx) (h3:m<nx):bAl e l M (bH d s m C e l M q Q) nx o=bH d s m C e (omL l nx o) (o.getD M) q Q:=by
 rcases o with _|M'
 ·rfl
 rw[xS,aQf h C M M' (by omega)];rfl
end Go.AX

namespace Go.AX
open Go Go.Proofs
set_option maxRecDepth 8000
noncomputable def dDx:List AV→Option (Nat×Nat×List AV)
 |[.sl n xs,.i r]=>aK (nM xs) fun L=>aN (L.length=n∧n≤1000) (some ((sgL r L).length,1,c32 (sgL r L)))
 |_=>none
theorem dDz (n:Nat) (xs:List AV) (r:Int):dDx [.sl n xs,.i r]=aK (nM xs) fun L=>aN (L.length=n∧n≤1000) (some ((sgL r L).length,1,c32 (sgL r L))):=(rfl)
attribute [go_sem] dDz
set_option maxHeartbeats 1000000 in
theorem dDy:dH Tryz.prog GLh 22 dDx:=by
 refine cT Tryz.func22 (aT rfl) ?_
 intro args r hg
 unfold dDx at hg
 split at hg
 ·rename_i n xs role
  replace hg:=aJ hg;obtain⟨R,hL,hg⟩:=hg
  have:=lS hL;subst this
  replace hg:=aP hg;obtain⟨⟨hn,hRl⟩,hg⟩:=hg
  obtain rfl:=J0 hg
  subst hn
  refine⟨J1 rfl,fun nx=>?_⟩
  rw[cUa]
  refine aA rfl (bA [0,1] rfl rfl rfl fun K hK=>?_)
  simp(disch:=omega) only[Tryz.f22,go_sem,↓reduceIte]
  refine hK _ ?_
  refine aB (aA rfl (bA [0,1,5] rfl rfl rfl fun K hK=>?_))
  simp(disch:=omega) only[Tryz.f22,go_sem,↓reduceIte]
  refine hK _ ?_
  refine aB (aA rfl (aA rfl (bA [0,1,5,6] rfl rfl rfl fun K hK=>?_)))
  simp(disch:=omega) only[Tryz.f22,go_sem,↓reduceIte]
  refine hK _ ?_
  refine aB (iE 5 1 rfl (fF [0,1,5,6] ?_))
  simp only[iB,fU,eB,↓reduceIte,Nat.reduceEqDiff]
  refine aR 0 rfl rfl ?_
  refine bR (fun p:KIC=> {fr:=[(0,.sl R.length (jQ R)),(1,.i role),(5,.os p.id 0 (((R.take p.k).filter (sgR role)).map (·.id)).length 1 true),(6,.i p.k)],hp:=upd (fun _=>none) p.id (.cells (c32 (((R.take p.k).filter (sgR role)).map (·.id))) true),nx:=0,cx:=p.c}) (fun p=>p.k≤R.length∧nx≤p.id∧p.id<p.c) (fun p=>R.length-p.k) rfl ⟨⟨0,_,_⟩,⟨Nat.zero_le _,by simp only;omega,by simp only;omega⟩,bD rfl rfl (U3 _)⟩ ?_
  rintro⟨k,id,c⟩ ⟨hk,hid,hc⟩ n0
  simp only at hk hid hc⊢
  refine aA rfl (aA rfl (bA [11,0,1,5,6] rfl rfl rfl fun K hK=>?_))
  simp(disch:=omega) only[Tryz.f22,go_sem,↓reduceIte]
  refine hK _ ?_
  refine aB (aW (.tmp 11) rfl rfl rfl (fun h=>?_) (fun h=>?_))
  ·refine aI rfl ?_
   have hkR:k<R.length:=by omega
   have hkl:=iJ R
   have e15:k*15=15*k:=by omega
   have ha0:=jW R k 0 hkR (by omega)
   have ha1:=jW R k 1 hkR (by omega)
   have ha2:=jW R k 2 hkR (by omega)
   rw[Nat.add_zero]at ha0
   rw[←List.drop_drop]at ha1 ha2
   have hfn:=xZ (sgR role) (·.id) R k hkR
   rw[kJ R k hkR]at hfn
   have hll:(((R.take k).filter (sgR role)).map (·.id)).length≤1000:=by
    rw[List.length_map]
    exact Nat.le_trans (List.length_filter_le _ _) (by rw[List.length_take];omega)
   obtain⟨F,hF⟩: ∃F,((R.take k).filter (sgR role)).map (·.id)=F:=⟨_,rfl⟩
   rw[hF]at hfn hll⊢
   obtain⟨X,hX⟩: ∃X,kyA R k=X:=⟨_,rfl⟩
   rw[hX]at hfn ha0 ha1 ha2
   refine aQ rfl (aB (aA rfl (aR 1 rfl rfl (aA rfl (bA [0,1,5,6,7] rfl rfl rfl fun K hK=>?_)))))
   simp(disch:=omega) only[Tryz.f22,go_sem,↓reduceIte,ha2,e15,kyC,J8,J7,J9]
   refine hK _ ?_
   refine aB ?_
   by_cases h0:X.role=role
   ·have d0:decide (X.role=role)=true:=J5 h0
    by_cases h1:X.st=1
    ·have d1:decide (X.st=1)=true:=J5 h1
     have hp:sgR role X=true:=by simp[sgR,sgP,h0,h1]
     rw[J4 hp]at hfn
     refine aA rfl (bA [37,0,1,5,6] rfl rfl rfl fun K hK=>?_)
     simp(disch:=omega) only[Tryz.f22,go_sem,↓reduceIte,ha1,e15,kyC,d0,d1,beq_self_eq_true,J8,J7,J9]
     refine hK _ ?_
     refine aB (eC (.tmp 37) rfl rfl rfl (fun h=>?_) (fun h=>?_))
     ·refine aI rfl (bA [0,1,5,6] rfl rfl rfl fun K hK=>?_)
      simp(disch:=omega) only[Tryz.f22,go_sem,↓reduceIte,ha0,e15,kyC,J8,U0,U1,J9]
      refine hK _ ?_
      refine bU (aB (bA [0,1,5,6] rfl rfl rfl fun K hK=>?_))
      simp(disch:=omega) only[Tryz.f22,go_sem,↓reduceIte]
      refine hK _ ?_
      refine bT ?_
      have hfl:(F++[X.id]).length=F.length+1:=by rw[List.length_append];rfl
      refine⟨⟨k+1,_,_⟩,⟨by simp only;omega,?_,?_⟩,by simp only;omega,⟨fun x=> .inr (by simp only[hfn,hfl,Int.natCast_add,Int.natCast_one];rfl),fun j o hj=>?_,U3 _⟩⟩
      ·simp only;omega
      ·simp only;omega
      simp only[hfn,bJ]at hj
      simp only[bJ]
      split at hj
      ·rename_i e;rw[J4 e];rw[←hj,←tQ];rfl
      cases hj
     refine aI rfl ?_
     cases h
    have d1:decide (X.st=1)=false:=J6 h1
    by_cases h2:role=1
    ·have d2:decide (role=1)=true:=J5 h2
     by_cases h3:X.st=2
     ·have d3:decide (X.st=2)=true:=J5 h3
      have hp:sgR role X=true:=by simp[sgR,sgP,h0,h2,h3]
      rw[J4 hp]at hfn
      refine aA rfl (bA [37,0,1,5,6] rfl rfl rfl fun K hK=>?_)
      simp(disch:=omega) only[Tryz.f22,go_sem,↓reduceIte,ha1,e15,kyC,d0,d1,d2,d3,beq_self_eq_true,J8,J7,J9]
      refine hK _ ?_
      refine aB (eC (.tmp 37) rfl rfl rfl (fun h=>?_) (fun h=>?_))
      ·refine aI rfl (bA [0,1,5,6] rfl rfl rfl fun K hK=>?_)
       simp(disch:=omega) only[Tryz.f22,go_sem,↓reduceIte,ha0,e15,kyC,J8,U0,U1,J9]
       refine hK _ ?_
       refine bU (aB (bA [0,1,5,6] rfl rfl rfl fun K hK=>?_))
       simp(disch:=omega) only[Tryz.f22,go_sem,↓reduceIte]
       refine hK _ ?_
       refine bT ?_
       have hfl:(F++[X.id]).length=F.length+1:=by rw[List.length_append];rfl
       refine⟨⟨k+1,_,_⟩,⟨by simp only;omega,?_,?_⟩,by simp only;omega,⟨fun x=> .inr (by simp only[hfn,hfl,Int.natCast_add,Int.natCast_one];rfl),fun j o hj=>?_,U3 _⟩⟩
       ·simp only;omega
       ·simp only;omega
       simp only[hfn,bJ]at hj
       simp only[bJ]
       split at hj
       ·rename_i e;rw[J4 e];rw[←hj,←tQ];rfl
       cases hj
      refine aI rfl ?_
      cases h
     have d3:decide (X.st=2)=false:=J6 h3
     have hp:sgR role X=false:=by simp[sgR,sgP,h1,h3]
     rw[J3 (by rw[hp];decide),List.append_nil]at hfn
     refine aA rfl (bA [37,0,1,5,6] rfl rfl rfl fun K hK=>?_)
     simp(disch:=omega) only[Tryz.f22,go_sem,↓reduceIte,ha1,e15,kyC,d0,d1,d2,d3,beq_self_eq_true,J8,J7,J9]
     refine hK _ ?_
     refine aB (eC (.tmp 37) rfl rfl rfl (fun h=>?_) (fun h=>?_))
     ·refine aI rfl ?_
      cases h
     refine aI rfl (aQ rfl (bU (aB (bA [0,1,5,6] rfl rfl rfl fun K hK=>?_))))
     simp(disch:=omega) only[Tryz.f22,go_sem,↓reduceIte]
     refine hK _ ?_
     refine bT ?_
     refine⟨⟨k+1,id,_⟩,⟨by simp only;omega,by simp only;omega,by simp only;omega⟩,by simp only;omega,⟨fun x=> .inr (by simp only[hfn,Int.natCast_add,Int.natCast_one]),fun j o hj=>?_,U3 _⟩⟩
     simp only[hfn,bJ]at hj
     simp only[bJ]
     by_cases e:j=id
     ·rw[J4 e]at hj;first|(rw[J4 e];exact hj)|(rw[J3 (by omega),J4 e];exact hj)
     rw[J3 e]at hj;cases hj
    have d2:decide (role=1)=false:=J6 h2
    have hp:sgR role X=false:=by simp[sgR,sgP,h1,h2]
    rw[J3 (by rw[hp];decide),List.append_nil]at hfn
    refine aA rfl (bA [37,0,1,5,6] rfl rfl rfl fun K hK=>?_)
    simp(disch:=omega) only[Tryz.f22,go_sem,↓reduceIte,ha1,e15,kyC,d0,d1,d2,beq_self_eq_true,J8,J7,J9]
    refine hK _ ?_
    refine aB (eC (.tmp 37) rfl rfl rfl (fun h=>?_) (fun h=>?_))
    ·refine aI rfl ?_
     cases h
    refine aI rfl (aQ rfl (bU (aB (bA [0,1,5,6] rfl rfl rfl fun K hK=>?_))))
    simp(disch:=omega) only[Tryz.f22,go_sem,↓reduceIte]
    refine hK _ ?_
    refine bT ?_
    refine⟨⟨k+1,id,_⟩,⟨by simp only;omega,by simp only;omega,by simp only;omega⟩,by simp only;omega,⟨fun x=> .inr (by simp only[hfn,Int.natCast_add,Int.natCast_one]),fun j o hj=>?_,U3 _⟩⟩
    simp only[hfn,bJ]at hj
    simp only[bJ]
    by_cases e:j=id
    ·rw[J4 e]at hj;first|(rw[J4 e];exact hj)|(rw[J3 (by omega),J4 e];exact hj)
    rw[J3 e]at hj;cases hj
   have d0:decide (X.role=role)=false:=J6 h0
   have hp:sgR role X=false:=by simp[sgR,sgP,h0]
   rw[J3 (by rw[hp];decide),List.append_nil]at hfn
   refine aA rfl (bA [37,0,1,5,6] rfl rfl rfl fun K hK=>?_)
   simp(disch:=omega) only[Tryz.f22,go_sem,↓reduceIte,ha1,e15,kyC,d0,J8,J7,J9]
   refine hK _ ?_
   refine aB (eC (.tmp 37) rfl rfl rfl (fun h=>?_) (fun h=>?_))
   ·refine aI rfl ?_
    cases h
   refine aI rfl (aQ rfl (bU (aB (bA [0,1,5,6] rfl rfl rfl fun K hK=>?_))))
   simp(disch:=omega) only[Tryz.f22,go_sem,↓reduceIte]
   refine hK _ ?_
   refine bT ?_
   refine⟨⟨k+1,id,_⟩,⟨by simp only;omega,by simp only;omega,by simp only;omega⟩,by simp only;omega,⟨fun x=> .inr (by simp only[hfn,Int.natCast_add,Int.natCast_one]),fun j o hj=>?_,U3 _⟩⟩
   simp only[hfn,bJ]at hj
   simp only[bJ]
   by_cases e:j=id
   ·rw[J4 e]at hj;first|(rw[J4 e];exact hj)|(rw[J3 (by omega),J4 e];exact hj)
   rw[J3 e]at hj;cases hj
  refine aI rfl (bF 0 rfl rfl (aY (aZ (bE (aB (aA rfl ?_))))))
  obtain rfl:k=R.length:=by omega
  rw[List.take_length]
  have hcl:=iY ((R.filter (sgR role)).map (·.id))
  refine bA [4] rfl rfl rfl fun K hK=>?_
  simp(disch:=omega) only[Tryz.f22,go_sem,↓reduceIte]
  refine hK _ ?_
  refine aB (aS rfl ?_)
  simp(disch:=omega) only[fE,eO,bV,bK,bQ,Tryz.f22,go_sem,↓reduceIte,bCt,hcl]
 cases hg
theorem dEf:bX Tryz.prog GLh 22 (.fresh true dDx):=⟨⟨_,Tryz.func22,rfl,rfl⟩,dDy⟩
end Go.AX

namespace Go.AX
open Go Go.Proofs
set_option maxRecDepth 8000
theorem dEe (a b:W32):a.toNat≤(plV a b).toNat:=by
 unfold plV
 have ha:=a.isLt
 have e:(4294967295#32-a).toNat=4294967295-a.toNat:=by
  rw[BitVec.toNat_sub]
  show(4294967296-a.toNat+4294967295)%4294967296=_
  omega
 split
 ·rw[BitVec.toNat_add,e]
  show _≤(a.toNat+(4294967295-a.toNat))%4294967296
  omega
 rename_i h
 rw[BitVec.lt_def,e]at h
 rw[BitVec.toNat_add]
 show a.toNat≤(a.toNat+b.toNat)%4294967296
 omega
theorem dDt {now:W32} {tag:BitVec 16} {M:MC}: ∀(X:List KY) {C:RC},RM C M→(∀x∈X,x∈M.L)→
  ∃p,dsV tag now X C=some p∧p.1=(zQ M now (X.find? fun x=>decide (pL (dkB x)=tag))).1∧RM p.2 (zQ M now (X.find? fun x=>decide (pL (dkB x)=tag))).2
 |[],C,h,_=>⟨_,rfl,rfl,h⟩
 |x::r,C,h,hx=>by
  have hm:=hx x (by simp)
  have hg:iK x.id C.by'=some x:=(h.get x.id).trans (jX h.sl hm)
  have h':RM (trC' C x) M:=⟨h.ok.trP hg,(bSy C x).trans h.l,h.last,h.c⟩
  rw[dsV,hg,aX,List.find?_cons]
  by_cases e:pL (dkB x)=tag
  ·rw[J4 e,J5 e];exact⟨_,rfl,(h'.seen x.id now).1,(h'.seen x.id now).2⟩
  ·rw[J3 e,J6 e];exact dDt r h' fun y hy=>hx y (by simp[hy])
theorem dDu {C:RC} {M:MC} (h:RM C M) (hi:INV M.L) (hl:M.last.toNat<1000000) (hh:M.c.h≤10) (role:Int) (sd:S8) (now:W32):
  (bgV C role sd now).1=(nL M role sd now).1∧(bgV C role sd now).2.1=(nL M role sd now).2.1:=by
 have fin: ∀st,(role=0∧st=0)∨(role=1∧st=1)→(lH role M.L).length=1→nL M role sd now=nK M role sd st now→(bgV C role sd now).1=(nL M role sd now).1∧(bgV C role sd now).2.1=(nL M role sd now).2.1:=by
  intro st hr hn e
  obtain⟨m1,m2,m3⟩:=h.mk' (by rw[h.last];exact hl) (by rw[h.c];exact hh) role sd st now
  obtain⟨_,em,_,_⟩:=cRf h hi hl hh role st hr hn sd now
  rw[em]at m1 m2
  have eb:bgS role 1=some st:=by rcases hr with⟨rfl,rfl⟩|⟨rfl,rfl⟩<;>rfl
  unfold bgV
  rw[J3 (by omega),h.l,hn,eb,e,em]
  simp only[]
  rw[J3 (by rw[m2];simp)]
  exact⟨m1,rfl⟩
 have two:(role=0∨role=1)→(lH role M.L).length=2→(bgV C role sd now).1=(nL M role sd now).1∧(bgV C role sd now).2.1=(nL M role sd now).2.1:=by
  intro hr hn
  have e1:nL M role sd now=(0#32,140,none):=by unfold nL;rw[J3 (by omega),J4 (by omega)]
  have e2:bgV C role sd now=(0#32,140,C):=by
   unfold bgV
   rw[J3 (by omega),h.l,hn]
   rfl
  rw[e1,e2]
  exact⟨rfl,rfl⟩
 by_cases h0:role=0
 ·subst h0
  rcases hi.rl1 with hn|hn
  ·exact fin 0 (.inl ⟨rfl,rfl⟩) hn (by unfold nL;rw[J3 (by omega),J3 (by omega)];rfl)
  ·exact two (.inl rfl) hn
 ·by_cases h1:role=1
  ·subst h1
   rcases hi.rl2 with hn|hn
   ·exact fin 1 (.inr ⟨rfl,rfl⟩) hn (by unfold nL;rw[J3 (by omega),J3 (by omega)];rfl)
   ·exact two (.inr rfl) hn
  ·have e1:nL M role sd now=(0#32,131,none):=J4 ⟨h0,h1⟩
   have e2:bgV C role sd now=(0#32,131,C):=J4 ⟨h0,h1⟩
   rw[e1,e2]
   exact⟨rfl,rfl⟩
end Go.AX

namespace Go.AX
open Go Go.Proofs
set_option maxRecDepth 8000
theorem dDw (r:Int) (L:List KY):(sgL r L).length≤L.length:=by
 unfold sgL lH
 rw[List.length_map]
 exact Nat.le_trans (List.length_filter_le _ _) (List.length_filter_le _ _)
open Classical in
noncomputable def dEd:List AV→Option AV
 |[.w16 _,.w32 _,.sl n xs]=>if∃A,xs=mN A∧n=A.length then some (.b true)else none
 |_=>none
theorem dEc (set:BitVec 16) (now:W32) (A:List ACT):dEd [.w16 set,.w32 now,.sl (A.map yO).length (A.map yO).flatten]=some (.b true):=J4 ⟨A,aHv A,by simp⟩
theorem dEg {d s m e l q o:Nat} {Q:QT} (h1:d<o) (h2:s<o) (h3:m<o) (h4:e<o) (h5:l<o) (h6:q<o) (hLT:LT o Q) (C:RC) (M:MC): ∀k oo,bH d s m C e l M q Q k=some oo→k<o:=fun k oo hk=>Nat.lt_of_not_le fun h=>by
 unfold bH at hk
 rw[jN _ _ _ _ _ _ (by omega) (by omega) (by omega),qA _ _ _ _ _ (by omega) (by omega),jZ _ _ _ _ (by omega) (fun z=>by have:=hLT z;omega)]at hk
 cases hk
set_option maxHeartbeats 4000000 in
theorem dDq {Q:Exit→S→Prop} {d s m e l q g nx o:Nat} {C:RC} {M:MC} {Q1:QT} {A:List ACT} {c:CF} {now:W32} (tRM:RM C M) (tI:INV M.L) (tAP:AP d s m e l q Q1) (hde:d<o∧s<o∧m<o∧e<o∧l<o∧q<o) (tLT:LT o Q1)
  (hQ: ∀nx2 cx2,cx2≤o+4000→Q .normal {fr:=[(1,.w32 now),(2,.sl A.length (mN A)),(7,.rp (cfC c)),(8,.op d 0),(9,.op e 0),(10,.i g)],hp:=bH d s m C e l M q Q1,nx:=nx2,cx:=cx2}):
  Awp Tryz.prog GLh Tryz.f3.ntmps (cr (cr (cl (cl (cr (cl (cl (cr (cl (cr (cr (cr (cr (cr (aE Tryz.f3))))))))))))))) {fr:=[(1,.w32 now),(2,.sl A.length (mN A)),(7,.rp (cfC c)),(8,.op d 0),(9,.op e 0),(10,.i g)],hp:=bH d s m C e l M q Q1,nx:=nx,cx:=o} Q:=by
 obtain⟨hd1,hd2,hd3,hd4,hd5,hd6⟩:=hde
 have blt:=dEg hd1 hd2 hd3 hd4 hd5 hd6 tLT C M
 refine sX ?_
 have t44:=tI.le4
 have tby:=tRM.len
 have tby2:C.by'.length≤1000:=by omega
 have tal:=tRM.l
 have tbe:=dCl tAP C M
 have tbl:=dCk tAP C M
 have tkl:=iJ M.L
 have tcf:=aDi c
 have tnx:=aWf tI c
 have tbr:=rK tAP C M
 have tbu: ∀(k:Nat) (x:AO),o≤k→iN (upd (bH d s m C e l M q Q1) k x) d=some ⟨s,m,C⟩:=fun k x hk=>aIn (s:=s) (m:=m) (C:=C) (iV tbr) k x (by omega) (by omega) (by omega)
 obtain⟨B,hB⟩: ∃x,bH d s m C e l M q Q1=x:=⟨_,rfl⟩
 rw[hB]at tbe tbl tbr tbu hQ blt⊢
 have tl1:M.L.length≤1000:=by omega
 have tl2:M.L.length≤100:=by omega
 have tl3:0<M.L.length:=by omega
 obtain⟨s0,hs0⟩: ∃x,sgL 0 M.L=x:=⟨_,rfl⟩
 obtain⟨s1,hs1⟩: ∃x,sgL 1 M.L=x:=⟨_,rfl⟩
 have ts0:s0.length≤9223372036854775807:=by
  have:s0.length≤M.L.length:=by rw[←hs0];exact dDw 0 M.L
  omega
 have ts1:s1.length≤9223372036854775807:=by
  have:s1.length≤M.L.length:=by rw[←hs1];exact dDw 1 M.L
  omega
 have tk0:(c32 s0).take s0.length=c32 s0:=List.take_of_length_le (by rw[iY];exact U3 _)
 have tk1:(c32 s1).take s1.length=c32 s1:=List.take_of_length_le (by rw[iY];exact U3 _)
 obtain⟨D,hD⟩: ∃x,qV M.L c=x:=⟨_,rfl⟩
 rw[hD]at tnx
 refine aA rfl ?_
 refine aYa (Γ:=bC [(18,.heap rU),(17,.pure true nxG)]) (fun _=>false) [] (fun k=>if k=3 then 0 else if k=1 then 0 else if k=2 then 1 else 2) [1,2,7,8,9,10,17,18,19] bZ (aH pA (aH bJe aO)) rfl rfl rfl (by kernel_rfl) (fun K hK=>?_)
 simp(maxSteps:=400000) (disch:=omega) only[Tryz.f3,go_sem,and_true,true_and,↓reduceIte,tbr,tal,tby,sK,tcf,tnx,tl2,duC]
 refine hK _ ?_
 refine aB ?_
 refine aA rfl ?_
 refine aYa (Γ:=bC [(19,.pure true bKq)]) (fun _=>false) [] (fun k=>if k=5 then 0 else if k=4 then 1 else 2) [1,2,7,8,9,10,17,18,19,20,21,22] bZ (aH cVl aO) rfl rfl rfl (by kernel_rfl) (fun K hK=>?_)
 simp(maxSteps:=400000) (disch:=omega) only[Tryz.f3,go_sem,and_true,true_and,↓reduceIte,tbe,tbl,jR,sK,aGm,tcf,hD,tl1,duC,J8,J7,J9,Bool.and_self]
 refine hK _ ?_
 refine aB ?_
 refine aA rfl ?_
 refine aYa (Γ:=bC [(18,.heap rU),(14,.pure true aXb),(21,.pure false sgG),(22,.fresh true dDx),(20,.pure true bBb)]) (fun k=>if k=15 then true else if k=19 then true else if k=25 then true else if k=30 then true else if k=37 then true else if k=42 then true else false) [(15,19),(25,30),(37,42)] (fun k=>if k=44 then 0 else if k=43 then 0 else if k=37 then 0 else if k=32 then 0 else if k=31 then 0 else if k=25 then 0 else if k=20 then 0 else if k=15 then 0 else if k=26 then 1 else if k=38 then 1 else 2) [205,1,2,7,8,9,10] bZ (aH pA (aH dEa (aH aGi (aH dEf (aH cFe aO))))) rfl rfl rfl (by kernel_rfl) (fun K hK=>?_)
 simp(maxSteps:=400000) (disch:=omega) only[Tryz.f3,go_sem,and_self,and_true,true_and,↓reduceIte,tbr,tbu,tal,tby,sK,tl1,tl3,hs0,hs1,rV,iY,bCt,tk0,tk1,ts0,ts1,tbe,tbl,aGm,jR,J8,J7,J9]
 refine hK _ ?_
 refine aB ?_
 refine yK (hp':=B) (fun j oo hj=>by {have:=blt j oo hj;simp only[bJ];rw[J3 (by omega),J3 (by omega)];exact hj}) ?_
 refine eC (.tmp 205) rfl rfl rfl (fun h=>?_) (fun h=>?_)
 ·skip
  refine aI rfl ?_
  cases h
 ·skip
  refine aI rfl ?_
  clear h
  refine aQ rfl ?_
  exact vR [1,2,7,8,9,10] (hQ _ _ (by simp only;omega)) rfl
set_option maxHeartbeats 4000000 in
theorem dEb:cL Tryz.prog GLh 3 dEd:=by
 refine cC Tryz.func3 (aT rfl) ?_
 intro args r hg
 unfold dEd at hg
 split at hg
 ·rename_i set now0 n xs
  have hx: ∃A,xs=mN A∧n=A.length:=Classical.byContradiction fun h=>by rw[J3 h]at hg;cases hg
  rw[J4 hx]at hg
  obtain⟨A,rfl,rfl⟩:=hx
  obtain rfl:=J0 hg
  clear hg
  refine⟨J1 rfl,fun nx=>?_⟩
  have hpr:=aRc set
  have hkt:=aRd set
  have hh:=aVc set
  have hal:=aHw A
  obtain⟨c,hc⟩: ∃c,xI set=c:=⟨_,rfl⟩
  rw[hc]at hpr hkt hh
  refine aA rfl (bA [0,1,2] rfl rfl rfl fun K hK=>?_)
  simp(disch:=omega) only[Tryz.f3,go_sem,↓reduceIte]
  refine hK _ ?_
  refine aB (aA rfl (aA rfl (aC (Γ:=bC [(5,.pure true aCr)]) [24,0,1,2] (aH cKm aO) rfl rfl rfl (fun K hK=>?_))))
  simp(disch:=omega) only[Tryz.f3,go_sem,↓reduceIte]
  refine hK _ ?_
  refine aB (eC (.tmp 24) rfl rfl rfl (fun h=>?_) (fun h=>?_))
  ·refine aI rfl ?_
   cases h
  refine aI rfl ?_
  clear h
  refine aQ rfl (aB (aA rfl (aA rfl (bA [27,0,1,2] rfl rfl rfl fun K hK=>?_))))
  simp(disch:=omega) only[Tryz.f3,go_sem,↓reduceIte]
  refine hK _ ?_
  refine aB (aW (.tmp 27) rfl rfl rfl (fun h=>?_) (fun h=>?_))
  ·refine aI rfl (aA rfl (bA [6] rfl rfl rfl fun K hK=>?_))
   simp(disch:=omega) only[Tryz.f3,go_sem,↓reduceIte]
   refine hK _ ?_
   refine aB (aS rfl (bI ?_))
   simp(disch:=omega) only[cN,bV,bK,bQ,Tryz.f3,go_sem,↓reduceIte]
  refine aI rfl ?_
  have hA40:A.length≤40:=by omega
  clear h
  refine aQ rfl (aB (aA rfl (aC (Γ:=bC [(6,.pure false sB)]) [1,2,7] (aH bVy aO) rfl rfl rfl (fun K hK=>?_))))
  simp(disch:=omega) only[Tryz.f3,go_sem,↓reduceIte,hc]
  refine hK _ ?_
  refine aB ?_
  refine lW 7 (nx+1+2+3+2) 0 rfl (by simp(disch:=omega) only[aV,↓reduceIte,eq_self]<;>rfl) ?_
  refine fF [1,2,7] ?_
  simp only[iB,fU,eB,↓reduceIte,Nat.reduceEqDiff,J9]
  refine aA rfl (aC (Γ:=bC [(7,.heap aPt)]) [1,2,7,8,9] (aH bVx aO) rfl rfl rfl (fun K hK=>?_))
  simp(disch:=omega) only[Tryz.f3,go_sem,↓reduceIte,hh]
  refine hK _ ?_
  refine aB (aA rfl (aA rfl (bA [1,2,7,8,9,10] rfl rfl rfl fun K hK=>?_)))
  simp(disch:=omega) only[Tryz.f3,go_sem,↓reduceIte]
  refine hK _ ?_
  refine aB ?_
  obtain⟨n,hn⟩: ∃n,nx+1+2+3+4+8=n:=⟨_,rfl⟩
  rw[hn,aTp]
  obtain⟨b1,b2,b3⟩:=cCp c (n+7) now0 hh
  obtain⟨d,hd⟩: ∃d,n+18=d:=⟨_,rfl⟩
  obtain⟨s,hs⟩: ∃s,n+15=s:=⟨_,rfl⟩
  obtain⟨m,hm⟩: ∃m,n+16=m:=⟨_,rfl⟩
  obtain⟨e,he⟩: ∃e,n+9=e:=⟨_,rfl⟩
  obtain⟨q,hq⟩: ∃q,n+7=q:=⟨_,rfl⟩
  rw[hd,hs,hm,he,hq]
  rw[hq]at b1 b2 b3
  refine aR 0 rfl rfl ?_
  refine bR (fun p:FIX=> {fr:=[(1,.w32 p.now),(2,.sl A.length (mN A)),(7,.rp (cfC c)),(8,.op d 0),(9,.op e 0),(10,.i p.g)],hp:=bH d s m p.C e p.l p.M q p.Q,nx:=0,cx:=p.o}) (fun p=>p.g≤A.length∧RM p.C p.M∧INV p.M.L∧SB p.now p.M.L∧AP d s m e p.l q p.Q∧p.M.q=q∧p.M.c=c∧p.M.last.toNat≤2+p.g∧QG c p.Q∧KG c p.M.L∧p.l<p.o∧LT p.o p.Q∧n+3000<p.o) (fun p=>A.length-p.g) rfl ⟨⟨0,_,_,n+1233,⟨0,0,0,[]⟩,now0,n+3001⟩,⟨Nat.zero_le _,b1,b2,b3,⟨⟨by omega,by omega,by omega⟩,by simp only;omega,⟨by omega,by omega,by omega⟩,⟨by simp only;omega,by simp only;omega,by simp only;omega⟩,⟨by omega,by omega,by omega⟩,⟨by omega,by simp only;omega,fun z=>absurd rfl z⟩,⟨fun _=>⟨rfl,rfl,rfl⟩,fun z=>absurd rfl z⟩,fun z=>absurd rfl z⟩,rfl,rfl,U3 _,QG.nil c,cRe c q _,by simp only;omega,fun z=>absurd rfl z,by simp only;omega⟩,⟨fun _=> .inr rfl,fun j o hj=>hU (fun j o hj=>kV (fun j o hj=>by rw[cJa];exact aFq (fun j o hj=>by cases hj) j o hj) j o hj) j o hj,by simp only;omega⟩⟩ ?_
  rintro⟨g,C,M,l,Q,now,o⟩ ⟨hg,hRM,hI,hSB,hAP,hMq,hMc,hla,hQG,hKG,hlo,hLT,hno⟩ n0
  simp only at hg hRM hI hSB hAP hMq hMc hla hQG hKG hlo hLT hno⊢
  refine aA rfl (aA rfl (bA [39,1,2,7,8,9,10] rfl rfl rfl fun K hK=>?_))
  simp(disch:=omega) only[Tryz.f3,go_sem,↓reduceIte]
  refine hK _ ?_
  refine aB (aW (.tmp 39) rfl rfl rfl (fun h=>?_) (fun h=>?_))
  ·refine aI rfl ?_
   have hgA:g<A.length:=by omega
   clear h
   have hrow:=aQk A g hgA
   have hdl:5≤(List.drop (5*g) (mN A)).length:=by rw[List.length_drop];omega
   have e5:g*5=5*g:=by omega
   obtain⟨X,hX⟩: ∃X,acA A g=X:=⟨_,rfl⟩
   rw[hX,yO]at hrow
   refine aQ rfl (aB (aA rfl (aR 1 rfl rfl (aA rfl (bA [1,2,7,8,9,10,11] rfl rfl rfl fun K hK=>?_)))))
   simp(disch:=omega) only[Tryz.f3,go_sem,↓reduceIte,hrow,hdl,e5]
   refine hK _ ?_
   refine aB ?_
   have bnone: ∀k,o≤k→bH d s m C e l M q Q k=none:=fun k hk=>by
    unfold bH
    rw[jN _ _ _ _ _ _ (by omega) (by omega) (by omega),qA _ _ _ _ _ (by omega) (by omega),jZ _ _ _ _ (by omega) (fun z=>by have:=hLT z;omega)]
   have blt: ∀k oo,bH d s m C e l M q Q k=some oo→k<o:=fun k oo hk=>Nat.lt_of_not_le fun h=>by rw[bnone k h]at hk;cases hk
   refine lW 11 (o+4+4) 0 rfl (by rw[bJ,J4 rfl]) (fF [1,2,7,8,9,10,11] ?_)
   simp only[iB,fU,eB,↓reduceIte,Nat.reduceEqDiff,J9]
   refine yK (hp':=bH d s m C e l M q Q) (fun j oo hj=>by {have:=blt j oo hj;simp only[bJ];rw[J3 (by omega),J3 (by omega)];exact hj}) ?_
   have h44:=hI.le4
   have hlC:C.last.toNat<1000000:=by rw[hRM.last];omega
   have hCc:C.c=c:=hRM.c.trans hMc
   have hCh:C.c.h≤10:=by rw[hCc];exact hh
   have hby:=hRM.len
   have hby1:0<C.by'.length:=by omega
   have hby2:C.by'.length≤100:=by omega
   have hL50:M.L.length≤50:=by omega
   refine aA rfl (aA rfl (bA [1,2,7,8,9,10,11,47] rfl rfl rfl fun K hK=>?_))
   simp(disch:=omega) only[Tryz.f3,go_sem,↓reduceIte]
   refine hK _ ?_
   refine aB ?_
   rcases(by omega:X.w=0∨X.w=1∨X.w=6∨(X.w≠0∧X.w≠1∧X.w≠6))with hw|hw|hw|hw
   ·have dw0:decide (X.w=0)=true:=J5 hw
    refine aR 2 rfl rfl (aA rfl (aA rfl (bA [1,2,7,8,9,10,11,47,61] rfl rfl rfl fun K hK=>?_)))
    simp(disch:=omega) only[Tryz.f3,go_sem,↓reduceIte,dw0]
    refine hK _ ?_
    refine aB (eC (.tmp 61) rfl rfl rfl (fun h=>?_) (fun h=>?_))
    ·refine aQ rfl (aB (eC (.tmp 61) rfl rfl rfl (fun h=>?_) (fun h=>?_)))
     ·clear h
      refine aA rfl (kU (o+100) (by omega) ?_)
      obtain⟨sd,hsd⟩: ∃x:S8,(⟨X.s%5#8,3#8,0#8,0#8,0#8,0#8,0#8,0#8⟩:S8)=x:=⟨_,rfl⟩
      obtain⟨om,o1,o2,o3,o4,o5,o6,o7⟩:=aXw hRM hI (by omega) (by rw[hMc];exact hh) X.r sd now
      obtain⟨k1,k2⟩:=dDu hRM hI (by omega) (by rw[hMc];exact hh) X.r sd now
      obtain⟨va,hva⟩: ∃x,(nL M X.r sd now).1=x:=⟨_,rfl⟩
      obtain⟨vb,hvb⟩: ∃x,(nL M X.r sd now).2.1=x:=⟨_,rfl⟩
      rw[hva]at k1
      rw[hvb]at k2
      refine aC (Γ:=bC [(8,.heap bgG)]) [1,2,7,8,9,10,11,12,13] (aH aNa aO) rfl rfl rfl (fun K hK=>?_)
      simp(disch:=omega) only[Tryz.f3,go_sem,↓reduceIte,BitVec.reduceEq,rK hAP,hRM.ok,hlC,hCh,hby1,hby2,hsd,aAl,true_and,k1,k2]
      refine hK _ ?_
      refine aB ?_
      obtain⟨C',hC'⟩: ∃x,(bgV C X.r sd now).2.2=x:=⟨_,rfl⟩
      rw[hC']at o2
      rw[hC']
      refine aA rfl (aC (Γ:=bC [(9,.heap bAo)]) [1,2,7,8,9,10,12,13,14,15] (aH cVi aO) rfl rfl rfl (fun K hK=>?_))
      simp(disch:=omega) only[Tryz.f3,go_sem,↓reduceIte,BitVec.reduceEq,aDm hAP,hsd,hL50,o1,aWq hAP,true_and,hva,hvb]
      refine hK _ ?_
      refine aB (aA rfl (bA [96,1,2,7,8,9,10] rfl rfl rfl fun K hK=>?_))
      simp(disch:=omega) only[Tryz.f3,go_sem,↓reduceIte]
      refine hK _ ?_
      refine aB (eC (.tmp 96) rfl rfl rfl (fun h=>?_) (fun h=>?_))
      ·refine aI rfl ?_
       cases h
      refine aI rfl ?_
      clear h
      refine aQ rfl (bU (aB (kU (o+50000) (by omega) ?_)))
      obtain⟨l',hl'⟩: ∃x,omL l (o+100+15+20000+14+5000) om=x:=⟨_,rfl⟩
      have tom:=bJa l (o+100+15+20000+14+5000) om
      obtain⟨M',hM'⟩: ∃x,om.getD M=x:=⟨_,rfl⟩
      rw[hl']at tom
      rw[hM']at o2 o3 o4 o5 o6 o7
      rw[hl',hM']
      have tRM:=o2
      have tI:=o3
      have tSB:=o7 hSB
      have tAP:AP d s m e l' q Q:=by
       rcases tom with h|h
       ·rw[h];exact hAP
       exact hAP.setl ⟨by omega,by omega,by omega,by omega,by omega⟩ (fun z=>by have:=hLT z;omega)
      have tq:=o5.trans hMq
      have tc:=o4.trans hMc
      have tla:M'.last.toNat≤2+(g+1):=by omega
      have tQG:=hQG
      have tKG:KG c M'.L:=by
       have:=bKx hKG hMc X.r (hsd▸bHe c X.s) now
       rw[o1,hM']at this
       exact this
      have tlo:l'<o+50000:=by omega
      have tLT:LT (o+50000) Q:=hLT.up (by omega)
      refine dDq tRM tI tAP ⟨by omega,by omega,by omega,by omega,by omega,by omega⟩ tLT (fun nx2 cx2 hcx=>?_)
      refine bU (aB (bA [1,2,7,8,9,10] rfl rfl rfl fun K hK=>?_))
      simp(disch:=omega) only[Tryz.f3,go_sem,↓reduceIte]
      refine hK _ ?_
      refine bT ?_
      exact⟨⟨g+1,C',M',l',Q,now,(o+50000)+5000⟩,⟨by simp only;omega,tRM,tI,tSB,tAP,tq,tc,by simp only;omega,tQG,tKG,by simp only;omega,tLT.up (by simp only;omega),by simp only;omega⟩,by simp only;omega,⟨fun x=> .inr (by simp only[Int.natCast_add,Int.natCast_one]),fun j oo hj=>hj,by simp only;omega⟩⟩
     cases h
    cases h
   ·have dw0:decide (X.w=0)=false:=J6 (by omega)
    have dw1:decide (X.w=1)=true:=J5 hw
    refine aR 2 rfl rfl (aA rfl (aA rfl (bA [1,2,7,8,9,10,11,47,61] rfl rfl rfl fun K hK=>?_)))
    simp(disch:=omega) only[Tryz.f3,go_sem,↓reduceIte,dw0]
    refine hK _ ?_
    refine aB (eC (.tmp 61) rfl rfl rfl (fun h=>?_) (fun h=>?_))
    ·cases h
    clear h
    refine bA [61,1,2,7,8,9,10,11,47] rfl rfl rfl fun K hK=>?_
    simp(disch:=omega) only[Tryz.f3,go_sem,↓reduceIte,dw1]
    refine hK _ ?_
    refine aB (eC (.tmp 61) rfl rfl rfl (fun h=>?_) (fun h=>?_))
    ·refine aI rfl ?_
     clear h
     refine aA rfl (kU (o+100) (by omega) ?_)
     obtain⟨sd,hsd⟩: ∃x:S8,(⟨X.s%5#8,3#8,0#8,0#8,0#8,0#8,0#8,0#8⟩:S8)=x:=⟨_,rfl⟩
     obtain⟨om,o1,o2,o3,o4,o5,o6,o7⟩:=aXw hRM hI (by omega) (by rw[hMc];exact hh) X.r sd now
     obtain⟨k1,k2⟩:=dDu hRM hI (by omega) (by rw[hMc];exact hh) X.r sd now
     obtain⟨va,hva⟩: ∃x,(nL M X.r sd now).1=x:=⟨_,rfl⟩
     obtain⟨vb,hvb⟩: ∃x,(nL M X.r sd now).2.1=x:=⟨_,rfl⟩
     rw[hva]at k1
     rw[hvb]at k2
     refine aC (Γ:=bC [(8,.heap bgG)]) [1,2,7,8,9,10,11,12,13] (aH aNa aO) rfl rfl rfl (fun K hK=>?_)
     simp(disch:=omega) only[Tryz.f3,go_sem,↓reduceIte,BitVec.reduceEq,rK hAP,hRM.ok,hlC,hCh,hby1,hby2,hsd,aAl,true_and,k1,k2]
     refine hK _ ?_
     refine aB ?_
     obtain⟨C',hC'⟩: ∃x,(bgV C X.r sd now).2.2=x:=⟨_,rfl⟩
     rw[hC']at o2
     rw[hC']
     refine aA rfl (aC (Γ:=bC [(9,.heap bAo)]) [1,2,7,8,9,10,12,13,14,15] (aH cVi aO) rfl rfl rfl (fun K hK=>?_))
     simp(disch:=omega) only[Tryz.f3,go_sem,↓reduceIte,BitVec.reduceEq,aDm hAP,hsd,hL50,o1,aWq hAP,true_and,hva,hvb]
     refine hK _ ?_
     refine aB (aA rfl (bA [96,1,2,7,8,9,10] rfl rfl rfl fun K hK=>?_))
     simp(disch:=omega) only[Tryz.f3,go_sem,↓reduceIte]
     refine hK _ ?_
     refine aB (eC (.tmp 96) rfl rfl rfl (fun h=>?_) (fun h=>?_))
     ·refine aI rfl ?_
      cases h
     refine aI rfl ?_
     clear h
     refine aQ rfl (bU (aB (kU (o+50000) (by omega) ?_)))
     obtain⟨l',hl'⟩: ∃x,omL l (o+100+15+20000+14+5000) om=x:=⟨_,rfl⟩
     have tom:=bJa l (o+100+15+20000+14+5000) om
     obtain⟨M',hM'⟩: ∃x,om.getD M=x:=⟨_,rfl⟩
     rw[hl']at tom
     rw[hM']at o2 o3 o4 o5 o6 o7
     rw[hl',hM']
     have tRM:=o2
     have tI:=o3
     have tSB:=o7 hSB
     have tAP:AP d s m e l' q Q:=by
      rcases tom with h|h
      ·rw[h];exact hAP
      exact hAP.setl ⟨by omega,by omega,by omega,by omega,by omega⟩ (fun z=>by have:=hLT z;omega)
     have tq:=o5.trans hMq
     have tc:=o4.trans hMc
     have tla:M'.last.toNat≤2+(g+1):=by omega
     have tQG:=hQG
     have tKG:KG c M'.L:=by
      have:=bKx hKG hMc X.r (hsd▸bHe c X.s) now
      rw[o1,hM']at this
      exact this
     have tlo:l'<o+50000:=by omega
     have tLT:LT (o+50000) Q:=hLT.up (by omega)
     refine dDq tRM tI tAP ⟨by omega,by omega,by omega,by omega,by omega,by omega⟩ tLT (fun nx2 cx2 hcx=>?_)
     refine bU (aB (bA [1,2,7,8,9,10] rfl rfl rfl fun K hK=>?_))
     simp(disch:=omega) only[Tryz.f3,go_sem,↓reduceIte]
     refine hK _ ?_
     refine bT ?_
     exact⟨⟨g+1,C',M',l',Q,now,(o+50000)+5000⟩,⟨by simp only;omega,tRM,tI,tSB,tAP,tq,tc,by simp only;omega,tQG,tKG,by simp only;omega,tLT.up (by simp only;omega),by simp only;omega⟩,by simp only;omega,⟨fun x=> .inr (by simp only[Int.natCast_add,Int.natCast_one]),fun j oo hj=>hj,by simp only;omega⟩⟩
    refine aI rfl ?_
    cases h
   ·have dw0:decide (X.w=0)=false:=J6 (by omega)
    have dw1:decide (X.w=1)=false:=J6 (by omega)
    have dw6:decide (X.w=6)=true:=J5 hw
    refine aR 2 rfl rfl (aA rfl (aA rfl (bA [1,2,7,8,9,10,11,47,61] rfl rfl rfl fun K hK=>?_)))
    simp(disch:=omega) only[Tryz.f3,go_sem,↓reduceIte,dw0]
    refine hK _ ?_
    refine aB (eC (.tmp 61) rfl rfl rfl (fun h=>?_) (fun h=>?_))
    ·cases h
    clear h
    refine bA [61,1,2,7,8,9,10,11,47] rfl rfl rfl fun K hK=>?_
    simp(disch:=omega) only[Tryz.f3,go_sem,↓reduceIte,dw1]
    refine hK _ ?_
    refine aB (eC (.tmp 61) rfl rfl rfl (fun h=>?_) (fun h=>?_))
    ·refine aI rfl ?_
     cases h
    refine aI rfl ?_
    clear h
    refine aA rfl (bA [97,1,2,7,8,9,10,11] rfl rfl rfl fun K hK=>?_)
    simp(disch:=omega) only[Tryz.f3,go_sem,↓reduceIte,dw6]
    refine hK _ ?_
    refine aB (eC (.tmp 97) rfl rfl rfl (fun h=>?_) (fun h=>?_))
    ·refine aI rfl ?_
     clear h
     refine aA rfl ?_
     have hbe:=dCl hAP C M
     have hbl:=dCk hAP C M
     have dlen:decide ((0:Int)<(M.L.length:Int))=true:=J5 (by omega)
     refine bA [1,2,7,8,9,10,11,16] rfl rfl rfl fun K hK=>?_
     simp(disch:=omega) only[Tryz.f3,go_sem,↓reduceIte]
     refine hK _ ?_
     refine aB ?_
     by_cases hg4:X.g%4#8=0#8
     ·have dg4:decide (X.g%4#8=0#8)=true:=J5 hg4
      refine aA rfl (aA rfl (bA [113,1,2,7,8,9,10,11,16] rfl rfl rfl fun K hK=>?_))
      simp(disch:=omega) only[Tryz.f3,go_sem,↓reduceIte,hbe,jR,dlen,J8,J7,J9]
      refine hK _ ?_
      refine aB ?_
      simp(disch:=omega) only[go_sem,↓reduceIte,dg4,Bool.not_true]
      refine eC (.tmp 113) rfl rfl rfl (fun h=>?_) (fun h=>?_)
      ·refine aI rfl ?_
       cases h
      refine aI rfl ?_
      clear h
      refine aQ rfl (aB (aA rfl ?_))
      obtain⟨tag,htag⟩: ∃x:BitVec 16,BitVec.setWidth 16 X.g=x:=⟨_,rfl⟩
      rw[htag]
      have g1:=hQG
      have g2:=hAP
      have g3:LT (o+30000) Q:=hLT.up (by omega)
      obtain⟨Q1,hQ1⟩: ∃x,Q=x:=⟨_,rfl⟩
      rw[hQ1]at g1 g2 g3⊢
      have g17:=g1.len
      obtain⟨P,p1,p0,p2⟩:=dDt (now:=now) (tag:=tag) (lH 1 M.L) hRM (fun x hx=>(jU.1 hx).1)
      have hdn:=aOz
      refine kU (o+60000) (by omega) ?_
      have hsl:=hI.sl
      have hsep:=g2.sep
      obtain⟨Q2,a1,a2,a3⟩:=aCj (tag:=tag) (Q0:=Q1) (nx:=o+60000+9+200000+210) (show M.L.length≤50 from hL50) M.L (o+60000+9+200000+210) (Q:=Q1) (fun x hx=>hRM.h hx) (by omega) (U3 _) (.inl rfl)
      have g4:=aSc M.L _ hKG g1 a1
      have g5:=g2.setQ a2 ⟨by omega,by omega,by omega,by omega,by omega,by omega⟩
      have g6:LT (o+5500000) Q2:=a2.lt (g3.up (by omega)) (by omega) (by omega)
      simp only[]at g4
      obtain⟨of,hof⟩: ∃x,((lH 1 M.L).find? fun x=>decide (pL (dkB x)=tag))=x:=⟨_,rfl⟩
      rw[hof]at p0 p2 a1
      obtain⟨vc,hvc⟩: ∃x,(zQ M now of).1=x:=⟨_,rfl⟩
      rw[hvc]at p0
      refine aC (Γ:=bC [(11,.heap aPa),(12,.heap bHy)]) [140,1,2,7,8,9,10] (aH cVy (aH cVn aO)) rfl rfl rfl (fun K hK=>?_)
      simp(disch:=omega) only[Tryz.f3,go_sem,↓reduceIte,rK g2,hRM.ok,hRM.l,hby1,hby2,p1,p0,aAl,true_and,aDm g2,bRh g2,hMq,a1,hL50,hsl,hsep,aXy g2 g5,cDs g5,and_self,hdn,hvc]
      refine hK _ ?_
      refine aB (eC (.tmp 140) rfl rfl rfl (fun h=>?_) (fun h=>?_))
      ·refine aI rfl ?_
       cases h
      refine aI rfl ?_
      clear h
      refine aQ rfl (bU (aB ?_))
      obtain⟨C',hC'⟩: ∃x,P.2=x:=⟨_,rfl⟩
      rw[hC']at p2⊢
      refine kU (o+5500000) (by omega) ?_
      obtain⟨i1,i2,i3,i4,i5⟩:=bUt hI now of
      have tKG:=cIx hKG now of
      obtain⟨M',hM'⟩: ∃x,(zQ M now of).2=x:=⟨_,rfl⟩
      rw[hM']at i1 i2 i3 i4 i5 p2 tKG⊢
      obtain⟨l',hl'⟩: ∃x,l=x:=⟨_,rfl⟩
      have tRM:=p2
      have tI:=i1
      have tSB:=i5 now hSB
      have tAP:=g5
      have tq:=i3.trans hMq
      have tc:=i2.trans hMc
      have tla:M'.last.toNat≤2+(g+1):=by rw[i4];omega
      have tQG:=g4
      have tlo:l<o+5500000:=by omega
      have tLT:=g6
      rw[hl']at tAP tlo⊢
      refine dDq tRM tI tAP ⟨by omega,by omega,by omega,by omega,by omega,by omega⟩ tLT (fun nx2 cx2 hcx=>?_)
      refine bU (aB (bA [1,2,7,8,9,10] rfl rfl rfl fun K hK=>?_))
      simp(disch:=omega) only[Tryz.f3,go_sem,↓reduceIte]
      refine hK _ ?_
      refine bT ?_
      exact⟨⟨g+1,C',M',l',Q2,now,(o+5500000)+5000⟩,⟨by simp only;omega,tRM,tI,tSB,tAP,tq,tc,by simp only;omega,tQG,tKG,by simp only;omega,tLT.up (by simp only;omega),by simp only;omega⟩,by simp only;omega,⟨fun x=> .inr (by simp only[Int.natCast_add,Int.natCast_one]),fun j oo hj=>hj,by simp only;omega⟩⟩
     have dg4:decide (X.g%4#8=0#8)=false:=J6 hg4
     refine aA rfl (aA rfl (bA [113,1,2,7,8,9,10,11,16] rfl rfl rfl fun K hK=>?_))
     simp(disch:=omega) only[Tryz.f3,go_sem,↓reduceIte,hbe,jR,dlen,J8,J7,J9]
     refine hK _ ?_
     refine aB ?_
     simp(disch:=omega) only[go_sem,↓reduceIte,dg4,Bool.not_false]
     refine eC (.tmp 113) rfl rfl rfl (fun h=>?_) (fun h=>?_)
     ·refine aI rfl ?_
      clear h
      obtain⟨i,hi⟩: ∃i,X.n.toNat%M.L.length=i:=⟨_,rfl⟩
      have hiL:i<M.L.length:=by rw[←hi];exact Nat.mod_lt _ (by omega)
      have hrem:((X.n.toNat:Nat):Int)%(M.L.length:Int)=(i:Int):=by rw[←hi];rfl
      have hrem2:Int.tmod ((X.n.toNat:Nat):Int) (M.L.length:Int)=(i:Int):=by rw[←hi];rfl
      have ha0:=jW M.L i 0 hiL (by omega)
      have e15:i*15=15*i:=by omega
      have hkl:=iJ M.L
      obtain⟨Y,hY⟩: ∃Y,kyA M.L i=Y:=⟨_,rfl⟩
      have hYm:Y∈M.L:=by rw[←hY,←kJ M.L i hiL];exact List.getElem_mem _
      have hYf:=jX hI.sl hYm
      have hYh:=hRM.h hYm
      have hLz: ¬((M.L.length:Int)=0):=by omega
      rw[hY,Nat.add_zero]at ha0
      have hL100:M.L.length≤100:=by omega
      have hQ7:=hQG.len
      have hQ100:Q.R.length≤100:=by omega
      have hLq:l≠q:=hAP.sep.2.1
      refine kU (o+100) (by omega) (bB (Γ:=bC [(10,.heap yW)]) (fun k=>if k=16 then 0 else if k=17 then 0 else 2) [1,2,7,8,9,10,16] bZ (aH aVx aO) rfl rfl rfl (by kernel_rfl) (fun K hK=>?_))
      simp(disch:=omega) only[Tryz.f3,go_sem,↓reduceIte,hbe,hbl,jR,ha0,e15,hrem2,kyC,hLz,aDm hAP,bRh hAP,hMq,hYf,hYh,hL100,hQ100,cRl hAP,true_and,J8,J7,J9]
      refine hK _ ?_
      refine aB ?_
      have hr3:rdN Y≤3:=by unfold rdN;split<;>omega
      obtain⟨n1,hn1⟩: ∃x,o+100+19+192+rdN Y+60*M.L.length+100*Q.R.length=x:=⟨_,rfl⟩
      rw[hn1]
      have hn1b:o+311≤n1∧n1≤o+11000:=by omega
      obtain⟨tag,htag⟩: ∃x,pL (dkB Y)=x:=⟨_,rfl⟩
      have g1:=hQG.add (hKG Y hYm) n1
      have g2:=hAP.add ⟨Y.seed,Y.h⟩ (n:=n1) (by omega)
      have g3:LT (o+30000) (oA Q ⟨Y.seed,Y.h⟩ n1):=(QI.add (nx:=o) (cx:=o) (.inl rfl:QI Q o o Q) (⟨Y.seed,Y.h⟩:TK) (n:=n1) (by omega) (by omega)).lt hLT (by omega) (by omega)
      obtain⟨Q1,hQ1⟩: ∃x,oA Q ⟨Y.seed,Y.h⟩ n1=x:=⟨_,rfl⟩
      rw[hQ1]at g1 g2 g3⊢
      rw[htag]
      have g17:=g1.len
      obtain⟨P,p1,p0,p2⟩:=dDt (now:=now) (tag:=tag) (lH 1 M.L) hRM (fun x hx=>(jU.1 hx).1)
      have hdn:=aOz
      refine kU (o+60000) (by omega) ?_
      have hsl:=hI.sl
      have hsep:=g2.sep
      obtain⟨Q2,a1,a2,a3⟩:=aCj (tag:=tag) (Q0:=Q1) (nx:=o+60000+9+200000+210) (show M.L.length≤50 from hL50) M.L (o+60000+9+200000+210) (Q:=Q1) (fun x hx=>hRM.h hx) (by omega) (U3 _) (.inl rfl)
      have g4:=aSc M.L _ hKG g1 a1
      have g5:=g2.setQ a2 ⟨by omega,by omega,by omega,by omega,by omega,by omega⟩
      have g6:LT (o+5500000) Q2:=a2.lt (g3.up (by omega)) (by omega) (by omega)
      simp only[]at g4
      obtain⟨of,hof⟩: ∃x,((lH 1 M.L).find? fun x=>decide (pL (dkB x)=tag))=x:=⟨_,rfl⟩
      rw[hof]at p0 p2 a1
      obtain⟨vc,hvc⟩: ∃x,(zQ M now of).1=x:=⟨_,rfl⟩
      rw[hvc]at p0
      refine aA rfl (aC (Γ:=bC [(11,.heap aPa),(12,.heap bHy)]) [140,1,2,7,8,9,10] (aH cVy (aH cVn aO)) rfl rfl rfl (fun K hK=>?_))
      simp(disch:=omega) only[Tryz.f3,go_sem,↓reduceIte,rK g2,hRM.ok,hRM.l,hby1,hby2,p1,p0,aAl,true_and,aDm g2,bRh g2,hMq,a1,hL50,hsl,hsep,aXy g2 g5,cDs g5,and_self,hdn,hvc]
      refine hK _ ?_
      refine aB (eC (.tmp 140) rfl rfl rfl (fun h=>?_) (fun h=>?_))
      ·refine aI rfl ?_
       cases h
      refine aI rfl ?_
      clear h
      refine aQ rfl (bU (aB ?_))
      obtain⟨C',hC'⟩: ∃x,P.2=x:=⟨_,rfl⟩
      rw[hC']at p2⊢
      refine kU (o+5500000) (by omega) ?_
      obtain⟨i1,i2,i3,i4,i5⟩:=bUt hI now of
      have tKG:=cIx hKG now of
      obtain⟨M',hM'⟩: ∃x,(zQ M now of).2=x:=⟨_,rfl⟩
      rw[hM']at i1 i2 i3 i4 i5 p2 tKG⊢
      obtain⟨l',hl'⟩: ∃x,l=x:=⟨_,rfl⟩
      have tRM:=p2
      have tI:=i1
      have tSB:=i5 now hSB
      have tAP:=g5
      have tq:=i3.trans hMq
      have tc:=i2.trans hMc
      have tla:M'.last.toNat≤2+(g+1):=by rw[i4];omega
      have tQG:=g4
      have tlo:l<o+5500000:=by omega
      have tLT:=g6
      rw[hl']at tAP tlo⊢
      refine dDq tRM tI tAP ⟨by omega,by omega,by omega,by omega,by omega,by omega⟩ tLT (fun nx2 cx2 hcx=>?_)
      refine bU (aB (bA [1,2,7,8,9,10] rfl rfl rfl fun K hK=>?_))
      simp(disch:=omega) only[Tryz.f3,go_sem,↓reduceIte]
      refine hK _ ?_
      refine bT ?_
      exact⟨⟨g+1,C',M',l',Q2,now,(o+5500000)+5000⟩,⟨by simp only;omega,tRM,tI,tSB,tAP,tq,tc,by simp only;omega,tQG,tKG,by simp only;omega,tLT.up (by simp only;omega),by simp only;omega⟩,by simp only;omega,⟨fun x=> .inr (by simp only[Int.natCast_add,Int.natCast_one]),fun j oo hj=>hj,by simp only;omega⟩⟩
     refine aI rfl ?_
     cases h
    refine aI rfl ?_
    cases h
   have dw0:decide (X.w=0)=false:=J6 (by omega)
   have dw1:decide (X.w=1)=false:=J6 (by omega)
   have dw6:decide (X.w=6)=false:=J6 (by omega)
   refine aR 2 rfl rfl (aA rfl (aA rfl (bA [1,2,7,8,9,10,11,47,61] rfl rfl rfl fun K hK=>?_)))
   simp(disch:=omega) only[Tryz.f3,go_sem,↓reduceIte,dw0]
   refine hK _ ?_
   refine aB (eC (.tmp 61) rfl rfl rfl (fun h=>?_) (fun h=>?_))
   ·cases h
   clear h
   refine bA [61,1,2,7,8,9,10,11,47] rfl rfl rfl fun K hK=>?_
   simp(disch:=omega) only[Tryz.f3,go_sem,↓reduceIte,dw1]
   refine hK _ ?_
   refine aB (eC (.tmp 61) rfl rfl rfl (fun h=>?_) (fun h=>?_))
   ·refine aI rfl ?_
    cases h
   refine aI rfl ?_
   clear h
   refine aA rfl (bA [97,1,2,7,8,9,10,11] rfl rfl rfl fun K hK=>?_)
   simp(disch:=omega) only[Tryz.f3,go_sem,↓reduceIte,dw6]
   refine hK _ ?_
   refine aB (eC (.tmp 97) rfl rfl rfl (fun h=>?_) (fun h=>?_))
   ·refine aI rfl ?_
    cases h
   refine aI rfl ?_
   clear h
   refine aA rfl ?_
   have hcf:=aDi c
   have hge:=dEe now X.n
   refine aC (Γ:=bC [(13,.pure true rQ)]) [1,2,7,8,9,10] (aH aVw aO) rfl rfl rfl (fun K hK=>?_)
   simp(disch:=omega) only[Tryz.f3,go_sem,↓reduceIte]
   refine hK _ ?_
   refine aB ?_
   obtain⟨now2,hn2⟩: ∃x,plV now X.n=x:=⟨_,rfl⟩
   rw[hn2]at hge⊢
   have hSB2:SB now2 M.L:=fun k hk=>by have:=hSB k hk;omega
   refine kU (o+1000) (by omega) ?_
   have hsl:=hI.sl
   have hN:=aLx
   have hN2:=aWo
   obtain⟨out,C',M',l',w1,w2,w3,w4,w5,w6,w7,w8,w9,w10,w11,w12,w13⟩:=aFm (L0:=[]) (now:=now2) 3 (C:=C) (M:=M) (out:=[]) 100 l (o+1000+9+10000000+100) (cXi M.L) (by omega) hRM hI (fun w hw _=>by cases hw) (fun t ht=>by cases ht) hSB2
   rw[hMc]at w1 w2 w5 w7
   have tKG:=bKm 100 hKG w2
   simp only[]at tKG
   have hld:l'≠d∧l'≠s∧l'≠m:=by have:=hAP.ld;omega
   have hle:l'≠e:=by have:=hAP.el;omega
   have hlq:l'≠q:=by have:=hAP.sep.2.1;omega
   have hlQ:Q.R≠[]→l'≠Q.a∧l'≠Q.b∧l'≠Q.c:=fun z=>by have:=(hAP.sep.2.2 z).2.2.2;have:=hLT z;omega
   have tAP:=hAP.setl ⟨hle,hld.1,hld.2.1,hld.2.2,hlq⟩ hlQ
   have hol:out.length≤200:=by have:([]:List KY).length=0:=rfl;omega
   have hol2:out.length≤1000:=by omega
   refine aA rfl (aC (Γ:=bC [(15,.heap yS),(16,.heap aCg),(14,.pure true aXb)]) [60,1,2,7,8,9,10] (aH aVz (aH cVm (aH dEa aO))) rfl rfl rfl (fun K hK=>?_))
   simp(disch:=omega) only[Tryz.f3,go_sem,↓reduceIte,rK hAP,hcf,hby2,w1,aAl,aDm hAP,hMc,w2,hsl,hL50,aQf hAP C' M M' hld,and_self,sK,hol2,hN]
   refine hK _ ?_
   refine aB (eC (.tmp 60) rfl rfl rfl (fun h=>?_) (fun h=>?_))
   ·refine aI rfl ?_
    cases h
   refine aI rfl ?_
   clear h
   refine aQ rfl (bU (aB (kU (o+45000000) (by omega) ?_)))
   have tRM:=w3
   have tI:=w4
   have tSB:=w6
   have tq:=w8.trans hMq
   have tc:=w7
   have tla:M'.last.toNat≤2+(g+1):=by rw[w9];omega
   have tQG:=hQG
   have tlo:l'<o+45000000:=by omega
   have tLT:LT (o+45000000) Q:=hLT.up (by omega)
   refine dDq tRM tI tAP ⟨by omega,by omega,by omega,by omega,by omega,by omega⟩ tLT (fun nx2 cx2 hcx=>?_)
   refine bU (aB (bA [1,2,7,8,9,10] rfl rfl rfl fun K hK=>?_))
   simp(disch:=omega) only[Tryz.f3,go_sem,↓reduceIte]
   refine hK _ ?_
   refine bT ?_
   exact⟨⟨g+1,C',M',l',Q,now2,(o+45000000)+5000⟩,⟨by simp only;omega,tRM,tI,tSB,tAP,tq,tc,by simp only;omega,tQG,tKG,by simp only;omega,tLT.up (by simp only;omega),by simp only;omega⟩,by simp only;omega,⟨fun x=> .inr (by simp only[Int.natCast_add,Int.natCast_one]),fun j oo hj=>hj,by simp only;omega⟩⟩
  refine aI rfl ?_
  clear h
  refine bF 0 rfl rfl (aY (aZ (bE (aB (aA rfl (bA [6] rfl rfl rfl fun K hK=>?_))))))
  simp(disch:=omega) only[Tryz.f3,go_sem,↓reduceIte]
  refine hK _ ?_
  refine aB (aS rfl ?_)
  simp(disch:=omega) only[cN,bV,bK,bQ,Tryz.f3,go_sem,↓reduceIte]
 cases hg
end Go.AX
