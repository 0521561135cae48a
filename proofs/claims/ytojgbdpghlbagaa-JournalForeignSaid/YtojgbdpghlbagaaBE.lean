/-
  Journal, more, part T: what is no journal isn't opened. Journal, more, part U: the plain law: any disk is opened, or is none. Journal, more, part V: what is no journal isn't taken for one: the walk.
-/
import Derived.Test.YtojgbdpghlbagaaBD
namespace Go.AX
open Go Go.Proofs
set_option maxRecDepth 8000
noncomputable def dXg:List AV→H→Nat→Option (AV×H×Nat)
 |[.op j 0],hp,nx=>aK (mJ hp j) fun t=>aK (uK t.C.rows) fun z=>aK (mM t.C 0 t.C.rows.length) fun L=>
   aN ((t.C.dead=false∧DG t.C z.toNat)∧(64≤z∧z≤4096)∧dEs L=false∧t.C.rows.length≤4096)
    (some (.tup [.v (.pointer none),.v (.slice none 0 0),.i 91],hp,nx+opN))
 |_,_,_=>none
theorem dYd (j:Nat) (hp:H) (nx:Nat):dXg [.op j 0] hp nx=aK (mJ hp j) fun t=>aK (uK t.C.rows) fun z=>aK (mM t.C 0 t.C.rows.length) fun L=>
   aN ((t.C.dead=false∧DG t.C z.toNat)∧(64≤z∧z≤4096)∧dEs L=false∧t.C.rows.length≤4096)
    (some (.tup [.v (.pointer none),.v (.slice none 0 0),.i 91],hp,nx+opN)):=(rfl)
set_option maxHeartbeats 4000000 in
theorem dYc:cQ Try.prog GLh 32 dXg:=by
 refine gF Try.func32 (aT rfl) ?_
 intro args hp nx r hp' nx' hg
 unfold dXg at hg
 split at hg
 ·rename_i j
  replace hg:=aJ hg;obtain⟨⟨⟨d,sd,b,co⟩,s,m,C⟩,hJ,hg⟩:=hg
  replace hg:=aJ hg;obtain⟨z0,hz,hg⟩:=hg
  replace hg:=aJ hg;obtain⟨L,hL,hg⟩:=hg
  replace hg:=aP hg;obtain⟨⟨⟨hdd,hG⟩,⟨hz0,hz1⟩,hbk,hrl⟩,hg⟩:=hg
  have h3:=hJ
  have hJ:=mA hJ
  simp only[Option.some.injEq,Prod.mk.injEq]at hg hJ hG hz hrl hL hdd;obtain⟨rfl,rfl,rfl⟩:=hg
  obtain⟨z,rfl⟩:=Int.eq_ofNat_of_zero_le (show 0≤z0 by omega)
  simp only[U2]at*
  have hO:=dHv
  refine⟨J1 rfl,by omega,fun hnone=>?_⟩
  have h1:=hJ.hj
  have hD:=hJ.hd
  have hne:=hJ.ne
  simp only at h1 hD hne
  obtain⟨e1,e2,e3⟩:=hne
  have h2:=dFt hJ
  simp only at h2
  have hjl:=cA hnone h1
  have hLl:=dEt hL
  have hfr:(0:Int)+(C.rows.length:Int)≤(C.rows.length:Int):=by omega
  refine aA rfl (bA [0] rfl rfl rfl fun K hK=>?_)
  simp(disch:=omega) only[Try.f32,go_sem,↓reduceIte]
  refine hK _ ?_
  refine aB (aA rfl (aC (Γ:=bC [(29,.heap dGz),(30,.heap dIa)]) [0,5,6] (aH ok8 (aH dKn aO)) rfl rfl rfl (fun K hK=>?_)))
  simp(disch:=omega) only[Try.f32,go_sem,↓reduceIte,h1,h2,h3,hdd,hrl,hL,hfr,U2,Int.toNat_zero,true_and,and_self]
  refine hK _ ?_
  refine aB (aA rfl (aA rfl (bA [19,0,5,6] rfl rfl rfl fun K hK=>?_)))
  simp(disch:=omega) only[Try.f32,go_sem,↓reduceIte]
  refine hK _ ?_
  refine aB (eC (.tmp 19) rfl rfl rfl (fun h=>?_) (fun h=>?_))
  ·refine aI rfl ?_
   cases h
  refine aI rfl ?_
  clear h
  refine aQ rfl (aB (aA rfl (aA rfl (aC (Γ:=bC [(31,.pure true dIf)]) [23,0] (aH dKm aO) rfl rfl rfl (fun K hK=>?_)))))
  simp(disch:=omega) only[Try.f32,go_sem,↓reduceIte,hbk,Bool.not_false]
  refine hK _ ?_
  refine aB (eC (.tmp 23) rfl rfl rfl (fun h=>?_) (fun h=>?_))
  ·refine aI rfl (aA rfl (bA [2,3,4] rfl rfl rfl fun K hK=>?_))
   simp(disch:=omega) only[Try.f32,go_sem,↓reduceIte]
   refine hK _ ?_
   refine aB (aS rfl (bI ?_))
   exact⟨rfl,fun q o hq=>hq,by simp only;omega⟩
  refine aI rfl ?_
  cases h
 cases hg
theorem dYj:bX Try.prog GLh 32 (.heap dXg):=⟨⟨_,Try.func32,rfl,rfl⟩,dYc⟩
def OpF (C:DC) (z:Nat):Prop:= ∃w,mM C 0 1=some w∧
 ((dEs w=true∧∃L,mM C 0 C.rows.length=some L∧dEs L=false)∨
 (dEs w=false∧¬HDQ ((eH C:Int)*(z:Int)) w∧64≤w.length∧w.length≤4096)∨
 (dEs w=false∧OKH ((eH C:Int)*(z:Int)) w∧∃L,mM C (1+(w.getD 8 0#8).toNat*eH C) (((hN w).toNat+z-1)/z)=some L∧((hN w).toNat≤L.length∧(hN w).toNat≤1000000)∧dFc ((hN w).toNat+1) (L.take (hN w).toNat)=none))
noncomputable instance opfDec (C:DC) (z:Nat):Decidable (OpF C z):=Classical.propDecidable _
noncomputable def dXd:List AV→H→Nat→Option (AV×H×Nat)
 |[.op d 0],hp,nx=>aK (mB hp d) fun t=>aK (uK t.C.rows) fun z=>aN ((t.C.dead=false∧DG t.C z.toNat)∧(64≤z∧z≤4096)∧8≤t.C.rows.length∧OpF t.C z.toNat)
   (some (.tup [.v (.pointer none),.v (.slice none 0 0),.i 91],hp,nx+100+opN+opN+opN))
 |_,_,_=>none
set_option maxHeartbeats 4000000 in
theorem dXu:cQ Try.prog GLh 13 dXd:=by
 refine gF Try.func13 (aT rfl) ?_
 intro args hp nx r hp' nx' hg
 unfold dXd at hg
 split at hg
 ·rename_i d
  replace hg:=aJ hg;obtain⟨⟨s,m,C⟩,hd,hg⟩:=hg
  replace hg:=aJ hg;obtain⟨z0,hz,hg⟩:=hg
  replace hg:=aP hg;obtain⟨⟨⟨hdd,hG⟩,⟨hz0,hz1⟩,h8,hF⟩,hg⟩:=hg
  have hD:=mD hd
  simp only[Option.some.injEq,Prod.mk.injEq]at hg hG hz hdd hD h8 hF;obtain⟨rfl,rfl,rfl⟩:=hg
  obtain⟨z,rfl⟩:=Int.eq_ofNat_of_zero_le (show 0≤z0 by omega)
  simp only[U2]at*
  have hO:=dHv
  refine⟨J1 rfl,by omega,fun hnone=>?_⟩
  have hlt: ∀k o,hp k=some o→k<nx:=fun k o hk=>cA hnone hk
  obtain⟨l1,l2,l3⟩:=hD.lt hlt
  have hrl:=hG.le
  obtain⟨w,hw,hF⟩:=hF
  have d8:decide ((C.rows.length:Int)<8)=false:=J6 (by omega)
  refine aA rfl (bA [0] rfl rfl rfl fun K hK=>?_)
  simp(disch:=omega) only[Try.f13,go_sem,↓reduceIte]
  refine hK _ ?_
  refine aB (aA rfl (aA rfl (aC (Γ:=bC [(29,.heap dGz)]) [13,0] (aH ok8 aO) rfl rfl rfl (fun K hK=>?_))))
  simp(disch:=omega) only[Try.f13,go_sem,↓reduceIte,hd,d8]
  refine hK _ ?_
  refine aB (eC (.tmp 13) rfl rfl rfl (fun h=>?_) (fun h=>?_))
  ·refine aI rfl ?_
   cases h
  refine aI rfl ?_
  clear h
  refine aQ rfl (aB (aA rfl (bA [0,5] rfl rfl rfl fun K hK=>?_)))
  simp(disch:=omega) only[Try.f13,go_sem,↓reduceIte]
  refine hK _ ?_
  refine aB ?_
  refine dMx (nx+58) [.op d 0,.i 0,.v (.slice none 0 0),.w64 0#64] (by simp(disch:=omega) only[aV,bY,↓reduceIte,eq_self]<;>rfl) ?_
  simp only[List.map_cons,List.map_nil,cKz,dRe]
  obtain⟨j,hj⟩: ∃j,nx+58=j:=⟨_,rfl⟩
  obtain⟨v,hva⟩: ∃v,nx+59=v:=⟨_,rfl⟩
  have ej:nx+3+3+50+2=j:=by omega
  have ev:nx+3+3+50+3=v:=by omega
  rw[hj]
  clear ej
  rw[ev]
  obtain⟨X0,hX0⟩: ∃x:JC,(⟨d,0,[],0#64⟩:JC)=x:=⟨_,rfl⟩
  refine yK (hp':=upd (upd hp j (.cells [.op d 0,.i 0,.sl 0 [],.w64 0#64] true)) v (.cells [.op j 0] true)) (fun q oo hq=>by
   simp only[bJ]at hq⊢
   by_cases f1:q=j
   ·rw[J4 f1];rw[J3 (by omega),J4 f1]at hq;exact hq
   rw[J3 f1]
   by_cases f2:q=v
   ·rw[J4 f2]at hq⊢;exact hq
   rw[J3 f2,J3 f1]at hq;rw[J3 f2,J3 f1];exact hq) ?_
  have hJ1:mE (upd (upd hp j (.cells [.op d 0,.i 0,.sl 0 [],.w64 0#64] true)) v (.cells [.op j 0] true)) j ⟨⟨d,0,[],0#64⟩,s,m,C⟩:=
   ⟨by rw[bJ,J3 (by omega),bJ,J4 rfl];rfl,(hD.upd j _ (by omega) (by omega) (by omega)).upd v _ (by omega) (by omega) (by omega),⟨by simp only;omega,by simp only;omega,by simp only;omega⟩⟩
  have hH1v:(upd (upd hp j (.cells [.op d 0,.i 0,.sl 0 [],.w64 0#64] true)) v (.cells [.op j 0] true)) v=some (.cells [.op j 0] true):=by rw[bJ,J4 rfl]
  have hH1h: ∀q oo,(upd hp j (.cells [.op d 0,.i 0,.sl 0 [],.w64 0#64] true)) q=some oo→(upd (upd hp j (.cells [.op d 0,.i 0,.sl 0 [],.w64 0#64] true)) v (.cells [.op j 0] true)) q=some oo:=fun q oo hq=>by
   rw[bJ,J3 (fun e=>by
    subst e
    rw[bJ,J3 (by omega)]at hq
    have:=hlt _ _ hq
    omega)]
   exact hq
  have hH1l: ∀q oo,(upd (upd hp j (.cells [.op d 0,.i 0,.sl 0 [],.w64 0#64] true)) v (.cells [.op j 0] true)) q=some oo→q<nx+60:=fun q oo hq=>by
   simp only[bJ]at hq
   by_cases f1:q=v
   ·omega
   rw[J3 f1]at hq
   by_cases f2:q=j
   ·omega
   rw[J3 f2]at hq
   have:=hlt _ _ hq
   omega
  obtain⟨H1,hH1⟩: ∃x,(upd (upd hp j (.cells [.op d 0,.i 0,.sl 0 [],.w64 0#64] true)) v (.cells [.op j 0] true))=x:=⟨_,rfl⟩
  rw[hH1]at hJ1 hH1v hH1h hH1l⊢
  have hjr1:=hE hJ1
  have h01:(0:Int)+1≤(C.rows.length:Int):=by omega
  have ht0:mM C (0:Int).toNat (1:Int).toNat=some w:=hw
  have hwl:=dEt hw
  refine aA rfl (aC (Γ:=bC [(30,.heap dIa)]) [0,5,6,7] (aH dKn aO) rfl rfl rfl (fun K hK=>?_))
  simp(disch:=omega) only[Try.f13,go_sem,↓reduceIte,hH1v,hjr1,hdd,hrl,hw,true_and,and_self]
  refine hK _ ?_
  refine aB (aA rfl (aA rfl (bA [23,0,5,6,7] rfl rfl rfl fun K hK=>?_)))
  simp(disch:=omega) only[Try.f13,go_sem,↓reduceIte]
  refine hK _ ?_
  refine aB (eC (.tmp 23) rfl rfl rfl (fun h=>?_) (fun h=>?_))
  ·refine aI rfl ?_
   cases h
  refine aI rfl ?_
  clear h
  refine aQ rfl (aB (aA rfl (aA rfl ?_)))
  obtain⟨u,hu⟩: ∃u,nx+66=u:=⟨_,rfl⟩
  rw[hu]
  have hJ2:=hJ1.upd u (.cells [.sl w.length (c8 w)] true) (by omega) (by simp only;omega) (by simp only;omega) (by simp only;omega)
  have hH2v:(upd H1 u (.cells [.sl w.length (c8 w)] true)) v=some (.cells [.op j 0] true):=by rw[bJ,J3 (by omega)];exact hH1v
  have hH2u:(upd H1 u (.cells [.sl w.length (c8 w)] true)) u=some (.cells [.sl w.length (c8 w)] true):=by rw[bJ,J4 rfl]
  have hH2h: ∀q oo,(upd hp j (.cells [.op d 0,.i 0,.sl 0 [],.w64 0#64] true)) q=some oo→(upd H1 u (.cells [.sl w.length (c8 w)] true)) q=some oo:=fun q oo hq=>by
   have h1:=hH1h q oo hq
   have h2:=hH1l q oo h1
   rw[bJ,J3 (by omega)];exact h1
  have hH2l: ∀q oo,(upd H1 u (.cells [.sl w.length (c8 w)] true)) q=some oo→q<nx+67:=fun q oo hq=>by
   rw[bJ]at hq
   by_cases f1:q=u
   ·omega
   rw[J3 f1]at hq
   have:=hH1l _ _ hq
   omega
  obtain⟨H2,hH2⟩: ∃x,(upd H1 u (.cells [.sl w.length (c8 w)] true))=x:=⟨_,rfl⟩
  rw[hH2]at hJ2 hH2v hH2u hH2h hH2l⊢
  have hjr2:=hE hJ2
  have hwl2:w.length≤1000000000:=by omega
  rcases hF with⟨hbk,L,hL,hLb⟩|⟨hbk2,hok,hwl3⟩|⟨hbk2,hok,L,hL,⟨hnL,hn6⟩,hR⟩
  ·have hbg: ∀nx2,dXg [.op j 0] H2 nx2=some (.tup [.v (.pointer none),.v (.slice none 0 0),.i 91],H2,nx2+opN):=fun nx2=>by
    rw[dYd,hjr2,aX]
    simp only
    rw[hz,aX,hL,aX,cU _ ⟨⟨hdd,by simpa using hG⟩,⟨hz0,hz1⟩,hLb,hrl⟩]
   refine aC (Γ:=bC [(31,.pure true dIf)]) [26,0,5,6] (aH dKm aO) rfl rfl rfl (fun K hK=>?_)
   simp(disch:=omega) only[Try.f13,go_sem,↓reduceIte,hH2u,hbk,hwl2,iA]
   refine hK _ ?_
   refine aB (eC (.tmp 26) rfl rfl rfl (fun h=>?_) (fun h=>?_))
   ·refine aI rfl ?_
    clear h
    refine aA rfl (aC (Γ:=bC [(32,.heap dXg)]) [2,3,4] (aH dYj aO) rfl rfl rfl (fun K hK=>?_))
    simp(disch:=omega) only[Try.f13,go_sem,↓reduceIte,hH2v,hbg]
    refine hK _ ?_
    refine aB (aS rfl (bI ?_))
    refine⟨rfl,fun q oo hq=>?_,by simp only;omega⟩
    have:=hlt _ _ hq
    exact hH2h q oo (by rw[bJ,J3 (by omega)];exact hq)
   refine aI rfl ?_
   cases h
  ·refine aC (Γ:=bC [(31,.pure true dIf)]) [26,0,5,6] (aH dKm aO) rfl rfl rfl (fun K hK=>?_)
   simp(disch:=omega) only[Try.f13,go_sem,↓reduceIte,hH2u,hbk2,hwl2,iA]
   refine hK _ ?_
   refine aB (eC (.tmp 26) rfl rfl rfl (fun h=>?_) (fun h=>?_))
   ·refine aI rfl ?_
    cases h
   refine aI rfl ?_
   clear h
   refine aQ rfl (aB (aA rfl (bA [0,5,6,8] rfl rfl rfl fun K hK=>?_)))
   simp(disch:=omega) only[Try.f13,go_sem,↓reduceIte]
   refine hK _ ?_
   refine aB ?_
   obtain⟨y,hy⟩: ∃y,nx+773=y:=⟨_,rfl⟩
   rw[hy]
   have hJ3:=hJ2.upd y (.cells [.i 0] true) (by omega) (by simp only;omega) (by simp only;omega) (by simp only;omega)
   have hH3v:(upd H2 y (.cells [.i 0] true)) v=some (.cells [.op j 0] true):=by rw[bJ,J3 (by omega)];exact hH2v
   have hH3u:(upd H2 y (.cells [.i 0] true)) u=some (.cells [.sl w.length (c8 w)] true):=by rw[bJ,J3 (by omega)];exact hH2u
   have hH3y:(upd H2 y (.cells [.i 0] true)) y=some (.cells [.i 0] true):=by rw[bJ,J4 rfl]
   have hH3h: ∀q oo,(upd hp j (.cells [.op d 0,.i 0,.sl 0 [],.w64 0#64] true)) q=some oo→(upd H2 y (.cells [.i 0] true)) q=some oo:=fun q oo hq=>by
    have h1:=hH2h q oo hq
    have h2:=hH2l q oo h1
    rw[bJ,J3 (by omega)];exact h1
   obtain⟨H3,hH3⟩: ∃x,(upd H2 y (.cells [.i 0] true))=x:=⟨_,rfl⟩
   rw[hH3]at hJ3 hH3v hH3u hH3y hH3h⊢
   have hjr3:=hE hJ3
   have hcf: ∀nx2,dXc [.fn 34 [.op v 0,.op u 0,.op y 0]] H3 nx2=some (.i 91,H3,nx2+5000):=fun nx2=>by
    show(aK (o1P [.op v 0,.op u 0,.op y 0] H3 nx2) fun _=>some (AV.i 91,H3,nx2+5000))=_
    unfold o1P
    simp only
    rw[dFk hH3v,aX,dFk hH3u,aX]
    simp only
    rw[dXm,hjr3,aX,iA,aX]
    simp only
    rw[hz,aX,cU _ ⟨⟨by trivial,⟨by omega,by omega⟩,by omega,by omega⟩,hwl3,hok⟩,aX,aX]
   refine aA rfl (aA rfl (aC (Γ:=bC [(33,.heap dXc)]) [0,5,7,8] (aH dXj aO) rfl rfl rfl (fun K hK=>?_)))
   simp(disch:=omega) only[Try.f13,go_sem,↓reduceIte,hcf]
   refine hK _ ?_
   refine aB (aA rfl (bA [35,0,5,7,8] rfl rfl rfl fun K hK=>?_))
   simp(disch:=omega) only[Try.f13,go_sem,↓reduceIte]
   refine hK _ ?_
   refine aB (eC (.tmp 35) rfl rfl rfl (fun h=>?_) (fun h=>?_))
   ·refine aI rfl (aA rfl (bA [2,3,4] rfl rfl rfl fun K hK=>?_))
    simp(disch:=omega) only[Try.f13,go_sem,↓reduceIte]
    refine hK _ ?_
    refine aB (aS rfl (bI ?_))
    refine⟨rfl,fun q oo hq=>?_,by simp only;omega⟩
    have:=hlt _ _ hq
    exact hH3h q oo (by rw[bJ,J3 (by omega)];exact hq)
   refine aI rfl ?_
   cases h
  have hsd2:(w.getD 8 0#8).toNat<2:=by have:=hok.sd;rw[BitVec.lt_def]at this;exact this
  refine aC (Γ:=bC [(31,.pure true dIf)]) [26,0,5,6] (aH dKm aO) rfl rfl rfl (fun K hK=>?_)
  simp(disch:=omega) only[Try.f13,go_sem,↓reduceIte,hH2u,hbk2,hwl2,iA]
  refine hK _ ?_
  refine aB (eC (.tmp 26) rfl rfl rfl (fun h=>?_) (fun h=>?_))
  ·refine aI rfl ?_
   cases h
  refine aI rfl ?_
  clear h
  refine aQ rfl (aB (aA rfl (bA [0,5,6,8] rfl rfl rfl fun K hK=>?_)))
  simp(disch:=omega) only[Try.f13,go_sem,↓reduceIte]
  refine hK _ ?_
  refine aB ?_
  obtain⟨y,hy⟩: ∃y,nx+773=y:=⟨_,rfl⟩
  rw[hy]
  have hJ3:=hJ2.upd y (.cells [.i 0] true) (by omega) (by simp only;omega) (by simp only;omega) (by simp only;omega)
  have hH3v:(upd H2 y (.cells [.i 0] true)) v=some (.cells [.op j 0] true):=by rw[bJ,J3 (by omega)];exact hH2v
  have hH3u:(upd H2 y (.cells [.i 0] true)) u=some (.cells [.sl w.length (c8 w)] true):=by rw[bJ,J3 (by omega)];exact hH2u
  have hH3y:(upd H2 y (.cells [.i 0] true)) y=some (.cells [.i 0] true):=by rw[bJ,J4 rfl]
  have hH3h: ∀q oo,(upd hp j (.cells [.op d 0,.i 0,.sl 0 [],.w64 0#64] true)) q=some oo→(upd H2 y (.cells [.i 0] true)) q=some oo:=fun q oo hq=>by
   have h1:=hH2h q oo hq
   have h2:=hH2l q oo h1
   rw[bJ,J3 (by omega)];exact h1
  obtain⟨H3,hH3⟩: ∃x,(upd H2 y (.cells [.i 0] true))=x:=⟨_,rfl⟩
  rw[hH3]at hJ3 hH3v hH3u hH3y hH3h⊢
  have hjr3:=hE hJ3
  obtain⟨sd,hsd⟩: ∃x,(w.getD 8 0#8).toNat=x:=⟨_,rfl⟩
  obtain⟨n,hn⟩: ∃x,(hN w).toNat=x:=⟨_,rfl⟩
  rw[hsd]at hL hsd2
  rw[hn]at hL hnL hn6 hR
  have hca: ∀nx2,dIe [.fn 34 [.op v 0,.op u 0,.op y 0]] H3 nx2=some (.i 0,upd (cS j ⟨⟨d,sd,[],hC w⟩,s,m,C⟩ H3) y (.cells [.i n] true),nx2+5000):=fun nx2=>by
   show(aK (o1G [.op v 0,.op u 0,.op y 0] H3 nx2) fun r=>some (AV.i 0,r.2.1,nx2+5000))=_
   unfold o1G
   simp only
   rw[dFk hH3v,aX,dFk hH3u,aX,dFk hH3y,aX]
   simp only
   rw[iA,aX,cU _ rfl,hjr3,aX]
   unfold o1H
   simp only
   rw[hz,aX,cU _ ⟨⟨⟨⟨by omega,by omega⟩,by omega,by omega⟩,hok⟩,by omega,by omega,by omega,by omega⟩,aX,hsd,hn]
  have hJ4:mE (upd (cS j ⟨⟨d,sd,[],hC w⟩,s,m,C⟩ H3) y (.cells [.i n] true)) j ⟨⟨d,sd,[],hC w⟩,s,m,C⟩:=
   (dFb H3 j ⟨⟨d,sd,[],hC w⟩,s,m,C⟩ hD.ne.1 hD.ne.2.1 hD.ne.2.2.1 hJ3.ne).upd y _ (by omega) (by simp only;omega) (by simp only;omega) (by simp only;omega)
  have hsJ: ∀q,q≠j→q≠d→q≠s→q≠m→cS j ⟨⟨d,sd,[],hC w⟩,s,m,C⟩ H3 q=H3 q:=fun q f1 f2 f3 f4=>by
   unfold cS
   rw[mH _ _ _ _ _ _ f2 f3 f4,bJ,J3 f1]
  have hH4v:(upd (cS j ⟨⟨d,sd,[],hC w⟩,s,m,C⟩ H3) y (.cells [.i n] true)) v=some (.cells [.op j 0] true):=by
   rw[bJ,J3 (by omega),hsJ v (by omega) (by omega) (by omega) (by omega)];exact hH3v
  have hH4y:(upd (cS j ⟨⟨d,sd,[],hC w⟩,s,m,C⟩ H3) y (.cells [.i n] true)) y=some (.cells [.i n] true):=by rw[bJ,J4 rfl]
  have hH4h: ∀q oo,q≠j→hp q=some oo→(upd (cS j ⟨⟨d,sd,[],hC w⟩,s,m,C⟩ H3) y (.cells [.i n] true)) q=some oo:=fun q oo f1 hq=>by
   have h0:=hlt _ _ hq
   rw[bJ,J3 (by omega)]
   have hs1:bO d s m C hp q=some oo:=by rw[mC hD];exact hq
   unfold cS
   refine eL (fun a ao ha=>?_) q oo hs1
   have h1:=hlt _ _ ha
   rw[bJ,J3 (by omega)]
   exact hH3h a ao (by rw[bJ,J3 (by omega)];exact ha)
  obtain⟨H4,hH4⟩: ∃x,(upd (cS j ⟨⟨d,sd,[],hC w⟩,s,m,C⟩ H3) y (.cells [.i n] true))=x:=⟨_,rfl⟩
  rw[hH4]at hJ4 hH4v hH4y hH4h
  simp only[hH4]at hca
  have hjr4:=hE hJ4
  have hj4:=hJ4.hj
  have hd4:=dFt hJ4
  simp only at hj4 hd4
  refine aA rfl (aA rfl (aC (Γ:=bC [(33,.heap dIe)]) [0,5,7,8] (aH dNb aO) rfl rfl rfl (fun K hK=>?_)))
  simp(disch:=omega) only[Try.f13,go_sem,↓reduceIte,hca]
  refine hK _ ?_
  refine aB (aA rfl (bA [35,0,5,7,8] rfl rfl rfl fun K hK=>?_))
  simp(disch:=omega) only[Try.f13,go_sem,↓reduceIte]
  refine hK _ ?_
  refine aB (eC (.tmp 35) rfl rfl rfl (fun h=>?_) (fun h=>?_))
  ·refine aI rfl ?_
   cases h
  refine aI rfl ?_
  clear h
  refine aQ rfl (aB (aA rfl ?_))
  have hsec:eH C≤2048:=by unfold eH;omega
  have hsz:eH C*z≤2048*4096:=Nat.mul_le_mul hsec (by omega)
  have hmost:n≤eH C*z:=by
   have h1:=hok.le
   rw[BitVec.le_def,hn,show((eH C:Int)*(z:Int))=((eH C*z:Nat):Int)from(Int.natCast_mul _ _).symm,BitVec.ofInt_natCast,BitVec.toNat_ofNat,Nat.mod_eq_of_lt (by omega)]at h1
   exact h1
  have hcnt:(n+z-1)/z≤eH C:=by
   have:(n+z-1)/z<eH C+1:=(Nat.div_lt_iff_lt_mul (by omega)).2 (by rw[Nat.add_mul,Nat.one_mul];omega)
   omega
  have hsb:sd*eH C≤eH C:=by
   rcases(by omega:sd=0∨sd=1)with rfl|rfl<;>omega
  have esd:(sd:Int)*(eH C:Int)=((sd*eH C:Nat):Int):=(Int.natCast_mul _ _).symm
  have edv:((n:Int)+(z:Int)-1).tdiv (z:Int)=(((n+z-1)/z:Nat):Int):=by
   rw[show(n:Int)+(z:Int)-1=((n+z-1:Nat):Int)by omega];rfl
  have hs2:2*eH C+1≤C.rows.length:=by unfold eH;omega
  obtain⟨sb,hsbe⟩: ∃x,sd*eH C=x:=⟨_,rfl⟩
  obtain⟨cn,hcn⟩: ∃x,(n+z-1)/z=x:=⟨_,rfl⟩
  rw[hsbe]at hL hsb esd
  rw[hcn]at hL hcnt edv
  have hz0': ¬((z:Int)=0):=by omega
  have t1:(1+(sb:Int)).toNat=1+sb:=by omega
  have g1:1≤C.rows.length∧C.rows.length≤4096:=by omega
  have g2:(1+(sb:Int))+(cn:Int)≤(C.rows.length:Int):=by omega
  have hLl:=dEt hL
  have hLn:(L.take n).length=n:=by rw[List.length_take];omega
  refine aYa (Γ:=bC [(36,.heap dFy),(37,.heap dGx),(30,.heap dIa)]) (fun k=>if k=0 then true else if k=1 then true else if k=4 then true else if k=5 then true else if k=6 then true else if k=9 then true else if k=11 then true else if k=15 then true else false) [(0,1),(0,4),(0,5),(1,5),(4,5),(0,6),(1,6),(4,6),(0,9),(1,9),(4,9),(5,9),(6,9),(0,11),(1,11),(4,11),(9,11),(0,15),(1,15),(4,15),(9,15)] (fun k=>if k=17 then 0 else if k=15 then 0 else if k=11 then 0 else if k=6 then 0 else 2) [5,7,8,9] mixed (aH dKl (aH ok9 (aH dKn aO))) rfl rfl rfl (by kernel_rfl) (fun K hK=>?_)
  simp(maxSteps:=400000) (disch:=omega) only[Try.f13,go_sem,and_self,and_true,true_and,↓reduceIte,hH4v,hj4,hjr4,hd4,hH4y,hz,g1,esd,edv,hz0',hdd,g2,t1,U2,hL,true_and,and_self]
  refine hK _ ?_
  refine aB (aA rfl (aA rfl (bA [59,5,7,8,9] rfl rfl rfl fun K hK=>?_)))
  simp(disch:=omega) only[Try.f13,go_sem,↓reduceIte]
  refine hK _ ?_
  refine aB (eC (.tmp 59) rfl rfl rfl (fun h=>?_) (fun h=>?_))
  ·refine aI rfl ?_
   cases h
  refine aI rfl ?_
  clear h
  refine aQ rfl (aB (aA rfl (aYa (Γ:=aL) (fun k=>if k=0 then true else if k=2 then true else false) [(0,2)] (fun _=>2) [5] mixed (aD _ _) rfl rfl rfl (by kernel_rfl) (fun K hK=>?_))))
  simp(maxSteps:=400000) (disch:=omega) only[Try.f13,go_sem,and_self,and_true,true_and,↓reduceIte,hH4v,hj4,hH4y,U2,rH,Nat.sub_zero]
  refine hK _ ?_
  refine aB ?_
  obtain⟨X,hX⟩: ∃x,L.take n=x:=⟨_,rfl⟩
  rw[hX]at hLn hR⊢
  have hJ5:mE (upd H4 j (.cells [.op d 0,.i sd,.sl n (c8 X),.w64 (hC w)] true)) j ⟨⟨d,sd,X,hC w⟩,s,m,C⟩:=
   ⟨by rw[bJ,J4 rfl,←hLn],hJ4.hd.upd j _ (by simp only;omega) (by simp only;omega) (by simp only;omega),hJ4.ne⟩
  have hH5v:(upd H4 j (.cells [.op d 0,.i sd,.sl n (c8 X),.w64 (hC w)] true)) v=some (.cells [.op j 0] true):=by rw[bJ,J3 (by omega)];exact hH4v
  have hH5h: ∀q oo,(upd hp j (.cells [.op d 0,.i sd,.sl n (c8 X),.w64 (hC w)] true)) q=some oo→(upd H4 j (.cells [.op d 0,.i sd,.sl n (c8 X),.w64 (hC w)] true)) q=some oo:=fun q oo hq=>by
   rw[bJ]at hq⊢
   by_cases f1:q=j
   ·rw[J4 f1]at hq⊢;exact hq
   rw[J3 f1]at hq⊢;exact hH4h q oo f1 hq
  obtain⟨H5,hH5⟩: ∃x,(upd H4 j (.cells [.op d 0,.i sd,.sl n (c8 X),.w64 (hC w)] true))=x:=⟨_,rfl⟩
  rw[hH5]at hJ5 hH5v hH5h⊢
  obtain⟨p,hp0⟩: ∃p,y+2+3+5000+2+23+100+50+50+500+200*cn+2+7=p:=⟨_,rfl⟩
  rw[hp0]
  refine aA rfl (bA [5,10] rfl rfl rfl fun K hK=>?_)
  simp(disch:=omega) only[Try.f13,go_sem,↓reduceIte]
  refine hK _ ?_
  refine aB ?_
  have hJ6:=hJ5.upd p (.cells [.v (.slice none 0 0)] true) (by omega) (by simp only;omega) (by simp only;omega) (by simp only;omega)
  have hjr6:=hE hJ6
  have hH6v:(upd H5 p (.cells [.v (.slice none 0 0)] true)) v=some (.cells [.op j 0] true):=by rw[bJ,J3 (by omega)];exact hH5v
  have hH6p:(upd H5 p (.cells [.v (.slice none 0 0)] true)) p=some (.cells [.v (.slice none 0 0)] true):=by rw[bJ,J4 rfl]
  have hcb: ∀nx2,dXc [.fn 38 [.op v 0,.op p 0]] (upd H5 p (.cells [.v (.slice none 0 0)] true)) nx2=some (.i 91,upd H5 p (.cells [.v (.slice none 0 0)] true),nx2+opN+5000):=fun nx2=>by
   show(aK (o2P [.op v 0,.op p 0] (upd H5 p (.cells [.v (.slice none 0 0)] true)) nx2) fun _=>some (AV.i 91,upd H5 p (.cells [.v (.slice none 0 0)] true),nx2+opN+5000))=_
   unfold o2P
   simp only
   rw[dFk hH6v,aX]
   simp only
   rw[hjr6,aX,cU _ ⟨by simp only;omega,by simp only;rw[hLn];exact hR⟩,aX]
  refine aA rfl (aA rfl (aC (Γ:=bC [(33,.heap dXc)]) [5,7,10] (aH dXj aO) rfl rfl rfl (fun K hK=>?_)))
  simp(disch:=omega) only[Try.f13,go_sem,↓reduceIte,hcb]
  refine hK _ ?_
  refine aB (aA rfl (bA [70,5,7,10] rfl rfl rfl fun K hK=>?_))
  simp(disch:=omega) only[Try.f13,go_sem,↓reduceIte]
  refine hK _ ?_
  refine aB (eC (.tmp 70) rfl rfl rfl (fun h=>?_) (fun h=>?_))
  ·refine aI rfl (aA rfl (bA [2,3,4] rfl rfl rfl fun K hK=>?_))
   simp(disch:=omega) only[Try.f13,go_sem,↓reduceIte]
   refine hK _ ?_
   refine aB (aS rfl (bI ?_))
   refine⟨rfl,fun q oo hq=>?_,by simp only;omega⟩
   have h0:=hlt _ _ hq
   simp only
   rw[bJ,J3 (by omega)]
   exact hH5h q oo (by rw[bJ,J3 (by omega)];exact hq)
  refine aI rfl ?_
  cases h
 cases hg
theorem dYk:bX Try.prog GLh 13 (.heap dXd):=⟨⟨_,Try.func13,rfl,rfl⟩,dXu⟩
end Go.AX

namespace Go.AX
open Go Go.Proofs
set_option maxRecDepth 8000
theorem dWv {C:DC} {z:Nat} (hG:DG C z) (hz:64≤z∧z≤4096) (hd:C.dirty=[]) (f:Nat): ∀n,f+n≤C.rows.length→∃L,mM C f n=some L∧L.length=n*z
 |0,_=>⟨[],rfl,by simp⟩
 |n+1,h=>by
  obtain⟨L,h1,h2⟩:=dWv hG hz hd f n (by omega)
  have hf:f+n<C.rows.length:=by omega
  have hrd:rdV C (f+n)=some C.rows[f+n]:=by
   unfold rdV
   rw[hd]
   exact List.getElem?_eq_getElem hf
  have hr:C.rows[f+n].length=z:=hG.row _ (List.getElem_mem hf)
  refine⟨L++C.rows[f+n],?_,by rw[List.length_append,h2,hr,Nat.succ_mul]⟩
  rw[mM,h1,aX,hrd,aX,cU _ (by omega)]
theorem dXn {t:JT} {z:Nat} (hG:DG t.C z) (hz:64≤z) (hdd:t.C.dead=false) (hc:t.C.cut<0):(dGe t z).1=0:=by
 have e: ∀q:Int,wlV z q [] 4097 t.C (0/z)=(0,t.C):=fun q=>by
  rw[show(4097:Nat)=4096+1 from rfl,wlV,J4 (by simp)]
 unfold dGe jwV
 simp only[e]
 rw[J3 (by simp)]
 unfold dFm
 simp only
 rcases dSg hG hdd with⟨a1,a2,a3,a4,a5⟩|⟨a1,a2,a3,a4,a5⟩
 ·rw[J3 (by omega)]
  have hyG:DG (mL t.C).2 z:=(hG.stl fun _=>true).eq a4 a3
  have hyc:=a5 hc
  obtain⟨Y,hY⟩: ∃Y,(mL t.C).2=Y:=⟨_,rfl⟩
  rw[hY]at hyG hyc a2⊢
  unfold dGi
  simp only
  have hv:=dSm hyG a2 (q:=0) hyG.ne (b:=hdV z 0 ([]:List B8).length (t.J.com-1#64)) (dEm hz _ _ _)
  have hvG:=hyG.wr ((0:Nat):Int) (hdV z 0 ([]:List B8).length (t.J.com-1#64))
  rw[show((0:Nat):Int)=0 from rfl]at hv
  have hw0:DG (wrV Y 0 (hdV z 0 ([]:List B8).length (t.J.com-1#64)) z).2 z:=hvG
  obtain⟨V,hV⟩: ∃V,wrV Y 0 (hdV z 0 ([]:List B8).length (t.J.com-1#64)) z=V:=⟨_,rfl⟩
  rw[hV]at hv hw0⊢
  rcases hv with⟨c1,c2,c3,c4⟩|⟨c1,c2,c3,c4⟩
  ·rw[J3 (by omega)]
   rcases dSg hw0 c2 with⟨e1,e2,e3,e4,e5⟩|⟨e1,e2,e3,e4,e5⟩
   ·rw[J3 (by omega)]
   exact absurd (c4 hyc) e5
  exact absurd hyc c4
 exact absurd hc a5
theorem dXt {C:DC} {z d s m:Nat} {hp:H} (hD:aZo hp d s m C) (hG:DG C z) (hz:64≤z∧z≤4096) (h8:8≤C.rows.length) (hsm:eH C*z≤1000000) (hd:C.dirty=[]) (hdd:C.dead=false) (hc:C.cut<0):
  (∃W,∀nx,dFi [.op d 0] hp nx=some (.tup [.op (nx+58) 0,.v (.slice none 0 0),.i 0],cS (nx+58) W hp,nx+100+opN+opN))∨
  (∃(r:List (List B8)) (W:JT),∀nx,dFi [.op d 0] hp nx=some (.tup [.op (nx+58) 0,.sl r.length (cP r),.i 0],cS (nx+58) W hp,nx+100+opN+opN))∨
  (∀nx,dXd [.op d 0] hp nx=some (.tup [.v (.pointer none),.v (.slice none 0 0),.i 91],hp,nx+100+opN+opN+opN)):=by
 have hsiz:=hG.siz
 have hdk:=mK hD
 have hrl:=hG.le
 obtain⟨w,hw,hwl⟩:=dWv hG hz hd 0 1 (by omega)
 rw[Nat.one_mul]at hwl
 obtain⟨L,hL,hLl⟩:=dWv hG hz hd 0 C.rows.length (by omega)
 have esz:(eH C:Int)*(z:Int)=((eH C*z:Nat):Int):=(Int.natCast_mul _ _).symm
 have fail:OpF C z→∀nx,dXd [.op d 0] hp nx=some (.tup [.v (.pointer none),.v (.slice none 0 0),.i 91],hp,nx+100+opN+opN+opN):=fun hF nx=>by
  show(aK (mB hp d) fun t=>aK (uK t.C.rows) fun z=>aN ((t.C.dead=false∧DG t.C z.toNat)∧(64≤z∧z≤4096)∧8≤t.C.rows.length∧OpF t.C z.toNat)
   (some (AV.tup [.v (.pointer none),.v (.slice none 0 0),.i 91],hp,nx+100+opN+opN+opN)))=_
  rw[hdk,aX]
  simp only
  rw[hsiz,aX,cU _ ⟨⟨hdd,by simpa using hG⟩,by omega,h8,by simpa using hF⟩]
 have good: ∀nx a h2,dJh C d s m z (nx+58) hp=some (a,h2)→dFi [.op d 0] hp nx=some (a,h2,nx+100+opN+opN):=fun nx a h2 h=>by
  unfold dFi
  simp only
  rw[hdk,aX]
  simp only
  rw[hsiz,aX,cU _ ⟨⟨hdd,by simpa using hG⟩,by omega,by omega⟩,U2,h,aX]
 by_cases hb:dEs w=true
 ·by_cases hb2:dEs L=true
  ·have hbg:=dXn (t:=⟨⟨d,0,[],0#64⟩,s,m,C⟩) hG hz.1 hdd hc
   refine .inl ⟨(dGe ⟨⟨d,0,[],0#64⟩,s,m,C⟩ z).2,fun nx=>good nx _ _ ?_⟩
   unfold dJh
   rw[J3 (by omega),hw,aX,J4 hb,hL,aX,cU _ hb2,hbg]
   rfl
  ·exact .inr (.inr (fail ⟨w,hw,.inl ⟨hb,L,hL,by simpa using hb2⟩⟩))
 ·have hb':dEs w=false:=by simpa using hb
  by_cases hq:HDQ ((eH C:Int)*(z:Int)) w
  ·obtain⟨q1,q2,q3,q4⟩:=hq
   have hn:(hN w).toNat≤eH C*z:=by
    have h1:=q4
    rw[BitVec.le_def,esz,BitVec.ofInt_natCast,BitVec.toNat_ofNat,Nat.mod_eq_of_lt (by omega)]at h1
    exact h1
   have hok:OKH ((eH C:Int)*(z:Int)) w:=⟨q1,q2,q3,q4,by omega,by omega⟩
   have hsd:(w.getD 8 0#8).toNat<2:=by rw[BitVec.lt_def]at q2;exact q2
   obtain⟨sd,hsd2⟩: ∃x,(w.getD 8 0#8).toNat=x:=⟨_,rfl⟩
   obtain⟨n,hnn⟩: ∃x,(hN w).toNat=x:=⟨_,rfl⟩
   rw[hsd2]at hsd
   rw[hnn]at hn
   have hcnt:(n+z-1)/z≤eH C:=by
    have:(n+z-1)/z<eH C+1:=(Nat.div_lt_iff_lt_mul (by omega)).2 (by rw[Nat.add_mul,Nat.one_mul];omega)
    omega
   have hsb:sd*eH C≤eH C:=by
    rcases(by omega:sd=0∨sd=1)with rfl|rfl<;>omega
   have hs2:2*eH C+1≤C.rows.length:=by unfold eH;omega
   obtain⟨X,hX,hXl⟩:=dWv hG hz hd (1+sd*eH C) ((n+z-1)/z) (by omega)
   have hge:=dUb n (z:=z) (by omega)
   rcases hr:dFc (n+1) (X.take n)with _|r
   ·exact .inr (.inr (fail ⟨w,hw,.inr (.inr ⟨hb',hok,X,by rw[hsd2,hnn];exact hX,by rw[hnn];omega,by rw[hnn];exact hr⟩)⟩))
   ·refine .inr (.inl ⟨r,⟨⟨d,(sd:Int),X.take n,hC w⟩,s,m,C⟩,fun nx=>good nx _ _ ?_⟩)
    unfold dJh
    rw[J3 (by omega),hw,aX,J3 hb,cU _ hok,hsd2,hnn,hX,aX,cU _ (by omega),hr,aX]
  ·exact .inr (.inr (fail ⟨w,hw,.inr (.inl ⟨hb',hq,by omega,by omega⟩)⟩))
end Go.AX

namespace Go.AX
open Go Go.Proofs
set_option maxRecDepth 8000
def dWu (l:List (BitVec 16)):List AV:=l.map .w16
theorem dWy (l:List (BitVec 16)):(dWu l).length=l.length:=List.length_map ..
theorem dXf (l:List (BitVec 16)) (k:Nat) (h:k<l.length):((dWu l).drop k).head? =some (.w16 (l.getD k 0#16)):=by
 rw[List.head?_drop,dWu,List.getElem?_map,List.getElem?_eq_getElem h,List.getD_eq_getElem?_getD,List.getElem?_eq_getElem h]
 rfl
def dXa:List AV→Option (List (BitVec 16))
 |[]=>some []
 | .w16 x::r=>aK (dXa r) fun l=>some (x::l)
 |_::_=>none
theorem dWx: ∀ {xs:List AV} {l:List (BitVec 16)},dXa xs=some l→xs=dWu l
 |[],l,h=>by obtain rfl:=J0 h;rfl
 | .w16 x::r,l,h=>by
  rw[dXa]at h
  replace h:=aJ h;obtain⟨l',h1,h⟩:=h
  obtain rfl:=J0 h
  rw[dWx h1];rfl
theorem dYf (l:List (BitVec 16)):dXa (dWu l)=some l:=by
 induction l with
 |nil=>rfl
 |cons x r ih=>show aK (dXa (dWu r)) _=_;rw[ih];rfl
structure FD (hp:H) (d s m:Nat) (C:DC):Prop where
 has:aZo hp d s m C
 dg:DG C 512
 de:C.dead=false
 cu:C.cut<0
 n:C.rows.length=40
theorem FD.rd {hp:H} {d s m:Nat} {C:DC} (h:FD hp d s m C) {q:Nat} (hq:q<40):
  ∃(k:Nat) (b:List B8),(71≤k∧k≤77)∧b.length=512∧∀nx,rdG [.op d 0,.i q] hp nx=some (.tup [.os (nx+k) 0 512 1 true,.i 0],upd hp (nx+k) (.cells (c8 b) true),nx+100):=by
 have ha:atV C q=0:=by
  have hn:=h.n
  unfold atV;rw[J3 (by simp[h.de]),J3 (by omega)]
 rcases hg:iK (q:Int) C.dirty with _|b
 ·have hn:=h.n
  have hlt:q<C.rows.length:=by omega
  have hb:C.rows[q].length=512:=h.dg.row _ (List.getElem_mem hlt)
  refine⟨77,C.rows[q],by decide,hb,fun nx=>?_⟩
  rw[dNz,mK h.has,aX]
  simp only
  rw[ha,dQi,hg,dQh,U2,List.getElem?_eq_getElem hlt,aX,hb,cU _ (by decide)]
 ·have hb:b.length=512:=h.dg.dr _ (dIu hg)
  refine⟨71,b,by decide,hb,fun nx=>?_⟩
  rw[dNz,mK h.has,aX]
  simp only
  rw[ha,dQi,hg,dQg,hb,cU _ (by decide)]
theorem FD.wr {hp:H} {d s m:Nat} {C:DC} (h:FD hp d s m C) {q id:Nat} (hq:q<40) {b:List B8} (hb:b.length=512) (hi:hp id=some (.cells (c8 b) true)):
  ∃(e:Int) (h2:H) (C2:DC),(∀nx,wrG [.op d 0,.i q,.os id 0 512 1 true] hp nx=some (.i e,h2,nx+400))∧FD h2 d s m C2:=by
 have hn:=h.n
 have hx:xB hp (.os id 0 512 1 true)=some b:=by
  rw[dPw,cU _ rfl,hi,aX,dPv,iA,aX,cU _ (by omega),J9,List.take_of_length_le (by omega)]
 refine⟨(wrV C q b 512).1,bO d s m (wrV C q b 512).2 hp,(wrV C q b 512).2,fun nx=>?_,⟨dEp (hp:=hp) (C:=(wrV C q b 512).2) h.has.ne.1 h.has.ne.2.1 h.has.ne.2.2.1,h.dg.wr _ _,?_,?_,by rw[dLo];exact hn⟩⟩
 ·rw[dNi,mK h.has,aX]
  simp only
  rw[hx,aX,h.dg.siz,aX,cU _ (by decide)]
  rfl
 ·rcases dSm h.dg h.de (q:=q) (by omega) hb with⟨_,h2,_⟩|⟨_,_,_,h2⟩
  ·exact h2
  ·exact absurd h.cu h2
 ·rcases dSm h.dg h.de (q:=q) (by omega) hb with⟨_,_,_,h2⟩|⟨_,_,_,h2⟩
  ·exact h2 h.cu
  ·exact absurd h.cu h2
theorem FD.syn {hp:H} {d s m:Nat} {C:DC} (h:FD hp d s m C):
  ∃(e:Int) (h2:H) (C2:DC),(∀nx,dJd [.op d 0] hp nx=some (.i e,h2,nx+300+24*C.dirty.length))∧FD h2 d s m C2∧C2.dirty=[]:=by
 refine⟨(mL C).1,bO d s m (mL C).2 hp,(mL C).2,fun nx=>?_,?_⟩
 ·rw[dLq,mK h.has,aX]
  simp only
  rw[cU _ ⟨h.dg.dok,h.dg.le,h.dg.dl⟩]
 ·rcases dSg h.dg h.de with⟨_,a2,a3,a4,a5⟩|⟨_,_,_,_,a5⟩
  ·refine⟨⟨dEp h.has.ne.1 h.has.ne.2.1 h.has.ne.2.2.1,(h.dg.stl fun _=>true).eq a4 a3,a2,a5 h.cu,by rw[a4,dSt];exact h.n⟩,a3⟩
  ·exact absurd h.cu a5
theorem FD.upd {hp:H} {d s m:Nat} {C:DC} (h:FD hp d s m C) (i:Nat) (o:AO) (h1:i≠d) (h2:i≠s) (h3:i≠m):FD (upd hp i o) d s m C:= {h with has:=h.has.upd i o h1 h2 h3}
structure FRI where
 i:Nat
 h:H
 C:DC
 c:Nat
def frG:List AV→Option AV
 |[.sl a xs,.sl b ys,.sl c zs]=>aK (dXa xs) fun at_=>aK (cI ys) fun x=>aK (cI zs) fun lens=>aN ((at_.length=a∧a≤9223372036854775807)∧(x.length=b∧b≤9223372036854775807)∧lens.length=c∧c≤9223372036854775807) (some (.b true))
 |_=>none
set_option maxHeartbeats 8000000 in
theorem dYx:cL Try.prog GLh 4 frG:=by
 refine cC Try.func4 (aT rfl) ?_
 intro args r hg
 unfold frG at hg
 split at hg
 ·rename_i ka xs kb ys kc zs
  replace hg:=aJ hg;obtain⟨A,hA,hg⟩:=hg
  have:=dWx hA;subst this
  replace hg:=aJ hg;obtain⟨x,hx,hg⟩:=hg
  have:=bW hx;subst this
  replace hg:=aJ hg;obtain⟨ls,hls,hg⟩:=hg
  have:=bW hls;subst this
  replace hg:=aP hg;obtain⟨⟨⟨rfl,hal⟩,⟨rfl,hxl⟩,rfl,hll⟩,hg⟩:=hg
  obtain rfl:=J0 hg
  have hck:=dWy A
  clear hg hA hx hls
  refine⟨J1 rfl,fun nx=>?_⟩
  have hO:=dHv
  have hN:=dLi
  refine aA rfl (bA [0,1,2] rfl rfl rfl fun K hK=>?_)
  simp(disch:=omega) only[Try.f4,go_sem,↓reduceIte]
  refine hK _ ?_
  refine aB (aA rfl (aA rfl (aC (Γ:=bC [(9,.pure true dKq)]) [18,0,1,2] (aH okj9 aO) rfl rfl rfl (fun K hK=>?_))))
  simp(disch:=omega) only[Try.f4,go_sem,↓reduceIte]
  refine hK _ ?_
  refine aB (eC (.tmp 18) rfl rfl rfl (fun h=>?_) (fun h=>?_))
  ·refine aI rfl ?_
   cases h
  refine aI rfl ?_
  clear h
  refine aQ rfl (aB (aA rfl (aA rfl ?_)))
  by_cases hq:30<A.length∨x.length<A.length∨6<ls.length
  ·have hor: ∃v1 v2 v3:Bool,decide ((30:Int)<(A.length:Int))=v1∧decide ((x.length:Int)<(A.length:Int))=v2∧decide ((6:Int)<(ls.length:Int))=v3∧(v1=true∨v2=true∨v3=true):=by
    refine⟨_,_,_,rfl,rfl,rfl,?_⟩
    simp only[decide_eq_true_eq]
    omega
   obtain⟨v1,v2,v3,e1,e2,e3,hv⟩:=hor
   cases v1
   ·cases v2
    ·obtain rfl:v3=true:=by simpa using hv
     refine bA [33,0,1,2] rfl rfl rfl fun K hK=>?_
     simp(disch:=omega) only[Try.f4,go_sem,↓reduceIte,e1,e2,e3]
     refine hK _ ?_
     refine aB (eC (.tmp 33) rfl rfl rfl (fun h=>?_) (fun h=>?_))
     ·refine aI rfl (aA rfl (bA [6] rfl rfl rfl fun K hK=>?_))
      simp(disch:=omega) only[Try.f4,go_sem,↓reduceIte]
      refine hK _ ?_
      refine aB (aS rfl (bI ?_))
      simp(disch:=omega) only[cN,bV,bK,bQ,Try.f4,go_sem,↓reduceIte]
     refine aI rfl ?_
     cases h
    refine bA [33,0,1,2] rfl rfl rfl fun K hK=>?_
    simp(disch:=omega) only[Try.f4,go_sem,↓reduceIte,e1,e2]
    refine hK _ ?_
    refine aB (eC (.tmp 33) rfl rfl rfl (fun h=>?_) (fun h=>?_))
    ·refine aI rfl (aA rfl (bA [6] rfl rfl rfl fun K hK=>?_))
     simp(disch:=omega) only[Try.f4,go_sem,↓reduceIte]
     refine hK _ ?_
     refine aB (aS rfl (bI ?_))
     simp(disch:=omega) only[cN,bV,bK,bQ,Try.f4,go_sem,↓reduceIte]
    refine aI rfl ?_
    cases h
   refine bA [33,0,1,2] rfl rfl rfl fun K hK=>?_
   simp(disch:=omega) only[Try.f4,go_sem,↓reduceIte,e1]
   refine hK _ ?_
   refine aB (eC (.tmp 33) rfl rfl rfl (fun h=>?_) (fun h=>?_))
   ·refine aI rfl (aA rfl (bA [6] rfl rfl rfl fun K hK=>?_))
    simp(disch:=omega) only[Try.f4,go_sem,↓reduceIte]
    refine hK _ ?_
    refine aB (aS rfl (bI ?_))
    simp(disch:=omega) only[cN,bV,bK,bQ,Try.f4,go_sem,↓reduceIte]
   refine aI rfl ?_
   cases h
  have e1:decide ((30:Int)<(A.length:Int))=false:=J6 (by omega)
  have e2:decide ((x.length:Int)<(A.length:Int))=false:=J6 (by omega)
  have e3:decide ((6:Int)<(ls.length:Int))=false:=J6 (by omega)
  refine bA [33,0,1,2] rfl rfl rfl fun K hK=>?_
  simp(disch:=omega) only[Try.f4,go_sem,↓reduceIte,e1,e2,e3]
  refine hK _ ?_
  refine aB (eC (.tmp 33) rfl rfl rfl (fun h=>?_) (fun h=>?_))
  ·refine aI rfl ?_
   cases h
  refine aI rfl ?_
  clear h e1 e2 e3
  refine aQ rfl (aB (aA rfl ?_))
  have w40:(wit 40 1 4096).toNat=40:=by decide
  have k40:nwC 40 512=QC (List.replicate 40 (List.replicate 512 0#8)):=dUq (N:=40) (z:=512) (by decide) (by decide)
  refine aC (Γ:=bC [(12,.heap bKg)]) [0,1,2,7] (aH ok7 aO) rfl rfl rfl (fun K hK=>?_)
  simp(disch:=omega) only[Try.f4,go_sem,↓reduceIte,w40,k40]
  refine hK _ ?_
  refine aB ?_
  obtain⟨c0,hc0⟩: ∃x,nx+1+2+15+2=x:=⟨_,rfl⟩
  rw[hc0]
  obtain⟨d,hd⟩: ∃x,c0+3=x:=⟨_,rfl⟩
  obtain⟨s,hs⟩: ∃x,c0+640+3=x:=⟨_,rfl⟩
  obtain⟨m,hm⟩: ∃x,c0+1=x:=⟨_,rfl⟩
  rw[hd,hs,hm]
  obtain⟨H0,hH0⟩: ∃x,(bO d s m (QC (List.replicate 40 (List.replicate 512 0#8))) fun _=>none)=x:=⟨_,rfl⟩
  have hD0:aZo H0 d s m (QC (List.replicate 40 (List.replicate 512 0#8))):=by rw[←hH0];exact dEp (by omega) (by omega) (by omega)
  rw[hH0]
  have hne:=hD0.ne
  have hop0:=fun nx=>dTu (N:=40) (z:=512) (by decide) (by decide) nx hD0
  refine aA rfl (aC (Γ:=bC [(13,.heap dFi)]) [0,1,2,7,8] (aH dKo aO) rfl rfl rfl (fun K hK=>?_))
  simp(disch:=omega) only[Try.f4,go_sem,↓reduceIte,hop0]
  refine hK _ ?_
  refine aB ?_
  obtain⟨j,hj⟩: ∃x,c0+640+50+9+58=x:=⟨_,rfl⟩
  rw[hj]
  have hG1:JG (cS j ⟨⟨d,0,[],0#64⟩,s,m,QC (nwR 40 512)⟩ H0) j d s m 512 40 0 [] 0#64 (QC (nwR 40 512)):=
   ⟨dFb _ _ _ hne.1 hne.2.1 hne.2.2.1 (by simp only;omega),dUi (by decide) (by decide),rfl,rfl,by show(-1:Int)<0;decide,dSi 40 512⟩
  obtain⟨H1,hH1⟩: ∃x,cS j ⟨⟨d,0,[],0#64⟩,s,m,QC (nwR 40 512)⟩ H0=x:=⟨_,rfl⟩
  rw[hH1]at hG1⊢
  obtain⟨C1,hC1⟩: ∃x,QC (nwR 40 512)=x:=⟨_,rfl⟩
  rw[hC1]at hG1
  clear hH1 hH0 hD0 hop0 hC1
  have ga:(ls.length≤6∧(0:Int)≤3∧(3:Int)≤1000):=by omega
  have hba:dSs [.i 3,.sl ls.length (c8 ls)]=some (.sl ls.length (cP (dRw 3 ls))):=by rw[dSl,iA,aX,cU _ ⟨rfl,ga⟩]
  have hBl:=dRu 3 ls
  have hBb:=dTc 3 ls
  rw[←hBl]at hba hBb
  obtain⟨B,hB⟩: ∃B,dRw 3 ls=B:=⟨_,rfl⟩
  rw[hB]at hba hBb hBl
  obtain⟨H2,C2,hcm,hG2⟩: ∃h2 C2,(∀nx,cmG [.op j 0,.sl B.length (cP B)] H1 nx=some (.i 0,h2,nx+cmN))∧JG h2 j d s m 512 40 0 ([]++eR B) (0#64+1#64) C2:=by
   rcases hG1.cm B (by simp) (by omega)with⟨h1,_⟩|⟨_,h1⟩
   ·exact absurd (by simp only[List.length_nil];omega) h1
   exact h1
  rw[←hBl]
  refine aA rfl (aA rfl (aC (Γ:=bC [(15,.pure false dSs),(14,.heap cmG)]) [49,0,1,7] (aH dUn (aH dUe aO)) rfl rfl rfl (fun K hK=>?_)))
  simp(disch:=omega) only[Try.f4,go_sem,↓reduceIte,dRg,hba,hcm]
  refine hK _ ?_
  refine aB (eC (.tmp 49) rfl rfl rfl (fun h=>?_) (fun h=>?_))
  ·refine aI rfl ?_
   cases h
  refine aI rfl ?_
  clear h
  refine aQ rfl (aB (aA rfl (aA rfl ?_)))
  have hF2:FD H2 d s m C2:=⟨hG2.has.hd,hG2.js.dg hG2.di,hG2.de,hG2.cu,hG2.n⟩
  clear hG1 hG2 hcm hba hB
  refine bA [0,1,7,11] rfl rfl rfl fun K hK=>?_
  simp(disch:=omega) only[Try.f4,go_sem,↓reduceIte]
  refine hK _ ?_
  refine aB (aR 0 rfl rfl ?_)
  refine bR (fun p:FRI=> {fr:=[(0,.sl A.length (dWu A)),(1,.sl x.length (c8 x)),(7,.op d 0),(11,.i p.i)],hp:=p.h,nx:=0,cx:=p.c}) (fun p=>p.i≤A.length∧FD p.h d s m p.C∧(d<p.c∧s<p.c∧m<p.c)) (fun p=>A.length-p.i) rfl ⟨⟨0,H2,C2,_⟩,⟨Nat.zero_le _,hF2,by simp only;omega⟩,bD rfl rfl (U3 _)⟩ ?_
  rintro⟨i,H3,C,c⟩ ⟨hi,hF,hlt⟩ n0
  simp only at hi hF hlt⊢
  refine aA rfl (aA rfl (bA [53,0,1,7,11] rfl rfl rfl fun K hK=>?_))
  simp(disch:=omega) only[Try.f4,go_sem,↓reduceIte]
  refine hK _ ?_
  refine aB (aW (.tmp 53) rfl rfl rfl (fun h=>?_) (fun h=>?_))
  ·refine aI rfl ?_
   have hiA:i<A.length:=by omega
   have hr0:=dXf A i hiA
   have hr1:=oC x i (by omega)
   obtain⟨a,ha⟩: ∃a,A.getD i 0#16=a:=⟨_,rfl⟩
   obtain⟨y,hy⟩: ∃y,x.getD i 0#8=y:=⟨_,rfl⟩
   rw[ha]at hr0
   rw[hy]at hr1
   have ha16:=a.isLt
   have hq40:a.toNat/512%40<40:=Nat.mod_lt _ (by decide)
   have eq1:(a.toNat:Int).tdiv 512=((a.toNat/512:Nat):Int):=rfl
   have eq2:((a.toNat/512:Nat):Int).tmod 40=((a.toNat/512%40:Nat):Int):=rfl
   have eq3:(a.toNat:Int).tmod 512=((a.toNat%512:Nat):Int):=rfl
   have hp5:a.toNat%512<512:=Nat.mod_lt _ (by decide)
   obtain⟨q,hq2⟩: ∃q,a.toNat/512%40=q:=⟨_,rfl⟩
   rw[hq2]at hq40 eq2
   obtain⟨k,b,hk,hb,hrd⟩:=hF.rd hq40
   clear h
   refine aQ rfl (aB (aA rfl (aR 1 rfl rfl (aA rfl (aC (Γ:=bC [(16,.heap rdG)]) [0,1,7,11,12] (aH dQy aO) rfl rfl rfl (fun K hK=>?_))))))
   simp(disch:=omega) only[Try.f4,go_sem,↓reduceIte,hr0,eq1,eq2,hrd]
   refine hK _ ?_
   refine aB ?_
   obtain⟨id,hid⟩: ∃x,c+4+14+k=x:=⟨_,rfl⟩
   rw[hid]
   obtain⟨p,hpp⟩: ∃p,a.toNat%512=p:=⟨_,rfl⟩
   rw[hpp]at hp5 eq3
   have hbp:=oC b p (by omega)
   have hset: ∀v:B8,(c8 b).set p (.w8 v)=c8 (b.set p v):=fun v=>yB b p v
   have hcb:(c8 b).length=512:=by rw[iM];exact hb
   have hsl: ∀v:B8,(b.set p v).length=512:=fun v=>by rw[List.length_set];exact hb
   refine aA rfl (aA rfl (bA [70,0,1,7,11,12] rfl rfl rfl fun K hK=>?_))
   simp(disch:=omega) only[Try.f4,go_sem,↓reduceIte]
   refine hK _ ?_
   refine aB (eC (.tmp 70) rfl rfl rfl (fun h=>?_) (fun h=>?_))
   ·refine aI rfl ?_
    cases h
   refine aI rfl ?_
   clear h
   refine aQ rfl (aB (aA rfl (aYa (Γ:=aL) (fun _=>false) [] (fun k=>if k=4 then 1 else if k=12 then 1 else 2) [0,1,7,11,12] mixed (aD _ _) rfl rfl rfl (by kernel_rfl) (fun K hK=>?_))))
   simp(maxSteps:=400000) (disch:=omega) only[Try.f4,go_sem,true_and,↓reduceIte,hr0,eq3,hset,hcb]
   refine hK _ ?_
   refine aB ?_
   have hF5:=hF.upd id (.cells (c8 (b.set p (b.getD p 0#8^^^x.getD i 0#8))) true) (by omega) (by omega) (by omega)
   have hid5:(upd H3 id (.cells (c8 (b.set p (b.getD p 0#8^^^x.getD i 0#8))) true)) id=some (.cells (c8 (b.set p (b.getD p 0#8^^^x.getD i 0#8))) true):=by rw[bJ,J4 rfl]
   have hl5:=hsl (b.getD p 0#8^^^x.getD i 0#8)
   obtain⟨b5,hb5⟩: ∃y,b.set p (b.getD p 0#8^^^x.getD i 0#8)=y:=⟨_,rfl⟩
   rw[hb5]at hF5 hid5 hl5⊢
   obtain⟨H5,hH5⟩: ∃y,upd H3 id (.cells (c8 b5) true)=y:=⟨_,rfl⟩
   rw[hH5]at hF5 hid5⊢
   obtain⟨e6,H6,C6,hwr,hF6⟩:=hF5.wr hq40 hl5 hid5
   refine aC (Γ:=bC [(17,.heap wrG)]) [0,1,7,11] (aH dRa aO) rfl rfl rfl (fun K hK=>?_)
   simp(disch:=omega) only[Try.f4,go_sem,↓reduceIte,hr0,eq1,eq2,hwr]
   refine hK _ ?_
   refine bU (aB (bA [0,1,7,11] rfl rfl rfl fun K hK=>?_))
   simp(disch:=omega) only[Try.f4,go_sem,↓reduceIte]
   refine hK _ ?_
   refine bT ?_
   refine⟨⟨i+1,H6,C6,_⟩,⟨by simp only;omega,hF6,by simp only;omega⟩,by simp only;omega,bD ?_ rfl (U3 _)⟩
   simp only[Int.natCast_add,Int.natCast_one]
  refine aI rfl ?_
  obtain rfl:i=A.length:=by omega
  refine bF 0 rfl rfl (aY (aZ (bE (aB (aA rfl ?_)))))
  obtain⟨e,H4,C4,hsy,hF4,hd4⟩:=hF.syn
  refine aC (Γ:=bC [(18,.heap dJd)]) [7] (aH dQz aO) rfl rfl rfl (fun K hK=>?_)
  simp(disch:=omega) only[Try.f4,go_sem,↓reduceIte,hsy]
  refine hK _ ?_
  refine aB ?_
  have hsec:eH C4=19:=by unfold eH;rw[hF4.n]
  have hany:=dXt hF4.has hF4.dg (by decide) (by rw[hF4.n];decide) (by rw[hsec];decide) hd4 hF4.de hF4.cu
  rcases hany with⟨W,hop⟩|⟨r,W,hop⟩|hop
  ·refine aA rfl (aC (Γ:=bC [(13,.heap dFi)]) [14,15,16] (aH dKo aO) rfl rfl rfl (fun K hK=>?_))
   simp(disch:=omega) only[Try.f4,go_sem,↓reduceIte,hop]
   refine hK _ ?_
   refine aB (aA rfl (bA [6] rfl rfl rfl fun K hK=>?_))
   simp(disch:=omega) only[Try.f4,go_sem,↓reduceIte,dRg]
   refine hK _ ?_
   refine aB (aS rfl ?_)
   simp(disch:=omega) only[cN,bV,bK,bQ,Try.f4,go_sem,↓reduceIte]
  ·refine aA rfl (aC (Γ:=bC [(13,.heap dFi)]) [14,15,16] (aH dKo aO) rfl rfl rfl (fun K hK=>?_))
   simp(disch:=omega) only[Try.f4,go_sem,↓reduceIte,hop]
   refine hK _ ?_
   refine aB (aA rfl (bA [6] rfl rfl rfl fun K hK=>?_))
   simp(disch:=omega) only[Try.f4,go_sem,↓reduceIte,dRg]
   refine hK _ ?_
   refine aB (aS rfl ?_)
   simp(disch:=omega) only[cN,bV,bK,bQ,Try.f4,go_sem,↓reduceIte]
  refine aA rfl (aC (Γ:=bC [(13,.heap dXd)]) [14,15,16] (aH dYk aO) rfl rfl rfl (fun K hK=>?_))
  simp(disch:=omega) only[Try.f4,go_sem,↓reduceIte,hop]
  refine hK _ ?_
  refine aB (aA rfl (bA [6] rfl rfl rfl fun K hK=>?_))
  simp(disch:=omega) only[Try.f4,go_sem,↓reduceIte,dRg]
  refine hK _ ?_
  refine aB (aS rfl ?_)
  simp(disch:=omega) only[cN,bV,bK,bQ,Try.f4,go_sem,↓reduceIte]
 cases hg
end Go.AX
