/-
  Keys, part rR: acts that make keys, turn them, and say that they were seen. Keys, part rS: acts that pass leaves over, sign, and lay a ring anew. Keys, part rP: the statement KeysPlay: the ring and the document's made.
-/
import Derived.Test.YtkpgebeipmedeaaDoorBF
namespace Go.AX
open Go Go.Proofs
set_option maxRecDepth 8000
section
variable {P : Program} {GL : Nat → Option (List AV)} {nt : Nat} {Q : Exit → S → Prop} {s t : S} {ι : Type} {st : ι → S} {inv : ι → Prop}
def dWp (st:ι→S) (inv:ι→Prop) (Q:Exit→S→Prop):Exit→S→Prop
 | .normal,t=> ∃i,inv i∧Sub (st i) t
 |e,t=>Q e t
theorem dWd (st:ι→S) (inv:ι→Prop) {x y:Code} (h:Awp P GL nt x s (dWp st inv Q)) (hb: ∀i,inv i→∀n,Awp P GL nt y {st i with nx:=n} Q):Awp P GL nt x s (oS P GL nt y Q):=
 dCq h fun e t hq=>by
  cases e with
  |normal=>
   obtain⟨i,hi,hs⟩:=hq
   exact tU (hb i hi t.nx) ⟨hs.fr,hs.hp,hs.cx⟩ rfl
  |_=>exact hq
theorem dWa (h: ∃i,inv i∧Sub (st i) t):dWp st inv Q .normal t:=h
end
theorem vR {Q:Exit→S→Prop} {e:Exit} {t u:S} (ks:List Nat) (h:Q e u) (hu:u= {t with fr:=gL ks t.fr}): ∃u,Q e u∧Sub u t∧u.nx=t.nx:=⟨u,h,by subst hu;exact dWs ks t,by subst hu;rfl⟩
theorem eEl {Q:Exit→S→Prop} {e:Exit} {fr fr':List (Nat×AV)} {hp:H} {nx cx cx':Nat} (ks:List Nat) (h:Q e {fr:=fr',hp:=hp,nx:=nx,cx:=cx'}) (hu:fr'=gL ks fr) (hc:cx≤cx'): ∃u,Q e u∧Sub u {fr:=fr,hp:=hp,nx:=nx,cx:=cx}∧u.nx=nx:=by
 subst hu
 have hs:=dWs ks ({fr:=fr,hp:=hp,nx:=nx,cx:=cx}:S)
 exact⟨_,h,⟨hs.fr,hs.hp,hc⟩,rfl⟩
theorem eJw:(4#8=0#8)=False:=eq_false (by decide)
theorem eFl:(7#32=0#32)=False:=eq_false (by decide)
theorem eIu:(8#32=0#32)=False:=eq_false (by decide)
theorem eHm (b:B8):(⟨b,0#8,0#8,0#8,0#8,0#8,0#8,0#8⟩:S8)=sdq b:=rfl
set_option maxHeartbeats 4000000 in
theorem eIb {Q:Exit→S→Prop} {X:ACT} {i:Nat} {g:H} {d s m l e:Nat} {C:RC} {M:MC} {T:QT} {c nx len:Nat} {xs:List AV} {id:W32} {at_:Int}
  (hS:KS ⟨i,g,d,s,m,l,C,M,T,c⟩ e) (hi:i<40)
  (hQ: ∀p:KPI,KS p e→p.i=i+1→c≤p.c→∀nx',Q .normal {fr:=[(0,.sl len xs),(3,.rp (cfC eDr)),(4,.op p.d 0),(5,.op e 0),(6,.i i)],hp:=p.h,nx:=nx',cx:=p.c}):
  Awp Tryd.prog GLh Tryd.f5.ntmps (cl (cr (cl (cr (cl (cr (cr (cr (cr (cl (cl (cr (cl (cl (cr (cl (cr (cr (cr (cr (cr (aE Tryd.f5)))))))))))))))))))))) {fr:=[(0,.sl len xs),(3,.rp (cfC eDr)),(4,.op d 0),(5,.op e 0),(6,.i i),(7,.rp (yO X)),(8,.w32 id),(9,.i at_)],hp:=g,nx:=nx,cx:=c} Q:=by
 refine sX ?_
 have hrng:iN g d=some ⟨s,m,C⟩:=hS.tw.rng
 have hok:ROk C:=hS.rm.ok
 have hla:C.last.toNat<1000000:=by rw[show C.last=M.last from hS.rm.last];have:=hS.la;simp only at this;omega
 have hch:C.c.h≤10:=by rw[show C.c=M.c from hS.rm.c,show M.c=eDr from hS.mg.c];exact J1 rfl
 have hmr: ∀C',kH (setR d s m C' g) e=some ⟨l,M⟩:=fun C'=>(hS.tw.setR C').mrg
 refine aA rfl ?_
 refine aC (Γ:=bC [(9,.heap uF)]) [0,3,4,5,6,7,10,11] (aH aZx aO) rfl rfl rfl (fun K hK=>?_)
 simp(disch:=omega) only[Tryd.f5,go_sem,↓reduceIte,hrng,hok,hla,hch,eJw,yO,J8,J7,J9]
 refine hK _ ?_
 refine aB ?_
 refine aA rfl ?_
 refine aC (Γ:=bC [(19,.heap sG)]) [0,3,4,5,6,10,11,12,13] (aH aWb aO) rfl rfl rfl (fun K hK=>?_)
 simp(maxSteps:=400000) (disch:=omega) only[Tryd.f5,go_sem,↓reduceIte,hmr,eJw,J8,J7,J9]
 refine hK _ ?_
 refine aB ?_
 simp only[fA,cPd,eB,Nat.reduceEqDiff,↓reduceIte]
 rw[eHm]
 obtain⟨e1,e2,l',M',hSn⟩:=hS.make (by omega) X.sd X.r X.s X.n (n1:=c+17+100+17) (c':=c+17+100+17+100+8) (by omega) (by omega)
 rw[e1,e2]
 refine aA rfl ?_
 refine aW [126,0,3,4,5,6] rfl rfl rfl fun K hK=>?_
 simp(disch:=omega) only[Tryd.f5,go_sem,↓reduceIte,decide_true,Bool.not_true]
 refine hK _ ?_
 refine aB ?_
 refine eC (.tmp 126) rfl rfl rfl (fun h=>?_) (fun h=>?_)
 ·skip
  refine aI rfl ?_
  cases h
 ·skip
  refine aI rfl ?_
  clear h
  refine aQ rfl ?_
  exact vR [0,3,4,5,6] (hQ _ hSn rfl (by simp only;omega) _) rfl
set_option maxHeartbeats 4000000 in
theorem eHw {Q:Exit→S→Prop} {X:ACT} {i:Nat} {g:H} {d s m l e:Nat} {C:RC} {M:MC} {T:QT} {c nx len:Nat} {xs:List AV} {id:W32} {at_:Int}
  (hS:KS ⟨i,g,d,s,m,l,C,M,T,c⟩ e)
  (hQ: ∀p:KPI,KS p e→p.i=i+1→c≤p.c→∀nx',Q .normal {fr:=[(0,.sl len xs),(3,.rp (cfC eDr)),(4,.op p.d 0),(5,.op e 0),(6,.i i)],hp:=p.h,nx:=nx',cx:=p.c}):
  Awp Tryd.prog GLh Tryd.f5.ntmps (cl (cr (cr (cr (cl (cr (cl (cr (cr (cr (cr (cl (cl (cr (cl (cl (cr (cl (cr (cr (cr (cr (cr (aE Tryd.f5)))))))))))))))))))))))) {fr:=[(0,.sl len xs),(3,.rp (cfC eDr)),(4,.op d 0),(5,.op e 0),(6,.i i),(7,.rp (yO X)),(8,.w32 id),(9,.i at_)],hp:=g,nx:=nx,cx:=c} Q:=by
 refine sX ?_
 have hrng:iN g d=some ⟨s,m,C⟩:=hS.tw.rng
 have hmr: ∀C',kH (setR d s m C' g) e=some ⟨l,M⟩:=fun C'=>(hS.tw.setR C').mrg
 have hl:M.L.length≤1000:=by have:M.L.length≤16:=hS.mg.len;omega
 refine aA rfl ?_
 refine bB (Γ:=bC [(16,.heap vD),(20,.heap xO)]) (fun k=>if k=6 then 0 else if k=13 then 0 else if k=3 then 1 else if k=5 then 1 else if k=10 then 1 else if k=12 then 1 else 2) [144,0,3,4,5,6] bZ (aH cWd (aH cFj aO)) rfl rfl rfl (by kernel_rfl) (fun K hK=>?_)
 simp(disch:=omega) only[Tryd.f5,go_sem,↓reduceIte,hrng,hmr,hl,yO,J8,J7,J9]
 refine hK _ ?_
 refine aB ?_
 obtain⟨e1,l',M',hSn⟩:=hS.turn id X.s X.n (n1:=c+15+90) (c':=c+15+90+300+60*M.L.length) (by omega) (by omega)
 rw[←e1,J5 rfl,Bool.not_true]
 refine eC (.tmp 144) rfl rfl rfl (fun h=>?_) (fun h=>?_)
 ·skip
  refine aI rfl ?_
  cases h
 ·skip
  refine aI rfl ?_
  clear h
  refine aQ rfl ?_
  exact vR [0,3,4,5,6] (hQ _ hSn rfl (by simp only;omega) _) rfl
set_option maxHeartbeats 4000000 in
theorem eHz {Q:Exit→S→Prop} {X:ACT} {i:Nat} {g:H} {d s m l e:Nat} {C:RC} {M:MC} {T:QT} {c nx len:Nat} {xs:List AV} {id:W32} {at_:Int}
  (hS:KS ⟨i,g,d,s,m,l,C,M,T,c⟩ e)
  (hQ: ∀p:KPI,KS p e→p.i=i+1→c≤p.c→∀nx',Q .normal {fr:=[(0,.sl len xs),(3,.rp (cfC eDr)),(4,.op p.d 0),(5,.op e 0),(6,.i i)],hp:=p.h,nx:=nx',cx:=p.c}):
  Awp Tryd.prog GLh Tryd.f5.ntmps (cl (cr (cr (cr (cr (cr (cl (cr (cl (cr (cr (cr (cr (cl (cl (cr (cl (cl (cr (cl (cr (cr (cr (cr (cr (aE Tryd.f5)))))))))))))))))))))))))) {fr:=[(0,.sl len xs),(3,.rp (cfC eDr)),(4,.op d 0),(5,.op e 0),(6,.i i),(7,.rp (yO X)),(8,.w32 id),(9,.i at_)],hp:=g,nx:=nx,cx:=c} Q:=by
 refine sX ?_
 have hrng:iN g d=some ⟨s,m,C⟩:=hS.tw.rng
 have hmr: ∀C',kH (setR d s m C' g) e=some ⟨l,M⟩:=fun C'=>(hS.tw.setR C').mrg
 have hl:M.L.length≤1000:=by have:M.L.length≤16:=hS.mg.len;omega
 refine aA rfl ?_
 refine bB (Γ:=bC [(21,.heap aBj),(22,.heap xQ)]) (fun k=>if k=4 then 0 else if k=9 then 0 else if k=3 then 1 else if k=8 then 1 else 2) [157,0,3,4,5,6] bZ (aH bJf (aH cFi aO)) rfl rfl rfl (by kernel_rfl) (fun K hK=>?_)
 simp(disch:=omega) only[Tryd.f5,go_sem,↓reduceIte,hrng,hmr,hl,yO,J8,J7,J9]
 refine hK _ ?_
 refine aB ?_
 obtain⟨e1,M',hSn⟩:=hS.seen id X.n (c':=c+11+90+300+60*M.L.length) (by omega)
 rw[←e1,J5 rfl,Bool.not_true]
 refine eC (.tmp 157) rfl rfl rfl (fun h=>?_) (fun h=>?_)
 ·skip
  refine aI rfl ?_
  cases h
 ·skip
  refine aI rfl ?_
  clear h
  refine aQ rfl ?_
  exact vR [0,3,4,5,6] (hQ _ hSn rfl (by simp only;omega) _) rfl
end Go.AX

namespace Go.AX
open Go Go.Proofs
set_option maxRecDepth 8000
def ATI (M:MC) (id:W32) (at_:Int):Prop:=(at_= -1∧jS id M.L=none)∨∃j:Nat,j<M.L.length∧at_=(j:Int)∧id=(kyA M.L j).id
set_option maxHeartbeats 4000000 in
theorem eGt {Q:Exit→S→Prop} {X:ACT} {i:Nat} {g:H} {d s m l e:Nat} {C:RC} {M:MC} {T:QT} {c nx len:Nat} {xs:List AV} {id:W32}
  (hS:KS ⟨i,g,d,s,m,l,C,M,T,c⟩ e) (hf:jS id M.L=none)
  (hQ: ∀p:KPI,KS p e→p.i=i+1→c≤p.c→∀nx',Q .normal {fr:=[(0,.sl len xs),(3,.rp (cfC eDr)),(4,.op p.d 0),(5,.op e 0),(6,.i i)],hp:=p.h,nx:=nx',cx:=p.c}):
  Awp Tryd.prog GLh Tryd.f5.ntmps (cl (cr (cr (cr (cr (cr (cr (cr (cr (cr (cl (cr (cl (cr (cr (cr (cr (cl (cl (cr (cl (cl (cr (cl (cr (cr (cr (cr (cr (aE Tryd.f5)))))))))))))))))))))))))))))) {fr:=[(0,.sl len xs),(3,.rp (cfC eDr)),(4,.op d 0),(5,.op e 0),(6,.i i),(7,.rp (yO X)),(8,.w32 id),(9,.i (-1))],hp:=g,nx:=nx,cx:=c} Q:=by
 refine sX ?_
 have hrng:iN g d=some ⟨s,m,C⟩:=hS.tw.rng
 have hok:ROk C:=hS.rm.ok
 have hsk:=hS.rm.skip_n (X.n%7#32) hf
 simp only at hsk
 refine aA rfl ?_
 refine aC (Γ:=bC [(10,.heap aUy)]) [0,3,4,5,6,7,9,18] (aH eIt aO) rfl rfl rfl (fun K hK=>?_)
 simp(disch:=omega) only[Tryd.f5,go_sem,↓reduceIte,hrng,hok,hsk,eFl,yO,J8,J7,J9]
 refine hK _ ?_
 refine aB ?_
 rw[iQ hS.tw.r]
 refine aR 4 rfl rfl ?_
 refine aA rfl ?_
 refine aW [254,0,3,4,5,6,7,9,18] rfl rfl rfl fun K hK=>?_
 simp(disch:=omega) only[Tryd.f5,go_sem,↓reduceIte]
 refine hK _ ?_
 refine aB ?_
 refine eC (.tmp 254) rfl rfl rfl (fun h=>?_) (fun h=>?_)
 ·skip
  refine aI rfl ?_
  clear h
  refine aA rfl ?_
  refine aW [258,0,3,4,5,6] rfl rfl rfl fun K hK=>?_
  simp(disch:=omega) only[Tryd.f5,go_sem,↓reduceIte]
  refine hK _ ?_
  refine aB ?_
  refine eC (.tmp 258) rfl rfl rfl (fun h=>?_) (fun h=>?_)
  ·skip
   refine aI rfl ?_
   cases h
  ·skip
   refine aI rfl ?_
   clear h
   refine aQ rfl ?_
   refine bU ?_
   exact eEl [0,3,4,5,6] (hQ _ (hS.up (c':=c+1000) (i':=i+1) (by omega) (by omega)) rfl (by simp only;omega) _) rfl (by simp only;omega)
 ·skip
  refine aI rfl ?_
  cases h
set_option maxHeartbeats 4000000 in
theorem eGs {Q:Exit→S→Prop} {X:ACT} {i:Nat} {g:H} {d s m l e:Nat} {C:RC} {M:MC} {T:QT} {c nx len:Nat} {xs:List AV} {j:Nat}
  (hS:KS ⟨i,g,d,s,m,l,C,M,T,c⟩ e) (hj:j<M.L.length)
  (hQ: ∀p:KPI,KS p e→p.i=i+1→c≤p.c→∀nx',Q .normal {fr:=[(0,.sl len xs),(3,.rp (cfC eDr)),(4,.op p.d 0),(5,.op e 0),(6,.i i)],hp:=p.h,nx:=nx',cx:=p.c}):
  Awp Tryd.prog GLh Tryd.f5.ntmps (cl (cr (cr (cr (cr (cr (cr (cr (cr (cr (cl (cr (cl (cr (cr (cr (cr (cl (cl (cr (cl (cl (cr (cl (cr (cr (cr (cr (cr (aE Tryd.f5)))))))))))))))))))))))))))))) {fr:=[(0,.sl len xs),(3,.rp (cfC eDr)),(4,.op d 0),(5,.op e 0),(6,.i i),(7,.rp (yO X)),(8,.w32 (kyA M.L j).id),(9,.i j)],hp:=g,nx:=nx,cx:=c} Q:=by
 refine sX ?_
 have hrng:iN g d=some ⟨s,m,C⟩:=hS.tw.rng
 have hok:ROk C:=hS.rm.ok
 have hRM:RM C M:=hS.rm
 have hMG:MG M:=hS.mg
 have hkl:=iJ M.L
 have ha12:=jW M.L j 12 hj (by omega)
 have e15:j*15=15*j:=by omega
 have hset:=aJm M.L j 12 (.w32 (X.n%7#32)) {kyA M.L j with next:=X.n%7#32} hj (by omega) rfl
 rw[eFm]at ha12
 obtain⟨C',hC'⟩: ∃y,(skV C (kyA M.L j).id (X.n%7#32)).2=y:=⟨_,rfl⟩
 obtain⟨a1,a2,a3,a4,a5,a6⟩:=(hS.tw.lt hS.dom).a
 simp only at a1 a2 a3 a4 a5 a6
 have hmm:(setR d s m C' g) e=some (.cells (mgC l M) true):=(hS.tw.setR C').mm.hd
 have hml:(setR d s m C' g) l=some (.cells (jQ M.L) true):=(hS.tw.setR C').mm.hl
 obtain⟨g1,hg1⟩: ∃y,setR d s m C' g=y:=⟨_,rfl⟩
 rw[hg1]at hmm hml
 refine aA rfl ?_
 refine aC (Γ:=bC [(10,.heap aUy)]) [0,3,4,5,6,7,9,18] (aH eIt aO) rfl rfl rfl (fun K hK=>?_)
 simp(disch:=omega) only[Tryd.f5,go_sem,↓reduceIte,hrng,hok,eFl,yO,J8,J7,J9]
 refine hK _ ?_
 refine aB ?_
 rw[hC',hg1]
 refine aR 4 rfl rfl ?_
 refine aA rfl ?_
 refine aW [254,0,3,4,5,6,7,9,18] rfl rfl rfl fun K hK=>?_
 simp(disch:=omega) only[Tryd.f5,go_sem,↓reduceIte]
 refine hK _ ?_
 refine aB ?_
 refine gP (.tmp 254) rfl rfl rfl (fun h=>?_) (fun h=>?_)
 ·skip
  refine aI rfl ?_
  exact absurd h (by omega)
 ·skip
  refine aI rfl ?_
  clear h
  by_cases hn:(kyA M.L j).next<X.n%7#32∧X.n%7#32≤4#32
  ·skip
   have hsk:=hRM.skip_y hMG hj _ hn
   rw[hC']at hsk
   obtain⟨z1,z2⟩:=hsk
   have d1:decide ((kyA M.L j).next<X.n%7#32)=true:=J5 hn.1
   have d2:decide (X.n%7#32≤4#32)=true:=J5 hn.2
   refine aA rfl ?_
   refine aYa (Γ:=aL) (fun _=>false) [] (fun k=>if k=1 then 1 else if k=14 then 1 else 2) [259,0,3,4,5,6,7,9,18] bZ (aD _ _) rfl rfl rfl (by kernel_rfl) (fun K hK=>?_)
   simp(maxSteps:=400000) (disch:=omega) only[Tryd.f5,go_sem,and_self,true_and,↓reduceIte,hmm,hml,jR,ha12,e15,d1,d2,eFl,J8,J7,J9]
   refine hK _ ?_
   refine aB ?_
   refine eC (.tmp 259) rfl rfl rfl (fun h=>?_) (fun h=>?_)
   ·skip
    refine aI rfl ?_
    clear h
    refine aA rfl ?_
    refine aA rfl ?_
    refine aW [279,0,3,4,5,6,7,9] rfl rfl rfl fun K hK=>?_
    simp(disch:=omega) only[Tryd.f5,go_sem,↓reduceIte,z1]
    refine hK _ ?_
    refine aB ?_
    refine eC (.tmp 279) rfl rfl rfl (fun h=>?_) (fun h=>?_)
    ·skip
     refine aI rfl ?_
     cases h
    ·skip
     refine aI rfl ?_
     clear h
     refine aQ rfl ?_
     refine aB ?_
     refine aYa (Γ:=aL) (fun _=>false) [] (fun k=>if k=6 then 1 else 2) [0,3,4,5,6] bZ (aD _ _) rfl rfl rfl (by kernel_rfl) (fun K hK=>?_)
     simp(maxSteps:=400000) (disch:=omega) only[Tryd.f5,go_sem,and_self,true_and,↓reduceIte,hmm,hml,jR,hkl,e15,hset,eFl,J8,J7,J9]
     refine hK _ ?_
     refine bU ?_
     rw[←hg1]
     exact eEl [0,3,4,5,6] (hQ _ ((hS.nx hj z2 hn.2).up (c':=c+1000) (i':=i+1) (by omega) (U3 _)) rfl (by simp only;omega) _) rfl (by simp only;omega)
   ·skip
    refine aI rfl ?_
    cases h
  ·skip
   have hsk:=hRM.skip_b hMG hj _ hn
   have z1:(skV C (kyA M.L j).id (X.n%7#32)).1=131:=by rw[hsk]
   obtain rfl:C=C':=by rw[←hC',hsk]
   by_cases hn1:(kyA M.L j).next<X.n%7#32
   ·skip
    have d1:decide ((kyA M.L j).next<X.n%7#32)=true:=J5 hn1
    have d2:decide (X.n%7#32≤4#32)=false:=J6 fun e=>hn ⟨hn1,e⟩
    refine aA rfl ?_
    refine aYa (Γ:=aL) (fun _=>false) [] (fun k=>if k=1 then 1 else if k=14 then 1 else 2) [259,0,3,4,5,6,7,9,18] bZ (aD _ _) rfl rfl rfl (by kernel_rfl) (fun K hK=>?_)
    simp(maxSteps:=400000) (disch:=omega) only[Tryd.f5,go_sem,and_self,true_and,↓reduceIte,hmm,hml,jR,ha12,e15,d1,d2,eFl,J8,J7,J9]
    refine hK _ ?_
    refine aB ?_
    refine eC (.tmp 259) rfl rfl rfl (fun h=>?_) (fun h=>?_)
    ·skip
     refine aI rfl ?_
     cases h
    ·skip
     refine aI rfl ?_
     clear h
     refine aA rfl ?_
     refine aW [253,0,3,4,5,6] rfl rfl rfl fun K hK=>?_
     simp(disch:=omega) only[Tryd.f5,go_sem,↓reduceIte,z1]
     refine hK _ ?_
     refine aB ?_
     refine eC (.tmp 253) rfl rfl rfl (fun h=>?_) (fun h=>?_)
     ·skip
      refine aI rfl ?_
      cases h
     ·skip
      refine aI rfl ?_
      clear h
      refine aQ rfl ?_
      refine bU ?_
      rw[←hg1]
      exact eEl [0,3,4,5,6] (hQ _ ((hS.setR hRM).up (c':=c+1000) (i':=i+1) (by omega) (by omega)) rfl (by simp only;omega) _) rfl (by simp only;omega)
   ·skip
    have d1:decide ((kyA M.L j).next<X.n%7#32)=false:=J6 hn1
    refine aA rfl ?_
    refine aYa (Γ:=aL) (fun _=>false) [] (fun k=>if k=1 then 1 else if k=14 then 1 else 2) [259,0,3,4,5,6,7,9,18] bZ (aD _ _) rfl rfl rfl (by kernel_rfl) (fun K hK=>?_)
    simp(maxSteps:=400000) (disch:=omega) only[Tryd.f5,go_sem,and_self,true_and,↓reduceIte,hmm,hml,jR,ha12,e15,d1,eFl,J8,J7,J9]
    refine hK _ ?_
    refine aB ?_
    refine eC (.tmp 259) rfl rfl rfl (fun h=>?_) (fun h=>?_)
    ·skip
     refine aI rfl ?_
     cases h
    ·skip
     refine aI rfl ?_
     clear h
     refine aA rfl ?_
     refine aW [253,0,3,4,5,6] rfl rfl rfl fun K hK=>?_
     simp(disch:=omega) only[Tryd.f5,go_sem,↓reduceIte,z1]
     refine hK _ ?_
     refine aB ?_
     refine eC (.tmp 253) rfl rfl rfl (fun h=>?_) (fun h=>?_)
     ·skip
      refine aI rfl ?_
      cases h
     ·skip
      refine aI rfl ?_
      clear h
      refine aQ rfl ?_
      refine bU ?_
      rw[←hg1]
      exact eEl [0,3,4,5,6] (hQ _ ((hS.setR hRM).up (c':=c+1000) (i':=i+1) (by omega) (by omega)) rfl (by simp only;omega) _) rfl (by simp only;omega)
theorem eHx {Q:Exit→S→Prop} {X:ACT} {i:Nat} {g:H} {d s m l e:Nat} {C:RC} {M:MC} {T:QT} {c nx len:Nat} {xs:List AV} {id:W32} {at_:Int}
  (hS:KS ⟨i,g,d,s,m,l,C,M,T,c⟩ e) (hat:ATI M id at_)
  (hQ: ∀p:KPI,KS p e→p.i=i+1→c≤p.c→∀nx',Q .normal {fr:=[(0,.sl len xs),(3,.rp (cfC eDr)),(4,.op p.d 0),(5,.op e 0),(6,.i i)],hp:=p.h,nx:=nx',cx:=p.c}):
  Awp Tryd.prog GLh Tryd.f5.ntmps (cl (cr (cr (cr (cr (cr (cr (cr (cr (cr (cl (cr (cl (cr (cr (cr (cr (cl (cl (cr (cl (cl (cr (cl (cr (cr (cr (cr (cr (aE Tryd.f5)))))))))))))))))))))))))))))) {fr:=[(0,.sl len xs),(3,.rp (cfC eDr)),(4,.op d 0),(5,.op e 0),(6,.i i),(7,.rp (yO X)),(8,.w32 id),(9,.i at_)],hp:=g,nx:=nx,cx:=c} Q:=by
 rcases hat with⟨rfl,hf⟩|⟨j,hj,rfl,rfl⟩
 ·exact eGt hS hf hQ
 ·exact eGs hS hj hQ
set_option maxHeartbeats 4000000 in
theorem eGv {Q:Exit→S→Prop} {X:ACT} {i:Nat} {g:H} {d s m l e:Nat} {C:RC} {M:MC} {T:QT} {c nx len:Nat} {xs:List AV} {id:W32}
  (hS:KS ⟨i,g,d,s,m,l,C,M,T,c⟩ e) (hf:jS id M.L=none) (hx:X.x.length≤200)
  (hQ: ∀p:KPI,KS p e→p.i=i+1→c≤p.c→∀nx',Q .normal {fr:=[(0,.sl len xs),(3,.rp (cfC eDr)),(4,.op p.d 0),(5,.op e 0),(6,.i i)],hp:=p.h,nx:=nx',cx:=p.c}):
  Awp Tryd.prog GLh Tryd.f5.ntmps (cl (cr (cr (cr (cr (cr (cr (cr (cl (cr (cl (cr (cr (cr (cr (cl (cl (cr (cl (cl (cr (cl (cr (cr (cr (cr (cr (aE Tryd.f5)))))))))))))))))))))))))))) {fr:=[(0,.sl len xs),(3,.rp (cfC eDr)),(4,.op d 0),(5,.op e 0),(6,.i i),(7,.rp (yO X)),(8,.w32 id),(9,.i (-1))],hp:=g,nx:=nx,cx:=c} Q:=by
 refine sX ?_
 have hrng:iN g d=some ⟨s,m,C⟩:=hS.tw.rng
 have hok:ROk C:=hS.rm.ok
 have hsg:=hS.rm.sign_n X.x hf
 simp only at hsg
 refine aA rfl ?_
 refine aC (Γ:=bC [(12,.heap aJo)]) [0,3,4,5,6,7,8,9,14,15] (aH eFw aO) rfl rfl rfl (fun K hK=>?_)
 simp(disch:=omega) only[Tryd.f5,go_sem,↓reduceIte,hrng,hok,hsg,eJk,bHc,yO,J8,J7,J9]
 refine hK _ ?_
 refine aB ?_
 rw[iQ hS.tw.r]
 refine aR 3 rfl rfl ?_
 refine aA rfl ?_
 refine aW [217,0,3,4,5,6,7,8,9,14,15] rfl rfl rfl fun K hK=>?_
 simp(disch:=omega) only[Tryd.f5,go_sem,↓reduceIte]
 refine hK _ ?_
 refine aB ?_
 refine eC (.tmp 217) rfl rfl rfl (fun h=>?_) (fun h=>?_)
 ·skip
  refine aI rfl ?_
  clear h
  refine aA rfl ?_
  refine aW [226,0,3,4,5,6] rfl rfl rfl fun K hK=>?_
  simp(disch:=omega) only[Tryd.f5,go_sem,↓reduceIte]
  refine hK _ ?_
  refine aB ?_
  refine eC (.tmp 226) rfl rfl rfl (fun h=>?_) (fun h=>?_)
  ·skip
   refine aI rfl ?_
   cases h
  ·skip
   refine aI rfl ?_
   clear h
   refine aQ rfl ?_
   refine bU ?_
   exact eEl [0,3,4,5,6] (hQ _ (hS.up (c':=c+1000) (i':=i+1) (by omega) (by omega)) rfl (by simp only;omega) _) rfl (by simp only;omega)
 ·skip
  refine aI rfl ?_
  cases h
set_option maxHeartbeats 4000000 in
theorem eGw {Q:Exit→S→Prop} {X:ACT} {i:Nat} {g:H} {d s m l e:Nat} {C:RC} {M:MC} {T:QT} {c nx len:Nat} {xs:List AV} {j:Nat}
  (hS:KS ⟨i,g,d,s,m,l,C,M,T,c⟩ e) (hj:j<M.L.length) (hn:(kyA M.L j).next=4#32) (hx:X.x.length≤200)
  (hQ: ∀p:KPI,KS p e→p.i=i+1→c≤p.c→∀nx',Q .normal {fr:=[(0,.sl len xs),(3,.rp (cfC eDr)),(4,.op p.d 0),(5,.op e 0),(6,.i i)],hp:=p.h,nx:=nx',cx:=p.c}):
  Awp Tryd.prog GLh Tryd.f5.ntmps (cl (cr (cr (cr (cr (cr (cr (cr (cl (cr (cl (cr (cr (cr (cr (cl (cl (cr (cl (cl (cr (cl (cr (cr (cr (cr (cr (aE Tryd.f5)))))))))))))))))))))))))))) {fr:=[(0,.sl len xs),(3,.rp (cfC eDr)),(4,.op d 0),(5,.op e 0),(6,.i i),(7,.rp (yO X)),(8,.w32 (kyA M.L j).id),(9,.i j)],hp:=g,nx:=nx,cx:=c} Q:=by
 refine sX ?_
 have hrng:iN g d=some ⟨s,m,C⟩:=hS.tw.rng
 have hok:ROk C:=hS.rm.ok
 have hsg:=hS.rm.sign_f hS.mg hj X.x hn
 simp only at hsg
 have hkl:=iJ M.L
 have ha12:=jW M.L j 12 hj (by omega)
 have e15:j*15=15*j:=by omega
 rw[eFm]at ha12
 have hmm:g e=some (.cells (mgC l M) true):=hS.tw.mm.hd
 have hml:g l=some (.cells (jQ M.L) true):=hS.tw.mm.hl
 refine aA rfl ?_
 refine aC (Γ:=bC [(12,.heap aJo)]) [0,3,4,5,6,7,8,9,14,15] (aH eFw aO) rfl rfl rfl (fun K hK=>?_)
 simp(disch:=omega) only[Tryd.f5,go_sem,↓reduceIte,hrng,hok,hsg,eJk,bHc,yO,J8,J7,J9]
 refine hK _ ?_
 refine aB ?_
 rw[iQ hS.tw.r]
 refine aR 3 rfl rfl ?_
 refine aA rfl ?_
 refine aW [217,0,3,4,5,6,7,8,9,14,15] rfl rfl rfl fun K hK=>?_
 simp(disch:=omega) only[Tryd.f5,go_sem,↓reduceIte]
 refine hK _ ?_
 refine aB ?_
 refine gP (.tmp 217) rfl rfl rfl (fun h=>?_) (fun h=>?_)
 ·skip
  refine aI rfl ?_
  exact absurd h (by omega)
 ·skip
  refine aI rfl ?_
  clear h
  refine aA rfl ?_
  refine aW [227,0,3,4,5,6,7,8,9,14,15] rfl rfl rfl fun K hK=>?_
  simp(disch:=omega) only[Tryd.f5,go_sem,↓reduceIte,hmm,hml,jR,ha12,e15,hn,J8,J7,J9]
  refine hK _ ?_
  refine aB ?_
  refine eC (.tmp 227) rfl rfl rfl (fun h=>?_) (fun h=>?_)
  ·skip
   refine aI rfl ?_
   clear h
   refine aA rfl ?_
   refine aW [243,0,3,4,5,6] rfl rfl rfl fun K hK=>?_
   simp(disch:=omega) only[Tryd.f5,go_sem,↓reduceIte]
   refine hK _ ?_
   refine aB ?_
   refine eC (.tmp 243) rfl rfl rfl (fun h=>?_) (fun h=>?_)
   ·skip
    refine aI rfl ?_
    cases h
   ·skip
    refine aI rfl ?_
    clear h
    refine aQ rfl ?_
    refine bU ?_
    exact eEl [0,3,4,5,6] (hQ _ (hS.up (c':=c+1000) (i':=i+1) (by omega) (by omega)) rfl (by simp only;omega) _) rfl (by simp only;omega)
  ·skip
   refine aI rfl ?_
   cases h
set_option maxHeartbeats 4000000 in
theorem eGu {Q:Exit→S→Prop} {X:ACT} {i:Nat} {g:H} {d s m l e:Nat} {C:RC} {M:MC} {T:QT} {c nx len:Nat} {xs:List AV} {j:Nat}
  (hS:KS ⟨i,g,d,s,m,l,C,M,T,c⟩ e) (hj:j<M.L.length) (hn:(kyA M.L j).next≠4#32) (hx:X.x.length≤200)
  (hQ: ∀p:KPI,KS p e→p.i=i+1→c≤p.c→∀nx',Q .normal {fr:=[(0,.sl len xs),(3,.rp (cfC eDr)),(4,.op p.d 0),(5,.op e 0),(6,.i i)],hp:=p.h,nx:=nx',cx:=p.c}):
  Awp Tryd.prog GLh Tryd.f5.ntmps (cl (cr (cr (cr (cr (cr (cr (cr (cl (cr (cl (cr (cr (cr (cr (cl (cl (cr (cl (cl (cr (cl (cr (cr (cr (cr (cr (aE Tryd.f5)))))))))))))))))))))))))))) {fr:=[(0,.sl len xs),(3,.rp (cfC eDr)),(4,.op d 0),(5,.op e 0),(6,.i i),(7,.rp (yO X)),(8,.w32 (kyA M.L j).id),(9,.i j)],hp:=g,nx:=nx,cx:=c} Q:=by
 refine sX ?_
 have hrng:iN g d=some ⟨s,m,C⟩:=hS.tw.rng
 have hok:ROk C:=hS.rm.ok
 have hMG:MG M:=hS.mg
 have hQG:QG T:=hS.qg
 have hdom: ∀j o,g j=some o→j<c:=hS.dom
 have hTW:TW g d s m e l C M T:=hS.tw
 obtain⟨hsg,hRM2⟩:=hS.rm.sign_y hS.mg hj X.x hn
 simp only at hsg hRM2
 have hkl:=iJ M.L
 have ha12:=jW M.L j 12 hj (by omega)
 have e15:j*15=15*j:=by omega
 rw[eFm]at ha12
 have hset:=aJm M.L j 12 (.w32 ((kyA M.L j).next+1#32)) {kyA M.L j with next:=(kyA M.L j).next+1#32} hj (by omega) rfl
 have hfk:jS (kyA M.L j).id M.L=some (kyA M.L j):=aDb hS.rm.sl hj
 obtain⟨C',hC'⟩: ∃y,sgC C (kyA M.L j).id (kyA M.L j)=y:=⟨_,rfl⟩
 rw[hC']at hsg hRM2
 have hW:=hTW.lt hdom
 obtain⟨a1,a2,a3,a4,a5,a6⟩:=hW.a
 have hT1:=hTW.setR C'
 have hd1: ∀j o,setR d s m C' g j=some o→j<c:=eDu a1 a2 a3 hdom
 have hmm1:(setR d s m C' g) e=some (.cells (mgC l M) true):=hT1.mm.hd
 have hml1:(setR d s m C' g) l=some (.cells (jQ M.L) true):=hT1.mm.hl
 have hmr1:=hT1.mrg
 have hqo1:=hT1.qof
 obtain⟨g1,hg1⟩: ∃y,setR d s m C' g=y:=⟨_,rfl⟩
 rw[hg1]at hT1 hd1 hmm1 hml1 hmr1 hqo1
 have hkg:KG 2 (kyA M.L j):=hMG.at_ hj
 have hL16:M.L.length≤16:=hMG.len
 have hQ4:T.R.length≤4:=hQG.len
 have hn4:(kyA M.L j).next.toNat<4:=by
  have h2:=BitVec.le_def.1 hkg.n
  rw[eFg]at h2
  have h3:(kyA M.L j).next.toNat≠4:=fun e=>hn (BitVec.eq_of_toNat_eq e)
  simp only[BitVec.toNat_ofNat]at h2
  omega
 have dn:decide ((kyA M.L j).next=4#32)=false:=J6 hn
 refine aA rfl ?_
 refine aC (Γ:=bC [(12,.heap aJo)]) [0,3,4,5,6,7,8,9,14,15] (aH eFw aO) rfl rfl rfl (fun K hK=>?_)
 simp(disch:=omega) only[Tryd.f5,go_sem,↓reduceIte,hrng,hok,hsg,eKf,eGy,yO,J8,J7,J9]
 refine hK _ ?_
 refine aB ?_
 rw[hg1]
 refine aR 3 rfl rfl ?_
 refine aA rfl ?_
 refine aW [217,0,3,4,5,6,7,8,9,14,15] rfl rfl rfl fun K hK=>?_
 simp(disch:=omega) only[Tryd.f5,go_sem,↓reduceIte]
 refine hK _ ?_
 refine aB ?_
 refine gP (.tmp 217) rfl rfl rfl (fun h=>?_) (fun h=>?_)
 ·skip
  refine aI rfl ?_
  exact absurd h (by omega)
 ·skip
  refine aI rfl ?_
  clear h
  refine aA rfl ?_
  refine aW [227,0,3,4,5,6,7,8,9,14,15] rfl rfl rfl fun K hK=>?_
  simp(disch:=omega) only[Tryd.f5,go_sem,↓reduceIte,hmm1,hml1,jR,ha12,e15,dn,J8,J7,J9]
  refine hK _ ?_
  refine aB ?_
  refine eC (.tmp 227) rfl rfl rfl (fun h=>?_) (fun h=>?_)
  ·skip
   refine aI rfl ?_
   cases h
  ·skip
   refine aI rfl ?_
   clear h
   have l100:M.L.length≤100:=by omega
   have q100:T.R.length≤100:=by omega
   have h10:(kyA M.L j).h≤10:=by rw[hkg.hq];omega
   refine aA rfl ?_
   refine aC (Γ:=bC [(23,.heap aMs)]) [0,3,4,5,6,7,9,14,15,16] (aH eIr aO) rfl rfl rfl (fun K hK=>?_)
   simp(disch:=omega) only[Tryd.f5,go_sem,↓reduceIte,hmr1,hqo1,hfk,l100,q100,h10]
   refine hK _ ?_
   refine aB ?_
   obtain⟨hT2,hd2⟩:=hT1.data hd1 hL16 hQ4 (kyA M.L j) (n:=c+10+300+3+10+8) (by omega)
   have hvn:c+10+300+3+10+8+94+rdN (kyA M.L j)+60*M.L.length+20000<c+10+300+3+10+8+40000:=by
    have:rdN (kyA M.L j)≤3:=by unfold rdN;split<;>omega
    omega
   have hQG2:=hQG.add (hMG.sg _ (eEa hj)) (c+10+300+3+10+8+183+rdN (kyA M.L j)+60*M.L.length+100*T.R.length)
   obtain⟨v,hv⟩: ∃y,c+10+300+3+10+8+94+rdN (kyA M.L j)+60*M.L.length+20000=y:=⟨_,rfl⟩
   obtain⟨Q2,hQ2⟩: ∃y,oA T ⟨(kyA M.L j).seed,(kyA M.L j).h⟩ (c+10+300+3+10+8+183+rdN (kyA M.L j)+60*M.L.length+100*T.R.length)=y:=⟨_,rfl⟩
   rw[hQ2]at hQG2
   rw[hv,hQ2]at hT2 hd2⊢
   rw[hv]at hvn
   have hv2:(upd (setQ M.q Q2 (jY T g1)) v (.cells (c8 (dkB (kyA M.L j))) true)) v=some (.cells (c8 (dkB (kyA M.L j))) true):=by rw[bJ,J4 rfl]
   obtain⟨g2,hg2⟩: ∃y,upd (setQ M.q Q2 (jY T g1)) v (.cells (c8 (dkB (kyA M.L j))) true)=y:=⟨_,rfl⟩
   rw[hg2]at hT2 hd2 hv2⊢
   clear hg2
   have hmm2:g2 e=some (.cells (mgC l M) true):=hT2.mm.hd
   have hml2:g2 l=some (.cells (jQ M.L) true):=hT2.mm.hl
   have htl:(lK (kyA M.L j).seed.l 2 (kyA M.L j).next X.x).length=532:=qM (kyA M.L j).seed.l 2 (kyA M.L j).next X.x
   have h3s:=sig3 (kyA M.L j).seed.l (kyA M.L j).next X.x
   have h8s:=sw4 hn4
   have hver:aLo (iR (kyA M.L j).seed.l 2 0) 2 X.x (lK (kyA M.L j).seed.l 2 (kyA M.L j).next X.x)=true:=cSx (kyA M.L j).seed.l 2 (kyA M.L j).next X.x (by omega) hn4
   have hdl:=aAg (kyA M.L j)
   have hrt:=eKd hkg.hq
   have hnl:=iW (kyA M.L j).seed.l 2 0
   refine aA rfl ?_
   refine aA rfl ?_
   refine aYa (Γ:=bC [(13,.pure true aQq)]) (fun _=>false) [] (fun k=>if k=8 then 0 else if k=6 then 1 else if k=19 then 1 else 2) [205,0,3,4,5,6,9] bZ (aH eJv aO) rfl rfl rfl (by kernel_rfl) (fun K hK=>?_)
   simp(maxSteps:=400000) (disch:=omega) only[Tryd.f5,go_sem,and_self,and_true,true_and,↓reduceIte,hmm2,hml2,jR,ha12,e15,hv2,htl,h3s,h8s,hver,hdl,hrt,hnl,decide_true,Bool.not_true,Int.cast_ofNat_Int,J8,J7,J9]
   refine hK _ ?_
   refine aB ?_
   refine eC (.tmp 205) rfl rfl rfl (fun h=>?_) (fun h=>?_)
   ·skip
    refine aI rfl ?_
    cases h
   ·skip
    refine aI rfl ?_
    clear h
    refine aQ rfl ?_
    refine aB ?_
    refine aW [0,3,4,5,6] rfl rfl rfl fun K hK=>?_
    simp(disch:=omega) only[Tryd.f5,go_sem,↓reduceIte,hmm2,hml2,jR,hkl,ha12,e15,hset,J8,J7,J9]
    refine hK _ ?_
    refine bU ?_
    exact eEl [0,3,4,5,6] (hQ _ ((hS.sign hj hn hRM2 hT2 hd2 hQG2).up (c':=c+50000) (i':=i+1) (by omega) (U3 _)) rfl (by simp only;omega) _) rfl (by simp only;omega)
theorem eHy {Q:Exit→S→Prop} {X:ACT} {i:Nat} {g:H} {d s m l e:Nat} {C:RC} {M:MC} {T:QT} {c nx len:Nat} {xs:List AV} {id:W32} {at_:Int}
  (hS:KS ⟨i,g,d,s,m,l,C,M,T,c⟩ e) (hat:ATI M id at_) (hx:X.x.length≤200)
  (hQ: ∀p:KPI,KS p e→p.i=i+1→c≤p.c→∀nx',Q .normal {fr:=[(0,.sl len xs),(3,.rp (cfC eDr)),(4,.op p.d 0),(5,.op e 0),(6,.i i)],hp:=p.h,nx:=nx',cx:=p.c}):
  Awp Tryd.prog GLh Tryd.f5.ntmps (cl (cr (cr (cr (cr (cr (cr (cr (cl (cr (cl (cr (cr (cr (cr (cl (cl (cr (cl (cl (cr (cl (cr (cr (cr (cr (cr (aE Tryd.f5)))))))))))))))))))))))))))) {fr:=[(0,.sl len xs),(3,.rp (cfC eDr)),(4,.op d 0),(5,.op e 0),(6,.i i),(7,.rp (yO X)),(8,.w32 id),(9,.i at_)],hp:=g,nx:=nx,cx:=c} Q:=by
 rcases hat with⟨rfl,hf⟩|⟨j,hj,rfl,rfl⟩
 ·exact eGv hS hf hx hQ
 ·by_cases hn:(kyA M.L j).next=4#32
  ·exact eGw hS hj hn hx hQ
  ·exact eGu hS hj hn hx hQ
set_option maxHeartbeats 4000000 in
theorem eIa {Q:Exit→S→Prop} {i:Nat} {g:H} {d s m l e:Nat} {C:RC} {M:MC} {T:QT} {c nx len:Nat} {xs:List AV}
  (hS:KS ⟨i,g,d,s,m,l,C,M,T,c⟩ e)
  (hQ: ∀p:KPI,KS p e→p.i=i+1→c≤p.c→∀nx',Q .normal {fr:=[(0,.sl len xs),(3,.rp (cfC eDr)),(4,.op p.d 0),(5,.op e 0),(6,.i i)],hp:=p.h,nx:=nx',cx:=p.c}):
  Awp Tryd.prog GLh Tryd.f5.ntmps (cl (cr (cr (cr (cr (cr (cr (cr (cr (cr (cr (cr (cl (cr (cl (cr (cr (cr (cr (cl (cl (cr (cl (cl (cr (cl (cr (cr (cr (cr (cr (aE Tryd.f5)))))))))))))))))))))))))))))))) {fr:=[(0,.sl len xs),(3,.rp (cfC eDr)),(4,.op d 0),(5,.op e 0),(6,.i i)],hp:=g,nx:=nx,cx:=c} Q:=by
 refine sX ?_
 have hrng:iN g d=some ⟨s,m,C⟩:=hS.tw.rng
 have hL16:M.L.length≤16:=hS.mg.len
 have hby:C.by'.length=M.L.length:=hS.rm.len
 have hle:M.L.length≤100:=by omega
 have hall:iP C=M.L:=hS.rm.l
 have hla:C.last=M.last:=hS.rm.last
 have hMc:M.c=eDr:=hS.mg.c
 have hru:rgU (c8 (rgB M.last M.L))=some (M.last,M.L):=eJm (h:=2) (by omega) hS.mg.kg
 have hcf:=aDi eDr
 have hog:OG eDr M.last M.L:=by have:=hS.rm.og hS.mg hS.pos;simp only at this;rw[hMc]at this;exact this
 refine aA rfl ?_
 refine bB (Γ:=bC [(25,.heap eHb),(24,.heap eFf)]) (fun k=>if k=1 then 0 else if k=3 then 0 else if k=2 then 1 else 2) [0,3,5,6,19,20] bZ (aH eJt (aH eJu aO)) rfl rfl rfl (by kernel_rfl) (fun K hK=>?_)
 simp(disch:=omega) only[Tryd.f5,go_sem,↓reduceIte,hrng,hby,hle,hall,hla,hru,hcf,hog,eGh,eFt]
 refine hK _ ?_
 refine aB ?_
 refine aA rfl ?_
 refine aA rfl ?_
 refine aW [304,0,3,5,6,19] rfl rfl rfl fun K hK=>?_
 simp(disch:=omega) only[Tryd.f5,go_sem,↓reduceIte]
 refine hK _ ?_
 refine aB ?_
 refine eC (.tmp 304) rfl rfl rfl (fun h=>?_) (fun h=>?_)
 ·skip
  refine aI rfl ?_
  cases h
 ·skip
  refine aI rfl ?_
  clear h
  refine aQ rfl ?_
  refine aB ?_
  refine aW [0,3,4,5,6] rfl rfl rfl fun K hK=>?_
  simp(disch:=omega) only[Tryd.f5,go_sem,↓reduceIte]
  refine hK _ ?_
  have hop:=hS.opened (n:=c+9+500+400*M.L.length) (c':=c+20000) (by omega) (by omega)
  rw[hMc]at hop
  exact eEl [0,3,4,5,6] (hQ _ hop rfl (by simp only;omega) _) rfl (by simp only;omega)
end Go.AX

namespace Go.AX
open Go Go.Proofs
set_option maxRecDepth 8000
def eHf:List AV→Option AV
 |[.sl n xs]=>aK (eFo xs) fun A=>aN (A.length=n∧n≤9223372036854775807) (some (.b true))
 |_=>none
theorem eJl (c:CF):dV [.v (.slice none 0 0),.w32 0#32,.w32 0#32,.w32 0#32,.w32 0#32,.w32 0#32,.w32 0#32,.w32 0#32,.w32 0#32,.v (.slice none 0 0),.w16 0#16,.i 0,.w16 0#16] 0 (cfC c)=cfC c:=rfl
structure KPJ where
 id:W32
 at_:Int
 c:Nat
theorem eIz (X:ACT):dV [.i 0,.i 0,.i 0,.w32 0#32,.w32 0#32,.w8 0#8,.v (.slice none 0 0)] 0 (yO X)=yO X:=rfl
theorem ky_0' (X:KY):(List.drop 0 (kyC X)).head? =some (.w32 X.id):=rfl
theorem eGa {C:RC} {M:MC} (h:RM C M) (hl:M.last.toNat<1000000) (x:W32):jS (M.last+1#32+x%3#32) M.L=none:=by
 refine aDa fun k hk e=>?_
 have h1:=h.le hk
 have h2:(x%3#32).toNat<3:=by rw[BitVec.toNat_umod];exact Nat.mod_lt _ (by decide)
 have h3:(M.last+1#32).toNat=M.last.toNat+1:=by
  rw[BitVec.toNat_add]
  show(M.last.toNat+1)%4294967296=_
  omega
 have h4:(M.last+1#32+x%3#32).toNat=M.last.toNat+1+(x%3#32).toNat:=by
  rw[BitVec.toNat_add,h3]
  omega
 rw[e,h4]at h1
 omega
set_option maxHeartbeats 8000000 in
theorem eJd (A:List ACT) (_: ∀a∈A,a.x.length≤9223372036854775807) (hlen:A.length≤9223372036854775807) (hlig:dVb A=true) {h1:H} {d s m e l q c1 nx1:Nat} (hT:TW h1 d s m e l ⟨eDr,[],0#32,[]⟩ ⟨eDr,q,[],0#32⟩ ⟨0,0,0,[]⟩) (hdom: ∀j o,h1 j=some o→j<c1):
  Awp Tryd.prog GLh Tryd.f5.ntmps (cr (cr (cr (cr (cr (aE Tryd.f5)))))) {fr:=[(0,.sl A.length (mN A)),(3,.rp (cfC eDr)),(4,.op d 0),(5,.op e 0)],hp:=h1,nx:=nx1,cx:=c1} (cN Tryd.prog Tryd.f5.results.toList (.b true)):=by
 have hal:=aHw A
 have hA40:A.length≤40:=by
  unfold dVb at hlig
  rw[Bool.and_eq_true]at hlig
  exact of_decide_eq_true hlig.1
 have hA200: ∀a∈A,a.x.length≤200:=by
  unfold dVb at hlig
  rw[Bool.and_eq_true,List.all_eq_true]at hlig
  exact fun a ha=>of_decide_eq_true (hlig.2 a ha)
 refine aA rfl ?_
 refine aA rfl ?_
 refine aW [0,3,4,5,6] rfl rfl rfl fun K hK=>?_
 simp(disch:=omega) only[Tryd.f5,go_sem,↓reduceIte]
 refine hK _ ?_
 refine aB ?_
 refine aR 0 rfl rfl ?_
 refine bR (fun p:KPI=> {fr:=[(0,.sl A.length (mN A)),(3,.rp (cfC eDr)),(4,.op p.d 0),(5,.op e 0),(6,.i p.i)],hp:=p.h,nx:=0,cx:=p.c}) (fun p=>p.i≤A.length∧KS p e) (fun p=>A.length-p.i) rfl ⟨⟨0,h1,d,s,m,l,⟨eDr,[],0#32,[]⟩,⟨eDr,q,[],0#32⟩,⟨0,0,0,[]⟩,_⟩,⟨Nat.zero_le _,KS.start hT (fun j o hj=>by have:=hdom j o hj;omega)⟩,bD rfl rfl (U3 _)⟩ ?_
 rintro⟨i,g,d,s,m,l,C,M,Q,c⟩ ⟨hi,hS⟩ n0
 simp only at hi hS⊢
 refine aA rfl ?_
 refine aA rfl ?_
 refine aW [37,0,3,4,5,6] rfl rfl rfl fun K hK=>?_
 simp(disch:=omega) only[Tryd.f5,go_sem,↓reduceIte]
 refine hK _ ?_
 refine aB ?_
 refine gP (.tmp 37) rfl rfl rfl (fun h=>?_) (fun h=>?_)
 ·skip
  refine aI rfl ?_
  have hkl:i<A.length:=by omega
  have hr:=aQk A i hkl
  have hX200:=hA200 (A.getD i eGd) (by rw[List.getD_eq_getElem?_getD,List.getElem?_eq_getElem hkl];exact List.getElem_mem hkl)
  obtain⟨X,hX⟩: ∃X,A.getD i eGd=X:=⟨_,rfl⟩
  rw[hX]at hr hX200
  have hi40:i<40:=by omega
  have hd7:7≤(List.drop (i*7) (mN A)).length:=by rw[List.length_drop];omega
  have h77:(yO X).length=7:=rfl
  clear h hX
  refine aQ rfl ?_
  refine aB ?_
  refine aA rfl ?_
  refine aR 1 rfl rfl ?_
  refine aA rfl ?_
  refine aW [0,3,4,5,6,7] rfl rfl rfl fun K hK=>?_
  simp(disch:=omega) only[Tryd.f5,go_sem,↓reduceIte,hr,hd7,h77,eIz]
  refine hK _ ?_
  refine aB ?_
  refine lW 7 (c+4+4) 0 rfl (by rw[bJ,J4 rfl]) ?_
  rw[lN]
  have hS1:=hS.upd (j:=c+4+4) (c':=c+14) (by omega) (by omega) (.cells (yO X) false)
  obtain⟨g1,hg1⟩: ∃y,upd g (c+4+4) (.cells (yO X) false)=y:=⟨_,rfl⟩
  rw[hg1]at hS1⊢
  clear hg1
  have hRM:RM C M:=hS1.rm
  obtain⟨b1,b2,b3,b4,b5,b6⟩:=(hS1.tw.lt hS1.dom).a
  simp only at b1 b2 b3 b4 b5 b6
  have hmm:g1 e=some (.cells (mgC l M) true):=hS1.tw.mm.hd
  have hml:g1 l=some (.cells (jQ M.L) true):=hS1.tw.mm.hl
  have hL16:M.L.length≤16:=hS1.mg.len
  have hla:M.last.toNat<1000000:=by have:=hS1.la;simp only at this;omega
  have hkl2:=iJ M.L
  refine aA rfl ?_
  refine aW [0,3,4,5,6,7] rfl rfl rfl fun K hK=>?_
  simp(disch:=omega) only[Tryd.f5,go_sem,↓reduceIte,yO,J8,J7,J9]
  refine hK _ ?_
  refine aB ?_
  refine aA rfl ?_
  refine aW [0,3,4,5,6,7,9] rfl rfl rfl fun K hK=>?_
  simp(disch:=omega) only[Tryd.f5,go_sem,↓reduceIte]
  refine hK _ ?_
  refine aB ?_
  refine aA rfl ?_
  refine dWd (fun p:KPJ=> {fr:=[(0,.sl A.length (mN A)),(3,.rp (cfC eDr)),(4,.op d 0),(5,.op e 0),(6,.i i),(7,.rp (yO X)),(8,.w32 p.id),(9,.i p.at_)],hp:=g1,nx:=0,cx:=p.c}) (fun p=>ATI M p.id p.at_∧c+14≤p.c) ?_ ?_
  ·skip
   by_cases ha:0<M.L.length∧X.id%8#32≠0#32
   ·skip
    have d1:decide ((0:Int)<(M.L.length:Int))=true:=J5 (by omega)
    have d2:decide (X.id%8#32=0#32)=false:=J6 ha.2
    refine aA rfl ?_
    refine aW [57,0,3,4,5,6,7,9] rfl rfl rfl fun K hK=>?_
    simp(disch:=omega) only[Tryd.f5,go_sem,↓reduceIte,hmm,jR,d1,d2,eIu,J8,J7,J9]
    refine hK _ ?_
    refine aB ?_
    simp only[go_sem]
    refine eC (.tmp 57) rfl rfl rfl (fun h=>?_) (fun h=>?_)
    ·skip
     refine aI rfl ?_
     clear h
     have hm1:Int.tmod (X.id.toNat:Int) (M.L.length:Int)=((X.id.toNat%M.L.length:Nat):Int):=rfl
     have hm2:=Nat.mod_lt X.id.toNat ha.1
     have hm3:((M.L.length:Int)=0)=False:=eq_false (by omega)
     obtain⟨j,hj⟩: ∃y,X.id.toNat%M.L.length=y:=⟨_,rfl⟩
     rw[hj]at hm1 hm2
     have ha0:=jW M.L j 0 hm2 (by omega)
     rw[Nat.add_zero,ky_0']at ha0
     have e15:j*15=15*j:=by omega
     refine aA rfl ?_
     refine aYa (Γ:=aL) (fun _=>false) [] (fun k=>if k=1 then 1 else 2) [0,3,4,5,6,7,9] bZ (aD _ _) rfl rfl rfl (by kernel_rfl) (fun K hK=>?_)
     simp(maxSteps:=400000) (disch:=omega) only[Tryd.f5,go_sem,true_and,↓reduceIte,hmm,jR,hm1,hm3,J8,J7,J9]
     refine hK _ ?_
     refine aB ?_
     refine aW [0,3,4,5,6,7,8,9] rfl rfl rfl fun K hK=>?_
     simp(disch:=omega) only[Tryd.f5,go_sem,↓reduceIte,hmm,hml,jR,ha0,e15,J8,J7,J9]
     refine hK _ ?_
     refine dWa ?_
     refine⟨⟨_,_,_⟩,⟨.inr ⟨j,hm2,rfl,rfl⟩,?_⟩,bD rfl rfl (U3 _)⟩
     simp only;omega
    ·skip
     refine aI rfl ?_
     cases h
   ·skip
    by_cases h0:M.L.length=0
    ·skip
     have d1:decide ((0:Int)<(M.L.length:Int))=false:=J6 (by omega)
     refine aA rfl ?_
     refine aW [57,0,3,4,5,6,7,9] rfl rfl rfl fun K hK=>?_
     simp(disch:=omega) only[Tryd.f5,go_sem,↓reduceIte,hmm,jR,d1,J8,J7,J9]
     refine hK _ ?_
     refine aB ?_
     refine eC (.tmp 57) rfl rfl rfl (fun h=>?_) (fun h=>?_)
     ·skip
      refine aI rfl ?_
      cases h
     ·skip
      refine aI rfl ?_
      clear h
      have hfn:=eGa hRM hla X.id
      refine aYa (Γ:=aL) (fun _=>false) [] (fun k=>if k=6 then 1 else 2) [0,3,4,5,6,7,8,9] bZ (aD _ _) rfl rfl rfl (by kernel_rfl) (fun K hK=>?_)
      simp(maxSteps:=400000) (disch:=omega) only[Tryd.f5,go_sem,and_self,true_and,↓reduceIte,hmm,jR,J8,J7,J9]
      refine hK _ ?_
      refine dWa ?_
      refine⟨⟨_,_,_⟩,⟨.inl ⟨rfl,hfn⟩,?_⟩,bD rfl rfl (U3 _)⟩
      simp only;omega
    ·skip
     have d1:decide ((0:Int)<(M.L.length:Int))=true:=J5 (by omega)
     have d2:decide (X.id%8#32=0#32)=true:=J5 (Decidable.byContradiction fun e=>ha ⟨by omega,e⟩)
     refine aA rfl ?_
     refine aW [57,0,3,4,5,6,7,9] rfl rfl rfl fun K hK=>?_
     simp(disch:=omega) only[Tryd.f5,go_sem,↓reduceIte,hmm,jR,d1,d2,eIu,J8,J7,J9]
     refine hK _ ?_
     refine aB ?_
     simp only[go_sem]
     refine eC (.tmp 57) rfl rfl rfl (fun h=>?_) (fun h=>?_)
     ·skip
      refine aI rfl ?_
      cases h
     ·skip
      refine aI rfl ?_
      clear h
      have hfn:=eGa hRM hla X.id
      refine aYa (Γ:=aL) (fun _=>false) [] (fun k=>if k=6 then 1 else 2) [0,3,4,5,6,7,8,9] bZ (aD _ _) rfl rfl rfl (by kernel_rfl) (fun K hK=>?_)
      simp(maxSteps:=400000) (disch:=omega) only[Tryd.f5,go_sem,and_self,true_and,↓reduceIte,hmm,jR,J8,J7,J9]
      refine hK _ ?_
      refine dWa ?_
      refine⟨⟨_,_,_⟩,⟨.inl ⟨rfl,hfn⟩,?_⟩,bD rfl rfl (U3 _)⟩
      simp only;omega
  rintro⟨id,at_,c1⟩ ⟨hat,hc1⟩ n0
  simp only at hat hc1⊢
  have hS2:=hS1.up (c':=c1) (i':=i) hc1 (U3 _)
  refine aA rfl ?_
  refine dWd (fun p:KPI=> {fr:=[(0,.sl A.length (mN A)),(3,.rp (cfC eDr)),(4,.op p.d 0),(5,.op e 0),(6,.i i)],hp:=p.h,nx:=0,cx:=p.c}) (fun p=>KS p e∧p.i=i+1) ?_ ?_
  ·skip
   refine aA rfl ?_
   refine aW [0,3,4,5,6,7,8,9,85] rfl rfl rfl fun K hK=>?_
   simp(disch:=omega) only[Tryd.f5,go_sem,↓reduceIte,yO,J8,J9]
   refine hK _ ?_
   refine aB ?_
   refine aR 2 rfl rfl ?_
   refine aA rfl ?_
   refine dWd (fun p:Nat=> {fr:=[(0,.sl A.length (mN A)),(3,.rp (cfC eDr)),(4,.op d 0),(5,.op e 0),(6,.i i),(7,.rp (yO X)),(8,.w32 id),(9,.i at_),(85,.i X.w),(86,.b (decide (X.w=0∨X.w=1)))],hp:=g1,nx:=0,cx:=p}) (fun p=>c1≤p) ?_ ?_
   ·skip
    by_cases hw0:X.w=0
    ·skip
     have d0:decide (X.w=0)=true:=J5 hw0
     have dd:decide (X.w=0∨X.w=1)=true:=J5 (.inl hw0)
     refine aA rfl ?_
     refine aW [0,3,4,5,6,7,8,9,85,86] rfl rfl rfl fun K hK=>?_
     simp(disch:=omega) only[Tryd.f5,go_sem,↓reduceIte,d0]
     refine hK _ ?_
     refine aB ?_
     refine eC (.tmp 86) rfl rfl rfl (fun h=>?_) (fun h=>?_)
     ·skip
      clear h
      refine aQ rfl ?_
      refine dWa ?_
      refine⟨_,?_,bD ?_ rfl (U3 _)⟩
      ·omega
      ·simp only[dd,yO]
     ·skip
      cases h
    ·skip
     have d0:decide (X.w=0)=false:=J6 hw0
     have dd:decide (X.w=0∨X.w=1)=decide (X.w=1):=decide_eq_decide.2 ⟨fun h=>h.elim (fun h=>absurd h hw0) fun h=>h,.inr⟩
     refine aA rfl ?_
     refine aW [0,3,4,5,6,7,8,9,85,86] rfl rfl rfl fun K hK=>?_
     simp(disch:=omega) only[Tryd.f5,go_sem,↓reduceIte,d0]
     refine hK _ ?_
     refine aB ?_
     refine eC (.tmp 86) rfl rfl rfl (fun h=>?_) (fun h=>?_)
     ·skip
      cases h
     ·skip
      clear h
      refine aW [0,3,4,5,6,7,8,9,85,86] rfl rfl rfl fun K hK=>?_
      simp(disch:=omega) only[Tryd.f5,go_sem,↓reduceIte]
      refine hK _ ?_
      refine dWa ?_
      refine⟨_,?_,bD ?_ rfl (U3 _)⟩
      ·omega
      ·simp only[dd,yO]
   rintro c12 hc12 n0
   refine eC (.tmp 86) rfl rfl rfl (fun h=>?_) (fun h=>?_)
   ·skip
    clear h
    refine fF [0,3,4,5,6,7,8,9] ?_
    simp only[iB,fU,eB,↓reduceIte,Nat.reduceEqDiff]
    refine eIb (hS2.up (c':=c12) (i':=i) (by omega) (U3 _)) hi40 (fun p hp hi _ nx'=>?_)
    refine bU (dWa ?_)
    exact⟨p,⟨hp,hi⟩,bD rfl rfl (U3 _)⟩
   ·skip
    clear h
    refine aA rfl ?_
    refine dWd (fun p:Nat=> {fr:=[(0,.sl A.length (mN A)),(3,.rp (cfC eDr)),(4,.op d 0),(5,.op e 0),(6,.i i),(7,.rp (yO X)),(8,.w32 id),(9,.i at_),(85,.i X.w),(127,.b (decide (X.w=2∨X.w=3)))],hp:=g1,nx:=0,cx:=p}) (fun p=>c1≤p) ?_ ?_
    ·skip
     by_cases hw2:X.w=2
     ·skip
      have d0:decide (X.w=2)=true:=J5 hw2
      have dd:decide (X.w=2∨X.w=3)=true:=J5 (.inl hw2)
      refine aA rfl ?_
      refine aW [0,3,4,5,6,7,8,9,85,127] rfl rfl rfl fun K hK=>?_
      simp(disch:=omega) only[Tryd.f5,go_sem,↓reduceIte,d0]
      refine hK _ ?_
      refine aB ?_
      refine eC (.tmp 127) rfl rfl rfl (fun h=>?_) (fun h=>?_)
      ·skip
       clear h
       refine aQ rfl ?_
       refine dWa ?_
       refine⟨_,?_,bD ?_ rfl (U3 _)⟩
       ·omega
       ·simp only[dd,yO]
      ·skip
       cases h
     ·skip
      have d0:decide (X.w=2)=false:=J6 hw2
      have dd:decide (X.w=2∨X.w=3)=decide (X.w=3):=decide_eq_decide.2 ⟨fun h=>h.elim (fun h=>absurd h hw2) fun h=>h,.inr⟩
      refine aA rfl ?_
      refine aW [0,3,4,5,6,7,8,9,85,127] rfl rfl rfl fun K hK=>?_
      simp(disch:=omega) only[Tryd.f5,go_sem,↓reduceIte,d0]
      refine hK _ ?_
      refine aB ?_
      refine eC (.tmp 127) rfl rfl rfl (fun h=>?_) (fun h=>?_)
      ·skip
       cases h
      ·skip
       clear h
       refine aW [0,3,4,5,6,7,8,9,85,127] rfl rfl rfl fun K hK=>?_
       simp(disch:=omega) only[Tryd.f5,go_sem,↓reduceIte]
       refine hK _ ?_
       refine dWa ?_
       refine⟨_,?_,bD ?_ rfl (U3 _)⟩
       ·omega
       ·simp only[dd,yO]
    rintro c13 hc13 n0
    refine eC (.tmp 127) rfl rfl rfl (fun h=>?_) (fun h=>?_)
    ·skip
     clear h
     refine fF [0,3,4,5,6,7,8,9] ?_
     simp only[iB,fU,eB,↓reduceIte,Nat.reduceEqDiff]
     refine eHw (hS2.up (c':=c13) (i':=i) (by omega) (U3 _)) (fun p hp hi _ nx'=>?_)
     refine bU (dWa ?_)
     exact⟨p,⟨hp,hi⟩,bD rfl rfl (U3 _)⟩
    ·skip
     clear h
     refine aA rfl ?_
     by_cases hw4:X.w=4
     ·skip
      have d0:decide (X.w=4)=true:=J5 hw4
      refine aW [145,0,3,4,5,6,7,8,9,85] rfl rfl rfl fun K hK=>?_
      simp(disch:=omega) only[Tryd.f5,go_sem,↓reduceIte,d0]
      refine hK _ ?_
      refine aB ?_
      refine eC (.tmp 145) rfl rfl rfl (fun h=>?_) (fun h=>?_)
      ·skip
       refine aI rfl ?_
       clear h
       refine fF [0,3,4,5,6,7,8,9] ?_
       simp only[iB,fU,eB,↓reduceIte,Nat.reduceEqDiff]
       refine eHz (hS2.up (c':=c13+2) (i':=i) (by omega) (U3 _)) (fun p hp hi _ nx'=>?_)
       refine bU (dWa ?_)
       exact⟨p,⟨hp,hi⟩,bD rfl rfl (U3 _)⟩
      ·skip
       refine aI rfl ?_
       cases h
     ·skip
      have d0:decide (X.w=4)=false:=J6 hw4
      refine aW [145,0,3,4,5,6,7,8,9,85] rfl rfl rfl fun K hK=>?_
      simp(disch:=omega) only[Tryd.f5,go_sem,↓reduceIte,d0]
      refine hK _ ?_
      refine aB ?_
      refine eC (.tmp 145) rfl rfl rfl (fun h=>?_) (fun h=>?_)
      ·skip
       refine aI rfl ?_
       cases h
      ·skip
       refine aI rfl ?_
       clear h
       refine aA rfl ?_
       refine dWd (fun p:Nat=> {fr:=[(0,.sl A.length (mN A)),(3,.rp (cfC eDr)),(4,.op d 0),(5,.op e 0),(6,.i i),(7,.rp (yO X)),(8,.w32 id),(9,.i at_),(85,.i X.w),(158,.b (decide (X.w=5∨X.w=6)))],hp:=g1,nx:=0,cx:=p}) (fun p=>c1≤p) ?_ ?_
       ·skip
        by_cases hw5:X.w=5
        ·skip
         have d0:decide (X.w=5)=true:=J5 hw5
         have dd:decide (X.w=5∨X.w=6)=true:=J5 (.inl hw5)
         refine aA rfl ?_
         refine aW [0,3,4,5,6,7,8,9,85,158] rfl rfl rfl fun K hK=>?_
         simp(disch:=omega) only[Tryd.f5,go_sem,↓reduceIte,d0]
         refine hK _ ?_
         refine aB ?_
         refine eC (.tmp 158) rfl rfl rfl (fun h=>?_) (fun h=>?_)
         ·skip
          clear h
          refine aQ rfl ?_
          refine dWa ?_
          refine⟨_,?_,bD ?_ rfl (U3 _)⟩
          ·omega
          ·simp only[dd,yO]
         ·skip
          cases h
        ·skip
         have d0:decide (X.w=5)=false:=J6 hw5
         have dd:decide (X.w=5∨X.w=6)=decide (X.w=6):=decide_eq_decide.2 ⟨fun h=>h.elim (fun h=>absurd h hw5) fun h=>h,.inr⟩
         refine aA rfl ?_
         refine aW [0,3,4,5,6,7,8,9,85,158] rfl rfl rfl fun K hK=>?_
         simp(disch:=omega) only[Tryd.f5,go_sem,↓reduceIte,d0]
         refine hK _ ?_
         refine aB ?_
         refine eC (.tmp 158) rfl rfl rfl (fun h=>?_) (fun h=>?_)
         ·skip
          cases h
         ·skip
          clear h
          refine aW [0,3,4,5,6,7,8,9,85,158] rfl rfl rfl fun K hK=>?_
          simp(disch:=omega) only[Tryd.f5,go_sem,↓reduceIte]
          refine hK _ ?_
          refine dWa ?_
          refine⟨_,?_,bD ?_ rfl (U3 _)⟩
          ·omega
          ·simp only[dd,yO]
       rintro c14 hc14 n0
       refine eC (.tmp 158) rfl rfl rfl (fun h=>?_) (fun h=>?_)
       ·skip
        clear h
        refine fF [0,3,4,5,6,7,8,9] ?_
        simp only[iB,fU,eB,↓reduceIte,Nat.reduceEqDiff]
        refine eHy (hS2.up (c':=c14) (i':=i) (by omega) (U3 _)) hat hX200 (fun p hp hi _ nx'=>?_)
        refine bU (dWa ?_)
        exact⟨p,⟨hp,hi⟩,bD rfl rfl (U3 _)⟩
       ·skip
        clear h
        refine aA rfl ?_
        by_cases hw7:X.w=7
        ·skip
         have d0:decide (X.w=7)=true:=J5 hw7
         refine aW [244,0,3,4,5,6,7,8,9,85] rfl rfl rfl fun K hK=>?_
         simp(disch:=omega) only[Tryd.f5,go_sem,↓reduceIte,d0]
         refine hK _ ?_
         refine aB ?_
         refine eC (.tmp 244) rfl rfl rfl (fun h=>?_) (fun h=>?_)
         ·skip
          refine aI rfl ?_
          clear h
          refine fF [0,3,4,5,6,7,8,9] ?_
          simp only[iB,fU,eB,↓reduceIte,Nat.reduceEqDiff]
          refine eHx (hS2.up (c':=c14+2) (i':=i) (by omega) (U3 _)) hat (fun p hp hi _ nx'=>?_)
          refine bU (dWa ?_)
          exact⟨p,⟨hp,hi⟩,bD rfl rfl (U3 _)⟩
         ·skip
          refine aI rfl ?_
          cases h
        ·skip
         have d0:decide (X.w=7)=false:=J6 hw7
         refine aW [244,0,3,4,5,6,7,8,9,85] rfl rfl rfl fun K hK=>?_
         simp(disch:=omega) only[Tryd.f5,go_sem,↓reduceIte,d0]
         refine hK _ ?_
         refine aB ?_
         refine eC (.tmp 244) rfl rfl rfl (fun h=>?_) (fun h=>?_)
         ·skip
          refine aI rfl ?_
          cases h
         ·skip
          refine aI rfl ?_
          clear h
          refine aA rfl ?_
          by_cases hw8:X.w=8
          ·skip
           have d0:decide (X.w=8)=true:=J5 hw8
           refine aW [290,0,3,4,5,6] rfl rfl rfl fun K hK=>?_
           simp(disch:=omega) only[Tryd.f5,go_sem,↓reduceIte,d0]
           refine hK _ ?_
           refine aB ?_
           refine eC (.tmp 290) rfl rfl rfl (fun h=>?_) (fun h=>?_)
           ·skip
            refine aI rfl ?_
            clear h
            refine fF [0,3,4,5,6] ?_
            simp only[iB,fU,eB,↓reduceIte,Nat.reduceEqDiff]
            refine eIa (hS2.up (c':=c14+2+2) (i':=i) (by omega) (U3 _)) (fun p hp hi _ nx'=>?_)
            refine bU (dWa ?_)
            exact⟨p,⟨hp,hi⟩,bD rfl rfl (U3 _)⟩
           ·skip
            refine aI rfl ?_
            cases h
          ·skip
           have d0:decide (X.w=8)=false:=J6 hw8
           refine aW [290,0,3,4,5,6] rfl rfl rfl fun K hK=>?_
           simp(disch:=omega) only[Tryd.f5,go_sem,↓reduceIte,d0]
           refine hK _ ?_
           refine aB ?_
           refine eC (.tmp 290) rfl rfl rfl (fun h=>?_) (fun h=>?_)
           ·skip
            refine aI rfl ?_
            cases h
           ·skip
            refine aI rfl ?_
            clear h
            refine aQ rfl ?_
            refine bU (dWa ?_)
            exact⟨⟨i+1,g1,d,s,m,l,C,M,Q,_⟩,⟨hS2.up (by omega) (by omega),rfl⟩,bD rfl rfl (U3 _)⟩
  rintro⟨i5,g5,d5,s5,m5,l5,C5,M5,Q5,c5⟩ ⟨hS5,hi5⟩ n0
  simp only at hS5 hi5⊢
  obtain rfl:i5=i+1:=hi5
  have hh:=hS5.hg (by omega)
  have hrng:=hS5.tw.rng
  have hmr:=hS5.tw.mrg
  have hqo:=hS5.tw.qof
  obtain⟨h5a,h5b,h5c,h5d,h5e,h5f⟩:=hh
  have h5g:(∀k∈M5.L,KG 2 k)=True:=eq_true h5c
  refine aA rfl ?_
  refine aC (Γ:=bC [(26,.heap eFz)]) [309,0,3,4,5,6] (aH eJs aO) rfl rfl rfl (fun K hK=>?_)
  simp(disch:=omega) only[Tryd.f5,go_sem,↓reduceIte,hrng,hmr,hqo,h5a,h5b,h5g,h5d,h5e,h5f,Bool.not_true]
  refine hK _ ?_
  refine aB ?_
  refine eC (.tmp 309) rfl rfl rfl (fun h=>?_) (fun h=>?_)
  ·skip
   refine aI rfl ?_
   cases h
  ·skip
   refine aI rfl ?_
   clear h
   refine aQ rfl ?_
   refine bU (aB ?_)
   refine aW [0,3,4,5,6] rfl rfl rfl fun K hK=>?_
   simp(disch:=omega) only[Tryd.f5,go_sem,↓reduceIte]
   refine hK _ ?_
   refine bT ?_
   refine⟨⟨i+1,_,_,_,_,_,_,_,_,_⟩,⟨by simp only;omega,hS5.hold (n:=c5+4) (c':=c5+4+10000+100000*M5.L.length+3) (by omega) (by omega)⟩,by simp only;omega,bD ?_ rfl (U3 _)⟩
   simp only[Int.natCast_add,Int.natCast_one]
 ·skip
  refine aI rfl ?_
  refine bF 0 rfl rfl ?_
  refine aY (aZ (bE ?_))
  refine aB ?_
  refine aA rfl ?_
  refine aW [2] rfl rfl rfl fun K hK=>?_
  simp(disch:=omega) only[Tryd.f5,go_sem,↓reduceIte]
  refine hK _ ?_
  refine aB ?_
  refine aS rfl ?_
  simp(disch:=omega) only[cN,bV,bK,bQ,Tryd.f5,go_sem,↓reduceIte]
set_option maxHeartbeats 4000000 in
theorem eIg:cL Tryd.prog GLh 5 eHf:=by
 refine cC Tryd.func5 (aT rfl) ?_
 intro args r hg
 unfold eHf at hg
 split at hg
 ·rename_i n xs
  replace hg:=aJ hg;obtain⟨A,hA,hg⟩:=hg
  obtain⟨rfl,hall⟩:=eFa hA
  replace hg:=aP hg;obtain⟨⟨rfl,hlen⟩,hg⟩:=hg
  obtain rfl:=J0 hg
  have hal:=aHw A
  clear hg
  refine⟨J1 rfl,fun nx=>?_⟩
  refine aA rfl (aW [0] rfl rfl rfl fun K hK=>?_)
  simp(disch:=omega) only[Tryd.f5,go_sem,↓reduceIte]
  refine hK _ ?_
  refine aB (aA rfl (aA rfl (aC (Γ:=bC [(6,.pure true eEn)]) [22,0] (aH okd6 aO) rfl rfl rfl (fun K hK=>?_))))
  simp(disch:=omega) only[Tryd.f5,go_sem,↓reduceIte]
  refine hK _ ?_
  refine aB (eC (.tmp 22) rfl rfl rfl (fun h=>?_) (fun h=>?_))
  ·refine aI rfl ?_
   cases h
  refine aI rfl ?_
  clear h
  refine aQ rfl (aB (aA rfl (aA rfl ?_)))
  rcases hlig:dVb A with _|_
  ·refine aC (Γ:=bC [(18,.pure true dVj)]) [25,0] (aH eIs aO) rfl rfl rfl (fun K hK=>?_)
   simp(disch:=omega) only[Tryd.f5,go_sem,↓reduceIte,hA,hlen,hlig,Bool.not_false]
   refine hK _ ?_
   refine aB (eC (.tmp 25) rfl rfl rfl (fun h=>?_) (fun h=>?_))
   ·refine aI rfl (aA rfl (aW [2] rfl rfl rfl fun K hK=>?_))
    simp(disch:=omega) only[Tryd.f5,go_sem,↓reduceIte]
    refine hK _ ?_
    refine aB (aS rfl (bI ?_))
    simp(disch:=omega) only[cN,bV,bK,bQ,Tryd.f5,go_sem,↓reduceIte]
   refine aI rfl ?_
   cases h
  refine aC (Γ:=bC [(18,.pure true dVj)]) [25,0] (aH eIs aO) rfl rfl rfl (fun K hK=>?_)
  simp(disch:=omega) only[Tryd.f5,go_sem,↓reduceIte,hA,hlen,hlig,Bool.not_true]
  refine hK _ ?_
  refine aB (eC (.tmp 25) rfl rfl rfl (fun h=>?_) (fun h=>?_))
  ·refine aI rfl ?_
   cases h
  refine aI rfl ?_
  clear h
  refine aQ rfl (aB (aA rfl (aC (Γ:=bC [(8,.pure false bUe)]) [0,3] (aH eJn aO) rfl rfl rfl (fun K hK=>?_))))
  simp(disch:=omega) only[Tryd.f5,go_sem,↓reduceIte,eJl]
  refine hK _ ?_
  refine aB (lW 3 (nx+1+2+3+1) 0 rfl (by simp only[aV,if_true];rfl) ?_)
  refine aA rfl (aXz (Γ:=bC [(7,.heap aMq)]) [[0,1,3,4,2,5,6,7,8],[3,4,0,1,2,5,6,7,8],[3,4,2,5,6,0,1,7,8]] (fun k=>if k=1 then 0 else if k=0 then 1 else if k=2 then 1 else 2) [0,3,4,5] bZ (aH eJc aO) rfl rfl rfl (by kernel_rfl) (fun K hK=>?_))
  simp(disch:=omega) only[Tryd.f5,aHu,aQh,go_sem,nJ,lY,eDt,List.getElem?_cons_zero,List.getElem?_cons_succ,and_self,and_true,↓reduceIte,eGh,eFt,cK,List.nil_append,List.cons_append,U1,J7,J9,List.all_cons,List.all_nil,Option.isSome_some,Bool.and_self]
  refine hK _ ?_
  refine aB ?_
  simp only[Nat.add_assoc,Nat.reduceAdd]
  refine aDn (nx+15) 15 (cfC eDr++[.op (nx+13) 0]) [.w32 0#32] true (by rw[jN _ _ _ _ _ _ (by omega) (by omega) (by omega),bJ,J4 rfl];rfl) (by omega) ?_
  refine eJd A hall hlen hlig (d:=nx+24) (s:=nx+21) (m:=nx+22) (e:=nx+15) (l:=nx+38) (q:=nx+13) ?_ ?_
  ·refine⟨⟨?_,?_,?_,by omega⟩,⟨?_,?_,by omega⟩,⟨?_,fun _=>⟨rfl,rfl,rfl⟩,fun e=>absurd rfl e⟩,by simp only;omega,fun e=>absurd rfl e⟩
   ·simp(disch:=omega) only[aV,bGy,bY,↓reduceIte]<;>rfl
   ·simp(disch:=omega) only[aV,bGw,bY,↓reduceIte,eq_self]<;>rfl
   ·simp(disch:=omega) only[aV,cHw,bY,↓reduceIte,eq_self]<;>rfl
   ·rw[bJ,J4 rfl];rfl
   ·simp(disch:=omega) only[aV,bY,↓reduceIte,eq_self]<;>rfl
   simp(disch:=omega) only[aV,jN,bY,↓reduceIte,eq_self]<;>rfl
  exact eDq (by omega) (eDq (by omega) (eDu (by omega) (by omega) (by omega) (eDq (by omega) (eDq (by omega) (eDq (by omega) (fun k o h=>by cases h))))))
 cases hg
end Go.AX
