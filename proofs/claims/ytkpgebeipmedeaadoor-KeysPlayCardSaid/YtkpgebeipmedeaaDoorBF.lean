/-
  Keys, part rA: rows of keys held against one another. Keys, part rB: the document's DNSKEY bytes; roots that were reckoned. AX, more, part N: a region that draws its order, where operations are apart by the own objects that they touch. AX, more, part Q: a region that draws its order, where operations are apart by the own objects that they touch: the rule. Keys, part rC: roots that were reckoned: told. Keys, part rD: the document's DNSKEYs. Keys, part rE: small parts of a ring's bytes. Keys, part rF: numbers and keys read back; may a key be? Keys, part rG: scripts of acts; how light they are. Keys, part rH: a ring's bytes. Keys, part rI: a ring's bytes read as just one ring; keys laid one after another. Keys, part rK: a key laid into a ring's map by an entry and a store of it: any order of that region's operations. Keys, part rJ: a ring opened. Keys, part rL: a ring, the document's ring and its roots, side by side in memory. Keys, part rM: a ring held against the document's. Keys, part G: known. Keys, part H: the statement KeysLeaves. Keys, part rN: the plain law: few roots; what each call keeps. Keys, part rO: the plain law: leaves passed over and used up; a ring laid anew. Keys, part rQ: what each call leaves in memory; what is so behind each act. AX, part AyP: a region that draws its order, where a few orders stand for all: each other order is one of them but for operations that don't touch one another.
-/
import Derived.Test.YtkpgebeipmedeaaDoorBE
import Derived.Test.YtkpgebeipmedeaaDoorBC
import Derived.WideKeyEntry
import Derived.Test.YtkpgebeipmedeaaDoorBD
namespace Go.AX
open Go Go.Proofs
set_option maxRecDepth 8000
open Classical in
noncomputable def nM (xs:List AV):Option (List KY):=if h: ∃L,xs=jQ L then some (Classical.choose h)else none
theorem sK (L:List KY):nM (jQ L)=some L:=by
 have hx: ∃L',jQ L=jQ L':=⟨L,rfl⟩
 unfold nM
 rw[dif_pos hx]
 exact congrArg some (aCq (Classical.choose_spec hx)).symm
theorem lS {xs:List AV} {L:List KY} (h:nM xs=some L):xs=jQ L:=by
 unfold nM at h
 split at h
 ·rename_i hx
  rw[←J0 h]
  exact Classical.choose_spec hx
 cases h
attribute [go_sem] sK
theorem lC (L:List KY) (k:Nat) (hk:k<L.length):(List.drop (15*k) (jQ L)).take 15=kyC (kyA L k):=by
 have:=wE L k 0 hk
 rw[Nat.add_zero,J9]at this
 rw[this]
 exact List.take_left' rfl
theorem kJ (L:List KY) (k:Nat) (hk:k<L.length):L[k]=kyA L k:=by simp[kyA,List.getD_eq_getElem?_getD,hk]
theorem cAh (P:Program) (t e:TypeId) (n:Nat) (hu:P.underlying t=some (.array n e)) (he:P.underlying e=some (.int .u8)) (hz:cD P e=some 1) (ha:cH P e=some false) (l m:List B8) (hl:l.length=n) (hm:m.length=n):
  eqT P 5 t (.agg (c8 l)) (.agg (c8 m))=some (decide (l=m)):=by
 have hld: ∀(l:List B8) (k:Nat),k<l.length→ldV P e ((c8 l).drop (k*1))=some (.w8 (l.getD k 0#8)):=by
  intro l k hk
  unfold ldV
  rw[ha,aX,J3 (by decide),Nat.mul_one]
  exact oC l k hk
 have he5: ∀a b:B8,eqT P 4 e (.w8 a) (.w8 b)=some (decide (a=b)):=by
  intro a b
  unfold eqT
  rw[he];rfl
 unfold eqT
 rw[hu]
 simp only[hz,aX]
 have key: ∀(r:Nat) (k:Nat),k+r=n→nO (eqT P 4 e) (fun i cs=>ldV P e (cs.drop (i*1))) (c8 l) (c8 m) (List.range' k r)=some (decide (l.drop k=m.drop k)):=by
  intro r
  induction r with
  |zero=>
   intro k hk
   rw[List.drop_of_length_le (by omega),List.drop_of_length_le (by omega)];rfl
  |succ r ih=>
   intro k hk
   rw[List.range'_succ]
   simp only[nO]
   rw[hld l k (by omega),hld m k (by omega)]
   simp only[aX,he5]
   rw[List.drop_eq_getElem_cons (by omega:k<l.length),List.drop_eq_getElem_cons (by omega:k<m.length)]
   have e1:l.getD k 0#8=l[k]'(by omega):=by simp[List.getD_eq_getElem?_getD,List.getElem?_eq_getElem (by omega:k<l.length)]
   have e2:m.getD k 0#8=m[k]'(by omega):=by simp[List.getD_eq_getElem?_getD,List.getElem?_eq_getElem (by omega:k<m.length)]
   rw[e1,e2]
   by_cases h:l[k]'(by omega)=m[k]'(by omega)
   ·rw[J4 (by simpa using h),ih (k+1) (by omega)]
    congr 1
    rw[decide_eq_decide,List.cons.injEq]
    exact⟨fun e=>⟨h,e⟩,fun e=>e.2⟩
   ·rw[J3 (by simpa using h)]
    congr 1;symm
    rw[decide_eq_false_iff_not,List.cons.injEq]
    exact fun e=>h e.1
 have:=key n 0 (by omega)
 rw[List.range_eq_range']
 exact this
theorem nN {p q:Prop} [Decidable p] [Decidable q] {x:Option Bool} (h1:p→x=some (decide q)) (h2: ¬p→¬q):(aK (some (decide p)) fun b=>if b=true then x else some false)=some (decide q):=by
 rw[aX]
 by_cases hp:p
 ·rw[J4 (J5 hp)];exact h1 hp
 rw[J3 (by rw[J6 hp];decide),J6 (h2 hp)]
theorem aJu (a b:W32):eqT Tryd.prog 5 29 (.w32 a) (.w32 b)=some (decide (a=b)):=by unfold eqT;rw[Tryd.underlying29];rfl
theorem bNn (a b:Int):eqT Tryd.prog 5 3 (.i a) (.i b)=some (decide (a=b)):=by unfold eqT;rw[Tryd.underlying3];rfl
theorem dAj (a b:S8):eqT Tryd.prog 5 22 (.agg (c8 a.l)) (.agg (c8 b.l))=some (decide (a.l=b.l)):=cAh _ 22 5 8 Tryd.underlying22 Tryd.underlying5 sz5 ag5 _ _ a.len b.len
theorem sh49:Tryd.prog.stoodInHeld 49=false:=by kernel_rfl
theorem eg49:Tryd.prog.eqGuardType Tryd.prog.depth 49=false:=by kernel_rfl
theorem cPe (a b:KY):eqT Tryd.prog 6 49 (.agg (kyC a)) (.agg (kyC b))=some (decide (a=b)):=by
 have e0: ∀k:KY,ldV Tryd.prog 29 ((kyC k).drop 0)=some (.w32 k.id):=fun k=>by unfold ldV;rw[ag29];rfl
 have e1: ∀k:KY,ldV Tryd.prog 3 ((kyC k).drop 1)=some (.i k.role):=fun k=>by unfold ldV;rw[ag3];rfl
 have e2: ∀k:KY,ldV Tryd.prog 3 ((kyC k).drop 2)=some (.i k.st):=fun k=>by unfold ldV;rw[ag3];rfl
 have e3: ∀k:KY,ldV Tryd.prog 22 ((kyC k).drop 3)=some (.agg (c8 k.seed.l)):=fun k=>by unfold ldV;rw[ag22,sz22];rfl
 have e4: ∀k:KY,ldV Tryd.prog 3 ((kyC k).drop 11)=some (.i k.h):=fun k=>by unfold ldV;rw[ag3];rfl
 have e5: ∀k:KY,ldV Tryd.prog 29 ((kyC k).drop 12)=some (.w32 k.next):=fun k=>by unfold ldV;rw[ag29];rfl
 have e6: ∀k:KY,ldV Tryd.prog 29 ((kyC k).drop 13)=some (.w32 k.since):=fun k=>by unfold ldV;rw[ag29];rfl
 have e7: ∀k:KY,ldV Tryd.prog 29 ((kyC k).drop 14)=some (.w32 k.seen):=fun k=>by unfold ldV;rw[ag29];rfl
 unfold eqT
 rw[Tryd.underlying49]
 simp only[cU _ sh49,oH,e0,e1,e2,e3,e4,e5,e6,e7,aX]
 rw[J4 (by decide),aJu]
 refine nN (fun h0=>?_) (fun h e=>h (by rw[e]))
 rw[J4 (by decide),bNn]
 refine nN (fun h1=>?_) (fun h e=>h (by rw[e]))
 rw[J4 (by decide),bNn]
 refine nN (fun h2=>?_) (fun h e=>h (by rw[e]))
 rw[J4 (by decide),dAj]
 refine nN (fun h3=>?_) (fun h e=>h (by rw[e]))
 rw[J4 (by decide),bNn]
 refine nN (fun h4=>?_) (fun h e=>h (by rw[e]))
 rw[J4 (by decide),aJu]
 refine nN (fun h5=>?_) (fun h e=>h (by rw[e]))
 rw[J4 (by decide),aJu]
 refine nN (fun h6=>?_) (fun h e=>h (by rw[e]))
 rw[J4 (by decide),aJu]
 refine nN (fun h7=>?_) (fun h e=>h (by rw[e]))
 rw[J5]
 obtain⟨a0,a1,a2,a3,a4,a5,a6,a7⟩:=a
 obtain⟨b0,b1,b2,b3,b4,b5,b6,b7⟩:=b
 simp only at h0 h1 h2 h3 h4 h5 h6 h7
 rw[h0,h1,h2,S8.inj h3,Int.ofNat.inj h4,h5,h6,h7]
attribute [go_sem] cPe eg49
noncomputable def aXb:List AV→Option AV
 |[.sl n xs,.sl m ys]=>aK (nM xs) fun a=>aK (nM ys) fun b=>aN (a.length=n∧b.length=m∧n≤1000∧m≤1000) (some (.b (decide (a=b))))
 |_=>none
theorem bMc (n m:Nat) (xs ys:List AV):aXb [.sl n xs,.sl m ys]=aK (nM xs) fun a=>aK (nM ys) fun b=>aN (a.length=n∧b.length=m∧n≤1000∧m≤1000) (some (.b (decide (a=b)))):=(rfl)
attribute [go_sem] bMc
set_option maxHeartbeats 1000000 in
theorem bYh:cL Tryd.prog GLh 45 aXb:=by
 refine cC Tryd.func45 (aT rfl) ?_
 intro args r hg
 unfold aXb at hg
 split at hg
 ·rename_i n xs m ys
  replace hg:=aJ hg;obtain⟨a,ha,hg⟩:=hg
  replace hg:=aJ hg;obtain⟨b,hb,hg⟩:=hg
  replace hg:=aP hg;obtain⟨⟨hn,hm,hbig,hbig2⟩,hg⟩:=hg
  obtain rfl:=J0 hg
  have:=lS ha;subst this
  have:=lS hb;subst this
  subst hn;subst hm
  clear hg ha hb
  refine⟨J1 rfl,fun nx=>?_⟩
  have hka:=iJ a
  have hkb:=iJ b
  refine aA rfl (aW [0,1] rfl rfl rfl fun K hK=>?_)
  simp(disch:=omega) only[Tryd.f45,go_sem,↓reduceIte]
  refine hK _ ?_
  refine aB (aA rfl (aA rfl (aW [10,0,1] rfl rfl rfl fun K hK=>?_)))
  simp(disch:=omega) only[Tryd.f45,go_sem,↓reduceIte]
  refine hK _ ?_
  refine aB (eGn (.tmp 10) rfl rfl rfl (fun h=>?_) (fun h=>?_))
  ·refine aI rfl ?_
   have hl:decide (a=b)=false:=J6 (fun e=>h (by rw[e]))
   refine aA rfl (aW [4] rfl rfl rfl fun K hK=>?_)
   simp(disch:=omega) only[Tryd.f45,go_sem,↓reduceIte]
   refine hK _ ?_
   refine aB (aS rfl (bI ?_))
   simp(disch:=omega) only[cN,bV,bK,bQ,Tryd.f45,go_sem,↓reduceIte,hl]
  refine aI rfl ?_
  have hab:a.length=b.length:=by omega
  refine aQ rfl (aB (aA rfl (aA rfl (aW [0,1,5] rfl rfl rfl fun K hK=>?_))))
  simp(disch:=omega) only[Tryd.f45,go_sem,↓reduceIte]
  refine hK _ ?_
  refine aB (aR 0 rfl rfl (bR (fun p:KC=> {fr:=[(0,.sl a.length (jQ a)),(1,.sl b.length (jQ b)),(5,.i p.k)],hp:=fun _=>none,nx:=0,cx:=p.c}) (fun p=>p.k≤a.length∧a.take p.k=b.take p.k) (fun p=>a.length-p.k) rfl ⟨⟨0,_⟩,⟨Nat.zero_le _,rfl⟩,bD rfl rfl (U3 _)⟩ ?_))
  rintro⟨k,c⟩ ⟨hk,ht⟩ n0
  simp only at hk ht⊢
  refine aA rfl (aA rfl (aW [14,0,1,5] rfl rfl rfl fun K hK=>?_))
  simp(disch:=omega) only[Tryd.f45,go_sem,↓reduceIte]
  refine hK _ ?_
  refine aB (gP (.tmp 14) rfl rfl rfl (fun h=>?_) (fun h=>?_))
  ·refine aI rfl ?_
   have ha:k<a.length:=by omega
   have hb:k<b.length:=by omega
   have hra:=lC a k ha
   have hrb:=lC b k hb
   have hda:15≤(List.drop (15*k) (jQ a)).length:=by rw[List.length_drop];omega
   have hdb:15≤(List.drop (15*k) (jQ b)).length:=by rw[List.length_drop];omega
   have e15:k*15=15*k:=by omega
   obtain⟨X,hX⟩: ∃X,kyA a k=X:=⟨_,rfl⟩
   obtain⟨Y,hY⟩: ∃Y,kyA b k=Y:=⟨_,rfl⟩
   rw[hX]at hra
   rw[hY]at hrb
   refine aQ rfl (aB (aA rfl (aR 1 rfl rfl (aA rfl ?_))))
   by_cases hxy:X=Y
   ·have dxy:decide (X=Y)=true:=J5 hxy
    refine bB (Γ:=aL) (fun _=>2) [25,0,1,5] bZ (aD _ _) rfl rfl rfl (by kernel_rfl) (fun K hK=>?_)
    simp(disch:=omega) only[Tryd.f45,go_sem,↓reduceIte,hra,hrb,hda,hdb,e15,dxy,Bool.not_true]
    refine hK _ ?_
    refine aB (eC (.tmp 25) rfl rfl rfl (fun h=>?_) (fun h=>?_))
    ·refine aI rfl ?_
     cases h
    refine aI rfl (aQ rfl (bU (aB (aW [0,1,5] rfl rfl rfl fun K hK=>?_))))
    simp(disch:=omega) only[Tryd.f45,go_sem,↓reduceIte]
    refine hK _ ?_
    refine bT ?_
    refine⟨⟨k+1,_⟩,⟨by simp only;omega,?_⟩,by simp only;omega,bD ?_ rfl (U3 _)⟩
    ·rw[List.take_add_one,List.take_add_one,ht,List.getElem?_eq_getElem ha,List.getElem?_eq_getElem hb,kJ a k ha,kJ b k hb,hX,hY,hxy]
    simp only[Int.natCast_add,Int.natCast_one]
   have dxy:decide (X=Y)=false:=J6 hxy
   refine bB (Γ:=aL) (fun _=>2) [25,0,1,5] bZ (aD _ _) rfl rfl rfl (by kernel_rfl) (fun K hK=>?_)
   simp(disch:=omega) only[Tryd.f45,go_sem,↓reduceIte,hra,hrb,hda,hdb,e15,dxy,Bool.not_false]
   refine hK _ ?_
   refine aB (eC (.tmp 25) rfl rfl rfl (fun h=>?_) (fun h=>?_))
   ·refine aI rfl ?_
    have hl:decide (a=b)=false:=J6 (fun e=>hxy (by rw[←hX,←hY,e]))
    refine aA rfl (aW [4] rfl rfl rfl fun K hK=>?_)
    simp(disch:=omega) only[Tryd.f45,go_sem,↓reduceIte]
    refine hK _ ?_
    refine aB (aS rfl (bN (bI (dF (bN (bI ?_))))))
    simp(disch:=omega) only[cN,bV,bK,bQ,Tryd.f45,go_sem,↓reduceIte,hl]
   refine aI rfl ?_
   cases h
  refine aI rfl (bF 0 rfl rfl (aY (aZ (bE (aB (aA rfl ?_))))))
  obtain rfl:k=a.length:=by omega
  have hl:decide (a=b)=true:=J5 (by rw[List.take_length,hab,List.take_length]at ht;exact ht)
  refine aW [4] rfl rfl rfl fun K hK=>?_
  simp(disch:=omega) only[Tryd.f45,go_sem,↓reduceIte]
  refine hK _ ?_
  refine aB (aS rfl ?_)
  simp(disch:=omega) only[cN,bV,bK,bQ,Tryd.f45,go_sem,↓reduceIte,hl]
 cases hg
theorem eJp:bX Tryd.prog GLh 45 (.pure true aXb):=⟨⟨_,Tryd.func45,rfl,rfl⟩,bYh⟩
end Go.AX

namespace Go.AX
open Go Go.Proofs
set_option maxRecDepth 8000
set_option maxHeartbeats 4000000 in
theorem bHn:dH Tryd.prog GLh 58 aIu:=by
 refine cT Tryd.func58 (aT rfl) ?_
 intro args r hg
 unfold aIu at hg
 split at hg
 ·rename_i n k0
  replace hg:=aP hg;obtain⟨⟨hk1,hk8⟩,hg⟩:=hg
  obtain rfl:=J0 hg
  obtain⟨k,rfl⟩:=Int.eq_ofNat_of_zero_le (show 0≤k0 by omega)
  simp only[U2]at*
  clear hg
  refine⟨J1 rfl,fun nx=>?_⟩
  refine aA rfl (aW [0,1,2] rfl rfl rfl fun K hK=>?_)
  simp(disch:=omega) only[Tryd.f58,go_sem,↓reduceIte]
  refine hK _ ?_
  refine aB (aA rfl (aA rfl (aW [0,1,7] rfl rfl rfl fun K hK=>?_)))
  simp(disch:=omega) only[Tryd.f58,go_sem,↓reduceIte]
  refine hK _ ?_
  refine aB (iE 0 1 rfl (fF [0,1,7] ?_))
  simp only[iB,fU,eB,↓reduceIte,Nat.reduceEqDiff]
  refine aR 0 rfl rfl ?_
  refine bR (fun p:KIC=> {fr:=[(0,.os p.id 0 p.k 1 true),(1,.w32 n),(7,.i ((k:Int)-1-(p.k:Int)))],hp:=upd (fun _=>none) p.id (.cells (c8 (beL n k p.k)) true),nx:=0,cx:=p.c}) (fun p=>p.k≤k∧p.id<p.c) (fun p=>k-p.k) rfl ⟨⟨0,_,_⟩,⟨Nat.zero_le _,by simp only;omega⟩,bD (by simp only[Int.natCast_zero,Int.sub_zero]) rfl (U3 _)⟩ ?_
  rintro⟨j,id,c⟩ ⟨hj,hid⟩ n0
  simp only at hj hid⊢
  refine aA rfl (aA rfl (aW [11,0,1,7] rfl rfl rfl fun K hK=>?_))
  simp(disch:=omega) only[Tryd.f58,go_sem,↓reduceIte]
  refine hK _ ?_
  refine aB (gP (.tmp 11) rfl rfl rfl (fun h=>?_) (fun h=>?_))
  ·refine aI rfl ?_
   have e1:(8*((k:Int)-1-(j:Int))).toNat=8*(k-1-j):=by omega
   have hl:=cZ n k j
   refine aQ rfl (aB (aA rfl (aR 1 rfl rfl (aW [0,1,7] rfl rfl rfl fun K hK=>?_))))
   simp(disch:=omega) only[Tryd.f58,go_sem,↓reduceIte,e1,hl]
   refine hK _ ?_
   refine bU (aB (aW [0,1,7] rfl rfl rfl fun K hK=>?_))
   simp(disch:=omega) only[Tryd.f58,go_sem,↓reduceIte]
   refine hK _ ?_
   refine bT ?_
   have e2:(k:Int)-1-((j:Int)+1)=(k:Int)-1-(j:Int)-1:=by omega
   have e4:beL n k (j+1)=beL n k j++[(n>>>(8*(k-1-j))).setWidth 8]:=rfl
   refine⟨⟨j+1,c+2+7,_⟩,⟨by simp only;omega,by simp only;omega⟩,by simp only;omega,⟨fun _=> .inr ?_,fun j o h=>?_,U3 _⟩⟩
   ·simp only[Int.natCast_add,Int.natCast_one,e2]
   simp only at h
   exact bS (by simp(disch:=omega) only[aV,↓reduceIte,eq_self,e4]) (cB) j o h
  refine aI rfl (bF 0 rfl rfl (aY (aZ (bE (aB (aA rfl ?_))))))
  obtain rfl:j=k:=by omega
  have hl:=cZ n j j
  refine aW [6] rfl rfl rfl fun K hK=>?_
  simp(disch:=omega) only[Tryd.f58,go_sem,↓reduceIte]
  refine hK _ ?_
  refine aB (aS rfl ?_)
  simp(disch:=omega) only[fE,eO,bV,bK,bQ,Tryd.f58,go_sem,↓reduceIte,fQ,hl]
 cases hg
theorem eJo:bX Tryd.prog GLh 58 (.fresh false aIu):=⟨⟨_,Tryd.func58,rfl,rfl⟩,bHn⟩
set_option maxHeartbeats 4000000 in
theorem bHv:dH Tryd.prog GLh 39 qG:=by
 refine cT Tryd.func39 (aT rfl) ?_
 intro args r hg
 unfold qG at hg
 split at hg
 ·rename_i f p a n xs
  replace hg:=aJ hg;obtain⟨k,hk,hg⟩:=hg
  replace hg:=aP hg;obtain⟨⟨rfl,hn⟩,hg⟩:=hg
  obtain rfl:=J0 hg
  have:=bW hk;subst this
  clear hg hk
  refine⟨J1 rfl,fun nx=>?_⟩
  have e2:=cTh f
  have ekb:[(f>>>8).setWidth 8,f.setWidth 8]++[p,a]++k=wF f p a k:=rfl
  have ekl:(wF f p a k).length=4+k.length:=by rw[←ekb];simp;omega
  refine aA rfl (aW [1] rfl rfl rfl fun K hK=>?_)
  simp(disch:=omega) only[Tryd.f39,go_sem,↓reduceIte]
  refine hK _ ?_
  refine aB (lW 1 nx 0 rfl (by simp only[aV,if_true];rfl) ?_)
  refine aA rfl (bB (Γ:=bC [(58,.fresh false aIu)]) (fun k=>if k=1 then 1 else if k=5 then 1 else if k=7 then 1 else if k=11 then 1 else 2) [2] bZ (aH eJo aO) rfl rfl rfl (by kernel_rfl) (fun K hK=>?_))
  simp(disch:=omega) only[Tryd.f39,go_sem,↓reduceIte,e2,J8,U0,U1,J7,J9]
  refine hK _ ?_
  refine aB (aS rfl ?_)
  simp(disch:=omega) only[fE,eO,bV,bK,bQ,Tryd.f39,go_sem,↓reduceIte,ekl]
  rfl
 cases hg
theorem eGk:bX Tryd.prog GLh 39 (.fresh true qG):=⟨⟨_,Tryd.func39,rfl,rfl⟩,bHv⟩
def qB:List TK→List AV
 |[]=>[]
 |t::r=>c8 t.seed.l++qB r
def tZ:List TK→List AV
 |[]=>[]
 |t::r=>c8 (iR t.seed.l t.h 0)++tZ r
def hsC (R:List TK):List AV:=R.map fun t=> .i (t.h:Int)
theorem aMg: ∀R:List TK,(qB R).length=8*R.length
 |[]=>rfl
 |t::r=>by rw[qB,List.length_append,aMg r,iM,t.seed.len,List.length_cons];omega
theorem aMn: ∀R:List TK,(tZ R).length=8*R.length
 |[]=>rfl
 |t::r=>by rw[tZ,List.length_append,aMn r,iM,iW,List.length_cons];omega
theorem bZt (R:List TK):(hsC R).length=R.length:=by simp[hsC]
theorem aMh: ∀(R S:List TK),qB (R++S)=qB R++qB S
 |[],_=>rfl
 |t::r,S=>by rw[List.cons_append,qB,aMh r S,qB,List.append_assoc]
theorem aMo: ∀(R S:List TK),tZ (R++S)=tZ R++tZ S
 |[],_=>rfl
 |t::r,S=>by rw[List.cons_append,tZ,aMo r S,tZ,List.append_assoc]
def tk0:TK:=⟨⟨0#8,0#8,0#8,0#8,0#8,0#8,0#8,0#8⟩,0⟩
def tkA (R:List TK) (k:Nat):TK:=R.getD k tk0
theorem aVd: ∀(R:List TK) (k:Nat),k<R.length→(List.drop (8*k) (qB R)).take 8=c8 (tkA R k).seed.l
 |[],k,h=>by simp at h
 |t::r,0,_=>by
  have h8:(c8 t.seed.l).length=8:=by rw[iM,t.seed.len]
  rw[Nat.mul_zero,J9,qB,List.take_left' h8];rfl
 |t::r,k+1,h=>by
  have h8:(c8 t.seed.l).length=8:=by rw[iM,t.seed.len]
  rw[qB,show 8*(k+1)=(c8 t.seed.l).length+8*k by omega,List.drop_length_add_append,aVd r k (by simpa using h)];rfl
theorem aVh: ∀(R:List TK) (k:Nat),k<R.length→(List.drop (8*k) (tZ R)).take 8=c8 (iR (tkA R k).seed.l (tkA R k).h 0)
 |[],k,h=>by simp at h
 |t::r,0,_=>by
  have h8:(c8 (iR t.seed.l t.h 0)).length=8:=by rw[iM,iW]
  rw[Nat.mul_zero,J9,tZ,List.take_left' h8];rfl
 |t::r,k+1,h=>by
  have h8:(c8 (iR t.seed.l t.h 0)).length=8:=by rw[iM,iW]
  rw[tZ,show 8*(k+1)=(c8 (iR t.seed.l t.h 0)).length+8*k by omega,List.drop_length_add_append,aVh r k (by simpa using h)];rfl
theorem cZa (R:List TK) (k:Nat) (h:k<R.length):(List.drop k (hsC R)).head? =some (.i ((tkA R k).h:Int)):=by
 rw[List.head?_drop]
 simp[hsC,tkA,List.getD_eq_getElem?_getD,h]
theorem cUv: ∀ {R S:List TK},qB R=qB S→hsC R=hsC S→R=S
 |[],[],_,_=>rfl
 |[],t::s,_,h=>by simp[hsC]at h
 |t::r,[],_,h=>by simp[hsC]at h
 |⟨a,n⟩::r,⟨b,m⟩::s,h1,h2=>by
  rw[qB,qB]at h1
  obtain⟨e1,e2⟩:=List.append_inj h1 (by rw[iM,iM,a.len,b.len])
  simp only[hsC,List.map_cons,List.cons.injEq,AV.i.injEq]at h2
  have e3:a=b:=S8.inj (aTj e1)
  have e4:n=m:=Int.ofNat.inj h2.1
  rw[e3,e4,cUv e2 (by simpa [hsC]using h2.2)]
structure QT where
 a:Nat
 b:Nat
 c:Nat
 R:List TK
def qcC (Q:QT):List AV:=if Q.R=[]then[.v (.slice none 0 0),.v (.slice none 0 0),.v (.slice none 0 0)]else[.os Q.a 0 Q.R.length 8 true,.os Q.b 0 Q.R.length 1 true,.os Q.c 0 Q.R.length 8 true]
noncomputable instance:DecidableEq TK:=fun _ _=>Classical.propDecidable _
def setQ (q:Nat) (Q:QT) (hp:H):H:=if Q.R=[]then upd hp q (.cells (qcC Q) true)else upd (upd (upd (upd hp Q.a (.cells (qB Q.R) true)) Q.b (.cells (hsC Q.R) true)) Q.c (.cells (tZ Q.R) true)) q (.cells (qcC Q) true)
structure uX (hp:H) (q:Nat) (Q:QT):Prop where
 hq:hp q=some (.cells (qcC Q) true)
 z:Q.R=[]→Q.a=0∧Q.b=0∧Q.c=0
 h:Q.R≠[]→hp Q.a=some (.cells (qB Q.R) true)∧hp Q.b=some (.cells (hsC Q.R) true)∧hp Q.c=some (.cells (tZ Q.R) true)∧Q.a≠Q.b∧Q.a≠Q.c∧Q.b≠Q.c∧Q.a≠q∧Q.b≠q∧Q.c≠q
theorem bIa {Q:QT} (h:Q.R=[]):qcC Q=[.v (.slice none 0 0),.v (.slice none 0 0),.v (.slice none 0 0)]:=J4 h
theorem aGa {Q:QT} (h:Q.R≠[]):qcC Q=[.os Q.a 0 Q.R.length 8 true,.os Q.b 0 Q.R.length 1 true,.os Q.c 0 Q.R.length 8 true]:=J3 h
theorem uX.uniq {hp:H} {q:Nat} {Q P:QT} (h:uX hp q Q) (g:uX hp q P):Q=P:=by
 have e:=(AO.cells.inj (J0 (h.hq.symm.trans g.hq))).1
 by_cases hz:Q.R=[]
 ·by_cases gz:P.R=[]
  ·obtain⟨a1,a2,a3⟩:=h.z hz
   obtain⟨b1,b2,b3⟩:=g.z gz
   obtain⟨_,_,_,_⟩:=Q
   obtain⟨_,_,_,_⟩:=P
   simp only at*
   subst a1 a2 a3 b1 b2 b3 hz gz
   rfl
  rw[bIa hz,aGa gz]at e
  simp at e
 by_cases gz:P.R=[]
 ·rw[aGa hz,bIa gz]at e
  simp at e
 rw[aGa hz,aGa gz]at e
 simp only[List.cons.injEq,AV.os.injEq,and_true,true_and]at e
 obtain⟨⟨e1,_⟩,⟨e2,_⟩,⟨e3,_⟩⟩:=e
 obtain⟨h1,h2,_⟩:=h.h hz
 obtain⟨g1,g2,_⟩:=g.h gz
 rw[e1,g1]at h1
 rw[e2,g2]at h2
 have eR:=cUv (AO.cells.inj (J0 h1)).1 (AO.cells.inj (J0 h2)).1
 obtain⟨_,_,_,_⟩:=Q
 obtain⟨_,_,_,_⟩:=P
 simp only at*
 subst e1 e2 e3 eR
 rfl
open Classical in
noncomputable def qOf (hp:H) (q:Nat):Option QT:=if h: ∃Q:QT,uX hp q Q then some (Classical.choose h)else none
theorem aIt {hp:H} {q:Nat} {Q:QT} (h:uX hp q Q):qOf hp q=some Q:=by
 have hx: ∃Q:QT,uX hp q Q:=⟨Q,h⟩
 unfold qOf
 rw[dif_pos hx]
 exact congrArg some ((Classical.choose_spec hx).uniq h)
theorem vS {hp:H} {q:Nat} {Q:QT} (h:qOf hp q=some Q):uX hp q Q:=by
 unfold qOf at h
 split at h
 ·rename_i hx
  obtain rfl:=J0 h
  exact Classical.choose_spec hx
 cases h
def QOk (q:Nat) (Q:QT):Prop:=(Q.R=[]→Q.a=0∧Q.b=0∧Q.c=0)∧(Q.R≠[]→Q.a≠Q.b∧Q.a≠Q.c∧Q.b≠Q.c∧Q.a≠q∧Q.b≠q∧Q.c≠q)
theorem uX.ok {hp:H} {q:Nat} {Q:QT} (h:uX hp q Q):QOk q Q:=⟨h.z,fun e=>(h.h e).2.2.2⟩
theorem bGz {hp:H} {q:Nat} {Q:QT} (h:QOk q Q):uX (setQ q Q hp) q Q:=by
 by_cases hz:Q.R=[]
 ·refine⟨?_,h.1,fun e=>absurd hz e⟩
  unfold setQ;rw[J4 hz];simp[bJ]
 obtain⟨n1,n2,n3,n4,n5,n6⟩:=h.2 hz
 refine⟨?_,h.1,fun _=>⟨?_,?_,?_,h.2 hz⟩⟩<;>unfold setQ<;>rw[J3 hz]<;>simp[bJ,n1,n2,n3,n4,n5,n6]
theorem jZ (hp:H) (q:Nat) (Q:QT) (k:Nat) (h:k≠q) (h1:Q.R≠[]→k≠Q.a∧k≠Q.b∧k≠Q.c):setQ q Q hp k=hp k:=by
 unfold setQ
 split
 ·simp[bJ,h]
 rename_i hz
 obtain⟨a,b,c⟩:=h1 hz
 simp[bJ,h,a,b,c]
def jY (Q:QT) (hp:H):H:=if Q.R=[]then hp else del (del (del hp Q.a) Q.b) Q.c
theorem qP (Q:QT) (hp:H) (j:Nat) (o:AO) (h:jY Q hp j=some o):hp j=some o∧(Q.R≠[]→j≠Q.a∧j≠Q.b∧j≠Q.c):=by
 unfold jY at h
 split at h
 ·rename_i hz;exact⟨h,fun e=>absurd hz e⟩
 simp only[eV]at h
 split at h
 ·cases h
 split at h
 ·cases h
 split at h
 ·cases h
 exact⟨h,fun _=>⟨by assumption,by assumption,by assumption⟩⟩
theorem aBe {hp t:H} {q:Nat} {Q:QT} (hQ:uX t q Q) (h: ∀k o,k≠q→(Q.R≠[]→k≠Q.a∧k≠Q.b∧k≠Q.c)→hp k=some o→t k=some o) (k:Nat) (o:AO) (hk:setQ q Q hp k=some o):t k=some o:=by
 unfold setQ at hk
 split at hk
 ·rename_i hz
  simp only[bJ]at hk
  split at hk
  ·rename_i e;subst e;rw[hQ.hq];exact hk
  rename_i e;exact h _ _ e (fun e=>absurd hz e) hk
 rename_i hz
 obtain⟨h1,h2,h3,_⟩:=hQ.h hz
 simp only[bJ]at hk
 split at hk
 ·rename_i e;subst e;rw[hQ.hq];exact hk
 split at hk
 ·rename_i e;rw[e,h3];exact hk
 split at hk
 ·rename_i e;rw[e,h2];exact hk
 split at hk
 ·rename_i e;rw[e,h1];exact hk
 exact h _ _ (by assumption) (fun _=>⟨by assumption,by assumption,by assumption⟩) hk
noncomputable def oA (Q:QT) (t:TK) (n:Nat):QT:=if t∈Q.R then Q else⟨n+9,n+16,n+23,Q.R++[t]⟩
theorem sD {Q:QT} {t:TK} (h:t∈Q.R) (n:Nat):oA Q t n=Q:=J4 h
theorem qQ {Q:QT} {t:TK} (h:t∉Q.R) (n:Nat):oA Q t n=⟨n+9,n+16,n+23,Q.R++[t]⟩:=J3 h
noncomputable def aZz:List AV→H→Nat→Option (AV×H×Nat)
 |[.op q 0,.agg xs,.i h],hp,nx=>aK (qOf hp q) fun Q=>aK (un8 xs) fun l=>aK (s8L l) fun sd=>aN (0≤h∧h≤10∧Q.R.length≤100) (some (.agg (c8 (iR sd.l h.toNat 0)),setQ q (oA Q ⟨sd,h.toNat⟩ (nx+92+100*Q.R.length)) (jY Q hp),nx+20000))
 |_,_,_=>none
theorem bWh (q:Nat) (xs:List AV) (h:Int) (hp:H) (nx:Nat):aZz [.op q 0,.agg xs,.i h] hp nx=aK (qOf hp q) fun Q=>aK (un8 xs) fun l=>aK (s8L l) fun sd=>aN (0≤h∧h≤10∧Q.R.length≤100) (some (.agg (c8 (iR sd.l h.toNat 0)),setQ q (oA Q ⟨sd,h.toNat⟩ (nx+92+100*Q.R.length)) (jY Q hp),nx+20000)):=(rfl)
attribute [go_sem] bWh
theorem aCd {R:List TK} {t:TK} {k:Nat} (hk:k<R.length) (h:t∉R.take k) (h2:tkA R k≠t):t∉R.take (k+1):=by
 rw[List.take_add_one,List.getElem?_eq_getElem hk,List.mem_append]
 intro e
 rcases e with e|e
 ·exact h e
 have:tkA R k=R[k]:=by simp[tkA,List.getD_eq_getElem?_getD,hk]
 rw[this]at h2
 simp at e
 exact h2 e.symm
theorem bTa {R:List TK} {k:Nat} (hk:k<R.length):tkA R k∈R:=by
 have:tkA R k=R[k]:=by simp[tkA,List.getD_eq_getElem?_getD,hk]
 rw[this];exact List.getElem_mem hk
end Go.AX

namespace Go.AX
open Go Go.Proofs
inductive FP where
 |all
 |at_ (R W:List Nat)
 |cal (hp hp':H)
def fpV:AV→List Nat
 | .os i _ _ _ _=>[i]
 | .op i _=>[i]
 | .mp i=>[i]
 |_=>[]
def rW (hp:H) (y:AV):Bool:=
 match y with
 | .os j off n e _=>match hp j with
  |some (.cells xs _)=>gH ((xs.drop off).take (n*e))
  |_=>false
 | .sl _ xs=>gH xs
 | .s _=>true
 | .v (.slice none 0 0)=>true
 |_=>false
def dYz:List AV→List Nat
 |[]=>[]
 | .os i _ _ _ _::r=>i::dYz r
 |_::r=>dYz r
def dZr (hp:H) (y:AV):Option (List Nat):=
 match y with
 | .os j off n e _=>match hp j with
  |some (.cells xs _)=>some (dYz ((xs.drop off).take (n*e)))
  |_=>none
 |_=>none
def fpW (op:Op) (ρ:Operand→AV) (hp:H) (id:Nat):FP:=
 match op with
 | .store _ a _=> .at_ [] (fpV (ρ a))
 | .call c=>match c.callee,c.args.toList,c.argTypes.toList with
  | .builtin .append,[x,y],[_,_]=>if rW hp (ρ y)=true then .at_ (fpV (ρ y)) (id::fpV (ρ x))else match dZr hp (ρ y)with
   |some l=> .at_ (fpV (ρ y)) (id::(fpV (ρ x)++l))
   |none=> .all
  |_,_,_=> .all
 |_=> .all
def fpR (op:Op) (ρ:Operand→AV):FP:=
 match op with
 | .load _ x=> .at_ (fpV (ρ x)) []
 |_=> .all
def fpE (P:Program) (Γ:Env) (m:Nat) (op:Op) (ρ:Operand→AV) (hp:H) (id:Nat):FP:=
 if tI P Γ m op=.P then .at_ [] []else
 match cls P op with
 | .pure=> .at_ [] []
 | .read=>fpR op ρ
 | .new=> .at_ [] [id]
 | .write=>fpW op ρ hp id
 | .call=> .all
def kZ (p:Nat→Option (Option AO)) (hp:H):H:=fun k=>match p k with|some o=>o|none=>hp k
theorem qK (hp:H) (i:Nat) (o:AO):kZ (fun k=>if k=i then some (some o)else none) hp=upd hp i o:=by
 funext k
 simp only[kZ,bJ]
 by_cases h:k=i
 ·simp[h]
 simp[h]
theorem wY (hp:H) (i id:Nat) (o:AO):kZ (fun k=>if k=id then some (some o)else if k=i then some none else none) hp=upd (del hp i) id o:=by
 funext k
 simp only[kZ,bJ,eV]
 by_cases h:k=id
 ·simp[h]
 by_cases h2:k=i
 ·subst h2;simp[h]
 simp[h,h2]
theorem bEt (hp:H) (p q:Nat→Option (Option AO)) (h: ∀k,p k≠none→q k=none):kZ p (kZ q hp)=kZ q (kZ p hp):=by
 funext k
 simp only[kZ]
 cases hp1:p k with
 |none=>simp
 |some o=>
  have:=h k (by rw[hp1];simp)
  rw[this]
def cSa (R W:List Nat) (f:H→Option (AV×H)) (hp:H):Prop:=
 ∀r,f hp=some r→∃p,(∀k,p k≠none→k∈W)∧r.2=kZ p hp∧∀hp2,(∀k,k∈R∨k∈W→hp2 k=hp k)→f hp2=some (r.1,kZ p hp2)
theorem bAr (P:Program) (t:TypeId) (a x:Operand) (ρ:Operand→AV) (id:Nat) (hp:H):cSa [] (fpV (ρ a)) (fun hp=>fR P (.store t a x) ρ hp id) hp:=by
 intro r hr
 simp only[fR]at hr⊢
 cases ha:ρ a with
 |op i off=>
  simp only[ha]at hr⊢
  replace hr:=aJ hr;obtain⟨cs,hcs,hr⟩:=hr
  replace hr:=aJ hr;obtain⟨z,hz,hr⟩:=hr
  replace hr:=aJ hr;obtain⟨o,ho,hr⟩:=hr
  cases o with
  |mapo es mt=>cases hr
  |cells xs mt=>
   simp only at hr
   replace hr:=aP hr;obtain⟨hg,hr⟩:=hr
   obtain rfl:=J0 hr
   refine⟨fun k=>if k=i then some (some (.cells (dV xs off cs) true))else none,fun k hk=>?_,(qK _ _ _).symm,fun hp2 h2=>?_⟩
   ·simp only[fpV]
    by_cases e:k=i
    ·simp[e]
    simp[e]at hk
   have:=h2 i (.inr (by simp[fpV]))
   rw[hcs,aX,hz,aX,this,ho,aX]
   simp only[]
   rw[cU _ hg,qK]
 |_=>simp only[ha]at hr;cases hr
theorem aQw {hp hp2:H} {y:AV} (h2: ∀k,k∈fpV y→hp2 k=hp k):rW hp2 y=rW hp y:=by
 unfold rW
 cases y with
 |os j off n e g=>simp only[];rw[h2 j (by simp[fpV])]
 |v v=>
  cases v with
  |slice a b c=>cases a<;>cases b<;>cases c<;>rfl
  |_=>rfl
 |_=>rfl
theorem bTo {hp hp2:H} {z:Nat} {y:AV} {my:Nat×List AV} (h:tX hp z y=some my) (hn:rW hp y=true) (h2: ∀k,k∈fpV y→hp2 k=hp k):
  gH my.2=true∧tX hp2 z y=some my∧rW hp2 y=true:=by
 unfold tX at h⊢
 unfold rW at hn⊢
 cases y with
 |s l=>
  simp only at h⊢
  replace h:=aP h;obtain⟨hg,h⟩:=h
  obtain rfl:=J0 h
  refine⟨?_,by rw[cU _ hg],trivial⟩
  simp only[gH,Bool.not_eq_true',List.any_eq_false,List.mem_map]
  rintro _ ⟨x,_,rfl⟩
  simp[wG]
 |sl n xs=>
  simp only[fG]at h hn⊢
  replace h:=aP h;obtain⟨hg,h⟩:=h
  obtain rfl:=J0 h
  exact⟨hn,by rw[cU _ hg],hn⟩
 |os j off n e g=>
  simp only[fG]at h hn⊢
  have e2:=h2 j (by simp[fpV])
  replace h:=aJ h;obtain⟨o,ho,h⟩:=h
  rw[e2,ho]
  rw[ho]at hn
  cases o with
  |mapo es mt=>cases h
  |cells xs mt=>
   simp only at h hn⊢
   replace h:=aP h;obtain⟨hg,h⟩:=h
   obtain rfl:=J0 h
   refine⟨?_,by rw[aX];simp only[];rw[cU _ hg],hn⟩
   rw[←hg.1];exact hn
 |v v=>
  cases v with
  |slice a b c=>
   cases a with
   |none=>
    cases b with
    |zero=>cases c with
     |zero=>
      simp only[fG]at h⊢
      obtain rfl:=J0 h
      exact⟨rfl,rfl,trivial⟩
     |succ c=>simp[fG]at h
    |succ b=>simp[fG]at h
   |some a=>simp[fG]at h
  |_=>simp[fG]at h
 |_=>simp[fG]at h
theorem eAa {z by_ m id:Nat} {x:AV} {ys:List AV} {hp:H} {r:AV×H} (hr:zV z by_ x m ys hp id=some r): ∃p:Nat→Option (Option AO),(∀k,p k≠none→k∈id::fpV x)∧r.2=kZ p hp∧∀hp2:H,(∀k,k∈fpV x→hp2 k=hp k)→zV z by_ x m ys hp2 id=some (r.1,kZ p hp2):=by
 unfold zV at hr⊢
 cases x with
 |os i off n e' g=>
  simp only at hr⊢
  replace hr:=aJ hr;obtain⟨o,ho,hr⟩:=hr
  cases o with
  |mapo es mt=>cases hr
  |cells xs mt=>
   simp only at hr
   unfold eqO at hr
   have dom: ∀(w:AO) (k:Nat),(if k=id then some (some w)else if k=i then some none else none:Option (Option AO))≠none→k∈id::fpV (.os i off n e' g):=by
    intro w k hk
    simp only[fpV,List.mem_cons,List.not_mem_nil,or_false]
    by_cases e1:k=id
    ·exact .inl e1
    by_cases e2:k=i
    ·exact .inr e2
    simp[e1,e2]at hk
   split at hr
   ·rename_i he
    simp only[kF]at hr
    replace hr:=aJ hr;obtain⟨o2,ho2,hr⟩:=hr
    obtain rfl:=J0 (ho.symm.trans ho2)
    simp only at hr
    replace hr:=aP hr;obtain⟨hg2,hr⟩:=hr
    obtain rfl:=J0 hr
    refine⟨fun k=>if k=id then some (some (.cells (xs.drop off++ys) true))else if k=i then some none else none,dom _,(wY _ _ _ _).symm,fun hp2 h2=>?_⟩
    have e3:=h2 i (by simp[fpV])
    rw[e3,ho,aX]
    simp only[eqO]
    rw[J4 he]
    simp only[kF]
    rw[e3,ho,aX]
    simp only[]
    rw[cU _ hg2,wY]
   rename_i he
   unfold aDp at hr
   replace hr:=aP hr;obtain⟨hg2,hr⟩:=hr
   obtain rfl:=J0 hr
   refine⟨fun k=>if k=id then some (some (.cells ((xs.drop off).take (n*z)++ys) true))else if k=i then some none else none,dom _,(wY _ _ _ _).symm,fun hp2 h2=>?_⟩
   have e3:=h2 i (by simp[fpV])
   rw[e3,ho,aX]
   simp only[eqO]
   rw[J3 he]
   unfold aDp
   rw[cU _ hg2,wY]
 |v v=>
  cases v with
  |slice a b c=>
   cases a with
   |none=>
    cases b with
    |zero=>cases c with
     |zero=>
      simp only[kF]at hr⊢
      replace hr:=aP hr;obtain⟨hg2,hr⟩:=hr
      obtain rfl:=J0 hr
      refine⟨fun k=>if k=id then some (some (.cells ys true))else none,fun k hk=>?_,(qK _ _ _).symm,fun hp2 h2=>by rw[cU _ hg2,qK]⟩
      by_cases e1:k=id
      ·simp[e1]
      simp[e1]at hk
     |succ c=>simp[kF]at hr
    |succ b=>simp[kF]at hr
   |some a=>simp[kF]at hr
  |_=>simp[kF]at hr
 |_=>simp[kF]at hr
theorem aSh (P:Program) (t:TypeId) (x y:AV) (id:Nat) (hp:H) (hn:rW hp y=true):cSa (fpV y) (id::fpV x) (fun hp=>pK P t x y hp id) hp:=by
 intro r hr
 simp only[pK]at hr⊢
 cases ht:P.underlying t with
 |none=>simp[ht]at hr
 |some d=>
  cases d with
  |slice e=>
   simp only[ht]at hr⊢
   replace hr:=aJ hr;obtain⟨z,hz,hr⟩:=hr
   replace hr:=aJ hr;obtain⟨by_,hb,hr⟩:=hr
   replace hr:=aJ hr;obtain⟨zs,hzs,hr⟩:=hr
   replace hr:=aP hr;obtain⟨hg,hr⟩:=hr
   replace hr:=aJ hr;obtain⟨my,hmy,hr⟩:=hr
   have hsrc:=fun hp2 h2=>bTo (hp2:=hp2) hmy hn h2
   have hno:=(hsrc hp (fun _ _=>rfl)).1
   have hfz: ∀hp:H,uU hp my.2=some (my.2,hp):=fun hp=>J4 hno
   rw[hfz,aX]at hr
   simp only at hr
   have red: ∀hp2:H,(∀k,k∈fpV y→hp2 k=hp k)→(aK (cD P e) fun z=>aK (dU P e) fun by_=>aK (cG P e) fun zs=>aN (0<z∧zs.length=z) (aK (tX hp2 z y) fun my=>aK (uU hp2 my.2) fun fy=>zV z by_ x my.1 fy.1 fy.2 id))=zV z by_ x my.1 my.2 hp2 id:=by
    intro hp2 h2
    rw[hz,aX,hb,aX,hzs,aX,cU _ hg,(hsrc hp2 h2).2.1,aX,hfz,aX]
   have key:=eAa hr
   obtain⟨p,p1,p2,p3⟩:=key
   exact⟨p,p1,p2,fun hp2 h2=>by rw[red hp2 (fun k hk=>h2 k (.inl hk)),p3 hp2 (fun k hk=>h2 k (.inr (by simp[hk])))]⟩
  |_=>simp[ht]at hr
theorem dZj (hp:H) (p q:Nat→Option (Option AO)):kZ p (kZ q hp)=kZ (fun k=>match p k with|some o=>some o|none=>q k) hp:=by
 funext k
 simp only[kZ]
 cases p k<;>rfl
theorem dZl: ∀ {xs:List AV} {hp:H} {r:List AV×H},nT hp xs=some r→∃p:Nat→Option (Option AO),(∀k,p k≠none→k∈dYz xs)∧r.2=kZ p hp∧∀hp2:H,(∀k,k∈dYz xs→hp2 k=hp k)→nT hp2 xs=some (r.1,kZ p hp2)
 |[],hp,r,h=>by
  obtain rfl:=J0 h
  exact⟨fun _=>none,fun k hk=>absurd rfl hk,rfl,fun hp2 _=>rfl⟩
 |x::xs,hp,r,h=>by
  have plain:(∀hp:H,nT hp (x::xs)=aK (nT hp xs) fun p=>some (x::p.1,p.2))→dYz (x::xs)=dYz xs→∃p:Nat→Option (Option AO),(∀k,p k≠none→k∈dYz (x::xs))∧r.2=kZ p hp∧∀hp2:H,(∀k,k∈dYz (x::xs)→hp2 k=hp k)→nT hp2 (x::xs)=some (r.1,kZ p hp2):=by
   intro e1 e2
   rw[e1]at h
   replace h:=aJ h;obtain⟨q,hq,h⟩:=h
   obtain rfl:=J0 h
   obtain⟨p,p1,p2,p3⟩:=dZl hq
   rw[e2]
   exact⟨p,p1,p2,fun hp2 h2=>by rw[e1,p3 hp2 h2,aX]⟩
  cases x with
  |os i off n e g=>
   simp only[nT]at h
   replace h:=aJ h;obtain⟨o,ho,h⟩:=h
   cases o with
   |mapo es mt=>cases h
   |cells cs mt=>
    simp only at h
    replace h:=aP h;obtain⟨hg,h⟩:=h
    replace h:=aJ h;obtain⟨q,hq,h⟩:=h
    obtain rfl:=J0 h
    obtain⟨p,p1,p2,p3⟩:=dZl hq
    have hu: ∀hp:H,upd hp i (.cells cs false)=kZ (fun k=>if k=i then some (some (.cells cs false))else none) hp:=fun hp=>(qK _ _ _).symm
    refine⟨fun k=>match p k with|some o=>some o|none=>(if k=i then some (some (.cells cs false))else none),fun k hk=>?_,?_,fun hp2 h2=>?_⟩
    ·simp only[dYz,List.mem_cons]
     by_cases e:k=i
     ·exact .inl e
     refine .inr (p1 k fun e2=>hk ?_)
     simp only[e2,J3 e]
    ·rw[p2,hu,dZj]
    have e3:=h2 i (by simp[dYz])
    have e4:=p3 (upd hp2 i (.cells cs false)) fun k hk=>by
     simp only[bJ]
     split
     ·rfl
     exact h2 k (by simp[dYz,hk])
    simp only[nT]
    rw[e3,ho,aX]
    simp only[]
    rw[cU _ hg,e4,aX,hu,dZj]
  |_=>exact plain (fun _=>rfl) rfl
theorem eBc {xs:List AV} {hp:H} {r:List AV×H} (h:uU hp xs=some r): ∃p:Nat→Option (Option AO),(∀k,p k≠none→k∈dYz xs)∧r.2=kZ p hp∧∀hp2:H,(∀k,k∈dYz xs→hp2 k=hp k)→uU hp2 xs=some (r.1,kZ p hp2):=by
 unfold uU at h⊢
 by_cases hn:gH xs=true
 ·rw[J4 hn]at h
  obtain rfl:=J0 h
  exact⟨fun _=>none,fun k hk=>absurd rfl hk,rfl,fun hp2 _=>by rw[J4 hn];rfl⟩
 rw[J3 hn]at h
 obtain⟨p,p1,p2,p3⟩:=dZl h
 exact⟨p,p1,p2,fun hp2 h2=>by rw[J3 hn];exact p3 hp2 h2⟩
theorem eAc {hp hp2:H} {y:AV} (h2: ∀k,k∈fpV y→hp2 k=hp k):dZr hp2 y=dZr hp y:=by
 unfold dZr
 cases y with
 |os j off n e g=>simp only[];rw[h2 j (by simp[fpV])]
 |_=>rfl
theorem dZz (P:Program) (t:TypeId) (x y:AV) (id:Nat) (hp:H) {l:List Nat} (hn:dZr hp y=some l):cSa (fpV y) (id::(fpV x++l)) (fun hp=>pK P t x y hp id) hp:=by
 intro r hr
 simp only[pK]at hr⊢
 cases ht:P.underlying t with
 |none=>simp[ht]at hr
 |some d=>
  cases d with
  |slice e=>
   simp only[ht]at hr⊢
   replace hr:=aJ hr;obtain⟨z,hz,hr⟩:=hr
   replace hr:=aJ hr;obtain⟨by_,hb,hr⟩:=hr
   replace hr:=aJ hr;obtain⟨zs,hzs,hr⟩:=hr
   replace hr:=aP hr;obtain⟨hg,hr⟩:=hr
   replace hr:=aJ hr;obtain⟨my,hmy,hr⟩:=hr
   replace hr:=aJ hr;obtain⟨fy,hfy,hr⟩:=hr
   have hsrc:dYz my.2=l∧∀hp2:H,(∀k,k∈fpV y→hp2 k=hp k)→tX hp2 z y=some my:=by
    unfold dZr at hn
    cases y with
    |os j off n e' g=>
     simp only[tX,fG]at hn hmy⊢
     replace hmy:=aJ hmy;obtain⟨o,ho,hmy⟩:=hmy
     rw[ho]at hn
     cases o with
     |mapo es mt=>cases hmy
     |cells xs mt=>
      simp only at hmy hn
      replace hmy:=aP hmy;obtain⟨hg2,hmy⟩:=hmy
      obtain rfl:=J0 hmy
      obtain rfl:=J0 hn
      refine⟨by rw[hg2.1],fun hp2 h2=>?_⟩
      rw[h2 j (by simp[fpV]),ho,aX]
      simp only[]
      rw[cU _ hg2]
    |_=>cases hn
   obtain⟨hl,hsrc⟩:=hsrc
   obtain⟨p,p1,p2,p3⟩:=eBc hfy
   rw[hl]at p1 p3
   obtain⟨q,q1,q2,q3⟩:=eAa hr
   refine⟨fun k=>match q k with|some o=>some o|none=>p k,fun k hk=>?_,by rw[q2,p2,dZj],fun hp2 h2=>?_⟩
   ·simp only at hk
    cases hq:q k with
    |some o=>
     have:=q1 k (by rw[hq];simp)
     rcases List.mem_cons.1 this with h|h
     ·simp[h]
     simp[h]
    |none=>
     rw[hq]at hk
     have:=p1 k hk
     simp[this]
   rw[hz,aX,hb,aX,hzs,aX,cU _ hg,hsrc hp2 (fun k hk=>h2 k (.inl hk)),aX,p3 hp2 (fun k hk=>h2 k (.inr (by simp[hk]))),aX]
   simp only[]
   rw[q3 (kZ p hp2) fun k hk=>by
    rw[p2]
    simp only[kZ]
    rw[h2 k (.inr (by simp[hk]))],dZj]
  |_=>simp[ht]at hr
theorem bMw {m nx n:Nat} {hp hp2:H} {k:Nat} (h:hp2 k=hp k):mY m nx n hp2 k=mY m nx n hp k:=by
 unfold mY
 split
 ·exact h
 ·rfl
 simp only[]
 rw[h]
theorem bLf (P:Program) (t:TypeId) (x:Operand) (ρ:Operand→AV) {hp hp2:H} {v:AV} (h:lA P (.load t x) ρ hp=some v) (h2: ∀k,k∈fpV (ρ x)→hp2 k=hp k):lA P (.load t x) ρ hp2=some v:=by
 simp only[lA]at h⊢
 cases hx:ρ x with
 |op i off=>
  simp only[hx]at h⊢
  rw[h2 i (by simp[hx,fpV])]
  exact h
 |rp ys=>simp only[hx]at h⊢;exact h
 |_=>simp only[hx]at h;cases h
section
variable {P : Program} {Γ : Env} {GL : Nat → Option (List AV)} {md : Nat → Nat} {ops : Array Oper}
theorem aAf {op:Op} {ρ:Operand→AV} {m nx n:Nat} {hp:H} {id cx:Nat} {r:AV×H×Nat} {R W:List Nat} (hf: ∀f,ρ (.func f)=.fn f []) (hr:eff P Γ op ρ m nx n hp id cx=some r) (hfp:fpE P Γ m op ρ hp id=.at_ R W):
  ∃p,(∀k,p k≠none→k∈W)∧r.2.1=kZ p hp∧r.2.2=cx∧∀hp2,(∀k,k∈R∨k∈W→hp2 k=hp k)→(∀cx2,eff P Γ op ρ m nx n hp2 id cx2=some (r.1,kZ p hp2,cx2))∧fpE P Γ m op ρ hp2 id=.at_ R W:=by
 unfold fpE at hfp⊢
 by_cases hP:tI P Γ m op=.P
 ·rw[J4 hP]at hfp
  obtain⟨rfl,rfl⟩:=FP.at_.inj hfp
  refine⟨fun _=>none,fun k hk=>absurd rfl hk,?_,?_,fun hp2 _=>⟨fun cx2=>?_,by rw[J4 hP]⟩⟩
  ·have:=(aDd hf hP hp hp id id cx cx hr).1;rw[this];rfl
  ·have:=(aDd hf hP hp hp id id cx cx hr).1;rw[this]
  ·exact(aDd hf hP hp hp2 id id cx cx2 hr).2
 ·simp only[J3 hP]at hfp⊢
  unfold eff at hr⊢
  cases hc:cls P op with
  |pure=>
   simp only[hc]at hr hfp⊢
   obtain⟨rfl,rfl⟩:=FP.at_.inj hfp
   replace hr:=aJ hr;obtain⟨x,hx,hr⟩:=hr
   obtain rfl:=J0 hr
   exact⟨fun _=>none,fun k hk=>absurd rfl hk,rfl,rfl,fun hp2 _=>⟨fun cx2=>by rw[hx];rfl,by first|rfl|trivial⟩⟩
  |read=>
   simp only[hc]at hr hfp⊢
   replace hr:=aJ hr;obtain⟨x,hx,hr⟩:=hr
   obtain rfl:=J0 hr
   unfold fpR at hfp⊢
   cases op with
   |load t y=>
    simp only at hfp⊢
    obtain⟨rfl,rfl⟩:=FP.at_.inj hfp
    refine⟨fun _=>none,fun k hk=>absurd rfl hk,rfl,by first|rfl|trivial,fun hp2 h2=>⟨fun cx2=>?_,by first|rfl|trivial⟩⟩
    rw[bLf P t y ρ hx (fun k hk=>bMw (h2 k (.inl hk)))]
    rfl
   |_=>simp at hfp
  |new=>
   simp only[hc]at hr hfp⊢
   obtain⟨rfl,rfl⟩:=FP.at_.inj hfp
   replace hr:=aJ hr;obtain⟨x,hx,hr⟩:=hr
   obtain rfl:=J0 hr
   refine⟨fun k=>if k=id then some (some (.cells x.2 true))else none,fun k hk=>?_,(qK _ _ _).symm,rfl,fun hp2 _=>⟨fun cx2=>by rw[hx,aX,qK],by first|rfl|trivial⟩⟩
   by_cases e:k=id
   ·simp[e]
   ·simp[e]at hk
  |write=>
   simp only[hc]at hr hfp⊢
   replace hr:=aJ hr;obtain⟨x,hx,hr⟩:=hr
   obtain rfl:=J0 hr
   have go: ∀ {R W:List Nat},cSa R W (fun hp=>fR P op ρ hp id) hp→(∀hp2,(∀k,k∈R∨k∈W→hp2 k=hp k)→fpW op ρ hp2 id=.at_ R W)→
     ∃p,(∀k,p k≠none→k∈W)∧(x.1,x.2,cx).2.1=kZ p hp∧(x.1,x.2,cx).2.2=cx∧∀hp2,(∀k,k∈R∨k∈W→hp2 k=hp k)→(∀cx2:Nat,(aK (fR P op ρ hp2 id) fun p=>some (p.1,p.2,cx2))=some ((x.1,x.2,cx).1,kZ p hp2,cx2))∧fpW op ρ hp2 id=.at_ R W:=by
    intro R W hL hF
    obtain⟨p,p1,p2,p3⟩:=hL x hx
    exact⟨p,p1,p2,rfl,fun hp2 h2=>⟨fun cx2=>by rw[show fR P op ρ hp2 id=_ from p3 hp2 h2];rfl,hF hp2 h2⟩⟩
   unfold fpW at hfp
   cases op with
   |store t a y=>
    simp only at hfp
    obtain⟨rfl,rfl⟩:=FP.at_.inj hfp
    exact go (bAr P t a y ρ id hp) (fun hp2 _=>rfl)
   |call c=>
    obtain⟨callee,args,ats⟩:=c
    simp only at hfp
    split at hfp
    ·rename_i u v t1 t2 e2 e3
     split at hfp
     ·rename_i hn
      obtain⟨rfl,rfl⟩:=FP.at_.inj hfp
      have hint:eDw P t2=true:=by
       simp only[fR]at hx
       rw[e2,e3]at hx
       simp only at hx
       by_cases hi:eDw P t2=true
       ·exact hi
       ·rw[J3 hi]at hx
        replace hx:=aP hx;obtain⟨_,hx⟩:=hx
        unfold wX at hx
        cases hd:P.underlying t1 with
        |none=>simp[hd]at hx
        |some d=>
         cases d with
         |slice e=>
          simp only[hd]at hx
          replace hx:=aJ hx;obtain⟨z,hz,hx⟩:=hx
          replace hx:=aJ hx;obtain⟨by_,hb,hx⟩:=hx
          replace hx:=aJ hx;obtain⟨zs,hzs,hx⟩:=hx
          replace hx:=aP hx;obtain⟨hg,hx⟩:=hx
          replace hx:=aJ hx;obtain⟨mm,hmm,hx⟩:=hx
          unfold bCb at hmm
          unfold rW at hn
          cases hv:ρ v with
          |i q=>simp[hv]at hn
          |_=>simp[hv]at hmm
         |_=>simp[hd]at hx
      have hw: ∀hp2:H,fR P (.call ⟨.builtin .append,args,ats⟩) ρ hp2 id=pK P t1 (ρ u) (ρ v) hp2 id:=by
       intro hp2
       simp only[fR]
       rw[e2,e3]
       simp only[]
       rw[J4 hint]
      refine go ?_ (fun hp2 h2=>?_)
      ·have:=aSh P t1 (ρ u) (ρ v) id hp hn
       intro r hr
       simp only[hw]at hr⊢
       exact this r hr
      ·unfold fpW
       simp only[]
       rw[e2,e3]
       simp only[]
       have hxx:pK P t1 (ρ u) (ρ v) hp id=some x:=by rw[←hw];exact hx
       have hs:rW hp2 (ρ v)=true:=by rw[aQw (fun k hk=>h2 k (.inl hk))];exact hn
       rw[J4 hs]
     ·rename_i hn
      split at hfp
      ·rename_i l hx2
       obtain⟨rfl,rfl⟩:=FP.at_.inj hfp
       have hint:eDw P t2=true:=by
        simp only[fR]at hx
        rw[e2,e3]at hx
        simp only at hx
        by_cases hi:eDw P t2=true
        ·exact hi
        ·rw[J3 hi]at hx
         replace hx:=aP hx;obtain⟨_,hx⟩:=hx
         unfold wX at hx
         cases hd:P.underlying t1 with
         |none=>simp[hd]at hx
         |some d=>
          cases d with
          |slice e=>
           simp only[hd]at hx
           replace hx:=aJ hx;obtain⟨z,hz,hx⟩:=hx
           replace hx:=aJ hx;obtain⟨by_,hb,hx⟩:=hx
           replace hx:=aJ hx;obtain⟨zs,hzs,hx⟩:=hx
           replace hx:=aP hx;obtain⟨hg,hx⟩:=hx
           replace hx:=aJ hx;obtain⟨mm,hmm,hx⟩:=hx
           unfold bCb at hmm
           unfold dZr at hx2
           cases hv:ρ v with
           |i q=>simp[hv]at hx2
           |_=>simp[hv]at hmm
          |_=>simp[hd]at hx
       have hw: ∀hp2:H,fR P (.call ⟨.builtin .append,args,ats⟩) ρ hp2 id=pK P t1 (ρ u) (ρ v) hp2 id:=by
        intro hp2
        simp only[fR]
        rw[e2,e3]
        simp only[]
        rw[J4 hint]
       refine go ?_ (fun hp2 h2=>?_)
       ·have:=dZz P t1 (ρ u) (ρ v) id hp hx2
        intro r hr
        simp only[hw]at hr⊢
        exact this r hr
       ·unfold fpW
        simp only[]
        rw[e2,e3]
        simp only[]
        rw[J3 (by rw[aQw (fun k hk=>h2 k (.inl hk))];exact hn),eAc (fun k hk=>h2 k (.inl hk)),hx2]
      ·cases hfp
    ·cases hfp
   |_=>simp at hfp
  |call=>simp[hc]at hfp
theorem mZ {op:Op} {ρ ρ':Operand→AV} (m:Nat) (hp:H) (id:Nat) (h: ∀y∈op.operands,ρ y=ρ' y):fpE P Γ m op ρ hp id=fpE P Γ m op ρ' hp id:=by
 unfold fpE
 have e1:fpR op ρ=fpR op ρ':=by
  cases op with
  |load t x=>simp only[fpR];rw[h x (by simp[Op.operands])]
  |_=>rfl
 have e2:fpW op ρ hp id=fpW op ρ' hp id:=by
  cases op with
  |store t a x=>simp only[fpW];rw[h a (by simp[Op.operands])]
  |call c=>
   obtain⟨callee,args,ats⟩:=c
   have hA: ∀y∈args.toList,ρ y=ρ' y:=fun y hy=>h y (by simp only[Op.operands,Call.operands,Array.mem_append];exact .inr (Array.mem_toList_iff.1 hy))
   simp only[fpW]
   split
   ·rename_i x y t t' q1 q2
    rw[hA x (by rw[q1];simp),hA y (by rw[q1];simp)]
   rfl
  |_=>rfl
 rw[e1,e2]
def fpQ (f:FP) (hp hp':H):FP:=match f with
 | .all=> .cal hp hp'
 | .at_ R W=> .at_ R W
 | .cal a b=> .cal a b
def fpS (P:Program) (Γ:Env) (GL:Nat→Option (List AV)) (md:Nat→Nat) (ops:Array Oper) (k:Nat) (o:Oper) (s:S) (hp':H):FP:=
 match gdO ops s.fr o with
 |some true=>fpQ (fpE P Γ (md k) o.op (ev GL s.fr) s.hp (s.nx+k)) s.hp hp'
 |_=> .at_ [] []
def apL (xs ys:List Nat):Prop:= ∀x,x∈xs→∀y,y∈ys→x≠y
def aTz (x:Nat) (ys:List Nat):Prop:= ∀y,y∈ys→x≠y
theorem cEc (ys:List Nat):apL [] ys=True:=by simp[apL]
theorem bRv (x:Nat) (r ys:List Nat):apL (x::r) ys=(aTz x ys∧apL r ys):=by simp[apL,aTz]
theorem bRw (x:Nat):aTz x []=True:=by simp[aTz]
theorem bEw (x y:Nat) (r:List Nat):aTz x (y::r)=(x≠y∧aTz x r):=by simp[aTz]
def agL (xs:List Nat) (hp hp':H):Prop:= ∀x,x∈xs→hp' x=hp x
theorem dDl (hp hp':H):agL [] hp hp'=True:=by simp[agL]
theorem dDj (x:Nat) (r:List Nat) (hp hp':H):agL (x::r) hp hp'=(hp' x=hp x∧agL r hp hp'):=by simp[agL]
def eEc:FP→FP→Prop
 | .at_ R W,.at_ R' W'=>apL W R'∧apL W W'∧apL R W'
 | .at_ R W,.all=>R=[]∧W=[]
 | .all,.at_ R W=>R=[]∧W=[]
 | .at_ R W,.cal hp hp'=>W=[]∧agL R hp hp'
 | .cal hp hp',.at_ R W=>W=[]∧agL R hp hp'
 |_,_=>False
theorem cAa {k:Nat} {o:Oper} {s t:S} (he:gC s t) (hp':H):fpS P Γ GL md ops k o s hp'=fpS P Γ GL md ops k o t hp':=by
 obtain⟨e1,e2,e3,e4⟩:=he
 unfold fpS
 rw[aXd e1 o,bNk e1,e2,e3]
theorem dDf {op:Op} {ρ:Operand→AV} {m:Nat} {hp:H} {id:Nat} {a b:H}:fpE P Γ m op ρ hp id≠.cal a b:=by
 unfold fpE
 split
 ·exact fun e=>by cases e
 split
 ·exact fun e=>by cases e
 ·unfold fpR;split<;>exact fun e=>by cases e
 ·exact fun e=>by cases e
 ·unfold fpW
  split
  ·exact fun e=>by cases e
  ·split
   ·split
    ·exact fun e=>by cases e
    split<;>exact fun e=>by cases e
   exact fun e=>by cases e
  exact fun e=>by cases e
 exact fun e=>by cases e
theorem aQv {i j:Nat} {x y:Oper} {s s1 s2:S} (hap:x.apart ops y=true) (_:i≠j)
  (h1:kA P Γ GL md ops i x s=some s1) (h2:kA P Γ GL md ops j y s1=some s2) (hd:eEc (fpS P Γ GL md ops i x s s1.hp) (fpS P Γ GL md ops j y s1 s2.hp)):
  ∃t1 t2,kA P Γ GL md ops j y s=some t1∧kA P Γ GL md ops i x t1=some t2∧gC s2 t2∧fpS P Γ GL md ops j y s t1.hp=fpS P Γ GL md ops j y s1 s2.hp∧fpS P Γ GL md ops i x t1 t2.hp=fpS P Γ GL md ops i x s s1.hp:=by
 obtain⟨a1,a2,a3⟩:=Oper.apart_spec hap
 have hfn: ∀fr f,ev GL fr (.func f)=.fn f []:=fun _ _=>rfl
 unfold kA at h1 h2⊢
 unfold fpS at hd⊢
 replace h1:=aJ h1;obtain⟨bx,hbx,h1⟩:=h1
 replace h2:=aJ h2;obtain⟨by',hby,h2⟩:=h2
 cases bx with
 |false=>
  obtain rfl:=J0 h1
  simp only at hby h2 hd
  rw[jT a1]at hby
  rw[hby,aX]
  cases by' with
  |false=>
   obtain rfl:=J0 h2
   refine⟨_,{fr:=fA x.dst (.tup []) (fA y.dst (.tup []) s.fr),hp:=s.hp,nx:=s.nx,cx:=s.cx},rfl,?_,?_,?_,?_⟩
   ·simp only[];rw[jT a3,hbx,aX]
   ·exact⟨fun t=>jV a2 _ _ _ t,rfl,rfl,rfl⟩
   ·simp only[];rw[jT a1,hby]
   ·simp only[];rw[jT a3,hbx]
  |true=>
   replace h2:=aJ h2;obtain⟨r,hr,h2⟩:=h2
   obtain rfl:=J0 h2
   rw[kI _ _ _ _ _ _ (kO a1)]at hr
   simp only[hr,aX]
   refine⟨_,{fr:=fA x.dst (.tup []) (fA y.dst r.1 s.fr),hp:=r.2.1,nx:=s.nx,cx:=r.2.2},rfl,?_,?_,?_,?_⟩
   ·simp only[];rw[jT a3,hbx,aX]
   ·exact⟨fun t=>jV a2 _ _ _ t,rfl,rfl,rfl⟩
   ·rw[jT a1,hby];simp only[];rw[mZ _ _ _ (kO a1)]
   ·simp only[];rw[jT a3,hbx]
 |true=>
  replace h1:=aJ h1;obtain⟨rx,hrx,h1⟩:=h1
  obtain rfl:=J0 h1
  simp only at hby h2 hd
  rw[jT a1]at hby
  rw[hby,aX]
  cases by' with
  |false=>
   obtain rfl:=J0 h2
   refine⟨_,{fr:=fA x.dst rx.1 (fA y.dst (.tup []) s.fr),hp:=rx.2.1,nx:=s.nx,cx:=rx.2.2},rfl,?_,?_,?_,?_⟩
   ·simp only[]
    rw[jT a3,hbx,aX]
    simp only[]
    rw[kI _ _ _ _ _ _ (kO a3),hrx,aX]
   ·exact⟨fun t=>jV a2 _ _ _ t,rfl,rfl,rfl⟩
   ·simp only[];rw[jT a1,hby]
   ·simp only[];rw[jT a3,hbx];simp only[];rw[mZ _ _ _ (kO a3)]
  |true=>
   replace h2:=aJ h2;obtain⟨ry,hry,h2⟩:=h2
   obtain rfl:=J0 h2
   rw[jT a1,hby,hbx]at hd
   simp only at hd
   rw[mZ _ _ _ (kO a1)]at hd
   rw[kI _ _ _ _ _ _ (kO a1)]at hry
   have none_of: ∀ {p:Nat→Option (Option AO)} (_: ∀k,p k≠none→k∈([]:List Nat)) (hp:H),kZ p hp=hp:=by
    intro p hp0 hp
    funext k
    simp only[kZ]
    cases h:p k with
    |none=>rfl
    |some o=>exact absurd (hp0 k (by rw[h];simp)) (by simp)
   have quietX: ∀Rx,fpE P Γ (md i) x.op (ev GL s.fr) s.hp (s.nx+i)=.at_ Rx []→agL Rx rx.2.1 ry.2.1→∃t1 t2,(aK (eff P Γ y.op (ev GL s.fr) (md j) s.nx ops.size s.hp (s.nx+j) s.cx) fun r=>some ({fr:=fA y.dst r.1 s.fr,hp:=r.2.1,nx:=s.nx,cx:=r.2.2}:S))=some t1∧
      (aK (gdO ops t1.fr x) fun b=>match b with
       |true=>aK (eff P Γ x.op (ev GL t1.fr) (md i) t1.nx ops.size t1.hp (t1.nx+i) t1.cx) fun r=>some ({fr:=fA x.dst r.1 t1.fr,hp:=r.2.1,nx:=t1.nx,cx:=r.2.2}:S)
       |false=>some {t1 with fr:=fA x.dst (.tup []) t1.fr})=some t2∧
      gC {fr:=fA y.dst ry.1 (fA x.dst rx.1 s.fr),hp:=ry.2.1,nx:=s.nx,cx:=ry.2.2} t2∧
      fpQ (fpE P Γ (md j) y.op (ev GL s.fr) s.hp (s.nx+j)) s.hp t1.hp=fpQ (fpE P Γ (md j) y.op (ev GL s.fr) rx.2.1 (s.nx+j)) rx.2.1 ry.2.1∧
      (match gdO ops t1.fr x with|some true=>fpQ (fpE P Γ (md i) x.op (ev GL t1.fr) t1.hp (t1.nx+i)) t1.hp t2.hp|_=> .at_ [] [])=.at_ Rx []:=by
    intro Rx hfx hag
    obtain⟨p,p1,p2,p3,p4⟩:=aAf (hfn s.fr) hrx hfx
    rw[none_of p1]at p2
    rw[p2]at hag
    rw[p2,p3]at hry
    obtain⟨x1,x2⟩:=p4 ry.2.1 (fun k hk=>hk.elim (hag k) (fun h=>by simp at h))
    rw[hry,aX]
    refine⟨_,{fr:=fA x.dst rx.1 (fA y.dst ry.1 s.fr),hp:=ry.2.1,nx:=s.nx,cx:=ry.2.2},rfl,?_,⟨fun t=>jV a2 _ _ _ t,rfl,rfl,rfl⟩,by rw[p2],?_⟩
    ·simp only[]
     rw[jT a3,hbx,aX]
     simp only[]
     rw[kI _ _ _ _ _ _ (kO a3),x1 ry.2.2,aX,none_of p1]
    ·simp only[]
     rw[jT a3,hbx]
     simp only[]
     rw[mZ _ _ _ (kO a3),x2]
     rfl
   have quietY: ∀Ry,fpE P Γ (md j) y.op (ev GL s.fr) rx.2.1 (s.nx+j)=.at_ Ry []→agL Ry s.hp rx.2.1→∃t1 t2,(aK (eff P Γ y.op (ev GL s.fr) (md j) s.nx ops.size s.hp (s.nx+j) s.cx) fun r=>some ({fr:=fA y.dst r.1 s.fr,hp:=r.2.1,nx:=s.nx,cx:=r.2.2}:S))=some t1∧
      (aK (gdO ops t1.fr x) fun b=>match b with
       |true=>aK (eff P Γ x.op (ev GL t1.fr) (md i) t1.nx ops.size t1.hp (t1.nx+i) t1.cx) fun r=>some ({fr:=fA x.dst r.1 t1.fr,hp:=r.2.1,nx:=t1.nx,cx:=r.2.2}:S)
       |false=>some {t1 with fr:=fA x.dst (.tup []) t1.fr})=some t2∧
      gC {fr:=fA y.dst ry.1 (fA x.dst rx.1 s.fr),hp:=ry.2.1,nx:=s.nx,cx:=ry.2.2} t2∧
      fpE P Γ (md j) y.op (ev GL s.fr) s.hp (s.nx+j)=.at_ Ry []∧
      (match gdO ops t1.fr x with|some true=>fpQ (fpE P Γ (md i) x.op (ev GL t1.fr) t1.hp (t1.nx+i)) t1.hp t2.hp|_=> .at_ [] [])=fpQ (fpE P Γ (md i) x.op (ev GL s.fr) s.hp (s.nx+i)) s.hp rx.2.1:=by
    intro Ry hfy hag
    obtain⟨q,q1,q2,q3,q4⟩:=aAf (hfn s.fr) hry hfy
    rw[none_of q1]at q2
    obtain⟨y1,y2⟩:=q4 s.hp (fun k hk=>hk.elim (fun h=>(hag k h).symm) (fun h=>by simp at h))
    rw[none_of q1]at y1
    rw[y1 s.cx,aX]
    refine⟨_,{fr:=fA x.dst rx.1 (fA y.dst ry.1 s.fr),hp:=rx.2.1,nx:=s.nx,cx:=rx.2.2},rfl,?_,⟨fun t=>jV a2 _ _ _ t,q2,rfl,q3⟩,y2,?_⟩
    ·simp only[]
     rw[jT a3,hbx,aX]
     simp only[]
     rw[kI _ _ _ _ _ _ (kO a3),hrx,aX]
    ·simp only[]
     rw[jT a3,hbx]
     simp only[]
     rw[mZ _ _ _ (kO a3)]
   rw[jT a1,hby,hbx]
   simp only[]
   rw[mZ _ _ _ (kO a1)]
   cases hfx:fpE P Γ (md i) x.op (ev GL s.fr) s.hp (s.nx+i)with
   |cal a b=>exact absurd hfx dDf
   |all=>
    cases hfy:fpE P Γ (md j) y.op (ev GL s.fr) rx.2.1 (s.nx+j)with
    |cal a b=>exact absurd hfy dDf
    |all=>rw[hfx,hfy]at hd;exact hd.elim
    |at_ Ry Wy=>
     rw[hfx,hfy]at hd
     obtain⟨rfl,hag⟩:=hd
     obtain⟨t1,t2,c1,c2,c3,c4,c5⟩:=quietY Ry hfy hag
     exact⟨t1,t2,c1,c2,c3,by rw[c4];rfl,c5.trans (by rw[hfx])⟩
   |at_ Rx Wx=>
    cases hfy:fpE P Γ (md j) y.op (ev GL s.fr) rx.2.1 (s.nx+j)with
    |cal a b=>exact absurd hfy dDf
    |all=>
     rw[hfx,hfy]at hd
     obtain⟨rfl,hag⟩:=hd
     obtain⟨t1,t2,c1,c2,c3,c4,c5⟩:=quietX Rx hfx hag
     exact⟨t1,t2,c1,c2,c3,c4.trans (by rw[hfy]),c5⟩
    |at_ Ry Wy=>
     rw[hfx,hfy]at hd
     obtain⟨d1,d1',d2⟩:=hd
     obtain⟨p,p1,p2,p3,p4⟩:=aAf (hfn s.fr) hrx hfx
     obtain⟨q,q1,q2,q3,q4⟩:=aAf (hfn s.fr) hry hfy
     have hsame: ∀k,k∈Ry∨k∈Wy→s.hp k=rx.2.1 k:=by
      intro k hk
      rw[p2]
      simp only[kZ]
      cases hp:p k with
      |none=>rfl
      |some o=>
       have h5:=p1 k (by rw[hp];simp)
       rcases hk with hk|hk
       ·exact absurd rfl (d1 k h5 k hk)
       ·exact absurd rfl (d1' k h5 k hk)
     obtain⟨y1,y2⟩:=q4 s.hp hsame
     have hsame2: ∀k,k∈Rx∨k∈Wx→kZ q s.hp k=s.hp k:=by
      intro k hk
      simp only[kZ]
      cases hq:q k with
      |none=>rfl
      |some o=>
       have h5:=q1 k (by rw[hq];simp)
       rcases hk with hk|hk
       ·exact absurd rfl (d2 k hk k h5)
       ·exact absurd rfl (d1' k hk k h5)
     obtain⟨x1,x2⟩:=p4 (kZ q s.hp) hsame2
     have hcomm:kZ q (kZ p s.hp)=kZ p (kZ q s.hp):=bEt _ _ _ (fun k hk=>by
      have h5:=q1 k hk
      cases hp:p k with
      |none=>rfl
      |some o=>exact absurd rfl (d1' k (p1 k (by rw[hp];simp)) k h5))
     refine⟨{fr:=fA y.dst ry.1 s.fr,hp:=kZ q s.hp,nx:=s.nx,cx:=s.cx},{fr:=fA x.dst rx.1 (fA y.dst ry.1 s.fr),hp:=kZ p (kZ q s.hp),nx:=s.nx,cx:=s.cx},?_,?_,?_,?_,?_⟩
     ·rw[y1 s.cx,aX]
     ·simp only[]
      rw[jT a3,hbx,aX]
      simp only[]
      rw[kI _ _ _ _ _ _ (kO a3),x1 s.cx,aX]
     ·exact⟨fun t=>jV a2 _ _ _ t,by simp only[];rw[q2,p2,hcomm],rfl,by simp only[];rw[q3,p3]⟩
     ·rw[y2];rfl
     ·simp only[]
      rw[jT a3,hbx]
      simp only[]
      rw[mZ _ _ _ (kO a3),x2]
      rfl
end
end Go.AX

namespace Go.AX
open Go Go.Proofs
section
variable {P : Program} {Γ : Env} {c : Ctx} {σ0 : Nat → Loc} {I0 : Nat → Prop} {w0 : World} {GL : Nat → Option (List AV)} {md : Nat → Nat} {ops : Array Oper}
def aQn (P:Program) (Γ:Env) (GL:Nat→Option (List AV)) (md:Nat→Nat) (ops:Array Oper):List (Nat×FP)→S→S→Prop
 |[],s,sf=>s=sf
 |a::r,s,sf=> ∃o s1,ops[a.1]? =some o∧kA P Γ GL md ops a.1 o s=some s1∧fpS P Γ GL md ops a.1 o s s1.hp=a.2∧aQn P Γ GL md ops r s1 sf
theorem aQm: ∀(L:List (Nat×FP)) {s t sf:S},aQn P Γ GL md ops L s sf→gC s t→∃tf,aQn P Γ GL md ops L t tf∧gC sf tf
 |[],s,t,sf,h,he=>by obtain rfl:=h;exact⟨t,rfl,he⟩
 |a::r,s,t,sf,h,he=>by
  obtain⟨o,s1,h1,h2,h3,h4⟩:=h
  obtain⟨t1,e1,e2⟩:=aFn h2 he
  obtain⟨tf,e3,e4⟩:=aQm r h4 e2
  exact⟨tf,⟨o,t1,h1,e1,by rw[←cAa he,←e2.2.1];exact h3,e3⟩,e4⟩
theorem aOq {i:Nat} {x:Oper} {f:FP} (hx:ops[i]? =some x): ∀(L1 L2:List (Nat×FP)) {s sf:S},
  (∀a∈L1,a.1≠i∧∃y,ops[a.1]? =some y∧y.apart ops x=true∧eEc a.2 f)→
  aQn P Γ GL md ops (L1++(i,f)::L2) s sf→∃s1 sf',kA P Γ GL md ops i x s=some s1∧fpS P Γ GL md ops i x s s1.hp=f∧aQn P Γ GL md ops (L1++L2) s1 sf'∧gC sf sf'
 |[],L2,s,sf,_,h=>by
  obtain⟨o,s1,h1,h2,h3,h4⟩:=h
  rw[hx]at h1
  obtain rfl:=J0 h1
  exact⟨s1,sf,h2,h3,h4,gC.refl _⟩
 |a::r,L2,s,sf,hl,h=>by
  obtain⟨hji,y,hy,hap,hc⟩:=hl a (by simp)
  obtain⟨o,sj,h1,h2,h3,h4⟩:=h
  rw[hy]at h1
  obtain rfl:=J0 h1
  obtain⟨s2,sf2,e1,e1',e2,e3⟩:=aOq hx r L2 (fun k hk=>hl k (by simp[hk])) h4
  obtain⟨t1,t2,c1,c2,c3,c4,c5⟩:=aQv hap hji h2 e1 (by rw[h3,e1'];exact hc)
  obtain⟨sf3,g1,g2⟩:=aQm (r++L2) e2 c3
  exact⟨t1,sf3,c1,c4.trans e1',⟨y,t2,hy,c2,c5.trans h3,g1⟩,e3.trans g2⟩
def cWi (ops:Array Oper) (a b:Nat×FP):Prop:=
 ((Region.before ops).getD b.1 0).testBit a.1=true∨∃x y,ops[a.1]? =some x∧ops[b.1]? =some y∧x.apart ops y=true∧eEc a.2 b.2
theorem aJx (hΓ:eJ P c.GL Γ) {Q:Exit→Act→World→Prop} (hdst:fK c.nt ops.toList=true)
  (hedge: ∀j y,ops[j]? =some y→∀e∈y.after,Region.binds .any e=true→e.on<j) {s':S}
  (hQ: ∀a' w',R c σ0 I0 w0 (fun _=>False) s' a' w'→Q .normal a' w'):
  ∀(fuel:Nat) (listed:Array Bool) (L:List (Nat×FP)) (s sf:S) (a:Act) (w:World),listed.size=ops.size→L.length≤fuel→L.map Prod.fst=unl ops.size listed→
   (∀m o,listed.getD m false=true→ops[m]? =some o→∀e∈o.after,Region.binds .any e=true→listed.getD e.on false=true)→L.Pairwise (cWi ops)→
   aQn P Γ c.GL md ops L s sf→gC s' sf→R c σ0 I0 w0 (fun k=>k∈unl ops.size listed) s a w→wpAny P .any ops Q fuel listed a w:=by
 have mem_unl: ∀(listed:Array Bool) i,i∈unl ops.size listed↔i<ops.size∧listed.getD i true=false:=by
  intro listed i;simp[unl]
 have done: ∀(listed:Array Bool) (L:List (Nat×FP)) (s sf:S) (a:Act) (w:World),L.map Prod.fst=unl ops.size listed→unl ops.size listed=[]→aQn P Γ c.GL md ops L s sf→gC s' sf→R c σ0 I0 w0 (fun k=>k∈unl ops.size listed) s a w→Q .normal a w:=by
  intro listed L s sf a w hL h0 hrun heq hR
  rw[h0]at hL hR
  have:L=[]:=List.map_eq_nil_iff.1 hL
  subst this
  obtain rfl:=hrun
  exact hQ _ _ ((hR.un fun k hk=>hk.elim).eqv heq.symm)
 have noready: ∀(listed:Array Bool),listed.size=ops.size→(Region.ready .any ops listed=[]↔unl ops.size listed=[]):=by
  intro listed hsz
  constructor
  ·intro hr
   refine List.eq_nil_iff_forall_not_mem.2 fun i=>?_
   induction i using Nat.strongRecOn with
   |_ i ih=>
    intro hi
    obtain⟨hlt,hun⟩:=(mem_unl listed i).1 hi
    have:i∈Region.ready .any ops listed:=by
     rw[mem_ready]
     refine⟨hun,ops[i],Array.getElem?_eq_getElem hlt,fun e he hb=>?_⟩
     have hlt':=hedge i _ (Array.getElem?_eq_getElem hlt) e he hb
     have hn:=ih e.on hlt'
     rw[mem_unl]at hn
     have hs2:e.on<listed.size:=by omega
     rw[Array.getD_eq_getD_getElem?,Array.getElem?_eq_getElem hs2]at hn⊢
     simp only[Option.getD_some]at hn⊢
     cases hv:listed[e.on]with
     |true=>rfl
     |false=>exact absurd ⟨by omega,hv⟩ hn
    rw[hr]at this;cases this
  ·intro h0
   refine List.eq_nil_iff_forall_not_mem.2 fun i hi=>?_
   rw[mem_ready]at hi
   obtain⟨h1,o,ho,_⟩:=hi
   have:i∈unl ops.size listed:=(mem_unl listed i).2 ⟨(Array.getElem?_eq_some_iff.1 ho).1,h1⟩
   rw[h0]at this;cases this
 intro fuel
 induction fuel with
 |zero=>
  intro listed L s sf a w hsz hlen hL hdc hpw hrun heq hR
  have hL0:L=[]:=List.eq_nil_of_length_eq_zero (by omega)
  have h0:unl ops.size listed=[]:=by rw[←hL,hL0];rfl
  exact⟨(noready listed hsz).2 h0,done listed L s sf a w hL h0 hrun heq hR⟩
 |succ fuel ih=>
  intro listed L s sf a w hsz hlen hL hdc hpw hrun heq hR
  refine⟨fun hr=>done listed L s sf a w hL ((noready listed hsz).1 hr) hrun heq hR,fun i hi=>?_⟩
  obtain⟨hun,x,hx,hall⟩:=mem_ready.1 hi
  have hlt:=(Array.getElem?_eq_some_iff.1 hx).1
  have hmem:i∈unl ops.size listed:=(mem_unl listed i).2 ⟨hlt,hun⟩
  have hanc: ∀m j,Anc ops m j→(∀o,ops[m]? =some o→∀e∈o.after,Region.binds .any e=true→listed.getD e.on false=true)→listed.getD j false=true:=by
   intro m j ha
   induction ha with
   |edge ho he hb=>exact fun h=>h _ ho _ he hb
   |step ho he hb _ ih2=>exact fun h=>ih2 fun o ho' e' he' hb'=>hdc _ o (h _ ho _ he hb) ho' e' he' hb'
  have hmemL:i∈L.map Prod.fst:=by rw[hL];exact hmem
  obtain⟨⟨i',f⟩,hf,rfl⟩:=List.mem_map.1 hmemL
  obtain⟨L1,L2,hl⟩:=List.append_of_mem hf
  subst hl
  have hpu:(unl ops.size listed).Pairwise (· < ·):=List.Pairwise.filter _ List.pairwise_lt_range
  rw[←hL,List.map_append,List.map_cons]at hpu
  simp only at hpu
  have hlt1: ∀j∈L1.map Prod.fst,j<i':=fun j hj=>(List.pairwise_append.1 hpu).2.2 j hj i' (by simp)
  have hlt2: ∀j∈L2.map Prod.fst,i'<j:=fun j hj=>(List.pairwise_cons.1 (List.pairwise_append.1 hpu).2.1).1 j hj
  obtain⟨s1,sf1,f1,f1',f2,f3⟩:=aOq hx L1 L2 (fun a0 ha0=>by
   have hjm:a0.1∈unl ops.size listed:=by rw[←hL];simp only[List.map_append,List.mem_append];exact .inl (List.mem_map_of_mem ha0)
   obtain⟨hjlt,hjun⟩:=(mem_unl listed a0.1).1 hjm
   have hj1:=hlt1 a0.1 (List.mem_map_of_mem ha0)
   refine⟨by omega,?_⟩
   rcases(List.pairwise_append.1 hpw).2.2 a0 ha0 (i',f) (by simp)with h|⟨y,x',hy,hx',hap,hap1⟩
   ·have:=hanc i' a0.1 (oR ops i' a0.1 h) (fun o ho e he hb=>by rw[hx]at ho;obtain rfl:=J0 ho;exact hall e he hb)
    have hs2:a0.1<listed.size:=by omega
    rw[Array.getD_eq_getD_getElem?,Array.getElem?_eq_getElem hs2]at hjun this
    simp only[Option.getD_some]at hjun this
    rw[hjun]at this;cases this
   ·rw[hx]at hx'
    obtain rfl:=J0 hx'
    exact⟨y,hy,hap,hap1⟩) hrun
  have hnew:unl ops.size (listed.setIfInBounds i' true)=(L1++L2).map Prod.fst:=by
   have e1:unl ops.size (listed.setIfInBounds i' true)=(unl ops.size listed).filter (fun k=>k !=i'):=by
    unfold unl
    rw[List.filter_filter]
    refine List.filter_congr fun k hk=>?_
    by_cases hki:k=i'
    ·subst hki
     rw[Array.getD_eq_getD_getElem?,Array.getElem?_setIfInBounds_self_of_lt (by omega)];simp
    ·rw[getD_set_ne true (Ne.symm hki)]
     simp[hki]
   rw[e1,←hL,List.map_append,List.map_append,List.filter_append,List.map_cons,List.filter_cons]
   simp only[bne_self_eq_false,Bool.false_eq_true,if_false]
   congr 1
   ·exact List.filter_eq_self.2 fun k hk=>by have:=hlt1 k hk;simp;omega
   ·exact List.filter_eq_self.2 fun k hk=>by have:=hlt2 k hk;simp;omega
  have hun2: ∀k,k∈unl ops.size (listed.setIfInBounds i' true)→k∈unl ops.size listed∧k≠i':=by
   intro k hk
   rw[hnew,List.map_append,List.mem_append]at hk
   rw[←hL,List.map_append,List.map_cons,List.mem_append,List.mem_cons]
   rcases hk with hk|hk
   ·exact⟨.inl hk,by have:=hlt1 k hk;omega⟩
   ·exact⟨.inr (.inr hk),by have:=hlt2 k hk;omega⟩
  have hstep:=fX (K:=wpAny P .any ops Q fuel (listed.setIfInBounds i' true)) (Q:=Q) (ops:=ops) hΓ f1 (lU hdst (Array.mem_toList_iff.2 (Array.mem_of_getElem? hx))) (rem:=fun k=>k∈unl ops.size listed) hmem hR (fun a' w' hR'=>
   ih (listed.setIfInBounds i' true) (L1++L2) s1 sf1 a' w' (by simpa using hsz) (by simp at hlen⊢;omega) hnew.symm (fun m o hm ho e he hb=>by
     by_cases hmi:m=i'
     ·subst hmi
      rw[hx]at ho;obtain rfl:=J0 ho
      exact getD_set_true (hall e he hb)
     ·rw[getD_set_ne false (Ne.symm hmi)]at hm
      exact getD_set_true (hdc m o hm ho e he hb))
    (by
     rw[List.pairwise_append]at hpw⊢
     exact⟨hpw.1,(List.pairwise_cons.1 hpw.2.1).2,fun a ha b hb=>hpw.2.2 a ha b (by simp[hb])⟩)
    f2 (heq.trans f3) (hR'.un fun k hk=>hun2 k hk))
  unfold wpOp
  simp only[hx]
  split
  ·rename_i hw;rw[J4 hw]at hstep;exact .inl hstep
  ·rename_i hw;rw[J3 hw]at hstep;exact hstep
def fpP (P:Program) (Γ:Env) (GL:Nat→Option (List AV)) (m k:Nat) (o:LOp) (s:S) (hp':H):FP:=
 match gdS s.fr o.g with
 |some true=>fpQ (fpE P Γ m o.op (ev GL s.fr) s.hp (s.nx+k)) s.hp hp'
 |_=> .at_ [] []
def bEz (b:Bool) (k:Nat) (f:FP) (acc:List (Nat×FP)):List (Nat×FP):=if b=true then(k,f)::acc else acc
def aBs (P:Program) (Γ:Env) (GL:Nat→Option (List AV)) (md:Nat→Nat) (n:Nat) (hv:Nat→Bool):Nat→List LOp→List (Nat×FP)→S→Option (S×List (Nat×FP))
 |_,[],acc,s=>some (s,acc)
 |k,o::r,acc,s=>aK (eEj P Γ GL (md k) n k o s) fun s'=>aBs P Γ GL md n hv (k+1) r (bEz (hv k) k (fpP P Γ GL (md k) k o s s'.hp) acc) s'
def pC:List (Nat×FP)→Nat→FP
 |[],_=> .all
 |a::r,i=>if i=a.1 then a.2 else pC r i
def aDr:List (Nat×Nat)→List (Nat×FP)→Prop
 |[],_=>True
 |p::r,acc=>eEc (pC acc p.1) (pC acc p.2)∧aDr r acc
theorem aHt {acc:List (Nat×FP)}: ∀ {prs:List (Nat×Nat)},aDr prs acc→∀p∈prs,eEc (pC acc p.1) (pC acc p.2)
 |q::r,h,p,hp=>by
  rcases List.mem_cons.1 hp with rfl|hp
  ·exact h.1
  exact aHt h.2 p hp
theorem cZp (P:Program) (Γ:Env) (GL:Nat→Option (List AV)) (md:Nat→Nat) (ops:Array Oper) (k:Nat) (o:Oper) (s:S) (hp':H):fpS P Γ GL md ops k o s hp'=fpP P Γ GL (md k) k (light ops o) s hp':=by
 have:gdO ops s.fr o=gdS s.fr (light ops o).g:=by
  unfold gdO light
  cases o.guard with
  |none=>rfl
  |some p=>
   obtain⟨j,want⟩:=p
   simp only[Option.map_some]
   cases ops[j]? with
   |none=>rfl
   |some y=>
    simp only[Option.bind_some]
    cases y.dst with
    |none=>rfl
    |some t=>rfl
 unfold fpS fpP
 rw[this]
 rfl
theorem aBr {hv:Nat→Bool}: ∀(l:List Oper) (k:Nat) (acc:List (Nat×FP)) {s sf:S} {acc':List (Nat×FP)},(∀m,l[m]? =if m<l.length then ops[k+m]? else none)→
  aBs P Γ GL md ops.size hv k (l.map (light ops)) acc s=some (sf,acc')→
  ∃L,L.map Prod.fst=List.range' k l.length∧aQn P Γ GL md ops L s sf∧(∀a∈L,hv a.1=true→pC acc' a.1=a.2)∧(∀a∈L,∃o s hp',ops[a.1]? =some o∧fpS P Γ GL md ops a.1 o s hp'=a.2)∧∀i,i<k→pC acc' i=pC acc i
 |[],k,acc,s,sf,acc',_,h=>by
  simp only[List.map_nil,aBs,Option.some.injEq,Prod.mk.injEq]at h
  obtain⟨rfl,rfl⟩:=h
  exact⟨[],rfl,rfl,fun _ h=>absurd h (by simp),fun _ h=>absurd h (by simp),fun _ _=>rfl⟩
 |o::r,k,acc,s,sf,acc',hl,h=>by
  simp only[List.map_cons,aBs]at h
  replace h:=aJ h;obtain⟨s1,h1,h⟩:=h
  have h0:ops[k]? =some o:=by have:=(hl 0).symm;simpa using this
  obtain⟨L,e1,e2,e3,e3',e4⟩:=aBr r (k+1) _ (fun m=>by have:=hl (m+1);simpa [Nat.add_assoc,Nat.add_comm 1 m]using this) h
  refine⟨(k,fpS P Γ GL md ops k o s s1.hp)::L,by simp[e1,List.range'_succ],⟨o,s1,h0,by rw[vJ];exact h1,rfl,e2⟩,fun a ha hh=>?_,fun a ha=>?_,fun i hi=>?_⟩
  ·rcases List.mem_cons.1 ha with rfl|ha
   ·have:=e4 k (by omega)
    rw[this]
    simp only at hh
    rw[hh,bEz,J4 rfl,pC,J4 rfl,cZp]
   ·exact e3 a ha hh
  ·rcases List.mem_cons.1 ha with rfl|ha
   ·exact⟨o,s,s1.hp,h0,rfl⟩
   ·exact e3' a ha
  ·rw[e4 i (by omega)]
   unfold bEz
   split
   ·rw[pC,J3 (by omega)]
   ·rfl
def aWc (P:Program) (Γ:Env) (md:Nat→Nat) (hv:Nat→Bool) (prs:List (Nat×Nat)) (ops:Array Oper):Bool:=
 let b:=Region.before ops
 (List.range ops.size).all fun j=>match ops[j]? with
  |none=>true
  |some y=>y.after.all (fun e=> !Region.binds .any e||decide (e.on<j))&&
   let bj:=b.getD j 0
   (List.range j).all fun i=>bj.testBit i||match ops[i]? with
    |none=>true
    |some x=>x.apart ops y&&(decide (tI P Γ (md i) x.op=.P)||decide (tI P Γ (md j) y.op=.P)||(hv i&&hv j&&prs.contains (i,j)))
theorem cFz {k:Nat} {o:Oper} {s:S} {hp':H} (h:tI P Γ (md k) o.op=.P):fpS P Γ GL md ops k o s hp'=.at_ [] []:=by
 unfold fpS
 split
 ·unfold fpE;rw[J4 h];rfl
 rfl
theorem bRr (f:FP):eEc (.at_ [] []) f:=by
 cases f with
 |all=>exact⟨rfl,rfl⟩
 |cal a b=>exact⟨rfl,fun _ h=>by simp at h⟩
 |at_ R W=>exact⟨fun _ h=>by simp at h,fun _ h=>by simp at h,fun _ h=>by simp at h⟩
theorem bRq (f:FP):eEc f (.at_ [] []):=by
 cases f with
 |all=>exact⟨rfl,rfl⟩
 |cal a b=>exact⟨rfl,fun _ h=>by simp at h⟩
 |at_ R W=>exact⟨fun _ _ _ h=>by simp at h,fun _ _ _ h=>by simp at h,fun _ _ _ h=>by simp at h⟩
theorem aPc (hm:P.follows .mixedOrders=true) (hΓ:eJ P c.GL Γ) {hv:Nat→Bool} {prs:List (Nat×Nat)} {id:Nat} {Q:Exit→Act→World→Prop} (hdst:fK c.nt ops.toList=true) (hok:aWc P Γ md hv prs ops=true) {s s':S} {acc:List (Nat×FP)} {a:Act} {w:World}
  (h:aBs P Γ c.GL md ops.size hv 0 (ops.toList.map (light ops)) [] (cX ops.size s)=some (s',acc)) (hp:aDr prs acc) (hR:R c σ0 I0 w0 (fun _=>False) s a w) (hQ: ∀a' w',R c σ0 I0 w0 (fun _=>False) s' a' w'→Q .normal a' w'):
  (Code.region id ops true).wp P Q a w:=by
 have h0:unl ops.size (Array.replicate ops.size false)=List.range ops.size:=by
  unfold unl
  refine List.filter_eq_self.2 fun k hk=>?_
  rw[List.mem_range]at hk
  rw[Array.getD_eq_getD_getElem?,Array.getElem?_replicate,J4 hk];rfl
 have hchk: ∀j y,ops[j]? =some y→(∀e∈y.after,Region.binds .any e=true→e.on<j)∧∀i x,i<j→ops[i]? =some x→((Region.before ops).getD j 0).testBit i=true∨(x.apart ops y=true∧(tI P Γ (md i) x.op=.P∨tI P Γ (md j) y.op=.P∨(hv i=true∧hv j=true∧(i,j)∈prs))):=by
  intro j y hy
  have hlt:=(Array.getElem?_eq_some_iff.1 hy).1
  have h:=List.all_eq_true.1 hok j (List.mem_range.2 hlt)
  simp only[hy,Bool.and_eq_true]at h
  refine⟨fun e he hb=>?_,fun i x hi hx=>?_⟩
  ·have:=Array.all_eq_true_iff_forall_mem.1 h.1 e he
   simpa [hb]using this
  ·have:=List.all_eq_true.1 h.2 i (List.mem_range.2 hi)
   simp only[hx,Bool.or_eq_true,Bool.and_eq_true,decide_eq_true_eq]at this
   rcases this with h|⟨h1,(h2|h2)|⟨⟨h2,h3⟩,h4⟩⟩
   ·exact .inl h
   ·exact .inr ⟨h1,.inl h2⟩
   ·exact .inr ⟨h1,.inr (.inl h2)⟩
   ·exact .inr ⟨h1,.inr (.inr ⟨h2,h3,List.contains_iff_mem.1 h4⟩)⟩
 obtain⟨L,e1,e2,e3,e3',_⟩:=aBr ops.toList 0 [] (fun m=>by
  rw[Nat.zero_add]
  split
  ·rw[Array.getElem?_toList]
  ·rename_i hh;rw[List.getElem?_eq_none (by omega)]) h
 rw[Array.length_toList,←List.range_eq_range']at e1
 have hpw:L.Pairwise (cWi ops):=by
  have hlt:L.Pairwise fun a b=>a.1<b.1:=by
   have:(L.map Prod.fst).Pairwise (· < ·):=by rw[e1];exact List.pairwise_lt_range
   exact List.pairwise_map.1 this
  refine hlt.imp_of_mem fun {a b} ha hb hab=>?_
  obtain⟨x,sa,ha',hx,fx⟩:=e3' a ha
  obtain⟨y,sb,hb',hy,fy⟩:=e3' b hb
  rcases(hchk b.1 y hy).2 a.1 x hab hx with h|⟨hap,h|h|⟨h1,h2,h3⟩⟩
  ·exact .inl h
  ·refine .inr ⟨x,y,hx,hy,hap,?_⟩
   rw[←fx,cFz h];exact bRr _
  ·refine .inr ⟨x,y,hx,hy,hap,?_⟩
   rw[←fy,cFz h];exact bRq _
  ·refine .inr ⟨x,y,hx,hy,hap,?_⟩
   have:=aHt hp _ h3
   rw[e3 a ha h1,e3 b hb h2]at this
   exact this
 have hlen:L.length=ops.size:=by have:=congrArg List.length e1;simpa using this
 refine wp_region_any hm (aJx hΓ hdst (fun j y hy=>(hchk j y hy).1) hQ ops.size _ L (cX ops.size s) s' a _ (by simp) (by omega) (by rw[e1,h0]) (fun m o hl=>?_) hpw e2 (gC.refl _) ?_)
 ·rw[Array.getD_eq_getD_getElem?,Array.getElem?_replicate]at hl;split at hl<;>cases hl
 ·exact((hR.enter ops.size).un fun k hk=>by rw[h0]at hk;exact List.mem_range.1 hk).world rfl rfl rfl rfl
end
def bGm (o:Option (S×List (Nat×FP))) (Q:S→List (Nat×FP)→Prop):Prop:=match o with|some t=>Q t.1 t.2|none=>False
theorem aYa {P:Program} {GL:Nat→Option (List AV)} {nt:Nat} {Q:Exit→S→Prop} {s:S} {code:Code} {Γ:Env} (hv:Nat→Bool) (prs:List (Nat×Nat)) (md:Nat→Nat) (ks:List Nat) (hm:P.follows .mixedOrders=true) (hΓ:eJ P GL Γ) (hc:eEs code=true) (hd:lZ code=true) (ho:fK nt (aM code).toList=true) (hk:aWc P Γ md hv prs (aM code)=true)
  (h: ∀K:S→Prop,(∀t,Q .normal t→K t)→bGm (aBs P Γ GL md (rN code) hv 0 (aF code) [] (cX (rN code) s)) fun t acc=>aDr prs acc∧K {t with fr:=gL ks t.fr}):Awp P GL nt code s Q:=by
 have h':=h (Q .normal) fun _ h=>h
 clear h
 refine sX ?_
 cases code<;>first|(cases hc;done)|skip
 rename_i id ops d
 simp only[lZ]at hd
 subst hd
 intro c h1 h2 σ0 I0 w0 a w hR
 subst h1;subst h2
 simp only[aM,aF,rN]at ho hk h'
 unfold bGm at h'
 split at h'
 ·rename_i t e
  obtain⟨t,acc⟩:=t
  obtain⟨hp,hq⟩:=h'
  exact aPc hm hΓ ho hk e hp hR fun a' w' hR'=>⟨t,⟨_,hq,dWs ks t,rfl⟩,hR'⟩
 ·exact h'.elim
theorem bHi (P Γ GL md n hv k acc s):aBs P Γ GL md n hv k [] acc s=some (s,acc):=(rfl)
theorem aZk (P Γ GL md n hv k o r acc s):aBs P Γ GL md n hv k (o::r) acc s=aK (eEj P Γ GL (md k) n k o s) fun s2=>aBs P Γ GL md n hv (k+1) r (bEz (hv k) k (fpP P Γ GL (md k) k o s s2.hp) acc) s2:=(rfl)
theorem cRy (k:Nat) (f:FP) (acc:List (Nat×FP)):bEz false k f acc=acc:=(rfl)
theorem cRx (k:Nat) (f:FP) (acc:List (Nat×FP)):bEz true k f acc=(k,f)::acc:=(rfl)
theorem aQy (t:S) (acc:List (Nat×FP)) (Q:S→List (Nat×FP)→Prop):bGm (some (t,acc)) Q=Q t acc:=(rfl)
@[congr] theorem cIe {P : Program} {Γ : Env} {GL : Nat → Option (List AV)} {md : Nat → Nat} {n k k' : Nat} {hv : Nat → Bool} {l : List LOp} {acc acc' : List (Nat × FP)} {s s' : S} (hk : k = k') (ha : acc = acc') (h : s = s') : aBs P Γ GL md n hv k l acc s = aBs P Γ GL md n hv k' l acc' s' := by rw [h, hk, ha]
def fpG (b:Option Bool) (f:FP):FP:=match b with|some true=>f|_=> .at_ [] []
theorem cZr (f:FP):fpG (some true) f=f:=(rfl)
theorem cOv (P Γ GL m k d op g fr hp nx cx hp'):fpP P Γ GL m k {d:=d,op:=op,g:=g} {fr:=fr,hp:=hp,nx:=nx,cx:=cx} hp'=fpG (gdS fr g) (fpQ (fpE P Γ m op (ev GL fr) hp (nx+k)) hp hp'):=by
 simp only[fpP,fpG]
theorem cZd (fr:List (Nat×AV)):gdS fr none=some true:=(rfl)
theorem cZc (fr:List (Nat×AV)) (t:Nat) (want:Bool):gdS fr (some (some t,want))=qZ want (dG fr t):=(rfl)
theorem bBk (P Γ t x ρ hp id):fpE P Γ 2 (.load t x) ρ hp id=.at_ (fpV (ρ x)) []:=(rfl)
theorem bBm (P Γ m t n ps ρ hp id):fpE P Γ m (.buildSlice t n ps) ρ hp id=.at_ [] [id]:=(rfl)
def fpA (b:Bool) (y x:List Nat) (id:Nat) (o:Option (List Nat)):FP:=if b=true then .at_ y (id::x)else match o with|some l=> .at_ y (id::(x++l))|none=> .all
theorem cZt (y x:List Nat) (id:Nat) (o:Option (List Nat)):fpA true y x id o=.at_ y (id::x):=(rfl)
theorem cAb (P Γ m x y t u ρ hp id):fpE P Γ m (.call {callee:=.builtin .append,args:= #[x,y],argTypes:= #[t,u]}) ρ hp id=fpA (rW hp (ρ y)) (fpV (ρ y)) (fpV (ρ x)) id (dZr hp (ρ y)):=(rfl)
def eAu (off n:Nat):Option AO→Option (List Nat)|some (.cells xs _)=>some (dYz ((xs.drop off).take n))|_=>none
theorem eBl (hp:H) (j off n e:Nat) (g:Bool):dZr hp (.os j off n e g)=eAu off (n*e) (hp j):=by
 simp only[dZr,eAu]
 all_goals (rcases hp j with _|o<;>first|rfl|(cases o<;>rfl))
theorem eAb (off n:Nat) (xs:List AV) (mt:Bool):eAu off n (some (.cells xs mt))=some (dYz ((xs.drop off).take n)):=(rfl)
theorem bTp (hp:H) (n:Nat) (xs:List AV):rW hp (.sl n xs)=gH xs:=(rfl)
def cHd (off n:Nat):Option AO→Bool|some (.cells xs _)=>gH ((xs.drop off).take n)|_=>false
theorem cHe (hp:H) (j off n e:Nat) (g:Bool):rW hp (.os j off n e g)=cHd off (n*e) (hp j):=by
 simp only[rW,cHd]
 all_goals (rcases hp j with _|o<;>first|rfl|(cases o<;>rfl))
theorem aYu (off n:Nat) (xs:List AV) (mt:Bool):cHd off n (some (.cells xs mt))=gH ((xs.drop off).take n):=(rfl)
theorem cOs (i off n e:Nat) (g:Bool):fpV (.os i off n e g)=[i]:=(rfl)
theorem cOt (i off:Nat):fpV (.op i off)=[i]:=(rfl)
theorem cOq (n:Nat) (xs:List AV):fpV (.sl n xs)=[]:=(rfl)
theorem bZz:fpV (.v (.slice none 0 0))=[]:=(rfl)
theorem bEx (acc:List (Nat×FP)):aDr [] acc=True:=(rfl)
theorem aUd (i j:Nat) (r:List (Nat×Nat)) (acc:List (Nat×FP)):aDr ((i,j)::r) acc=(eEc (pC acc i) (pC acc j)∧aDr r acc):=(rfl)
theorem aSg (k:Nat) (f:FP) (r:List (Nat×FP)) (i:Nat):pC ((k,f)::r) i=if i=k then f else pC r i:=(rfl)
theorem dDm (R W:List Nat) (hp hp':H):fpQ (.at_ R W) hp hp'=.at_ R W:=(rfl)
theorem dDk (hp hp':H):fpQ .all hp hp'=.cal hp hp':=(rfl)
def fpC (m:Nat):Option bFb→FP
 |some (.pure true _)=>if m=1 then .at_ [] []else .all
 |some (.pure false _)=>if m=0 then .all else .at_ [] []
 |_=> .all
theorem dDo (m:Nat) (G):fpC m (some (.heap G))=.all:=(rfl)
theorem dDi (P Γ m f xs ts ρ hp id):fpE P Γ m (.call {callee:=.value (.func f),args:=xs,argTypes:=ts}) ρ hp id=fpC m (Γ f):=by
 have hc:cls P (.call {callee:=.value (.func f),args:=xs,argTypes:=ts})=.call:=rfl
 unfold fpE tI
 rw[hc]
 simp only[]
 cases hG:Γ f with
 |none=>simp[fpC]
 |some g=>
  cases g with
  |pure b G=>
   cases b with
   |true=>
    simp only[fpC]
    by_cases h0:m=0
    ·subst h0;simp
    by_cases h1:m=1
    ·subst h1;simp
    rw[J3 h0,J3 h1,J3 h1];simp
   |false=>
    simp only[fpC]
    by_cases h0:m=0
    ·subst h0;simp
    rw[J3 h0,J3 h0];simp[h0]
  |fresh b G=>
   by_cases h0:m=0
   ·subst h0;simp[fpC]
   simp[fpC,h0]
  |heap G=>simp[fpC]
theorem dDg (R W:List Nat) (hp hp':H):eEc (.cal hp hp') (.at_ R W)=(W=[]∧agL R hp hp'):=(rfl)
theorem bEv (R W R' W':List Nat):eEc (.at_ R W) (.at_ R' W')=(apL W R'∧apL W W'∧apL R W'):=(rfl)
theorem bRu: ∀(xs:List Nat),apL xs []=True:=fun xs=>by simp[apL]
attribute [go_sem] dDm dDk dDo dDi dDg dDl dDj bHi aZk cRy cRx aQy cZr cOv cZd cZc bBk bBm cZt eBl eAb cAb bTp cHe aYu cOs cOt cOq bZz bEx aUd aSg bEv cEc bRu bRv bRw bEw
end Go.AX

namespace Go.AX
open Go Go.Proofs
set_option maxRecDepth 8000
theorem uX.upd {hp:H} {q:Nat} {Q:QT} (h:uX hp q Q) (j:Nat) (o:AO) (hq:j≠q) (hr:Q.R≠[]→j≠Q.a∧j≠Q.b∧j≠Q.c):uX (upd hp j o) q Q:=by
 refine⟨by rw[bJ,J3 (Ne.symm hq)];exact h.hq,h.z,fun e=>?_⟩
 obtain⟨a1,a2,a3,r⟩:=h.h e
 obtain⟨n1,n2,n3⟩:=hr e
 exact⟨by rw[bJ,J3 (Ne.symm n1)];exact a1,by rw[bJ,J3 (Ne.symm n2)];exact a2,by rw[bJ,J3 (Ne.symm n3)];exact a3,r⟩
theorem aVf (s:S8):List.take 8 (c8 s.l)=c8 s.l:=rfl
theorem cUx (a b c:Nat) (t:TK):qcC ⟨a,b,c,[]++[t]⟩=[.os a 0 1 8 true,.os b 0 1 1 true,.os c 0 1 8 true]:=J3 (by simp)
theorem cUw (a b c:Nat) (R:List TK) (t:TK):qcC ⟨a,b,c,R++[t]⟩=[.os a 0 (R.length+1) 8 true,.os b 0 (R.length+1) 1 true,.os c 0 (R.length+1) 8 true]:=by
 rw[aGa (by simp)]
 simp
theorem aWj (h:Int):gH [AV.i h]=true:=rfl
set_option maxHeartbeats 4000000 in
theorem cKt:cQ Tryd.prog GLh 38 aZz:=by
 refine gF Tryd.func38 (aT rfl) ?_
 intro args hp nx r hp' nx' hg
 unfold aZz at hg
 split at hg
 ·rename_i q xs h0
  replace hg:=aJ hg;obtain⟨Q,hQ0,hg⟩:=hg
  have hQ:=vS hQ0
  replace hg:=aJ hg;obtain⟨l8,hl8,hg⟩:=hg
  have:=iX _ hl8;subst this
  replace hg:=aJ hg;obtain⟨sd,hS8,hg⟩:=hg
  have:=vN hS8;subst this
  replace hg:=aP hg;obtain⟨⟨hh0,hh1,hRl⟩,hg⟩:=hg
  simp only[Option.some.injEq,Prod.mk.injEq]at hg;obtain⟨rfl,rfl,rfl⟩:=hg
  obtain⟨ht,rfl⟩:=Int.eq_ofNat_of_zero_le hh0
  simp only[U2]at*
  refine⟨J1 rfl,by omega,fun hnone=>?_⟩
  have hlt: ∀k o,hp k=some o→k<nx:=fun k o hk=>lI hnone hk
  have hql:=hlt _ _ hQ.hq
  have hsl:(c8 sd.l).length=8:=by rw[iM,sd.len]
  have hst:=aVf sd
  have hnl:=iW sd.l ht 0
  have hsl2:=sd.len
  have hrt:List.take 8 (c8 (iR sd.l ht 0))=c8 (iR sd.l ht 0):=List.take_of_length_le (by rw[iM,hnl];exact U3 _)
  by_cases hz:Q.R=[]
  ·have h1:=hQ.hq
   rw[bIa hz]at h1
   refine aA rfl (aW [0,2,4,6] rfl rfl rfl fun K hK=>?_)
   simp(disch:=omega) only[Tryd.f38,go_sem,↓reduceIte]
   refine hK _ ?_
   refine aB ?_
   refine lW 4 nx 0 rfl (by simp(disch:=omega) only[aV,bY,↓reduceIte,eq_self]<;>rfl) ?_
   refine fF [0,2,4,6] ?_
   simp only[iB,fU,eB,↓reduceIte,Nat.reduceEqDiff,J9]
   refine aA rfl (aA rfl (aW [0,2,4,6,7] rfl rfl rfl fun K hK=>?_))
   simp(disch:=omega) only[Tryd.f38,go_sem,↓reduceIte]
   refine hK _ ?_
   refine aB (aR 0 rfl rfl ?_)
   refine bR (fun p:Nat=> {fr:=[(0,.op q 0),(2,.i ht),(4,.rp (c8 sd.l)),(6,.op (nx+1) 0),(7,.i 0)],hp:=upd hp (nx+1) (.cells (c8 (List.replicate 8 0#8)) true),nx:=0,cx:=nx+80}) (fun p=>p=0) (fun p=>p) rfl ⟨0,rfl,⟨fun x=> .inr rfl,fun j o hj=>by {simp only[bJ]at hj⊢;by_cases e:j=nx+1; · {rw[J4 e]at hj;rw[J3 (by omega),J4 e];exact hj};rw[J3 e]at hj;have:=hlt j o hj;rw[J3 (by omega),J3 e,J3 (by omega)];exact hj},by simp only;omega⟩⟩ ?_
   rintro k hk n0
   simp only at hk⊢
   refine aA rfl (aA rfl (aW [15,0,2,4,6,7] rfl rfl rfl fun K hK=>?_))
   simp(disch:=omega) only[Tryd.f38,go_sem,↓reduceIte,h1,J8,J9]
   refine hK _ ?_
   refine aB (eC (.tmp 15) rfl rfl rfl (fun h=>?_) (fun h=>?_))
   ·refine aI rfl ?_
    cases h
   refine aI rfl ?_
   clear h
   refine bF 0 rfl rfl (aY (aZ (bE (aB (aA rfl (aC (Γ:=bC [(57,.pure true xM)]) [0,2,4,6,8] (aH cWo aO) rfl rfl rfl (fun K hK=>?_)))))))
   simp(disch:=omega) only[Tryd.f38,go_sem,↓reduceIte,kK,hsl2,hsl,hh0,hh1,true_and,U2]
   refine hK _ ?_
   refine aB (aA rfl (aYa (Γ:=aL) (fun k=>if k=6 then true else if k=8 then true else if k=9 then true else if k=13 then true else if k=15 then true else if k=16 then true else if k=20 then true else if k=21 then true else if k=22 then true else false) [(6,8),(6,13),(8,13),(9,13),(6,15),(8,15),(9,15),(13,15),(6,20),(8,20),(9,20),(13,20),(15,20),(16,20),(6,21),(8,21),(9,21),(13,21),(15,21),(16,21),(20,21),(6,22),(8,22),(9,22),(13,22),(15,22),(16,22),(20,22)] (fun k=>if k=7 then 1 else 2) [6,8] bZ (aD _ _) rfl rfl rfl (by kernel_rfl) (fun K hK=>?_)))
   simp(maxSteps:=400000) (disch:=omega) only[Tryd.f38,go_sem,and_self,and_true,true_and,ne_eq,not_false_eq_true,↓reduceIte,h1,hsl,hnl,wS,aWj,cK,List.nil_append,List.cons_append,J8,List.set_cons_succ,List.set_cons_zero,U0,U1,J7,J9]
   refine hK _ ?_
   refine aB (aA rfl (aW [6] rfl rfl rfl fun K hK=>?_))
   simp(disch:=omega) only[Tryd.f38,go_sem,↓reduceIte,hnl,J9]
   refine hK _ ?_
   refine aB (aS rfl ?_)
   have hnm:(⟨sd,ht⟩:TK)∉Q.R:=by rw[hz];simp
   have hqd:jY Q hp=hp:=J4 hz
   rw[qQ hnm,hz,hqd]
   refine⟨by simp(disch:=omega) only[bV,bK,bQ,Tryd.f38,go_sem,aV,ldV,↓reduceIte,eq_self,hnl,J9]<;>rfl,fun j o hj=>aBe (Q:=⟨_,_,_,[]++[⟨sd,ht⟩]⟩) ?_ ?_ j o hj,by simp only;omega⟩
   ·have et:List.take 8 (sd.l++List.drop 8 (List.replicate 8 0#8))=sd.l:=List.take_left' hsl2
    have et2:List.take 8 (iR sd.l ht 0++List.drop 8 (List.replicate 8 0#8))=iR sd.l ht 0:=List.take_left' hnl
    refine⟨?_,fun e=>by simp at e,fun _=>⟨?_,?_,?_,by simp only;omega,by simp only;omega,by simp only;omega,by simp only;omega,by simp only;omega,by simp only;omega⟩⟩
    ·rw[cUx]
     simp(disch:=omega) only[aV,bY,↓reduceIte,eq_self,List.length_nil,Nat.mul_zero,Nat.add_zero,Nat.add_assoc,Nat.reduceAdd]
    ·simp(disch:=omega) only[aV,bY,↓reduceIte,eq_self,List.length_nil,Nat.mul_zero,Nat.add_zero,Nat.add_assoc,Nat.reduceAdd,List.nil_append,qB,List.append_nil,et]
    ·simp(disch:=omega) only[aV,bY,↓reduceIte,eq_self,List.length_nil,Nat.mul_zero,Nat.add_zero,Nat.add_assoc,Nat.reduceAdd,List.nil_append,hsC,List.map_cons,List.map_nil]
    simp(disch:=omega) only[aV,bY,↓reduceIte,eq_self,List.length_nil,Nat.mul_zero,Nat.add_zero,Nat.add_assoc,Nat.reduceAdd,List.nil_append,tZ,List.append_nil,et2]
   intro k o hk1 hk2 hk3
   have:=hlt k o hk3
   simp(disch:=omega) only[aV,bY,↓reduceIte,hk1]
   exact hk3
  have h1:=hQ.hq
  rw[aGa hz]at h1
  obtain⟨h2,h3,h4,n1,n2,n3,n4,n5,n6⟩:=hQ.h hz
  have hal:=hlt _ _ h2
  have hbl:=hlt _ _ h3
  have hcl:=hlt _ _ h4
  have hls:=aMg Q.R
  have hlr:=aMn Q.R
  have hlh:=bZt Q.R
  refine aA rfl (aW [0,2,4,6] rfl rfl rfl fun K hK=>?_)
  simp(disch:=omega) only[Tryd.f38,go_sem,↓reduceIte]
  refine hK _ ?_
  refine aB ?_
  refine lW 4 nx 0 rfl (by simp(disch:=omega) only[aV,bY,↓reduceIte,eq_self]<;>rfl) ?_
  refine fF [0,2,4,6] ?_
  simp only[iB,fU,eB,↓reduceIte,Nat.reduceEqDiff,J9]
  refine aA rfl (aA rfl (aW [0,2,4,6,7] rfl rfl rfl fun K hK=>?_))
  simp(disch:=omega) only[Tryd.f38,go_sem,↓reduceIte]
  refine hK _ ?_
  refine aB (aR 0 rfl rfl ?_)
  refine bR (fun p:Nat=> {fr:=[(0,.op q 0),(2,.i ht),(4,.rp (c8 sd.l)),(6,.op (nx+1) 0),(7,.i p)],hp:=upd hp (nx+1) (.cells (c8 (List.replicate 8 0#8)) true),nx:=0,cx:=nx+80+100*p}) (fun p=>p≤Q.R.length∧(⟨sd,ht⟩:TK)∉Q.R.take p) (fun p=>Q.R.length-p) rfl ⟨0,⟨Nat.zero_le _,by simp⟩,⟨fun x=> .inr rfl,fun j o hj=>by {simp only[bJ]at hj⊢;by_cases e:j=nx+1; · {rw[J4 e]at hj;rw[J3 (by omega),J4 e];exact hj};rw[J3 e]at hj;have:=hlt j o hj;rw[J3 (by omega),J3 e,J3 (by omega)];exact hj},by simp only;omega⟩⟩ ?_
  rintro k ⟨hk,hni⟩ n0
  simp only at hk hni⊢
  rcases Nat.lt_or_ge k Q.R.length with hkR|hkR
  ·have dk:decide ((k:Int)<(Q.R.length:Int))=true:=J5 (by omega)
   refine aA rfl (aA rfl (aW [15,0,2,4,6,7] rfl rfl rfl fun K hK=>?_))
   simp(disch:=omega) only[Tryd.f38,go_sem,↓reduceIte,h1,dk,J8,J9]
   refine hK _ ?_
   refine aB (eC (.tmp 15) rfl rfl rfl (fun h=>?_) (fun h=>?_))
   ·refine aI rfl ?_
    have hrs:=aVd Q.R k hkR
    have hrr:=aVh Q.R k hkR
    have hrh:=cZa Q.R k hkR
    have hmem:=bTa hkR
    have e8:k*8=8*k:=by omega
    obtain⟨X,hX⟩: ∃X,tkA Q.R k=X:=⟨_,rfl⟩
    rw[hX]at hrs hrr hrh hmem
    have hxl:=X.seed.len
    have hd8:8≤(List.drop (8*k) (qB Q.R)).length:=by rw[List.length_drop];omega
    have hd9:8≤(List.drop (8*k) (tZ Q.R)).length:=by rw[List.length_drop];omega
    refine aQ rfl (aB (aA rfl (aR 1 rfl rfl (aA rfl ?_))))
    by_cases hs:X.seed.l=sd.l
    ·have ds:decide (X.seed.l=sd.l)=true:=J5 hs
     by_cases hh:(X.h:Int)=(ht:Int)
     ·have dh:decide ((X.h:Int)=(ht:Int))=true:=J5 hh
      have hXe:X=⟨sd,ht⟩:=by
       obtain⟨a,b⟩:=X
       obtain rfl:a=sd:=S8.inj hs
       obtain rfl:b=ht:=Int.ofNat.inj hh
       rfl
      refine bB (Γ:=aL) (fun k=>if k=7 then 1 else 2) [37,0,2,4,6,7] bZ (aD _ _) rfl rfl rfl (by kernel_rfl) (fun K hK=>?_)
      simp(disch:=omega) only[Tryd.f38,go_sem,↓reduceIte,h1,h2,h3,hd8,hrs,hrh,e8,hsl2,ds,dh,J8,J7,J9]
      refine hK _ ?_
      refine aB (eC (.tmp 37) rfl rfl rfl (fun h=>?_) (fun h=>?_))
      ·refine aI rfl ?_
       rw[hXe]at hrr hmem
       refine aA rfl (aW [6] rfl rfl rfl fun K hK=>?_)
       simp(disch:=omega) only[Tryd.f38,go_sem,↓reduceIte,h1,h4,hd9,hrr,e8,hnl,J8,J7,J9]
       refine hK _ ?_
       refine aB (aS rfl (bN (bI (dF (bN (bI ?_))))))
       rw[sD hmem]
       refine⟨by simp(disch:=omega) only[bV,bK,bQ,Tryd.f38,go_sem,aV,ldV,↓reduceIte,eq_self,hnl,hrt,J9]<;>rfl,fun j o hj=>aBe (Q:=Q) ?_ ?_ j o hj,by simp only;omega⟩
       ·exact hQ.upd _ _ (by omega) (fun _=>⟨by omega,by omega,by omega⟩)
       intro k2 o hk1 hk2 hk3
       obtain⟨hk4,hk5⟩:=qP _ _ _ _ hk3
       have:=hlt k2 o hk4
       simp(disch:=omega) only[aV,bY,↓reduceIte]
       exact hk4
      refine aI rfl ?_
      cases h
     have dh:decide ((X.h:Int)=(ht:Int))=false:=J6 hh
     refine bB (Γ:=aL) (fun k=>if k=7 then 1 else 2) [37,0,2,4,6,7] bZ (aD _ _) rfl rfl rfl (by kernel_rfl) (fun K hK=>?_)
     simp(disch:=omega) only[Tryd.f38,go_sem,↓reduceIte,h1,h2,h3,hd8,hrs,hrh,e8,hsl2,ds,dh,J8,J7,J9]
     refine hK _ ?_
     refine aB (eC (.tmp 37) rfl rfl rfl (fun h=>?_) (fun h=>?_))
     ·refine aI rfl ?_
      cases h
     refine aI rfl (aQ rfl (bU (aB (aW [0,2,4,6,7] rfl rfl rfl fun K hK=>?_))))
     simp(disch:=omega) only[Tryd.f38,go_sem,↓reduceIte]
     refine hK _ ?_
     refine bT ?_
     refine⟨k+1,⟨by omega,aCd hkR hni (by rw[hX];exact fun e=>hh (by rw[e]))⟩,by omega,⟨fun x=> .inr (by simp only[Int.natCast_add,Int.natCast_one]),fun j o hj=>hj,by simp only;omega⟩⟩
    have ds:decide (X.seed.l=sd.l)=false:=J6 hs
    refine bB (Γ:=aL) (fun k=>if k=7 then 1 else 2) [37,0,2,4,6,7] bZ (aD _ _) rfl rfl rfl (by kernel_rfl) (fun K hK=>?_)
    simp(disch:=omega) only[Tryd.f38,go_sem,↓reduceIte,h1,h2,hd8,hrs,e8,hsl2,ds,J8,J9]
    refine hK _ ?_
    refine aB (eC (.tmp 37) rfl rfl rfl (fun h=>?_) (fun h=>?_))
    ·refine aI rfl ?_
     cases h
    refine aI rfl (aQ rfl (bU (aB (aW [0,2,4,6,7] rfl rfl rfl fun K hK=>?_))))
    simp(disch:=omega) only[Tryd.f38,go_sem,↓reduceIte]
    refine hK _ ?_
    refine bT ?_
    refine⟨k+1,⟨by omega,aCd hkR hni (by rw[hX];exact fun e=>hs (by rw[e]))⟩,by omega,⟨fun x=> .inr (by simp only[Int.natCast_add,Int.natCast_one]),fun j o hj=>hj,by simp only;omega⟩⟩
   refine aI rfl ?_
   cases h
  have dk:decide ((k:Int)<(Q.R.length:Int))=false:=J6 (by omega)
  refine aA rfl (aA rfl (aW [15,0,2,4,6,7] rfl rfl rfl fun K hK=>?_))
  simp(disch:=omega) only[Tryd.f38,go_sem,↓reduceIte,h1,dk,J8,J9]
  refine hK _ ?_
  refine aB (eC (.tmp 15) rfl rfl rfl (fun h=>?_) (fun h=>?_))
  ·refine aI rfl ?_
   cases h
  refine aI rfl ?_
  clear h
  obtain rfl:k=Q.R.length:=by omega
  rw[List.take_length]at hni
  refine bF 0 rfl rfl (aY (aZ (bE (aB (aA rfl (aC (Γ:=bC [(57,.pure true xM)]) [0,2,4,6,8] (aH cWo aO) rfl rfl rfl (fun K hK=>?_)))))))
  simp(disch:=omega) only[Tryd.f38,go_sem,↓reduceIte,kK,hsl2,hsl,hh0,hh1,true_and,U2]
  refine hK _ ?_
  refine aB (aA rfl (aYa (Γ:=aL) (fun k=>if k=6 then true else if k=8 then true else if k=9 then true else if k=13 then true else if k=15 then true else if k=16 then true else if k=20 then true else if k=21 then true else if k=22 then true else false) [(6,8),(6,13),(8,13),(9,13),(6,15),(8,15),(9,15),(13,15),(6,20),(8,20),(9,20),(13,20),(15,20),(16,20),(6,21),(8,21),(9,21),(13,21),(15,21),(16,21),(20,21),(6,22),(8,22),(9,22),(13,22),(15,22),(16,22),(20,22)] (fun k=>if k=7 then 1 else 2) [6,8] bZ (aD _ _) rfl rfl rfl (by kernel_rfl) (fun K hK=>?_)))
  simp(maxSteps:=400000) (disch:=omega) only[Tryd.f38,go_sem,and_self,and_true,true_and,ne_eq,not_false_eq_true,↓reduceIte,h1,h2,h3,h4,n4,n5,hls,hlr,hlh,hsl,hnl,wS,aWj,cK,List.nil_append,List.cons_append,J8,List.set_cons_succ,List.set_cons_zero,U0,U1,J7,J9]
  refine hK _ ?_
  refine aB (aA rfl (aW [6] rfl rfl rfl fun K hK=>?_))
  simp(disch:=omega) only[Tryd.f38,go_sem,↓reduceIte,hnl,J9]
  refine hK _ ?_
  refine aB (aS rfl ?_)
  rw[qQ hni,show nx+92+100*Q.R.length+9=nx+80+100*Q.R.length+7+5+9 by omega,show nx+92+100*Q.R.length+16=nx+80+100*Q.R.length+7+5+16 by omega,show nx+92+100*Q.R.length+23=nx+80+100*Q.R.length+7+5+23 by omega]
  refine⟨by simp(disch:=omega) only[bV,bK,bQ,Tryd.f38,go_sem,aV,ldV,↓reduceIte,eq_self,hnl,J9]<;>rfl,fun j o hj=>aBe (Q:=⟨_,_,_,Q.R++[⟨sd,ht⟩]⟩) ?_ ?_ j o hj,by simp only;omega⟩
  ·have et:List.take 8 (sd.l++List.drop 8 (List.replicate 8 0#8))=sd.l:=List.take_left' hsl2
   have et2:List.take 8 (iR sd.l ht 0++List.drop 8 (List.replicate 8 0#8))=iR sd.l ht 0:=List.take_left' hnl
   refine⟨?_,fun e=>by simp at e,fun _=>⟨?_,?_,?_,by simp only;omega,by simp only;omega,by simp only;omega,by simp only;omega,by simp only;omega,by simp only;omega⟩⟩
   ·rw[cUw]
    simp(disch:=omega) only[aV,bY,↓reduceIte,eq_self]
   ·simp(disch:=omega) only[aV,kE,bY,↓reduceIte,eq_self,aMh,qB,List.append_nil,et]
   ·simp(disch:=omega) only[aV,kE,bY,↓reduceIte,eq_self,hsC,List.map_append,List.map_cons,List.map_nil]
   simp(disch:=omega) only[aV,bY,↓reduceIte,eq_self,aMo,tZ,List.append_nil,et2]
  intro k2 o hk1 hk2 hk3
  obtain⟨hk4,hk5⟩:=qP _ _ _ _ hk3
  obtain⟨hk6,hk7,hk8⟩:=hk5 hz
  have:=hlt k2 o hk4
  simp(disch:=omega) only[aV,kE,bY,↓reduceIte,hk1,hk6,hk7,hk8]
  exact hk4
 cases hg
theorem eIq:bX Tryd.prog GLh 38 (.heap aZz):=⟨⟨_,Tryd.func38,rfl,rfl⟩,cKt⟩
end Go.AX

namespace Go.AX
open Go Go.Proofs
set_option maxRecDepth 8000
theorem bFf (Q:QT) (hp:H) (j:Nat) (o:AO) (h:Q.R≠[]→j≠Q.a∧j≠Q.b∧j≠Q.c):jY Q (upd hp j o)=upd (jY Q hp) j o:=by
 unfold jY
 split
 ·rfl
 rename_i hz
 obtain⟨a,b,c⟩:=h hz
 funext k
 simp only[eV,bJ]
 by_cases e:k=j
 ·subst e;simp[a,b,c]
 simp[e]
theorem pZ (q:Nat) (Q:QT) (hp:H) (j:Nat) (o:AO) (hq:j≠q) (h:Q.R≠[]→j≠Q.a∧j≠Q.b∧j≠Q.c):upd (setQ q Q hp) j o=setQ q Q (upd hp j o):=by
 funext k
 by_cases e:k=j
 ·subst e
  rw[bJ,J4 rfl,jZ _ _ _ _ hq h,bJ,J4 rfl]
 unfold setQ
 split<;>simp[bJ,e]
def rdN (k:KY):Nat:=if k.role=1 then 3 else 0
noncomputable def aMs:List AV→H→Nat→Option (AV×H×Nat)
 |[.op e 0,.w32 id],hp,nx=>aK (kH hp e) fun t=>aK (qOf hp t.M.q) fun Q=>aK (jS id t.M.L) fun k=>aN (t.M.L.length≤100∧Q.R.length≤100∧k.h≤10)
   (some (.tup [.os (nx+94+rdN k+60*t.M.L.length+20000) 0 12 1 true,.b true],upd (setQ t.M.q (oA Q ⟨k.seed,k.h⟩ (nx+183+rdN k+60*t.M.L.length+100*Q.R.length)) (jY Q hp)) (nx+94+rdN k+60*t.M.L.length+20000) (.cells (c8 (dkB k)) true),nx+40000))
 |_,_,_=>none
theorem bHz (e:Nat) (id:W32) (hp:H) (nx:Nat):aMs [.op e 0,.w32 id] hp nx=aK (kH hp e) fun t=>aK (qOf hp t.M.q) fun Q=>aK (jS id t.M.L) fun k=>aN (t.M.L.length≤100∧Q.R.length≤100∧k.h≤10)
   (some (.tup [.os (nx+94+rdN k+60*t.M.L.length+20000) 0 12 1 true,.b true],upd (setQ t.M.q (oA Q ⟨k.seed,k.h⟩ (nx+183+rdN k+60*t.M.L.length+100*Q.R.length)) (jY Q hp)) (nx+94+rdN k+60*t.M.L.length+20000) (.cells (c8 (dkB k)) true),nx+40000)):=(rfl)
attribute [go_sem] bHz
set_option maxHeartbeats 4000000 in
theorem bUw:cQ Tryd.prog GLh 23 aMs:=by
 refine gF Tryd.func23 (aT rfl) ?_
 intro args hp nx r hp' nx' hg
 unfold aMs at hg
 split at hg
 ·rename_i e id
  replace hg:=aJ hg;obtain⟨⟨l,M⟩,hM0,hg⟩:=hg
  have hM:=kW hM0
  replace hg:=aJ hg;obtain⟨Q,hQ0,hg⟩:=hg
  replace hg:=aJ hg;obtain⟨k,hk,hg⟩:=hg
  replace hg:=aP hg;obtain⟨⟨hL,hRl,hkh⟩,hg⟩:=hg
  simp only[Option.some.injEq,Prod.mk.injEq]at hg hM hQ0 hL hk
  obtain⟨rfl,rfl,rfl⟩:=hg
  refine⟨J1 rfl,by omega,fun hnone=>?_⟩
  have hQ:=vS hQ0
  have hlt: ∀k o,hp k=some o→k<nx:=fun k o hk=>lI hnone hk
  have h1:=hM.hd;have h2:=hM.hl
  obtain⟨m1,m2⟩:=hM.ne
  have hel:=hlt _ _ h1
  have hll:=hlt _ _ h2
  have hql:=hlt _ _ hQ.hq
  have hqr:Q.R≠[]→Q.a<nx∧Q.b<nx∧Q.c<nx:=fun hz=>by
   obtain⟨a1,a2,a3,_⟩:=hQ.h hz
   exact⟨hlt _ _ a1,hlt _ _ a2,hlt _ _ a3⟩
  have hqu: ∀(j:Nat) (o:AO),nx≤j→qOf (upd hp j o) M.q=some Q:=fun j o hj=>aIt (hQ.upd j o (by omega) (fun hz=>by have:=hqr hz;omega))
  have hqd: ∀(j:Nat) (o:AO),nx≤j→jY Q (upd hp j o)=upd (jY Q hp) j o:=fun j o hj=>bFf Q hp j o (fun hz=>by have:=hqr hz;omega)
  have hsq: ∀(n j:Nat) (h:H) (o:AO),nx≤j→j<n→setQ M.q (oA Q ⟨k.seed,k.h⟩ n) (upd h j o)=upd (setQ M.q (oA Q ⟨k.seed,k.h⟩ n) h) j o:=fun n j h o hj hn=>(pZ _ _ _ _ _ (by omega) (fun hz=>by
   by_cases hm:(⟨k.seed,k.h⟩:TK)∈Q.R
   ·rw[sD hm]at hz⊢;have:=hqr hz;omega
   rw[qQ hm];exact⟨by simp only;omega,by simp only;omega,by simp only;omega⟩)).symm
  have hsn: ∀(n j:Nat),nx≤j→j<n→setQ M.q (oA Q ⟨k.seed,k.h⟩ n) (jY Q hp) j=none:=fun n j hj hn=>by
   rw[jZ _ _ _ _ (by omega) (fun hz=>by
    by_cases hm:(⟨k.seed,k.h⟩:TK)∈Q.R
    ·rw[sD hm]at hz⊢;have:=hqr hz;omega
    rw[qQ hm];exact⟨by simp only;omega,by simp only;omega,by simp only;omega⟩)]
   cases hx:jY Q hp j with
   |none=>rfl
   |some o=>have:=hlt _ _ (qP _ _ _ _ hx).1;omega
  have hL2:M.L.length≤1000:=by omega
  rcases kX M.L id with⟨e1,e2⟩|⟨i,hi,hfv,hid,hf⟩
  ·rw[e2]at hk;cases hk
  have hke:kyA M.L i=k:=J0 (hf.symm.trans hk)
  have hkl:=iJ M.L
  have e15:i*15=15*i:=by omega
  have ha1:=jW M.L i 1 hi (by omega)
  have ha11:=jW M.L i 11 hi (by omega)
  have hrow:=lC M.L i hi
  rw[hke]at ha1 ha11 hrow
  have hrs:(List.drop (15*i+3) (jQ M.L)).take 8=c8 k.seed.l:=by
   rw[wE M.L i 3 hi,hke];rfl
  have hd3:8≤(List.drop (15*i+3) (jQ M.L)).length:=by rw[List.length_drop];omega
  have hnl:=iW k.seed.l k.h 0
  have hsl2:=k.seed.len
  have hdl:=aAg k
  have hs8:s8L k.seed.l=some k.seed:=rfl
  have hst:List.take 8 (c8 (iR k.seed.l k.h 0))=c8 (iR k.seed.l k.h 0):=List.take_of_length_le (by rw[iM,hnl];exact U3 _)
  refine aA rfl (aW [0,1] rfl rfl rfl fun K hK=>?_)
  simp(disch:=omega) only[Tryd.f23,go_sem,↓reduceIte]
  refine hK _ ?_
  refine aB (aA rfl (aC (Γ:=bC [(37,.heap zJ)]) [0,6] (aH aWa aO) rfl rfl rfl (fun K hK=>?_)))
  simp(disch:=omega) only[Tryd.f23,go_sem,↓reduceIte,hM0,hL2,hfv]
  refine hK _ ?_
  refine aB (aA rfl (aA rfl (aW [13,0,6] rfl rfl rfl fun K hK=>?_)))
  simp(disch:=omega) only[Tryd.f23,go_sem,↓reduceIte]
  refine hK _ ?_
  refine aB (gP (.tmp 13) rfl rfl rfl (fun h=>?_) (fun h=>?_))
  ·refine aI rfl ?_
   omega
  refine aI rfl ?_
  clear h
  refine aQ rfl (aB (aA rfl (aW [0,6,7] rfl rfl rfl fun K hK=>?_)))
  simp(disch:=omega) only[Tryd.f23,go_sem,↓reduceIte]
  refine hK _ ?_
  refine aB (aA rfl (aA rfl (aW [22,0,6,7] rfl rfl rfl fun K hK=>?_)))
  simp(disch:=omega) only[Tryd.f23,go_sem,↓reduceIte,h1,h2,jR,ha1,e15,kyC,J8,J7,J9]
  refine hK _ ?_
  refine aB (gP (.tmp 22) rfl rfl rfl (fun h=>?_) (fun h=>?_))
  ·refine aI rfl ?_
   have edk:wF 257#16 3#8 253#8 (iR k.seed.l k.h 0)=dkB k:=by unfold dkB flK;rw[J4 h]
   refine aW [0,6,7] rfl rfl rfl fun K hK=>?_
   simp(disch:=omega) only[Tryd.f23,go_sem,↓reduceIte,BitVec.reduceOr]
   refine hK _ ?_
   refine aB (aA rfl (aKy (Γ:=bC [(38,.heap aZz)]) 20 21 [0,1,2,3,4,5,6,7,8,9,10,11,12,13,14,15,16,17,18,19,20,21,22] [21,0,1,2,3,4,5,6,7,8,9,10,11,12,13,14,15,16,17,18,19,20,22] (fun k=>if k=20 then 0 else 2) [7,8] bZ (aH eIq aO) (by decide) rfl rfl rfl (by kernel_rfl) (fun K hK=>?_) (fun K hK=>?_)))
   ·simp(disch:=omega) only[Tryd.f23,go_sem,nJ,lY,eDt,List.getElem?_cons_zero,List.getElem?_cons_succ,↓reduceIte,h1,h2,jR,ha11,hrs,hd3,e15,kyC,hQ0,hs8,kK,hRl,true_and,U2,J8,J7,J9]
    refine hK _ ?_
    refine aB (aA rfl (aC (Γ:=bC [(39,.fresh true qG)]) [4,5] (aH eGk aO) rfl rfl rfl (fun K hK=>?_)))
    simp(disch:=omega) only[Tryd.f23,go_sem,↓reduceIte,hnl,hst,edk,hdl,iA,true_and,J9,List.all_cons,List.all_nil,Option.isSome_some,Bool.and_self]
    refine hK _ ?_
    refine aB (aS rfl ?_)
    have er:rdN k=3:=J4 h
    rw[er,show nx+183+3+60*M.L.length+100*Q.R.length=nx+2+4+50+60*M.L.length+2+1+9+3+23+92+100*Q.R.length by omega,show nx+94+3+60*M.L.length+20000=nx+2+4+50+60*M.L.length+2+1+9+3+23+20000+3 by omega]
    refine⟨rfl,fun j o hj=>?_,by simp only;omega⟩
    simp only[bJ]at hj⊢
    split at hj
    ·rename_i ej;rw[J4 ej];exact hj
    rename_i ej
    rw[J3 ej,J3 (fun e2=>by rw[e2,hsn _ _ (by omega) (by omega)]at hj;cases hj)]
    exact hj
   simp(disch:=omega) only[Tryd.f23,go_sem,nJ,lY,eDt,List.getElem?_cons_zero,List.getElem?_cons_succ,↓reduceIte,h1,h2,jR,ha11,hrs,hd3,e15,kyC,hqu,hqd,hsq,hs8,kK,hRl,true_and,U2,J8,J7,J9]
   refine hK _ ?_
   refine aB (aA rfl (aC (Γ:=bC [(39,.fresh true qG)]) [4,5] (aH eGk aO) rfl rfl rfl (fun K hK=>?_)))
   simp(disch:=omega) only[Tryd.f23,go_sem,↓reduceIte,hnl,hst,edk,hdl,iA,true_and,J9,List.all_cons,List.all_nil,Option.isSome_some,Bool.and_self]
   refine hK _ ?_
   refine aB (aS rfl ?_)
   have er:rdN k=3:=J4 h
   rw[er,show nx+183+3+60*M.L.length+100*Q.R.length=nx+2+4+50+60*M.L.length+2+1+9+3+23+92+100*Q.R.length by omega,show nx+94+3+60*M.L.length+20000=nx+2+4+50+60*M.L.length+2+1+9+3+23+20000+3 by omega]
   refine⟨rfl,fun j o hj=>?_,by simp only;omega⟩
   simp only[bJ]at hj⊢
   split at hj
   ·rename_i ej;rw[J4 ej];exact hj
   rename_i ej
   rw[J3 ej,J3 (fun e2=>by rw[e2,hsn _ _ (by omega) (by omega)]at hj;cases hj)]
   exact hj
  refine aI rfl ?_
  have edk:wF 256#16 3#8 253#8 (iR k.seed.l k.h 0)=dkB k:=by unfold dkB flK;rw[J3 h]
  refine aQ rfl (aB (aA rfl (aKy (Γ:=bC [(38,.heap aZz)]) 20 21 [0,1,2,3,4,5,6,7,8,9,10,11,12,13,14,15,16,17,18,19,20,21,22] [21,0,1,2,3,4,5,6,7,8,9,10,11,12,13,14,15,16,17,18,19,20,22] (fun k=>if k=20 then 0 else 2) [7,8] bZ (aH eIq aO) (by decide) rfl rfl rfl (by kernel_rfl) (fun K hK=>?_) (fun K hK=>?_))))
  ·simp(disch:=omega) only[Tryd.f23,go_sem,nJ,lY,eDt,List.getElem?_cons_zero,List.getElem?_cons_succ,↓reduceIte,h1,h2,jR,ha11,hrs,hd3,e15,kyC,hQ0,hs8,kK,hRl,true_and,U2,J8,J7,J9]
   refine hK _ ?_
   refine aB (aA rfl (aC (Γ:=bC [(39,.fresh true qG)]) [4,5] (aH eGk aO) rfl rfl rfl (fun K hK=>?_)))
   simp(disch:=omega) only[Tryd.f23,go_sem,↓reduceIte,hnl,hst,edk,hdl,iA,true_and,J9,List.all_cons,List.all_nil,Option.isSome_some,Bool.and_self]
   refine hK _ ?_
   refine aB (aS rfl ?_)
   have er:rdN k=0:=J3 h
   rw[er,show nx+183+0+60*M.L.length+100*Q.R.length=nx+2+4+50+60*M.L.length+2+1+9+23+92+100*Q.R.length by omega,show nx+94+0+60*M.L.length+20000=nx+2+4+50+60*M.L.length+2+1+9+23+20000+3 by omega]
   refine⟨rfl,fun j o hj=>?_,by simp only;omega⟩
   simp only[bJ]at hj⊢
   split at hj
   ·rename_i ej;rw[J4 ej];exact hj
   rename_i ej
   rw[J3 ej,J3 (fun e2=>by rw[e2,hsn _ _ (by omega) (by omega)]at hj;cases hj)]
   exact hj
  simp(disch:=omega) only[Tryd.f23,go_sem,nJ,lY,eDt,List.getElem?_cons_zero,List.getElem?_cons_succ,↓reduceIte,h1,h2,jR,ha11,hrs,hd3,e15,kyC,hqu,hqd,hsq,hs8,kK,hRl,true_and,U2,J8,J7,J9]
  refine hK _ ?_
  refine aB (aA rfl (aC (Γ:=bC [(39,.fresh true qG)]) [4,5] (aH eGk aO) rfl rfl rfl (fun K hK=>?_)))
  simp(disch:=omega) only[Tryd.f23,go_sem,↓reduceIte,hnl,hst,edk,hdl,iA,true_and,J9,List.all_cons,List.all_nil,Option.isSome_some,Bool.and_self]
  refine hK _ ?_
  refine aB (aS rfl ?_)
  have er:rdN k=0:=J3 h
  rw[er,show nx+183+0+60*M.L.length+100*Q.R.length=nx+2+4+50+60*M.L.length+2+1+9+23+92+100*Q.R.length by omega,show nx+94+0+60*M.L.length+20000=nx+2+4+50+60*M.L.length+2+1+9+23+20000+3 by omega]
  refine⟨rfl,fun j o hj=>?_,by simp only;omega⟩
  simp only[bJ]at hj⊢
  split at hj
  ·rename_i ej;rw[J4 ej];exact hj
  rename_i ej
  rw[J3 ej,J3 (fun e2=>by rw[e2,hsn _ _ (by omega) (by omega)]at hj;cases hj)]
  exact hj
 cases hg
theorem eIr:bX Tryd.prog GLh 23 (.heap aMs):=⟨⟨_,Tryd.func23,rfl,rfl⟩,bUw⟩
end Go.AX

namespace Go.AX
open Go Go.Proofs
set_option maxRecDepth 8000
def be4 (v:W32):List B8:=[(v>>>24).setWidth 8,(v>>>16).setWidth 8,(v>>>8).setWidth 8,v.setWidth 8]
def eIo:AO→Option (List B8)
 | .cells xs true=>cI xs
 |_=>none
theorem eIn (xs:List AV):eIo (.cells xs true)=cI xs:=(rfl)
def eEw:List AV→H→Nat→Option (AV×H×Nat)
 |[.v (.slice none 0 0),.w32 v],hp,nx=>some (.os (nx+14) 0 4 1 true,upd hp (nx+14) (.cells (c8 (be4 v)) true),nx+20)
 |[.os i 0 n 1 true,.w32 v],hp,nx=>aK (hp i) fun o=>aK (eIo o) fun l=>aN (l.length=n∧n≤1000000) (some (.os (nx+14) 0 (n+4) 1 true,upd (del hp i) (nx+14) (.cells (c8 (l++be4 v)) true),nx+20))
 |_,_,_=>none
theorem eHv (v:W32) (hp:H) (nx:Nat):eEw [.v (.slice none 0 0),.w32 v] hp nx=some (.os (nx+14) 0 4 1 true,upd hp (nx+14) (.cells (c8 (be4 v)) true),nx+20):=(rfl)
theorem eHu (i n:Nat) (v:W32) (hp:H) (nx:Nat):eEw [.os i 0 n 1 true,.w32 v] hp nx=aK (hp i) fun o=>aK (eIo o) fun l=>aN (l.length=n∧n≤1000000) (some (.os (nx+14) 0 (n+4) 1 true,upd (del hp i) (nx+14) (.cells (c8 (l++be4 v)) true),nx+20)):=(rfl)
attribute [go_sem] eIn eHv eHu
theorem eHt:cQ Tryd.prog GLh 43 eEw:=by
 refine gF Tryd.func43 (aT rfl) ?_
 intro args hp nx r hp' nx' hg
 unfold eEw at hg
 split at hg
 ·rename_i v
  simp only[Option.some.injEq,Prod.mk.injEq]at hg;obtain⟨rfl,rfl,rfl⟩:=hg
  refine⟨J1 rfl,by omega,fun hnone=>?_⟩
  refine aA rfl (aW [0,1] rfl rfl rfl fun K hK=>?_)
  simp(disch:=omega) only[Tryd.f43,go_sem,↓reduceIte]
  refine hK _ ?_
  refine aB (aA rfl (aW [4] rfl rfl rfl fun K hK=>?_))
  simp(disch:=omega) only[Tryd.f43,go_sem,↓reduceIte,cK,List.nil_append,List.cons_append,U0,U1,J7,J9]
  refine hK _ ?_
  refine aB (aS rfl ?_)
  refine⟨rfl,fun j o h=>?_,by simp only;omega⟩
  have hlt: ∀k o,hp k=some o→k<nx:=fun k o hk=>lI hnone hk
  simp only[bJ]at h⊢
  split at h
  ·rename_i ej;subst ej;rw[J4 (by omega)];exact h
  have:=hlt _ _ h
  rw[J3 (by omega)]
  repeat' rw[J3 (by omega)]
  exact h
 ·rename_i i n v
  replace hg:=aJ hg;obtain⟨o,ho,hg⟩:=hg
  replace hg:=aJ hg;obtain⟨l,hl,hg⟩:=hg
  replace hg:=aP hg;obtain⟨⟨rfl,hbig⟩,hg⟩:=hg
  simp only[Option.some.injEq,Prod.mk.injEq]at hg;obtain⟨rfl,rfl,rfl⟩:=hg
  unfold eIo at hl
  split at hl
  ·rename_i xs
   have:=bW hl;subst this
   refine⟨J1 rfl,by omega,fun hnone=>?_⟩
   have hlt: ∀k o,hp k=some o→k<nx:=fun k o hk=>lI hnone hk
   have hil:=hlt _ _ ho
   have hll:=iM l
   refine aA rfl (aW [0,1] rfl rfl rfl fun K hK=>?_)
   simp(disch:=omega) only[Tryd.f43,go_sem,↓reduceIte]
   refine hK _ ?_
   refine aB (aA rfl (aW [4] rfl rfl rfl fun K hK=>?_))
   simp(disch:=omega) only[Tryd.f43,go_sem,↓reduceIte,ho,hll,cK,List.nil_append,List.cons_append,U0,U1,J7,J9]
   refine hK _ ?_
   refine aB (aS rfl ?_)
   refine⟨rfl,fun j o h=>?_,by simp only;omega⟩
   simp only[bJ,eV]at h⊢
   split at h
   ·rename_i ej;subst ej
    simp(disch:=omega) only[↓reduceIte,eq_self]
    exact h
   split at h
   ·cases h
   have:=hlt _ _ h
   simp(disch:=omega) only[bY,↓reduceIte]
   exact h
  cases hl
 cases hg
theorem eGj:bX Tryd.prog GLh 43 (.heap eEw):=⟨⟨_,Tryd.func43,rfl,rfl⟩,eHt⟩
end Go.AX

namespace Go.AX
open Go Go.Proofs
set_option maxRecDepth 8000
def gt4 (a b c d:B8):W32:=a.setWidth 32 <<<24|||b.setWidth 32 <<<16|||c.setWidth 32 <<<8|||d.setWidth 32
theorem eEe (v:W32):gt4 ((v>>>24).setWidth 8) ((v>>>16).setWidth 8) ((v>>>8).setWidth 8) (v.setWidth 8)=v:=by
 unfold gt4
 apply BitVec.eq_of_getLsbD_eq
 intro i hi
 simp only[BitVec.getLsbD_or,BitVec.getLsbD_shiftLeft,BitVec.getLsbD_setWidth,BitVec.getLsbD_ushiftRight]
 by_cases h1:i<8
 ·simp[h1,hi,show i<16 by omega,show i<24 by omega]
 by_cases h2:i<16
 ·simp[h1,h2,hi,show i<24 by omega,show i-8<8 by omega,show 8+(i-8)=i by omega,show i-8<32 by omega]
 by_cases h3:i<24
 ·simp[h1,h2,h3,hi,show i-16<8 by omega,show 16+(i-16)=i by omega,show i-16<32 by omega,show¬i-8<8 by omega]
 simp[h1,h2,h3,hi,show i-24<8 by omega,show 24+(i-24)=i by omega,show i-24<32 by omega,show¬i-8<8 by omega,show¬i-16<8 by omega]
def eFn:List AV→Option AV
 |[.sl n (.w8 a::.w8 b::.w8 c::.w8 d::r)]=>aN (r.length+4=n) (some (.w32 (gt4 a b c d)))
 |_=>none
theorem eHe (n:Nat) (a b c d:B8) (r:List AV):eFn [.sl n (.w8 a::.w8 b::.w8 c::.w8 d::r)]=aN (r.length+4=n) (some (.w32 (gt4 a b c d))):=(rfl)
attribute [go_sem] eHe
theorem eId:cL Tryd.prog GLh 40 eFn:=by
 refine cC Tryd.func40 (aT rfl) ?_
 intro args r hg
 unfold eFn at hg
 split at hg
 ·rename_i n a b c d r
  replace hg:=aP hg;obtain⟨rfl,hg⟩:=hg
  obtain rfl:=J0 hg
  refine⟨J1 rfl,fun nx=>?_⟩
  refine aA rfl (aW [0] rfl rfl rfl fun K hK=>?_)
  simp(disch:=omega) only[Tryd.f40,go_sem,↓reduceIte]
  refine hK _ ?_
  refine aB ?_
  have h1:0<r.length+4:=by omega
  have h2:1<r.length+4:=by omega
  have h3:2<r.length+4:=by omega
  have h4:3<r.length+4:=by omega
  refine aA rfl (bB (Γ:=aL) (fun _=>2) [2] bZ (aD _ _) rfl rfl rfl (by kernel_rfl) (fun K hK=>?_))
  simp(disch:=omega) only[Tryd.f40,go_sem,↓reduceIte,J8,J7,J9]
  refine hK _ ?_
  refine aB (aS rfl ?_)
  simp(disch:=omega) only[cN,bV,bK,bQ,Tryd.f40,go_sem,↓reduceIte]
  rfl
 cases hg
theorem eIp:bX Tryd.prog GLh 40 (.pure true eFn):=⟨⟨_,Tryd.func40,rfl,rfl⟩,eId⟩
def eFh:List AV→Option AV
 |[.sl n (.w8 a0::.w8 a1::.w8 a2::.w8 a3::.w8 a4::.w8 a5::.w8 a6::.w8 a7::.w8 a8::.w8 a9::.w8 a10::.w8 a11::.w8 a12::.w8 a13::.w8 a14::.w8 a15::.w8 a16::.w8 a17::.w8 a18::.w8 a19::.w8 a20::.w8 a21::.w8 a22::.w8 a23::.w8 a24::.w8 a25::.w8 a26::r)]=>
  aN (r.length+27=n) (some (.agg [.w32 (gt4 a0 a1 a2 a3),.i a4.toNat,.i a5.toNat,.w8 a6,.w8 a7,.w8 a8,.w8 a9,.w8 a10,.w8 a11,.w8 a12,.w8 a13,.i a14.toNat,.w32 (gt4 a15 a16 a17 a18),.w32 (gt4 a19 a20 a21 a22),.w32 (gt4 a23 a24 a25 a26)]))
 |_=>none
set_option maxHeartbeats 1000000 in
theorem eIf:cL Tryd.prog GLh 41 eFh:=by
 refine cC Tryd.func41 (aT rfl) ?_
 intro args r hg
 unfold eFh at hg
 split at hg
 ·rename_i n a0 a1 a2 a3 a4 a5 a6 a7 a8 a9 a10 a11 a12 a13 a14 a15 a16 a17 a18 a19 a20 a21 a22 a23 a24 a25 a26 r
  replace hg:=aP hg;obtain⟨rfl,hg⟩:=hg
  obtain rfl:=J0 hg
  refine⟨J1 rfl,fun nx=>?_⟩
  refine aA rfl (aW [0,2] rfl rfl rfl fun K hK=>?_)
  simp(disch:=omega) only[Tryd.f41,go_sem,↓reduceIte]
  refine hK _ ?_
  refine aB ?_
  have e1:r.length+27-15=r.length+8+4:=by omega
  have e2:r.length+27-19=r.length+4+4:=by omega
  have e3:r.length+27-23=r.length+4:=by omega
  have t1: ∀(n:Nat) (a b c d:AV) (l:List AV),List.take (n+4) (a::b::c::d::l)=a::b::c::d::List.take n l:=fun _ _ _ _ _ _=>rfl
  refine aA rfl (bB (Γ:=bC [(40,.pure true eFn)]) (fun _=>2) [2] bZ (aH eIp aO) rfl rfl rfl (by kernel_rfl) (fun K hK=>?_))
  simp(disch:=omega) only[Tryd.f41,go_sem,↓reduceIte,e1,e2,e3,t1,List.take_length,List.length_cons,List.length_nil,cK,List.nil_append,List.cons_append,J8,U0,U1,J7,J9,List.all_cons,List.all_nil,Option.isSome_some,Bool.and_self]
  refine hK _ ?_
  refine aB (aS rfl ?_)
  simp(disch:=omega) only[cN,bV,bK,bQ,Tryd.f41,go_sem,↓reduceIte,ldV]
 cases hg
theorem eJr:bX Tryd.prog GLh 41 (.pure true eFh):=⟨⟨_,Tryd.func41,rfl,rfl⟩,eIf⟩
structure eHk (C:RC) (k:KY) (ah:W32):Prop where
 a:ah<k.id
 l:k.id≤C.last
 ro:k.role≤1
 st:k.st≤3
 h:k.h=C.c.h
 ch:C.c.h≤10
 n:k.next≤nlv C.c.h
 s:k.seen=0#32∨k.role=1∧2≤k.st
noncomputable instance (C:RC) (k:KY) (ah:W32):Decidable (eHk C k ah):=Classical.propDecidable _
noncomputable def gY:List AV→H→Nat→Option (AV×H×Nat)
 |[.op d 0,.agg xs,.w32 ah],hp,nx=>aK (iN hp d) fun t=>aK (zT xs) fun k=>aN (eHk t.C k ah) (some (.b true,hp,nx+100))
 |_,_,_=>none
theorem eGq (d:Nat) (ah:W32) (xs:List AV) (hp:H) (nx:Nat):gY [.op d 0,.agg xs,.w32 ah] hp nx=aK (iN hp d) fun t=>aK (zT xs) fun k=>aN (eHk t.C k ah) (some (.b true,hp,nx+100)):=(rfl)
attribute [go_sem] eGq
set_option maxHeartbeats 4000000 in
theorem eGz:cQ Tryd.prog GLh 42 gY:=by
 refine gF Tryd.func42 (aT rfl) ?_
 intro args hp nx r hp' nx' hg
 unfold gY at hg
 split at hg
 ·rename_i d xs ah
  replace hg:=aJ hg;obtain⟨⟨s,m,C⟩,hD0,hg⟩:=hg
  have hD:=iV hD0
  replace hg:=aJ hg;obtain⟨k,hk,hg⟩:=hg
  have:=aOb hk;subst this
  replace hg:=aP hg;obtain⟨hr,hg⟩:=hg
  simp only[Option.some.injEq,Prod.mk.injEq]at hg hD hr;obtain⟨rfl,rfl,rfl⟩:=hg
  refine⟨J1 rfl,by omega,fun hnone=>?_⟩
  have h1:=hD.hd
  have hlt: ∀k o,hp k=some o→k<nx:=fun k o hk=>lI hnone hk
  have hd:=hlt _ _ h1
  have e1:=aIg hr.ch
  have d1:decide (ah<k.id)=true:=J5 hr.a
  have d2:decide (k.id≤C.last)=true:=J5 hr.l
  have d3:decide (k.role≤1)=true:=J5 hr.ro
  have d4:decide (k.st≤3)=true:=J5 hr.st
  have d5:decide ((k.h:Int)=(C.c.h:Int))=true:=J5 (by rw[hr.h])
  have d6:decide (k.next≤nlv C.c.h)=true:=J5 hr.n
  obtain⟨X,hX⟩: ∃X,kyC k=X:=⟨_,rfl⟩
  have x0:X.head? =some (.w32 k.id):=by rw[←hX];rfl
  have x1:(X.drop 1).head? =some (.i k.role):=by rw[←hX];rfl
  have x2:(X.drop 2).head? =some (.i k.st):=by rw[←hX];rfl
  have x3:(X.drop 11).head? =some (.i (k.h:Int)):=by rw[←hX];rfl
  have x4:(X.drop 12).head? =some (.w32 k.next):=by rw[←hX];rfl
  have x5:(X.drop 14).head? =some (.w32 k.seen):=by rw[←hX];rfl
  obtain⟨Y,hY⟩: ∃Y,rgC s m C=Y:=⟨_,rfl⟩
  have y1:(Y.drop 14).head? =some (.w32 C.last):=by rw[←hY];rfl
  have y2:(Y.drop 11).head? =some (.i (C.c.h:Int)):=by rw[←hY];rfl
  rw[hX]
  rw[hY]at h1
  by_cases hs:k.seen=0#32
  ·have d7:decide (k.seen=0#32)=true:=J5 hs
   refine aA rfl (aW [0,2,4] rfl rfl rfl fun K hK=>?_)
   simp(disch:=omega) only[Tryd.f42,go_sem,↓reduceIte]
   refine hK _ ?_
   refine aB (lW 4 nx 0 rfl (by simp only[aV,if_true];rfl) ?_)
   refine aA rfl (bB (Γ:=aL) (fun k=>if k=1 then 0 else if k=15 then 0 else if k=20 then 0 else if k=47 then 0 else if k=51 then 0 else if k=55 then 0 else 2) [6] bZ (aD _ _) rfl rfl rfl (by kernel_rfl) (fun K hK=>?_))
   simp(maxSteps:=400000) (disch:=omega) only[Tryd.f42,go_sem,↓reduceIte,h1,x0,x1,x2,x3,x4,x5,y1,y2,e1,d1,d2,d3,d4,d5,d6,d7,J9]
   refine hK _ ?_
   refine aB (aS rfl ?_)
   exact⟨rfl,fun j o h=>jB hnone (by omega) j o h,by simp only;omega⟩
  have d7:decide (k.seen=0#32)=false:=J6 hs
  obtain⟨hs1,hs2⟩:=hr.s.resolve_left hs
  have d8:decide (k.role=1)=true:=J5 hs1
  have d9:decide (2≤k.st)=true:=J5 hs2
  refine aA rfl (aW [0,2,4] rfl rfl rfl fun K hK=>?_)
  simp(disch:=omega) only[Tryd.f42,go_sem,↓reduceIte]
  refine hK _ ?_
  refine aB (lW 4 nx 0 rfl (by simp only[aV,if_true];rfl) ?_)
  refine aA rfl (bB (Γ:=aL) (fun k=>if k=1 then 0 else if k=15 then 0 else if k=20 then 0 else if k=47 then 0 else if k=51 then 0 else if k=55 then 0 else 2) [6] bZ (aD _ _) rfl rfl rfl (by kernel_rfl) (fun K hK=>?_))
  simp(maxSteps:=400000) (disch:=omega) only[Tryd.f42,go_sem,↓reduceIte,h1,x0,x1,x2,x3,x4,x5,y1,y2,e1,d1,d2,d3,d4,d5,d6,d7,d8,d9,J9]
  refine hK _ ?_
  refine aB (aS rfl ?_)
  exact⟨rfl,fun j o h=>jB hnone (by omega) j o h,by simp only;omega⟩
 cases hg
theorem eJq:bX Tryd.prog GLh 42 (.heap gY):=⟨⟨_,Tryd.func42,rfl,rfl⟩,eGz⟩
end Go.AX

namespace Go.AX
open Go Go.Proofs
set_option maxRecDepth 8000
structure ACT where
 w:Int
 r:Int
 s:Int
 id:W32
 n:W32
 sd:B8
 x:List B8
def eGd:ACT:=⟨0,0,0,0#32,0#32,0#8,[]⟩
def yO (a:ACT):List AV:=[.i a.w,.i a.r,.i a.s,.w32 a.id,.w32 a.n,.w8 a.sd,.sl a.x.length (c8 a.x)]
def mN:List ACT→List AV
 |[]=>[]
 |a::r=>yO a++mN r
theorem aHw: ∀A:List ACT,(mN A).length=7*A.length
 |[]=>rfl
 |a::r=>by rw[mN,List.length_append,aHw r,List.length_cons];show 7+_=_;omega
theorem aQk: ∀(A:List ACT) (k:Nat),k<A.length→((mN A).drop (k*7)).take 7=yO (A.getD k eGd)
 |[],k,h=>by simp at h
 |a::r,0,_=>by
  show((yO a++mN r).take 7)=yO a
  rfl
 |a::r,k+1,h=>by
  have:(k+1)*7=(yO a).length+k*7:=by show _=7+_;omega
  rw[mN,this,←List.drop_drop,List.drop_left]
  exact aQk r k (by simpa using h)
theorem eGo: ∀(A:List ACT) (k:Nat),k<A.length→(((mN A).drop (k*7)).drop 6).head? =some (.sl (A.getD k eGd).x.length (c8 (A.getD k eGd).x))
 |[],k,h=>by simp at h
 |a::r,0,_=>rfl
 |a::r,k+1,h=>by
  have:(k+1)*7=(yO a).length+k*7:=by show _=7+_;omega
  rw[mN,this,←List.drop_drop,List.drop_left]
  exact eGo r k (by simpa using h)
theorem aHv: ∀A:List ACT,(A.map yO).flatten=mN A
 |[]=>rfl
 |a::r=>by rw[List.map_cons,List.flatten_cons,aHv r];rfl
def dVb (A:List ACT):Bool:=decide (A.length≤40)&&A.all fun a=>decide (a.x.length≤200)
def eFo:List AV→Option (List ACT)
 |[]=>some []
 | .i w::.i r0::.i s::.w32 id::.w32 m::.w8 sd::.sl n xs::r=>aK (cI xs) fun b=>aN (b.length=n∧n≤9223372036854775807) (aK (eFo r) fun l=>some (⟨w,r0,s,id,m,sd,b⟩::l))
 |_=>none
theorem eFa: ∀ {l:List AV} {A:List ACT},eFo l=some A→l=mN A∧∀a∈A,a.x.length≤9223372036854775807
 |[],A,h=>by cases h;exact⟨rfl,by simp⟩
 | .i w::.i r0::.i s::.w32 id::.w32 m::.w8 sd::.sl n xs::r,A,h=>by
  rw[eFo]at h
  replace h:=aJ h;obtain⟨b,hb,h⟩:=h
  have:=bW hb;subst this
  replace h:=aP h;obtain⟨⟨rfl,h2⟩,h⟩:=h
  replace h:=aJ h;obtain⟨l,hl,h⟩:=h
  obtain rfl:=J0 h
  obtain⟨rfl,h3⟩:=eFa hl
  exact⟨rfl,fun a ha=>by rcases List.mem_cons.1 ha with rfl|ha;exact h2;exact h3 a ha⟩
theorem eFk: ∀ {A:List ACT},(∀a∈A,a.x.length≤9223372036854775807)→eFo (mN A)=some A
 |[],_=>rfl
 |⟨w,r0,s,id,m,sd,b⟩::r,h=>by
  show aK (cI (c8 b)) (fun b'=>aN (b'.length=b.length∧b.length≤9223372036854775807) (aK (eFo (mN r)) fun l=>some (⟨w,r0,s,id,m,sd,b'⟩::l)))=_
  rw[iA,aX,cU _ ⟨rfl,h _ (List.mem_cons_self ..)⟩,eFk fun a ha=>h a (List.mem_cons_of_mem _ ha)]
  rfl
def dVj:List AV→Option AV
 |[.sl n xs]=>aK (eFo xs) fun A=>aN (A.length=n∧n≤9223372036854775807) (some (.b (dVb A)))
 |_=>none
theorem dVn (n:Nat) (xs:List AV):dVj [.sl n xs]=aK (eFo xs) fun A=>aN (A.length=n∧n≤9223372036854775807) (some (.b (dVb A))):=(rfl)
attribute [go_sem] dVn
structure LGI where
 k:Nat
 c:Nat
set_option maxHeartbeats 1000000 in
theorem dVw:cL Tryd.prog GLh 18 dVj:=by
 refine cC Tryd.func18 (aT rfl) ?_
 intro args r hg
 unfold dVj at hg
 split at hg
 ·rename_i n xs
  replace hg:=aJ hg;obtain⟨A,hA,hg⟩:=hg
  obtain⟨rfl,hall⟩:=eFa hA
  replace hg:=aP hg;obtain⟨⟨rfl,hlen⟩,hg⟩:=hg
  obtain rfl:=J0 hg
  have hal:=aHw A
  clear hA hg
  refine⟨J1 rfl,fun nx=>?_⟩
  obtain⟨R,hR⟩: ∃x,dVb A=x:=⟨_,rfl⟩
  rw[hR]
  refine aA rfl (aW [0] rfl rfl rfl fun K hK=>?_)
  simp(disch:=omega) only[Tryd.f18,go_sem,↓reduceIte]
  refine hK _ ?_
  refine aB ?_
  by_cases h40:40<A.length
  ·have d1:decide ((40:Int)<(A.length:Int))=true:=J5 (by omega)
   have hf:R=false:=by rw[←hR,dVb,J6 (by omega)];rfl
   refine aA rfl (aA rfl (aW [6,0] rfl rfl rfl fun K hK=>?_))
   simp(disch:=omega) only[Tryd.f18,go_sem,↓reduceIte,d1]
   refine hK _ ?_
   refine aB (eC (.tmp 6) rfl rfl rfl (fun h=>?_) (fun h=>?_))
   ·refine aI rfl (aA rfl (aW [2] rfl rfl rfl fun K hK=>?_))
    simp(disch:=omega) only[Tryd.f18,go_sem,↓reduceIte]
    refine hK _ ?_
    refine aB (aS rfl (bI ?_))
    simp(disch:=omega) only[cN,bV,bK,bQ,Tryd.f18,go_sem,↓reduceIte,hf]
   refine aI rfl ?_
   cases h
  have d1:decide ((40:Int)<(A.length:Int))=false:=J6 (by omega)
  refine aA rfl (aA rfl (aW [6,0] rfl rfl rfl fun K hK=>?_))
  simp(disch:=omega) only[Tryd.f18,go_sem,↓reduceIte,d1]
  refine hK _ ?_
  refine aB (eC (.tmp 6) rfl rfl rfl (fun h=>?_) (fun h=>?_))
  ·refine aI rfl ?_
   cases h
  refine aI rfl ?_
  clear h
  refine aQ rfl (aB (aA rfl (aA rfl (aW [0,3] rfl rfl rfl fun K hK=>?_))))
  simp(disch:=omega) only[Tryd.f18,go_sem,↓reduceIte]
  refine hK _ ?_
  refine aB (aR 0 rfl rfl ?_)
  refine bR (fun p:LGI=> {fr:=[(0,.sl A.length (mN A)),(3,.i p.k)],hp:=fun _=>none,nx:=0,cx:=p.c}) (fun p=>p.k≤A.length∧∀i,i<p.k→(A.getD i eGd).x.length≤200) (fun p=>A.length-p.k) rfl ⟨⟨0,_⟩,⟨Nat.zero_le _,fun i hi=>by simp only at hi;omega⟩,bD rfl rfl (U3 _)⟩ ?_
  rintro⟨k,c⟩ ⟨hk,h6⟩ n0
  simp only at hk h6⊢
  refine aA rfl (aA rfl (aW [10,0,3] rfl rfl rfl fun K hK=>?_))
  simp(disch:=omega) only[Tryd.f18,go_sem,↓reduceIte]
  refine hK _ ?_
  refine aB (gP (.tmp 10) rfl rfl rfl (fun h=>?_) (fun h=>?_))
  ·refine aI rfl ?_
   have hkl:k<A.length:=by omega
   have hr1:=eGo A k hkl
   have hmem:A.getD k eGd∈A:=by rw[List.getD_eq_getElem?_getD,List.getElem?_eq_getElem hkl];exact List.getElem_mem hkl
   obtain⟨X,hx⟩: ∃x,A.getD k eGd=x:=⟨_,rfl⟩
   rw[hx]at hr1 hmem
   have hxl:=hall _ hmem
   clear h
   refine aQ rfl (aB (aA rfl (aR 1 rfl rfl (aA rfl ?_))))
   by_cases hx200:200<X.x.length
   ·have d2:decide ((200:Int)<(X.x.length:Int))=true:=J5 (by omega)
    have hf:R=false:=by
     rw[←hR,dVb,Bool.and_eq_false_iff]
     refine .inr (List.all_eq_false.2 ⟨_,hmem,?_⟩)
     simp only[decide_eq_true_eq];omega
    refine aW [19,0,3] rfl rfl rfl fun K hK=>?_
    simp(disch:=omega) only[Tryd.f18,go_sem,↓reduceIte,hr1,d2]
    refine hK _ ?_
    refine aB (eC (.tmp 19) rfl rfl rfl (fun h=>?_) (fun h=>?_))
    ·refine aI rfl (aA rfl (aW [2] rfl rfl rfl fun K hK=>?_))
     simp(disch:=omega) only[Tryd.f18,go_sem,↓reduceIte]
     refine hK _ ?_
     refine aB (aS rfl (bN (bI (dF (bN (bI ?_))))))
     simp(disch:=omega) only[cN,bV,bK,bQ,Tryd.f18,go_sem,↓reduceIte,hf]
    refine aI rfl ?_
    cases h
   have d2:decide ((200:Int)<(X.x.length:Int))=false:=J6 (by omega)
   refine aW [19,0,3] rfl rfl rfl fun K hK=>?_
   simp(disch:=omega) only[Tryd.f18,go_sem,↓reduceIte,hr1,d2]
   refine hK _ ?_
   refine aB (eC (.tmp 19) rfl rfl rfl (fun h=>?_) (fun h=>?_))
   ·refine aI rfl ?_
    cases h
   refine aI rfl ?_
   clear h
   refine aQ rfl (bU (aB (aW [0,3] rfl rfl rfl fun K hK=>?_)))
   simp(disch:=omega) only[Tryd.f18,go_sem,↓reduceIte]
   refine hK _ ?_
   refine bT ?_
   refine⟨⟨k+1,_⟩,⟨by simp only;omega,fun i hi=>?_⟩,by simp only;omega,bD ?_ rfl (U3 _)⟩
   ·simp only at hi
    by_cases e:i=k
    ·rw[e,hx];omega
    exact h6 i (by omega)
   simp only[Int.natCast_add,Int.natCast_one]
  refine aI rfl ?_
  have hf:R=true:=by
   rw[←hR,dVb,J5 (by omega),Bool.true_and,List.all_eq_true]
   intro a ha
   obtain⟨i,hi,rfl⟩:=List.mem_iff_getElem.1 ha
   have:=h6 i (by omega)
   rw[List.getD_eq_getElem?_getD,List.getElem?_eq_getElem hi]at this
   exact J5 this
  refine bF 0 rfl rfl (aY (aZ (bE (aB (aA rfl (aW [2] rfl rfl rfl fun K hK=>?_))))))
  simp(disch:=omega) only[Tryd.f18,go_sem,↓reduceIte]
  refine hK _ ?_
  refine aB (aS rfl ?_)
  simp(disch:=omega) only[cN,bV,bK,bQ,Tryd.f18,go_sem,↓reduceIte,hf]
 cases hg
theorem eIs:bX Tryd.prog GLh 18 (.pure true dVj):=⟨⟨_,Tryd.func18,rfl,rfl⟩,dVw⟩
end Go.AX

namespace Go.AX
open Go Go.Proofs
set_option maxRecDepth 8000
def rcB (k:KY):List B8:=be4 k.id++[BitVec.ofInt 8 k.role,BitVec.ofInt 8 k.st]++k.seed.l++[BitVec.ofInt 8 (k.h:Int)]++be4 k.next++be4 k.since++be4 k.seen
def eEb:List KY→List B8
 |[]=>[]
 |k::r=>rcB k++eEb r
theorem eHp (k:KY):(rcB k).length=27:=rfl
theorem eDv: ∀L:List KY,(eEb L).length=27*L.length
 |[]=>rfl
 |k::r=>by rw[eEb,List.length_append,eDv r,eHp,List.length_cons];omega
theorem eFv: ∀(L M:List KY),eEb (L++M)=eEb L++eEb M
 |[],_=>rfl
 |k::r,M=>by rw[List.cons_append,eEb,eFv r M,eEb,List.append_assoc]
def rgB (last:W32) (L:List KY):List B8:=be4 last++eEb L
theorem eFp (last:W32) (L:List KY):(rgB last L).length=4+27*L.length:=by rw[rgB,List.length_append,eDv];rfl
theorem eHa (last:W32) (L:List KY) (k:Nat) (h:k<L.length):rgB last (L.take (k+1))=rgB last (L.take k)++be4 (kyA L k).id++[BitVec.ofInt 8 (kyA L k).role,BitVec.ofInt 8 (kyA L k).st]++(kyA L k).seed.l++[BitVec.ofInt 8 ((kyA L k).h:Int)]++be4 (kyA L k).next++be4 (kyA L k).since++be4 (kyA L k).seen:=by
 have:L.take (k+1)=L.take k++[kyA L k]:=by rw[List.take_add_one,List.getElem?_eq_getElem h,kJ L k h];rfl
 rw[this,rgB,eFv,eEb,eEb,List.append_nil,rcB,rgB]
 simp only[List.append_assoc]
theorem eGm (v:W32):(be4 v).length=4:=rfl
theorem eKa (X:KY):(kyC X).head? =some (.w32 X.id):=rfl
theorem eJz (X:KY):(List.drop 1 (kyC X)).head? =some (.i X.role):=rfl
theorem eJy (X:KY):(List.drop 2 (kyC X)).head? =some (.i X.st):=rfl
theorem eJx (X:KY):List.take 8 (List.drop 3 (kyC X))=c8 X.seed.l:=rfl
theorem eIx (X:KY):(List.drop 11 (kyC X)).head? =some (.i (X.h:Int)):=rfl
theorem eFm (X:KY):(List.drop 12 (kyC X)).head? =some (.w32 X.next):=rfl
theorem eIw (X:KY):(List.drop 13 (kyC X)).head? =some (.w32 X.since):=rfl
theorem eIv (X:KY):(List.drop 14 (kyC X)).head? =some (.w32 X.seen):=rfl
theorem eGi (X:KY):dV [.w32 0#32,.i 0,.i 0,.w8 0#8,.w8 0#8,.w8 0#8,.w8 0#8,.w8 0#8,.w8 0#8,.w8 0#8,.w8 0#8,.i 0,.w32 0#32,.w32 0#32,.w32 0#32] 0 (kyC X)=kyC X:=rfl
noncomputable def eHb:List AV→H→Nat→Option (AV×H×Nat)
 |[.op d 0],hp,nx=>aK (iN hp d) fun t=>aN (t.C.by'.length≤100) (some (.sl (4+27*t.C.by'.length) (c8 (rgB t.C.last (iP t.C))),hp,nx+500+400*t.C.by'.length))
 |_,_,_=>none
theorem eHr (d:Nat) (hp:H) (nx:Nat):eHb [.op d 0] hp nx=aK (iN hp d) fun t=>aN (t.C.by'.length≤100) (some (.sl (4+27*t.C.by'.length) (c8 (rgB t.C.last (iP t.C))),hp,nx+500+400*t.C.by'.length)):=(rfl)
attribute [go_sem] eHr
set_option maxHeartbeats 4000000 in
theorem eJa:cQ Tryd.prog GLh 25 eHb:=by
 refine gF Tryd.func25 (aT rfl) ?_
 intro args hp nx r hp' nx' hg
 unfold eHb at hg
 split at hg
 ·rename_i d
  replace hg:=aJ hg;obtain⟨⟨s,m,C⟩,hD0,hg⟩:=hg
  have hD:=iV hD0
  replace hg:=aP hg;obtain⟨hlen,hg⟩:=hg
  simp only[Option.some.injEq,Prod.mk.injEq]at hg hD hlen hD0;obtain⟨rfl,rfl,rfl⟩:=hg
  refine⟨J1 rfl,by omega,fun hnone=>?_⟩
  have h1:=hD.hd
  have hlt: ∀k o,hp k=some o→k<nx:=fun k o hk=>lI hnone hk
  have hd:=hlt _ _ h1
  have hs:=hlt _ _ hD.hs
  have hm:=hlt _ _ hD.hm
  have y1:((rgC s m C).drop 14).head? =some (.w32 C.last):=rfl
  have hal:=qL C
  have hru: ∀(j:Nat) (o:AO),nx≤j→iN (upd hp j o) d=some ⟨s,m,C⟩:=fun j o hj=>by rw[aIn hD j o (by omega) (by omega) (by omega)]
  have hb4:(be4 C.last).length=4:=rfl
  obtain⟨N,hN⟩: ∃N,C.by'.length=N:=⟨_,rfl⟩
  have hle:N≤1000:=by omega
  rw[hN]at hlen hal⊢
  refine aA rfl (aW [0] rfl rfl rfl fun K hK=>?_)
  simp(disch:=omega) only[Tryd.f25,go_sem,↓reduceIte]
  refine hK _ ?_
  refine aB (aA rfl (aC (Γ:=bC [(43,.heap eEw)]) [0,3] (aH eGj aO) rfl rfl rfl (fun K hK=>?_)))
  simp(disch:=omega) only[Tryd.f25,go_sem,↓reduceIte,h1,y1]
  refine hK _ ?_
  refine aB (aA rfl (aA rfl (aC (Γ:=bC [(15,.heap rU)]) [3,12,13,14] (aH pA aO) rfl rfl rfl (fun K hK=>?_))))
  simp(disch:=omega) only[Tryd.f25,go_sem,↓reduceIte,hru,hN,hle]
  refine hK _ ?_
  refine aB (aR 0 rfl rfl ?_)
  refine bR (fun p:KIC=> {fr:=[(3,.os p.id 0 (4+27*p.k) 1 true),(12,.sl N (jQ (iP C))),(13,.i N),(14,.i p.k)],hp:=upd hp p.id (.cells (c8 (rgB C.last ((iP C).take p.k))) true),nx:=0,cx:=p.c}) (fun p=>p.k≤N∧nx<p.id∧p.id<p.c∧p.c≤nx+400+100*N+200*p.k) (fun p=>N-p.k) rfl ⟨⟨0,_,_⟩,⟨Nat.zero_le _,by simp only;omega,by simp only;omega,by simp only;omega⟩,bD rfl rfl (U3 _)⟩ ?_
  rintro⟨k,id,c⟩ ⟨hk,hid1,hid2,hcc⟩ n0
  simp only at hk hid1 hid2 hcc⊢
  refine aA rfl (aW [15,3,12,13,14] rfl rfl rfl fun K hK=>?_)
  simp(disch:=omega) only[Tryd.f25,go_sem,↓reduceIte]
  refine hK _ ?_
  refine aB (aA rfl (gP (.tmp 15) rfl rfl rfl (fun h=>?_) (fun h=>?_)))
  ·refine aI rfl ?_
   have hkN:k<N:=by omega
   have hkl:=iJ (iP C)
   have hrow:=lC (iP C) k (by omega)
   have hd15:15≤(List.drop (15*k) (jQ (iP C))).length:=by rw[List.length_drop];omega
   have hnext:=eHa C.last (iP C) k (by omega)
   have hgl:=eFp C.last ((iP C).take k)
   have htl:((iP C).take k).length=k:=by rw[List.length_take];omega
   rw[htl]at hgl
   have e15:k*15=15*k:=by omega
   obtain⟨T,hT⟩: ∃T,rgB C.last ((iP C).take k)=T:=⟨_,rfl⟩
   rw[hT]at hnext hgl⊢
   generalize kyA (iP C) k=X at hrow hnext
   refine aQ rfl (aB (aA rfl (aR 1 rfl rfl (aA rfl (aW [3,5,12,13,14] rfl rfl rfl fun K hK=>?_)))))
   simp(disch:=omega) only[Tryd.f25,go_sem,↓reduceIte,hrow,hd15,e15,eGi]
   refine hK _ ?_
   refine aB (lW 5 (c+1+2) 0 rfl (by simp only[aV,if_true];rfl) ?_)
   refine aA rfl (aKy (Γ:=bC [(43,.heap eEw)]) 3 10 [0,1,2,3,4,5,6,7,8,9,10,11,12] [4,5,6,7,8,9,10,0,1,2,3,11,12] (fun k=>if k=2 then 1 else if k=5 then 1 else if k=8 then 1 else if k=3 then 0 else 2) [3,5,12,13,14] bZ (aH eGj aO) (by decide) rfl rfl rfl (by kernel_rfl) (fun K hK=>?_) (fun K hK=>?_))
   ·simp(disch:=omega) only[Tryd.f25,go_sem,nJ,lY,eDt,List.getElem?_cons_zero,List.getElem?_cons_succ,↓reduceIte,iA,hgl,eKa,eJz,eJy,eGm,U0,U1,J9]
    refine hK _ ?_
    refine aB ?_
    obtain⟨T1,hT1⟩: ∃T1,T++be4 X.id++[BitVec.ofInt 8 X.role,BitVec.ofInt 8 X.st]=T1:=⟨_,rfl⟩
    have hl1:T1.length=4+27*k+4+2:=by rw[←hT1,List.length_append,List.length_append,hgl];rfl
    rw[hT1]at hnext⊢
    have hsl:=X.seed.len
    have hl2:(T1++X.seed.l).length=4+27*k+4+2+8:=by rw[List.length_append,hl1,hsl]
    refine aA rfl (aYa (Γ:=aL) (fun k=>if k=3 then true else if k=7 then true else false) [(3,7)] (fun k=>if k=5 then 1 else 2) [3,5,12,13,14] bZ (aD _ _) rfl rfl rfl (by kernel_rfl) (fun K hK=>?_))
    simp(maxSteps:=400000) (disch:=omega) only[Tryd.f25,go_sem,and_self,and_true,true_and,ne_eq,not_false_eq_true,↓reduceIte,eJx,eIx,hl1,hl2,hsl,wS,cK,List.nil_append,List.cons_append,U0,U1,J7,J9]
    refine hK _ ?_
    refine aB ?_
    obtain⟨T3,hT3⟩: ∃T3,T1++X.seed.l++[BitVec.ofInt 8 (X.h:Int)]=T3:=⟨_,rfl⟩
    have hl3:T3.length=4+27*k+4+2+8+1:=by rw[←hT3,List.length_append,hl2];rfl
    rw[hT3]at hnext⊢
    have hl4:(T3++be4 X.next).length=4+27*k+4+2+8+1+4:=by rw[List.length_append,hl3];rfl
    have hl5:(T3++be4 X.next++be4 X.since).length=4+27*k+4+2+8+1+4+4:=by rw[List.length_append,hl4];rfl
    refine bB (Γ:=bC [(43,.heap eEw)]) (fun k=>if k=2 then 1 else if k=5 then 1 else if k=8 then 1 else if k=3 then 0 else if k=6 then 0 else if k=9 then 0 else 2) [3,12,13,14] bZ (aH eGj aO) rfl rfl rfl (by kernel_rfl) (fun K hK=>?_)
    simp(disch:=omega) only[Tryd.f25,go_sem,↓reduceIte,eFm,eIw,eIv,iA,hl3,hl4,hl5]
    refine hK _ ?_
    refine bU (aB ?_)
    rw[←hnext]
    refine aW [3,12,13,14] rfl rfl rfl fun K hK=>?_
    simp(disch:=omega) only[Tryd.f25,go_sem,↓reduceIte]
    refine hK _ ?_
    refine bT ?_
    have e27:4+27*(k+1)=4+27*k+4+2+8+1+4+4+4:=by omega
    refine⟨⟨k+1,c+1+4+13+20+10+11+20+20+14,_⟩,⟨by simp only;omega,by simp only;omega,by simp only;omega,by simp only;omega⟩,by simp only;omega,⟨fun _=> .inr ?_,fun j o h=>?_,U3 _⟩⟩
    ·simp only[Int.natCast_add,Int.natCast_one,e27]
    simp only at h
    refine bS ?_ (fun j o h=>?_) j o h
    ·simp(disch:=omega) only[aV,↓reduceIte,eq_self]
    have:=hlt j o h
    simp(disch:=omega) only[aV,kE,bY,↓reduceIte]
    exact h
   simp(disch:=omega) only[Tryd.f25,go_sem,nJ,lY,eDt,List.getElem?_cons_zero,List.getElem?_cons_succ,↓reduceIte,iA,hgl,eKa,eJz,eJy,eGm,U0,U1,J9]
   refine hK _ ?_
   refine aB ?_
   obtain⟨T1,hT1⟩: ∃T1,T++be4 X.id++[BitVec.ofInt 8 X.role,BitVec.ofInt 8 X.st]=T1:=⟨_,rfl⟩
   have hl1:T1.length=4+27*k+4+2:=by rw[←hT1,List.length_append,List.length_append,hgl];rfl
   rw[hT1]at hnext⊢
   have hsl:=X.seed.len
   have hl2:(T1++X.seed.l).length=4+27*k+4+2+8:=by rw[List.length_append,hl1,hsl]
   refine aA rfl (aYa (Γ:=aL) (fun k=>if k=3 then true else if k=7 then true else false) [(3,7)] (fun k=>if k=5 then 1 else 2) [3,5,12,13,14] bZ (aD _ _) rfl rfl rfl (by kernel_rfl) (fun K hK=>?_))
   simp(maxSteps:=400000) (disch:=omega) only[Tryd.f25,go_sem,and_self,and_true,true_and,ne_eq,not_false_eq_true,↓reduceIte,eJx,eIx,hl1,hl2,hsl,wS,cK,List.nil_append,List.cons_append,U0,U1,J7,J9]
   refine hK _ ?_
   refine aB ?_
   obtain⟨T3,hT3⟩: ∃T3,T1++X.seed.l++[BitVec.ofInt 8 (X.h:Int)]=T3:=⟨_,rfl⟩
   have hl3:T3.length=4+27*k+4+2+8+1:=by rw[←hT3,List.length_append,hl2];rfl
   rw[hT3]at hnext⊢
   have hl4:(T3++be4 X.next).length=4+27*k+4+2+8+1+4:=by rw[List.length_append,hl3];rfl
   have hl5:(T3++be4 X.next++be4 X.since).length=4+27*k+4+2+8+1+4+4:=by rw[List.length_append,hl4];rfl
   refine bB (Γ:=bC [(43,.heap eEw)]) (fun k=>if k=2 then 1 else if k=5 then 1 else if k=8 then 1 else if k=3 then 0 else if k=6 then 0 else if k=9 then 0 else 2) [3,12,13,14] bZ (aH eGj aO) rfl rfl rfl (by kernel_rfl) (fun K hK=>?_)
   simp(disch:=omega) only[Tryd.f25,go_sem,↓reduceIte,eFm,eIw,eIv,iA,hl3,hl4,hl5]
   refine hK _ ?_
   refine bU (aB ?_)
   rw[←hnext]
   refine aW [3,12,13,14] rfl rfl rfl fun K hK=>?_
   simp(disch:=omega) only[Tryd.f25,go_sem,↓reduceIte]
   refine hK _ ?_
   refine bT ?_
   have e27:4+27*(k+1)=4+27*k+4+2+8+1+4+4+4:=by omega
   refine⟨⟨k+1,c+1+4+13+20+10+11+20+20+14,_⟩,⟨by simp only;omega,by simp only;omega,by simp only;omega,by simp only;omega⟩,by simp only;omega,⟨fun _=> .inr ?_,fun j o h=>?_,U3 _⟩⟩
   ·simp only[Int.natCast_add,Int.natCast_one,e27]
   simp only at h
   refine bS ?_ (fun j o h=>?_) j o h
   ·simp(disch:=omega) only[aV,↓reduceIte,eq_self]
   have:=hlt j o h
   simp(disch:=omega) only[aV,kE,bY,↓reduceIte]
   exact h
  refine aI rfl (bF 0 rfl rfl (aY (aZ (bE (aB (aA rfl ?_))))))
  obtain rfl:k=N:=by omega
  rw[List.take_of_length_le (by omega)]
  have hgl:=eFp C.last (iP C)
  refine pS 3 id 0 (4+27*k) 1 rfl (by rw[bJ,J4 rfl]) (by rw[iM,hgl];omega) ?_
  rw[J9,List.take_of_length_le (by rw[iM,hgl];omega)]
  refine aW [2] rfl rfl rfl fun K hK=>?_
  simp(disch:=omega) only[Tryd.f25,go_sem,↓reduceIte]
  refine hK _ ?_
  refine aB (aS rfl ?_)
  refine⟨rfl,fun j o h=>?_,by simp only;omega⟩
  have:=hlt j o h
  simp(disch:=omega) only[aV,bY,↓reduceIte]
  exact h
 cases hg
theorem eJt:bX Tryd.prog GLh 25 (.heap eHb):=⟨⟨_,Tryd.func25,rfl,rfl⟩,eJa⟩
end Go.AX

namespace Go.AX
open Go Go.Proofs
set_option maxRecDepth 8000
structure KG (h:Nat) (k:KY):Prop where
 ro:k.role=0∨k.role=1
 st0:0≤k.st
 st3:k.st≤3
 hq:k.h=h
 n:k.next≤nlv h
 s:k.seen=0#32∨k.role=1∧2≤k.st
theorem eEx {a b:W32} (h:be4 a=be4 b):a=b:=by
 simp only[be4,List.cons.injEq,and_true]at h
 obtain⟨h1,h2,h3,h4⟩:=h
 rw[←eEe a,←eEe b,h1,h2,h3,h4]
theorem eGf {x:Int} (h0:0≤x) (h1:x≤255):((BitVec.ofInt 8 x).toNat:Int)=x:=by
 rw[BitVec.toNat_ofInt];omega
theorem KG.i {h:Nat} (hh:h≤10) {k:KY} (g:KG h k):((BitVec.ofInt 8 k.role).toNat:Int)=k.role∧((BitVec.ofInt 8 k.st).toNat:Int)=k.st∧((BitVec.ofInt 8 (k.h:Int)).toNat:Int)=(k.h:Int):=by
 have h1:=g.st0
 have h2:=g.st3
 have h3:=g.hq
 refine⟨eGf ?_ ?_,eGf (by omega) (by omega),eGf (by omega) (by omega)⟩
 ·rcases g.ro with e|e<;>rw[e]<;>decide
 rcases g.ro with e|e<;>rw[e]<;>decide
theorem eHq {h h':Nat} (hh:h≤10) (hh':h'≤10) {a b:KY} (ga:KG h a) (gb:KG h' b) (e:rcB a=rcB b):a=b:=by
 obtain⟨a1,a2,a3⟩:=ga.i hh
 obtain⟨b1,b2,b3⟩:=gb.i hh'
 obtain⟨i,r,s,d,h1,n,c,w⟩:=a
 obtain⟨i',r',s',d',h1',n',c',w'⟩:=b
 simp only[rcB]at e a1 a2 a3 b1 b2 b3
 obtain⟨e,e7⟩:=List.append_inj' e rfl
 obtain⟨e,e6⟩:=List.append_inj' e rfl
 obtain⟨e,e5⟩:=List.append_inj' e rfl
 obtain⟨e,e4⟩:=List.append_inj' e rfl
 obtain⟨e,e3⟩:=List.append_inj' e rfl
 obtain⟨e1,e2⟩:=List.append_inj' e rfl
 simp only[List.cons.injEq,and_true]at e2 e4
 obtain rfl:=eEx e1
 obtain rfl:=eEx e5
 obtain rfl:=eEx e6
 obtain rfl:=eEx e7
 obtain rfl:=S8.inj e3
 rw[e2.1,b1]at a1
 rw[e2.2,b2]at a2
 rw[e4,b3]at a3
 obtain rfl:=a1
 obtain rfl:=a2
 obtain rfl:=Int.ofNat.inj a3
 rfl
theorem eFu {h h':Nat} (hh:h≤10) (hh':h'≤10): ∀ {L M:List KY},(∀k∈L,KG h k)→(∀k∈M,KG h' k)→eEb L=eEb M→L=M
 |[],[],_,_,_=>rfl
 |[],k::r,_,_,e=>by have:=congrArg List.length e;rw[eDv,eDv]at this;simp at this
 |k::r,[],_,_,e=>by have:=congrArg List.length e;rw[eDv,eDv]at this;simp at this
 |k::r,k'::r',hL,hM,e=>by
  obtain⟨e1,e2⟩:=List.append_inj e rfl
  rw[eHq hh hh' (hL k (by simp)) (hM k' (by simp)) e1,eFu hh hh' (fun x hx=>hL x (by simp[hx])) (fun x hx=>hM x (by simp[hx])) e2]
theorem eHo {h h':Nat} (hh:h≤10) (hh':h'≤10) {l l':W32} {L M:List KY} (hL: ∀k∈L,KG h k) (hM: ∀k∈M,KG h' k) (e:rgB l L=rgB l' M):l=l'∧L=M:=by
 obtain⟨e1,e2⟩:=List.append_inj e rfl
 exact⟨eEx e1,eFu hh hh' hL hM e2⟩
structure RB where
 last:W32
 L:List KY
 h:Nat
open Classical in
noncomputable def rgU (xs:List AV):Option (W32×List KY):=if h: ∃r:RB,xs=c8 (rgB r.last r.L)∧r.h≤10∧∀k∈r.L,KG r.h k then some ((Classical.choose h).last,(Classical.choose h).L)else none
theorem eHn {xs:List AV} {p:W32×List KY} (h:rgU xs=some p):xs=c8 (rgB p.1 p.2):=by
 unfold rgU at h
 split at h
 ·rename_i hx
  rw[←J0 h]
  exact(Classical.choose_spec hx).1
 cases h
theorem eJm {h:Nat} (hh:h≤10) {l:W32} {L:List KY} (hL: ∀k∈L,KG h k):rgU (c8 (rgB l L))=some (l,L):=by
 have hx: ∃r:RB,c8 (rgB l L)=c8 (rgB r.last r.L)∧r.h≤10∧∀k∈r.L,KG r.h k:=⟨⟨l,L,h⟩,rfl,hh,hL⟩
 unfold rgU
 rw[dif_pos hx]
 obtain⟨a,b,c⟩:=Classical.choose_spec hx
 obtain⟨e1,e2⟩:=eHo hh b hL c (aTj a)
 rw[←e1,←e2]
def eDy (L:List KY):List (W32×KY):=L.map fun k=>(k.id,k)
theorem eFs (id:W32): ∀L:List KY,iK id (eDy L)=jS id L
 |[]=>rfl
 |k::r=>by
  show iK id ((k.id,k)::eDy r)=_
  simp only[iK,jS,eFs id r]
structure OG (c:CF) (last:W32) (L:List KY):Prop where
 sl:SL L
 pos: ∀k∈L,0<k.id.toNat∧k.id.toNat≤last.toNat
 good: ∀k∈L,KG c.h k
 ch:c.h≤10
 len:L.length≤16
noncomputable instance (c:CF) (last:W32) (L:List KY):Decidable (OG c last L):=Classical.propDecidable _
def ahd (L:List KY) (k:Nat):W32:=if k=0 then 0#32 else(kyA L (k-1)).id
theorem eEa {L:List KY} {k:Nat} (hk:k<L.length):kyA L k∈L:=by rw[qX hk];exact List.getElem_mem hk
theorem OG.rgt {c:CF} {last:W32} {L:List KY} (g:OG c last L) {k:Nat} (hk:k<L.length) (b:List (W32×KY)):eHk ⟨c,b,last,[]⟩ (kyA L k) (ahd L k):=by
 have hm:=eEa hk
 have hp:=g.pos _ hm
 have hg:=g.good _ hm
 refine⟨?_,BitVec.le_def.2 hp.2,by rcases hg.ro with e|e<;>rw[e]<;>decide,hg.st3,hg.hq,g.ch,hg.n,hg.s⟩
 unfold ahd
 by_cases e:k=0
 ·rw[J4 e];exact BitVec.lt_def.2 hp.1
 rw[J3 e,BitVec.lt_def,qX hk,qX (show k-1<L.length by omega)]
 exact(List.pairwise_iff_getElem.1 g.sl) (k-1) k (by omega) hk (by omega)
theorem OG.rok {c:CF} {last:W32} {L:List KY} (g:OG c last L):ROk ⟨c,eDy L,last,[]⟩:=by
 refine⟨fun id k hk=>?_,fun _ _ h=>(nomatch h),?_,List.nodup_nil⟩
 ·have hk:iK id (eDy L)=some k:=hk
  rw[eFs]at hk
  obtain⟨hm,rfl⟩:=nB hk
  have hg:=g.good _ hm
  have hh:=hg.hq
  have hc:=g.ch
  have hn:=BitVec.le_def.1 hg.n
  rw[aJh hc]at hn
  exact⟨rfl,by omega,by rw[hh];exact hn,(g.pos _ hm).2⟩
 show((eDy L).map (·.1)).Nodup
 have:(eDy L).map (·.1)=L.map (·.id):=by simp[eDy]
 rw[this]
 refine(List.pairwise_map.2 (g.sl.imp (fun {a b} h e=>?_)))
 rw[e]at h
 omega
theorem OG.rm {M:MC} (g:OG M.c M.last M.L):RM ⟨M.c,eDy M.L,M.last,[]⟩ M:=
 ⟨g.rok,aUc g.rok g.sl fun id=>eFs id M.L,rfl,rfl⟩
theorem eIe {h:Nat} (hh:h≤10) {k:KY} (g:KG h k) (R:List B8) (n:Nat) (hn:R.length+27=n):eFh [.sl n (c8 (rcB k++R))]=some (.agg (kyC k)):=by
 obtain⟨a1,a2,a3⟩:=g.i hh
 have e:eFh [.sl n (c8 (rcB k++R))]=aN ((c8 R).length+27=n) (some (.agg [.w32 (gt4 ((k.id>>>24).setWidth 8) ((k.id>>>16).setWidth 8) ((k.id>>>8).setWidth 8) (k.id.setWidth 8)),.i (BitVec.ofInt 8 k.role).toNat,.i (BitVec.ofInt 8 k.st).toNat,.w8 k.seed.a,.w8 k.seed.b,.w8 k.seed.c,.w8 k.seed.d,.w8 k.seed.e,.w8 k.seed.f,.w8 k.seed.g,.w8 k.seed.h,.i (BitVec.ofInt 8 (k.h:Int)).toNat,
   .w32 (gt4 ((k.next>>>24).setWidth 8) ((k.next>>>16).setWidth 8) ((k.next>>>8).setWidth 8) (k.next.setWidth 8)),.w32 (gt4 ((k.since>>>24).setWidth 8) ((k.since>>>16).setWidth 8) ((k.since>>>8).setWidth 8) (k.since.setWidth 8)),.w32 (gt4 ((k.seen>>>24).setWidth 8) ((k.seen>>>16).setWidth 8) ((k.seen>>>8).setWidth 8) (k.seen.setWidth 8))])):=rfl
 rw[e,cU _ (by rw[iM];exact hn),eEe,eEe,eEe,eEe,a1,a2,a3]
 rfl
end Go.AX

namespace Go.AX
open Go Go.Proofs
open Go.MapKept (run_checkKey run_findKey run_keyThatStays stamped_push stamped_modify Stamped)
set_option maxRecDepth 8000
theorem eEu {P:Program} {ops:Array Oper} {Q:Exit→Act→World→Prop} {i:Nat} {K:Act→World→Prop} {a:Act} {w w':World} {o:Oper} {v:Value} (hx:ops[i]? =some o) (hg:o.guard=none)
  (hrun:(execOp a.eval o).run P w=.ok (.value v) w') (hK:K (a.put o.dst v) w'):wpOp P ops Q i K a w:=by
 unfold wpOp
 simp only[hx]
 have hw:Region.wanted o (yielded ops a.tmps)=true:=by simp[Region.wanted,hg]
 rw[J4 hw]
 left
 unfold Oper.wp
 rw[hrun]
 exact hK
theorem eGp {P:Program} {ops:Array Oper} {Q:Exit→Act→World→Prop} {i:Nat} {K:Act→World→Prop} {a:Act} {w w':World} {o:Oper} (hx:ops[i]? =some o) (hg:o.guard=none)
  (hrun:(execOp a.eval o).run P w=.ok .skip w') (hK:K (a.put o.dst undef) w'):wpOp P ops Q i K a w:=by
 unfold wpOp
 simp only[hx]
 have hw:Region.wanted o (yielded ops a.tmps)=true:=by simp[Region.wanted,hg]
 rw[J4 hw]
 left
 unfold Oper.wp
 rw[hrun]
 exact hK
theorem eJj {x:Oper} {L:Array Bool} (h: ∀e∈x.after,Region.binds .any e=true→L.getD e.on false=true) (j:Nat) (hj:(x.after.any fun e=>Region.binds .any e&&e.on==j)=true):L.getD j false=true:=by
 obtain⟨i,hi,h2⟩:=Array.any_eq_true.1 hj
 obtain⟨e,hee⟩: ∃e,x.after[i]=e:=⟨_,rfl⟩
 have he:e∈x.after:=hee▸Array.getElem_mem hi
 rw[hee]at h2
 rw[Bool.and_eq_true,beq_iff_eq]at h2
 have:=h e he h2.1
 rw[h2.2]at this
 exact this
noncomputable def pM:Array Oper:=aM (cr (cr (cl (cl (cr (cl (cl (cr (cl (cr (cr (cr (cr (cr (aE Tryd.f24)))))))))))))))
theorem eGg: ∃id,(cr (cr (cl (cl (cr (cl (cl (cr (cl (cr (cr (cr (cr (cr (aE Tryd.f24)))))))))))))))=.region id pM true:=⟨_,rfl⟩
theorem eEp:pM.size=13:=by kernel_rfl
def eGc (d s:Nat) (X:KY):Nat→AV
 |0=> .op d 0
 |1=> .op d 0
 |2=> .op d 13
 |3=> .mp s
 |4=> .rp (kyC X)
 |5=> .w32 X.id
 |6=> .agg (kyC X)
 |7=> .rp (kyC X)
 |8=> .w32 X.id
 |_=> .junk
structure EJ (c:Ctx) (σ0:Nat→Loc) (I0:Nat→Prop) (w0:World) (σ:Nat→Loc) (I:Nat→Prop) (un:Nat→Prop) (hp:H) (d s m:Nat) (C:RC) (X:KY) (v8:AV) (L:Array Bool) (a:Act) (w:World):Prop where
 df:a.defers=c.df
 sz:a.tmps.size=c.nt
 ls:L.size=13
 gr:iO σ0 I0 w0 σ I w
 fr: ∃fr,(∀t,Rel σ I w (dG fr t) (a.tmps.getD t undef))∧dG fr 6=.op d 0∧dG fr 8=v8∧dG fr 9=.rp (kyC X)∧(∀k,k≤8→L.getD k false=true→dG fr (48+k)=eGc d s X k)∧(L.getD 12 false=true→dG fr 7=.w32 X.id)
 st:(L.getD 9 false=false∧L.getD 10 false=false∧L.getD 11 false=false∧Inv c σ I w (setR d s m C hp) un)∨
  (L.getD 9 false=true∧L.getD 11 false=false∧∃(z v0:_) (blk:Nat) (ents:Array MapEntry) (cl st:Nat),Inv c σ I w (upd (setR d s m C hp) s (.mapo (eDs C.by'++[(.w32 X.id,z)]) true)) un∧σ s=.at_ blk 0 0∧w.heap[blk]? =some (.map ents cl)∧(∃e,ents[(eDs C.by').length]? =some e∧e.born=st)∧a.tmps.getD 57 undef=.tuple #[v0,goInt st]∧(L.getD 10 false=true→a.tmps.getD 58 undef=goInt st))∨
  (L.getD 9 false=true∧L.getD 10 false=true∧L.getD 11 false=true∧Inv c σ I w (setR d s m {C with by':=C.by'++[(X.id,X)]} hp) un)
theorem dZo {L:Array Bool} (hs:L.size=13) {i:Nat} (hi:i<13) (k:Nat) (b:Bool):(L.setIfInBounds i true).getD k b=if i=k then true else L.getD k b:=by
 by_cases e:i=k
 ·subst e
  rw[J4 rfl,Array.getD_eq_getD_getElem?,Array.getElem?_setIfInBounds_self_of_lt (by omega)];rfl
 rw[J3 e,getD_set_ne _ e]
section
variable {c : Ctx} {σ0 : Nat → Loc} {I0 : Nat → Prop} {w0 : World} {σ : Nat → Loc} {I : Nat → Prop} {un : Nat → Prop} {hp : H} {d s m : Nat} {C : RC} {X : KY} {v8 : AV} {L : Array Bool} {a : Act} {w : World}
theorem lt59 {i n:Nat} (hi:i≤8) (hn:59≤n):48+i<n:=by omega
theorem EJ.put (h:EJ c σ0 I0 w0 σ I un hp d s m C X v8 L a w) (hnt:59≤c.nt) {i:Nat} (hi:i≤8) {v:Value} (hv:Rel σ I w (eGc d s X i) v):EJ c σ0 I0 w0 σ I un hp d s m C X v8 (L.setIfInBounds i true) (a.put (some (48+i)) v) w:=by
 obtain⟨fr,f1,f2,f3,f4,f5,f6⟩:=h.fr
 have hls:=h.ls
 have htm: ∀t,t≠48+i→(a.put (some (48+i)) v).tmps.getD t undef=a.tmps.getD t undef:=fun t ht=>by
  simp[Act.put,Array.getD_eq_getD_getElem?,Array.getElem?_setIfInBounds_ne (Ne.symm ht)]
 refine⟨by rw[aDg];exact h.df,by rw[pX];exact h.sz,by simpa using hls,h.gr,⟨fA (some (48+i)) (eGc d s X i) fr,vT h.sz (fun q hq=>by have h1:(48+i:Nat)=q:=J0 hq;exact h1▸lt59 hi hnt) (fun _=>hv) f1,?_,?_,?_,fun k hk hl=>?_,fun hl=>?_⟩,?_⟩
 ·rw[sI,J3 (fun e=>by have h1:(48+i:Nat)=6:=J0 e;omega)];exact f2
 ·rw[sI,J3 (fun e=>by have h1:(48+i:Nat)=8:=J0 e;omega)];exact f3
 ·rw[sI,J3 (fun e=>by have h1:(48+i:Nat)=9:=J0 e;omega)];exact f4
 ·rw[sI]
  by_cases e:i=k
  ·subst e;rw[J4 rfl]
  rw[J3 (fun e2=>by have h1:(48+i:Nat)=48+k:=J0 e2;omega)]
  rw[dZo hls (by omega),J3 e]at hl
  exact f5 k hk hl
 ·rw[sI,J3 (fun e=>by have h1:(48+i:Nat)=7:=J0 e;omega)]
  rw[dZo hls (by omega),J3 (by omega)]at hl
  exact f6 hl
 rw[dZo hls (by omega),dZo hls (by omega),dZo hls (by omega),J3 (by omega),J3 (by omega),J3 (by omega),htm 57 (by omega),htm 58 (by omega)]
 exact h.st
theorem eHj (i:Nat) (hi:i<13): ∃o,pM[i]? =some o∧o.guard=none∧∀e∈o.after,Region.binds .any e=true→e.on<i:=by
 have h:((List.range 13).all fun i=>match pM[i]? with
  |some o=>o.guard.isNone&&o.after.all fun e=> !Region.binds .any e||decide (e.on<i)
  |none=>false)=true:=by kernel_rfl
 have:=List.all_eq_true.1 h i (List.mem_range.2 hi)
 cases ho:pM[i]? with
 |none=>rw[ho]at this;cases this
 |some o=>
  rw[ho]at this
  simp only[Bool.and_eq_true]at this
  refine⟨o,rfl,by simpa using this.1,fun e he hb=>?_⟩
  have:=Array.all_eq_true_iff_forall_mem.1 this.2 e he
  simpa [hb]using this
theorem eEd {i:Nat} {o:Oper} {x:Op} (ho:pM[i]? =some o) (h:(pM[i]?).map (·.op)=some x):o.op=x:=by
 rw[ho]at h;exact J0 h
theorem eFi {i:Nat} {o:Oper} {x:Option Tmp} (ho:pM[i]? =some o) (h:(pM[i]?).map (·.dst)=some x):o.dst=x:=by
 rw[ho]at h;exact J0 h
theorem dp {i k:Nat} {o:Oper} (ho:pM[i]? =some o) (h:((pM[i]?).map fun o=>o.after.any fun e=>Region.binds .any e&&e.on==k)=some true):(o.after.any fun e=>Region.binds .any e&&e.on==k)=true:=by
 rw[ho]at h;exact J0 h
theorem EJ.inv (h:EJ c σ0 I0 w0 σ I un hp d s m C X v8 L a w) (n1:d≠s): ∃hp',Inv c σ I w hp' un∧hp' d=some (.cells (rgC s m C) true):=by
 rcases h.st with⟨_,_,_,hi⟩|⟨_,_,z,v0,blk,ents,cl,st,hi,_⟩|⟨_,_,_,hi⟩
 ·exact⟨_,hi,bGy _ _ _ _ _⟩
 ·exact⟨_,hi,by rw[bJ,J3 n1,bGy]⟩
 exact⟨_,hi,bGy _ _ _ _ _⟩
theorem eJe {i:Nat} {o:Oper} (hi:i≤8) (ho:pM[i]? =some o) {GL:Nat→Option (List AV)} {fr:List (Nat×AV)} {hp':H} (hd:hp' d=some (.cells (rgC s m C) true)) (f2:dG fr 6=.op d 0) (f4:dG fr 9=.rp (kyC X))
  (f5: ∀k,(o.after.any fun e=>Region.binds .any e&&e.on==k)=true→k≤8→dG fr (48+k)=eGc d s X k):dI Tryd.prog o.op (ev GL fr)=some (eGc d s X i)∨lA Tryd.prog o.op (ev GL fr) hp'=some (eGc d s X i):=by
 have hev: ∀t,ev GL fr (.tmp t)=dG fr t:=fun _=>rfl
 rcases(by omega:i=0∨i=1∨i=2∨i=3∨i=4∨i=5∨i=6∨i=7∨i=8)with rfl|rfl|rfl|rfl|rfl|rfl|rfl|rfl|rfl
 ·left;rw[eEd (x:=.move (.tmp 6)) ho (by kernel_rfl)];show some (dG fr 6)=_;rw[f2];rfl
 ·left;rw[eEd (x:=.nilCheck (.tmp 48)) ho (by kernel_rfl)]
  have h0:=f5 0 (dp ho (by kernel_rfl)) (by omega)
  unfold dI
  simp only[hev]
  rw[show dG fr 48=AV.op d 0 from h0];rfl
 ·left;rw[eEd (x:=.fieldAddr 76 (.tmp 49) 1) ho (by kernel_rfl)]
  have h0:=f5 1 (dp ho (by kernel_rfl)) (by omega)
  unfold dI
  simp only[hev,Tryd.underlying76]
  rw[show dG fr 49=AV.op d 0 from h0]
  simp only[List.getElem?_toArray,List.getElem?_cons_zero,List.getElem?_cons_succ,aX,sz73]
  rfl
 ·right;rw[eEd (x:=.load 73 (.tmp 50)) ho (by kernel_rfl)]
  have h0:=f5 2 (dp ho (by kernel_rfl)) (by omega)
  unfold lA
  simp only[hev]
  rw[show dG fr 50=AV.op d 13 from h0]
  simp only[hd,aX]
  unfold ldV
  rw[ag73];rfl
 ·left;rw[eEd (x:=.fieldAddr 49 (.tmp 9) 0) ho (by kernel_rfl)]
  unfold dI
  simp only[hev,Tryd.underlying49]
  rw[f4]
  simp only[List.getElem?_toArray,List.getElem?_cons_zero,aX,sz29]
  rfl
 ·right;rw[eEd (x:=.load 29 (.tmp 52)) ho (by kernel_rfl)]
  have h0:=f5 4 (dp ho (by kernel_rfl)) (by omega)
  unfold lA
  simp only[hev]
  rw[show dG fr 52=AV.rp (kyC X)from h0]
  show ldV Tryd.prog 29 _=_
  unfold ldV
  rw[ag29];rfl
 ·right;rw[eEd (x:=.load 49 (.tmp 9)) ho (by kernel_rfl)]
  unfold lA
  simp only[hev]
  rw[f4]
  show ldV Tryd.prog 49 _=_
  unfold ldV
  rw[ag49,sz49];rfl
 ·left;rw[eEd (x:=.fieldAddr 49 (.tmp 9) 0) ho (by kernel_rfl)]
  unfold dI
  simp only[hev,Tryd.underlying49]
  rw[f4]
  simp only[List.getElem?_toArray,List.getElem?_cons_zero,aX,sz29]
  rfl
 ·right;rw[eEd (x:=.load 29 (.tmp 55)) ho (by kernel_rfl)]
  have h0:=f5 7 (dp ho (by kernel_rfl)) (by omega)
  unfold lA
  simp only[hev]
  rw[show dG fr 55=AV.rp (kyC X)from h0]
  show ldV Tryd.prog 29 _=_
  unfold ldV
  rw[ag29];rfl
def zK:AV:=.agg [.w32 0#32,.i 0,.i 0,.w8 0#8,.w8 0#8,.w8 0#8,.w8 0#8,.w8 0#8,.w8 0#8,.w8 0#8,.w8 0#8,.i 0,.w32 0#32,.w32 0#32,.w32 0#32]
theorem EJ.frame (h:EJ c σ0 I0 w0 σ I un hp d s m C X v8 L a w) (hnt:59≤c.nt) {w':World} (hg:iO σ I w σ I w') {i q:Nat} (hi:9≤i∧i<12) (hq:57≤q∧q≤58) (v:Value):
  ∃fr,(∀t,Rel σ I w' (dG fr t) ((a.put (some q) v).tmps.getD t undef))∧dG fr 6=.op d 0∧dG fr 8=v8∧dG fr 9=.rp (kyC X)∧(∀k,k≤8→(L.setIfInBounds i true).getD k false=true→dG fr (48+k)=eGc d s X k)∧((L.setIfInBounds i true).getD 12 false=true→dG fr 7=.w32 X.id):=by
 obtain⟨fr,f1,f2,f3,f4,f5,f6⟩:=h.fr
 have hls:=h.ls
 have hne: ∀t:Nat,t<57→¬(some q:Option Tmp)=some t:=fun t ht e=>by have h1:(q:Nat)=t:=J0 e;omega
 have hqn:q<c.nt:=by omega
 refine⟨fA (some q) .junk fr,vT h.sz (fun q' hq'=>J0 hq'▸hqn) (fun _=> .junk _) (fun t=>(f1 t).grow hg),?_,?_,?_,fun k hk hl=>?_,fun hl=>?_⟩
 ·rw[sI,J3 (hne 6 (by omega))];exact f2
 ·rw[sI,J3 (hne 8 (by omega))];exact f3
 ·rw[sI,J3 (hne 9 (by omega))];exact f4
 ·rw[sI,J3 (hne (48+k) (by omega))]
  rw[dZo hls (by omega),J3 (by omega)]at hl
  exact f5 k hk hl
 ·rw[sI,J3 (hne 7 (by omega))]
  rw[dZo hls (by omega),J3 (by omega)]at hl
  exact f6 hl
theorem eHc {q:Nat} (v:Value) (hq:q<a.tmps.size):(a.put (some q) v).tmps.getD q undef=v:=by
 simp[Act.put,Array.getD_eq_getD_getElem?,hq]
theorem eJb {q t:Nat} (v:Value) (hq:q≠t):(a.put (some q) v).tmps.getD t undef=a.tmps.getD t undef:=by
 simp[Act.put,Array.getD_eq_getD_getElem?,Array.getElem?_setIfInBounds_ne hq]
theorem eKc (h:EJ c σ0 I0 w0 σ I un hp d s m C X v8 L a w) (hnt:59≤c.nt) (n1:d≠s) (n3:s≠m) {o:Oper} (ho:pM[9]? =some o) (hg:o.guard=none) (hl:L.getD 9 false=false) (l3:L.getD 3 false=true) (l5:L.getD 5 false=true) (hmid:aNn (.w32 X.id) (eDs C.by')=some none)
  {Q:Exit→Act→World→Prop} {K:Act→World→Prop} (hK: ∀a' w',EJ c σ0 I0 w0 σ I un hp d s m C X v8 (L.setIfInBounds 9 true) a' w'→K a' w'):wpOp Tryd.prog pM Q 9 K a w:=by
 have hls:=h.ls
 rcases h.st with⟨_,b10,b11,hi⟩|⟨b9,_⟩|⟨b9,_⟩
 rotate_left
 ·rw[hl]at b9;cases b9
 ·rw[hl]at b9;cases b9
 obtain⟨fr,f1,f2,f3,f4,f5,f6⟩:=h.fr
 have hos:setR d s m C hp s=some (.mapo (eDs C.by') true):=bGw _ _ _ _ _ (Ne.symm n1) n3
 obtain⟨blk,b1,⟨⟨ents,cl,q1,q2,q3,q4⟩⟩,_⟩:=hi.own s _ hos
 have r51:=f1 51
 rw[show dG fr 51=AV.mp s from f5 3 (by omega) l3]at r51
 have e51:=aWp r51 b1
 have r53:=f1 53
 rw[show dG fr 53=AV.w32 X.id from f5 5 (by omega) l5]at r53
 obtain⟨key,hkey⟩: ∃key,a.tmps.getD 53 undef=key:=⟨_,rfl⟩
 rw[hkey]at r53
 have hkd:oP (.int .u32) (.w32 X.id)=true:=rfl
 have hik:=oO hkd r53
 rcases eDz hkd r53 (eDs C.by') ents.toList 0 none (by simpa using q2) (fun j hj=>by rw[pF];exact(q4 j hj).2.1) hmid with⟨_,g1,g2⟩|⟨j,e,hc,_⟩
 rotate_left
 ·cases hc
 obtain⟨zv,hz,hzr⟩:=cGf (P:=Tryd.prog) (t:=49) (z:=zK) zv49 w
 obtain⟨n5,n6⟩:=aBf hi (es':=eDs C.by'++[(.w32 X.id,zK)]) (ents':=ents.push {key:=key,val:=zv,born:=cl}) (cl':=cl+1) hos b1 q1 (by simp[q2]) (stamped_push q3 g2) (fun i hi=>by
   by_cases hlt:i<(eDs C.by').length
   ·have e1:(ents.push {key:=key,val:=zv,born:=cl}).getD i default=ents.getD i default:=by
     rw[Array.getD_eq_getD_getElem?,Array.getD_eq_getD_getElem?,Array.getElem?_push,J3 (by omega)]
    rw[List.getElem_append_left hlt,e1];exact q4 i hlt
   ·have hi':i=(eDs C.by').length:=by have hi2:i<(eDs C.by').length+1:=by {rw[List.length_append]at hi;exact hi};omega
    subst hi'
    have e1:(ents.push {key:=key,val:=zv,born:=cl}).getD (eDs C.by').length default= {key:=key,val:=zv,born:=cl}:=by
     rw[Array.getD_eq_getD_getElem?,Array.getElem?_push,J4 q2.symm];rfl
    rw[e1]
    simp only[List.getElem_concat_length]
    exact⟨aCs hkd,r53,hzr σ I w⟩)
 have hop:=eEd (x:=.mapEntry 73 (.tmp 51) (.tmp 53)) ho (by kernel_rfl)
 have hdst:=eFi (x:=some 57) ho (by kernel_rfl)
 refine eEu ho hg (v:=.tuple #[zv,goInt cl]) (w':= {w with heap:=w.heap.setIfInBounds blk (.map (ents.push {key:=key,val:=zv,born:=cl}) (cl+1))}) ?_ ?_
 ·obtain⟨dst,op,type,pos,after,guard⟩:=o
  simp only at hop
  subst hop
  refine dVz ?_
  show(Instr.mapEntry 73 (a.tmps.getD 51 undef) (a.tmps.getD 53 undef)).run Tryd.prog w=_
  rw[e51,hkey]
  simp[Instr.mapEntry,run_underlying Tryd.underlying73,Go.MapKept.run_getObj_map q1,run_checkKey Tryd.underlying29 hik,run_findKey Tryd.underlying29 g1,hz,Go.MapKept.run_setObj_map _ q1,Result.andThen]
 ·rw[hdst]
  refine hK _ _ ⟨by rw[aDg];exact h.df,by rw[pX];exact h.sz,by simpa using hls,h.gr.trans n6,h.frame hnt n6 ⟨by omega,by omega⟩ ⟨by omega,by omega⟩ _,.inr (.inl ⟨?_,?_,zK,zv,blk,ents.push {key:=key,val:=zv,born:=cl},cl+1,cl,n5,b1,?_,⟨⟨key,zv,cl⟩,?_,rfl⟩,?_,fun hx=>?_⟩)⟩
  ·rw[dZo hls (by omega),J4 rfl]
  ·rw[dZo hls (by omega),J3 (by omega)];exact b11
  ·exact(Go.MapKept.heap_set (o':=.map _ _) q1).1
  ·rw[Array.getElem?_push,J4 q2.symm]
  ·exact eHc _ (by rw[h.sz];omega)
  ·rw[dZo hls (by omega),J3 (by omega),b10]at hx;cases hx
theorem eJi (h:EJ c σ0 I0 w0 σ I un hp d s m C X v8 L a w) (hnt:59≤c.nt) {o:Oper} (ho:pM[10]? =some o) (hg:o.guard=none) (hl:L.getD 10 false=false) (l9:L.getD 9 false=true)
  {Q:Exit→Act→World→Prop} {K:Act→World→Prop} (hK: ∀a' w',EJ c σ0 I0 w0 σ I un hp d s m C X v8 (L.setIfInBounds 10 true) a' w'→K a' w'):wpOp Tryd.prog pM Q 10 K a w:=by
 have hls:=h.ls
 rcases h.st with⟨b9,_⟩|⟨b9,b11,z,v0,blk,ents,cl,st,hi,b1,q1,he,e57,e58⟩|⟨_,b10,_⟩
 ·rw[l9]at b9;cases b9
 rotate_left
 ·rw[hl]at b10;cases b10
 have hop:=eEd (x:=.extract (.tmp 57) 1) ho (by kernel_rfl)
 have hdst:=eFi (x:=some 58) ho (by kernel_rfl)
 refine eEu ho hg (v:=goInt st) (w':=w) ?_ ?_
 ·obtain⟨dst,op,type,pos,after,guard⟩:=o
  simp only at hop
  subst hop
  refine dVz ?_
  show(Instr.extract (a.tmps.getD 57 undef) 1).run Tryd.prog w=_
  rw[e57]
  simp[Instr.extract]
 ·rw[hdst]
  refine hK _ _ ⟨by rw[aDg];exact h.df,by rw[pX];exact h.sz,by simpa using hls,h.gr,h.frame hnt (iO.refl _ _ _) ⟨by omega,by omega⟩ ⟨by omega,by omega⟩ _,.inr (.inl ⟨?_,?_,z,v0,blk,ents,cl,st,hi,b1,q1,he,?_,fun hx=>?_⟩)⟩
  ·rw[dZo hls (by omega),J3 (by omega)];exact b9
  ·rw[dZo hls (by omega),J3 (by omega)];exact b11
  ·rw[eJb _ (by omega)];exact e57
  ·exact eHc _ (by rw[h.sz];omega)
theorem eJh (h:EJ c σ0 I0 w0 σ I un hp d s m C X v8 L a w) (n1:d≠s) (n3:s≠m) {o:Oper} (ho:pM[11]? =some o) (hg:o.guard=none) (hl:L.getD 11 false=false) (l3:L.getD 3 false=true) (l6:L.getD 6 false=true) (l9:L.getD 9 false=true) (l10:L.getD 10 false=true)
  {Q:Exit→Act→World→Prop} {K:Act→World→Prop} (hK: ∀a' w',EJ c σ0 I0 w0 σ I un hp d s m C X v8 (L.setIfInBounds 11 true) a' w'→K a' w'):wpOp Tryd.prog pM Q 11 K a w:=by
 have hls:=h.ls
 rcases h.st with⟨b9,_⟩|⟨b9,b11,z,v0,blk,ents,cl,st,hi,b1,q1,⟨e,he1,he2⟩,e57,e58⟩|⟨_,_,b11,_⟩
 ·rw[l9]at b9;cases b9
 rotate_left
 ·rw[hl]at b11;cases b11
 obtain⟨fr,f1,f2,f3,f4,f5,f6⟩:=h.fr
 have hos:upd (setR d s m C hp) s (.mapo (eDs C.by'++[(.w32 X.id,z)]) true) s=some (.mapo (eDs C.by'++[(.w32 X.id,z)]) true):=by rw[bJ,J4 rfl]
 obtain⟨blk',b1',⟨⟨ents',cl',q1',q2,q3,q4⟩⟩,_⟩:=hi.own s _ hos
 rw[b1]at b1'
 obtain⟨rfl,_⟩:=Loc.at_.inj b1'
 rw[q1]at q1'
 obtain⟨rfl,rfl⟩:=Obj.map.inj (J0 q1')
 have r51:=f1 51
 rw[show dG fr 51=AV.mp s from f5 3 (by omega) l3]at r51
 have e51:=aWp r51 b1
 have r54:=f1 54
 rw[show dG fr 54=AV.agg (kyC X)from f5 6 (by omega) l6]at r54
 obtain⟨vx,hvx⟩: ∃vx,a.tmps.getD 54 undef=vx:=⟨_,rfl⟩
 rw[hvx]at r54
 obtain⟨n,hn⟩: ∃n,(eDs C.by').length=n:=⟨_,rfl⟩
 rw[hn]at he1
 rw[List.length_append,hn]at q2
 have hq2:ents.size=n+1:=q2
 have hidx:ents.findIdx? (fun e=>((e.born:Nat):Int)==((st:Nat):Int))=some n:=by
  rw[Go.WideElems.findIdx_arr,←he2]
  exact Go.WideElems.findIdx_born q3.2.1 (by simpa using he1)
 obtain⟨n5,n6⟩:=aBf hi (es':=eDs C.by'++[(.w32 X.id,.agg (kyC X))]) (ents':=ents.modify n fun e=> {e with val:=vx}) (cl':=cl) hos b1 q1 (by rw[Array.size_modify,List.length_append,hn];exact hq2) (stamped_modify q3 _ _ (fun _ _=>rfl) (fun _ _ _=>rfl)) (fun i hi2=>by
   have hi3:i<n+1:=by {rw[List.length_append,hn]at hi2;exact hi2}
   have hi4:i<(eDs C.by'++[(AV.w32 X.id,z)]).length:=by rw[List.length_append,hn];exact hi3
   obtain⟨c1,c2,c3⟩:=q4 i hi4
   have e1:(ents.modify n fun e=> {e with val:=vx}).getD i default=if n=i then {(ents.getD i default)with val:=vx} else ents.getD i default:=by
    rw[Array.getD_eq_getD_getElem?,Array.getD_eq_getD_getElem?,Array.getElem?_modify]
    split
    ·rw[Array.getElem?_eq_getElem (by omega)];rfl
    ·rfl
   rw[e1]
   by_cases hlt:i<n
   ·rw[J3 (by omega)]
    rw[List.getElem_append_left (by omega)]at c1 c2 c3⊢
    exact⟨c1,c2,c3⟩
   ·obtain rfl:i=n:=by omega
    rw[J4 rfl]
    rw[List.getElem_append_right (by omega)]at c1 c2⊢
    simp only[hn,Nat.sub_self,List.getElem_cons_zero]at c1 c2⊢
    exact⟨c1,c2,r54⟩)
 have hop:=eEd (x:=.entryStore 73 (.tmp 51) (.tmp 58) (.tmp 54)) ho (by kernel_rfl)
 have hdst:=eFi (x:=none) ho (by kernel_rfl)
 refine eGp ho hg (w':= {w with heap:=w.heap.setIfInBounds blk (.map (ents.modify n fun e=> {e with val:=vx}) cl)}) ?_ ?_
 ·obtain⟨dst,op,type,pos,after,guard⟩:=o
  simp only at hop
  subst hop
  refine cHz ?_
  show(Instr.entryStore 73 (a.tmps.getD 51 undef) (a.tmps.getD 58 undef) (a.tmps.getD 54 undef)).run Tryd.prog w=_
  rw[e51,e58 l10,hvx]
  simp[Instr.entryStore,Go.MapKept.run_getObj_map q1,asInt,asIntOf,goInt,hidx,Go.MapKept.run_setObj_map _ q1,Result.andThen]
 ·rw[hdst]
  refine hK _ _ ⟨h.df,h.sz,by simpa using hls,h.gr.trans n6,⟨fr,fun t=>(f1 t).grow n6,f2,f3,f4,fun k hk hl=>?_,fun hl=>?_⟩,.inr (.inr ⟨?_,?_,?_,?_⟩)⟩
  ·rw[dZo hls (by omega),J3 (by omega)]at hl;exact f5 k hk hl
  ·rw[dZo hls (by omega),J3 (by omega)]at hl;exact f6 hl
  ·rw[dZo hls (by omega),J3 (by omega)];exact l9
  ·rw[dZo hls (by omega),J3 (by omega)];exact l10
  ·rw[dZo hls (by omega),J4 rfl]
  ·rw[lN]at n5
   have e2:eDs C.by'++[(AV.w32 X.id,AV.agg (kyC X))]=eDs (C.by'++[(X.id,X)]):=by simp[eDs,uV]
   rw[e2,aZb hp d s m C _ (Ne.symm n1) n3]at n5
   exact n5
theorem eJg (h:EJ c σ0 I0 w0 σ I un hp d s m C X v8 L a w) (hnt:59≤c.nt) {o:Oper} (ho:pM[12]? =some o) (hg:o.guard=none) (l8:L.getD 8 false=true) (l9:L.getD 9 false=true) (l10:L.getD 10 false=true) (l11:L.getD 11 false=true)
  {Q:Exit→Act→World→Prop} {K:Act→World→Prop} (hK: ∀a' w',EJ c σ0 I0 w0 σ I un hp d s m C X v8 (L.setIfInBounds 12 true) a' w'→K a' w'):wpOp Tryd.prog pM Q 12 K a w:=by
 have hls:=h.ls
 rcases h.st with⟨b9,_⟩|⟨_,b11,_⟩|⟨_,_,_,hi⟩
 ·rw[l9]at b9;cases b9
 ·rw[l11]at b11;cases b11
 obtain⟨fr,f1,f2,f3,f4,f5,f6⟩:=h.fr
 have r56:=f1 56
 rw[show dG fr 56=AV.w32 X.id from f5 8 (by omega) l8]at r56
 have hop:=eEd (x:=.assign (.tmp 56)) ho (by kernel_rfl)
 have hdst:=eFi (x:=some 7) ho (by kernel_rfl)
 refine eEu ho hg (v:=a.tmps.getD 56 undef) (w':=w) ?_ ?_
 ·obtain⟨dst,op,type,pos,after,guard⟩:=o
  simp only at hop
  subst hop
  rfl
 ·rw[hdst]
  have h7:(7:Nat)<c.nt:=by omega
  refine hK _ _ ⟨by rw[aDg];exact h.df,by rw[pX];exact h.sz,by simpa using hls,h.gr,⟨fA (some 7) (.w32 X.id) fr,vT h.sz (fun q' hq'=>J0 hq'▸h7) (fun _=>r56) f1,?_,?_,?_,fun k hk hl=>?_,fun hl=>?_⟩,.inr (.inr ⟨?_,?_,?_,hi⟩)⟩
  ·rw[sI,J3 (by decide)];exact f2
  ·rw[sI,J3 (by decide)];exact f3
  ·rw[sI,J3 (by decide)];exact f4
  ·rw[sI,J3 (fun e=>by have h1:(7:Nat)=48+k:=J0 e;omega)]
   rw[dZo hls (by omega),J3 (by omega)]at hl
   exact f5 k hk hl
  ·rw[sI,J4 rfl]
  ·rw[dZo hls (by omega),J3 (by omega)];exact l9
  ·rw[dZo hls (by omega),J3 (by omega)];exact l10
  ·rw[dZo hls (by omega),J3 (by omega)];exact l11
theorem eJf (h:EJ c σ0 I0 w0 σ I un hp d s m C X v8 L a w) (hnt:59≤c.nt) (n1:d≠s) {i:Nat} (hi:i≤8) {o:Oper} (ho:pM[i]? =some o) (hg:o.guard=none) (hdp: ∀k,(o.after.any fun e=>Region.binds .any e&&e.on==k)=true→L.getD k false=true)
  {Q:Exit→Act→World→Prop} {K:Act→World→Prop} (hK: ∀a' w',EJ c σ0 I0 w0 σ I un hp d s m C X v8 (L.setIfInBounds i true) a' w'→K a' w'):wpOp Tryd.prog pM Q i K a w:=by
 obtain⟨hp',hinv,hd⟩:=h.inv n1
 obtain⟨fr,f1,f2,f3,f4,f5,f6⟩:=h.fr
 have hρ:=aJt hinv f1
 have hdst:o.dst=some (48+i):=by
  rcases(by omega:i=0∨i=1∨i=2∨i=3∨i=4∨i=5∨i=6∨i=7∨i=8)with rfl|rfl|rfl|rfl|rfl|rfl|rfl|rfl|rfl<;>exact eFi ho (by kernel_rfl)
 have hrun: ∃v,(execOp a.eval o).run Tryd.prog w=.ok (.value v) w∧Rel σ I w (eGc d s X i) v:=by
  rcases eJe hi ho (GL:=c.GL) hd f2 f4 (fun k hk hk8=>f5 k hk8 (hdp k hk))with hx|hx
  ·exact aRm hx hρ
  ·exact aRk hx hρ hinv.own
 obtain⟨v,hr,hv⟩:=hrun
 refine eEu ho hg hr ?_
 rw[hdst]
 exact hK _ _ (h.put hnt hi hv)
theorem eGb (hs:L.size=13) (h:Region.ready .any pM L=[]): ∀i,i<13→L.getD i false=true:=by
 intro i
 induction i using Nat.strongRecOn with
 |_ i ih=>
  intro hi
  cases hl:L.getD i false with
  |true=>rfl
  |false=>
   obtain⟨o,ho,_,hed⟩:=eHj i hi
   have:i∈Region.ready .any pM L:=by
    rw[mem_ready]
    refine⟨?_,o,ho,fun e he hb=>ih e.on (hed e he hb) (by have:=hed e he hb;omega)⟩
    rw[Array.getD_eq_getD_getElem?,Array.getElem?_eq_getElem (by omega)]at hl⊢
    exact hl
   rw[h]at this;cases this
theorem eIl (hnt:59≤c.nt) (n1:d≠s) (n3:s≠m) (hmid:aNn (.w32 X.id) (eDs C.by')=some none) {Q:Exit→Act→World→Prop} (hQ: ∀L a w,(∀k,k<13→L.getD k false=true)→EJ c σ0 I0 w0 σ I un hp d s m C X v8 L a w→Q .normal a w):
  ∀(fuel:Nat) (L:Array Bool) (a:Act) (w:World),(unl 13 L).length≤fuel→EJ c σ0 I0 w0 σ I un hp d s m C X v8 L a w→wpAny Tryd.prog .any pM Q fuel L a w:=by
 intro fuel
 induction fuel with
 |zero=>
  intro L a w hf h
  have h0:unl 13 L=[]:=List.eq_nil_of_length_eq_zero (by omega)
  have hr:Region.ready .any pM L=[]:=by
   refine List.eq_nil_iff_forall_not_mem.2 fun i hi=>?_
   obtain⟨e1,o,ho,_⟩:=mem_ready.1 hi
   have hlt:i<13:=by have:=(Array.getElem?_eq_some_iff.1 ho).1;rw[eEp]at this;exact this
   have:i∈unl 13 L:=List.mem_filter.2 ⟨List.mem_range.2 hlt,by rw[e1];rfl⟩
   rw[h0]at this;cases this
  exact⟨hr,hQ _ _ _ (eGb h.ls hr) h⟩
 |succ fuel ih=>
  intro L a w hf h
  refine⟨fun hr=>hQ _ _ _ (eGb h.ls hr) h,fun i hi=>?_⟩
  obtain⟨e1,x,hx,hall⟩:=mem_ready.1 hi
  have hlt:i<13:=by have:=(Array.getElem?_eq_some_iff.1 hx).1;rw[eEp]at this;exact this
  have hls:=h.ls
  have hl:L.getD i false=false:=by
   rw[Array.getD_eq_getD_getElem?,Array.getElem?_eq_getElem (by omega)]at e1⊢
   exact e1
  have hdp: ∀k,(x.after.any fun e=>Region.binds .any e&&e.on==k)=true→L.getD k false=true:=fun k hk=>eJj hall k hk
  obtain⟨o,ho,hg,_⟩:=eHj i hlt
  rw[hx]at ho
  obtain rfl:=J0 ho
  have hK: ∀a' w',EJ c σ0 I0 w0 σ I un hp d s m C X v8 (L.setIfInBounds i true) a' w'→wpAny Tryd.prog .any pM Q fuel (L.setIfInBounds i true) a' w':=by
   intro a' w' h'
   refine ih _ _ _ ?_ h'
   have hmem:i∈unl 13 L:=List.mem_filter.2 ⟨List.mem_range.2 hlt,by rw[e1];rfl⟩
   have e2:unl 13 (L.setIfInBounds i true)=(unl 13 L).filter (fun k=>k !=i):=by
    unfold unl
    rw[List.filter_filter]
    refine List.filter_congr fun k _=>?_
    rw[dZo hls hlt]
    by_cases e:i=k
    ·subst e;simp
    ·rw[J3 e];simp[Ne.symm e]
   have:((unl 13 L).filter (fun k=>k !=i)).length<(unl 13 L).length:=by
    rw[List.length_filter_lt_length_iff_exists]
    exact⟨i,hmem,by simp⟩
   rw[e2];omega
  rcases(by omega:i≤8∨i=9∨i=10∨i=11∨i=12)with h8|rfl|rfl|rfl|rfl
  ·exact eJf h hnt n1 h8 hx hg hdp hK
  ·exact eKc h hnt n1 n3 hx hg hl (hdp 3 (dp hx (by kernel_rfl))) (hdp 5 (dp hx (by kernel_rfl))) hmid hK
  ·exact eJi h hnt hx hg hl (hdp 9 (dp hx (by kernel_rfl))) hK
  ·exact eJh h n1 n3 hx hg hl (hdp 3 (dp hx (by kernel_rfl))) (hdp 6 (dp hx (by kernel_rfl))) (hdp 9 (dp hx (by kernel_rfl))) (hdp 10 (dp hx (by kernel_rfl))) hK
  ·exact eJg h hnt hx hg (hdp 8 (dp hx (by kernel_rfl))) (hdp 9 (dp hx (by kernel_rfl))) (hdp 10 (dp hx (by kernel_rfl))) (hdp 11 (dp hx (by kernel_rfl))) hK
end
theorem eIi {Q:Exit→S→Prop} {d s m:Nat} {C:RC} {X:KY} {v8:AV} {hp:H} {nx cx:Nat} (n1:d≠s) (n3:s≠m) (hmid:aNn (.w32 X.id) (eDs C.by')=some none)
  (hQ:Q .normal {fr:=[(6,.op d 0),(7,.w32 X.id),(8,v8)],hp:=setR d s m {C with by':=C.by'++[(X.id,X)]} hp,nx:=nx,cx:=cx}):
  Awp Tryd.prog GLh Tryd.f24.ntmps (cr (cr (cl (cl (cr (cl (cl (cr (cl (cr (cr (cr (cr (cr (aE Tryd.f24))))))))))))))) {fr:=[(6,.op d 0),(8,v8),(9,.rp (kyC X))],hp:=setR d s m C hp,nx:=nx,cx:=cx} Q:=by
 intro c g1 g2 σ0 I0 w0 a w hR
 obtain⟨rid,hreg⟩:=eGg
 rw[hreg]
 obtain⟨⟨σ,I,hi,hg,hf⟩,hd,hsz,hlt,hlt0⟩:=hR
 have hnt:59≤c.nt:=by rw[g2];exact J1 rfl
 refine wp_region_any bZ ?_
 rw[eEp]
 refine eIl (σ:=σ) (I:=I) (σ0:=σ0) (I0:=I0) (w0:=w0) (c:=c) (d:=d) (s:=s) (m:=m) (C:=C) (X:=X) (v8:=v8) (hp:=hp) (un:=fun id=>cx≤id∨(∃k,(fun _=>False) k∧id=nx+k)∨c.u0 id) hnt n1 n3 hmid (fun L a w hall h=>?_) 13 _ a _ ?_ ?_
 ·obtain⟨fr,f1,f2,f3,f4,f5,f6⟩:=h.fr
  rcases h.st with⟨b9,_⟩|⟨_,b11,_⟩|⟨_,_,_,hi'⟩
  ·rw[hall 9 (by omega)]at b9;cases b9
  ·rw[hall 11 (by omega)]at b11;cases b11
  refine⟨_,hQ,⟨σ,I,hi',h.gr,fun t=>?_⟩,h.df,h.sz,fun k hk=>hk.elim,hlt0⟩
  simp only[dG]
  split
  ·rename_i e;subst e;have:=f1 6;rw[f2]at this;exact this
  ·split
   ·rename_i e;subst e;have:=f1 7;rw[f6 (hall 12 (by omega))]at this;exact this
   ·split
    ·rename_i e;subst e;have:=f1 8;rw[f3]at this;exact this
    ·exact .junk _
 ·exact Nat.le_trans (List.length_filter_le _ _) (by simp)
 ·refine⟨hd,hsz,by simp,⟨hg.loc,hg.imm,hg.heap⟩,⟨_,fun t=>(hf t).world rfl,rfl,rfl,rfl,fun k hk hl=>?_,fun hl=>?_⟩,.inl ⟨rfl,rfl,rfl,hi.world rfl rfl rfl rfl⟩⟩
  ·rw[Array.getD_eq_getD_getElem?,Array.getElem?_replicate]at hl;split at hl<;>cases hl
  ·cases hl
end Go.AX

namespace Go.AX
open Go Go.Proofs
set_option maxRecDepth 8000
noncomputable def eFf:List AV→H→Nat→Option (AV×H×Nat)
 |[.sl n xs,.agg cs],hp,nx=>aK (rgU xs) fun p=>aK (oW cs) fun c=>aN (n=4+27*p.2.length∧OG c p.1 p.2)
   (some (.tup [.op (nx+29) 0,.i 0],setR (nx+29) (nx+26) (nx+27) ⟨c,eDy p.2,p.1,[]⟩ hp,nx+500+400*p.2.length))
 |_,_,_=>none
theorem eGr (n:Nat) (xs cs:List AV) (hp:H) (nx:Nat):eFf [.sl n xs,.agg cs] hp nx=aK (rgU xs) fun p=>aK (oW cs) fun c=>aN (n=4+27*p.2.length∧OG c p.1 p.2)
   (some (.tup [.op (nx+29) 0,.i 0],setR (nx+29) (nx+26) (nx+27) ⟨c,eDy p.2,p.1,[]⟩ hp,nx+500+400*p.2.length)):=(rfl)
attribute [go_sem] eGr
theorem kU {P:Program} {GL:Nat→Option (List AV)} {nt:Nat} {code:Code} {Q:Exit→S→Prop} {fr:List (Nat×AV)} {hp:H} {nx cx:Nat} (cx':Nat) (hc:cx≤cx')
  (h:Awp P GL nt code {fr:=fr,hp:=hp,nx:=nx,cx:=cx'} Q):Awp P GL nt code {fr:=fr,hp:=hp,nx:=nx,cx:=cx} Q:=tU h ⟨fun _=> .inr rfl,fun _ _ h=>h,hc⟩ rfl
theorem eGh (c:CF):(cfC c).length=13:=rfl
theorem eFt (c:CF):List.take 13 (cfC c)=cfC c:=rfl
theorem eFx {k:W32}: ∀ {l:List (W32×KY)},k∉l.map (·.1)→aNn (.w32 k) (eDs l)=some none
 |[],_=>rfl
 |p::r,h=>by
  rw[List.map_cons,List.mem_cons]at h
  show aK (kEq (.w32 k) (.w32 p.1)) _=_
  rw[xV,aX,J6 (fun e=>h (.inl e))]
  show aK (aNn (.w32 k) (eDs r)) _=_
  rw[eFx (fun e=>h (.inr e))]
  rfl
theorem eIk {L:List KY} {k:Nat} (hk:k<L.length):eDy (L.take (k+1))=eDy (L.take k)++[((kyA L k).id,kyA L k)]:=by
 have e:L.take (k+1)=L.take k++[kyA L k]:=by rw[List.take_add_one,List.getElem?_eq_getElem hk,kJ L k hk];rfl
 rw[e]
 simp[eDy]
theorem eIj {L:List KY} (hs:SL L) {k:Nat} (hk:k<L.length):(kyA L k).id∉(eDy (L.take k)).map (·.1):=by
 have e:L.take (k+1)=L.take k++[kyA L k]:=by rw[List.take_add_one,List.getElem?_eq_getElem hk,kJ L k hk];rfl
 have hs2:SL (L.take (k+1)):=List.Pairwise.sublist (List.take_sublist _ _) hs
 rw[e,SL,List.pairwise_append]at hs2
 intro hm
 simp only[eDy,List.map_map,List.mem_map,Function.comp]at hm
 obtain⟨x,hx,e2⟩:=hm
 have:=hs2.2.2 x hx (kyA L k) (by simp)
 rw[e2]at this
 omega
set_option maxHeartbeats 4000000 in
theorem eHd:cQ Tryd.prog GLh 24 eFf:=by
 refine gF Tryd.func24 (aT rfl) ?_
 intro args hp nx r hp' nx' hg
 unfold eFf at hg
 split at hg
 ·rename_i n xs cs
  replace hg:=aJ hg;obtain⟨⟨last,L⟩,hp0,hg⟩:=hg
  have:=eHn hp0;subst this
  replace hg:=aJ hg;obtain⟨c,hc,hg⟩:=hg
  have:=lF hc;subst this
  replace hg:=aP hg;obtain⟨⟨rfl,hG⟩,hg⟩:=hg
  simp only[Option.some.injEq,Prod.mk.injEq]at hg hp0 hG;obtain⟨rfl,rfl,rfl⟩:=hg
  refine⟨J1 rfl,by omega,fun hnone=>?_⟩
  have hlt: ∀k o,hp k=some o→k<nx:=fun k o hk=>lI hnone hk
  have hL:=hG.len
  have hgl:=eFp last L
  have d1:decide (((4+27*L.length:Nat):Int)<4)=false:=J6 (by omega)
  have d2:decide (Int.tmod (((4+27*L.length:Nat):Int)-4) 27=0)=true:=J5 (by
   rw[show((4+27*L.length:Nat):Int)-4=27*(L.length:Int)by omega]
   exact Int.mul_tmod_right _ _)
  have eW:W (Int.tdiv (((4+27*L.length:Nat):Int)-4) 27)=(L.length:Int):=by
   rw[show((4+27*L.length:Nat):Int)-4=27*(L.length:Int)by omega,Int.mul_tdiv_cancel_left _ (by decide)]
   exact eKg (by omega) (by omega)
  have d3:decide (16<(L.length:Int))=false:=J6 (by omega)
  have hb0: ∃b0 b1 b2 b3:B8,c8 (rgB last L)=.w8 b0::.w8 b1::.w8 b2::.w8 b3::c8 (eEb L)∧gt4 b0 b1 b2 b3=last:=⟨_,_,_,_,rfl,eEe last⟩
  obtain⟨b0,b1,b2,b3,hb,hb4⟩:=hb0
  have hcl:(eEb L).length+4=4+27*L.length:=by rw[eDv];omega
  have hG0: ∀k,k<L.length→KG c.h (kyA L k):=fun k hk=>hG.good _ (eEa hk)
  clear hp0 hc
  refine aA rfl (aW [0,3] rfl rfl rfl fun K hK=>?_)
  simp(disch:=omega) only[Tryd.f24,go_sem,↓reduceIte]
  refine hK _ ?_
  refine aB (lW 3 nx 0 rfl (by simp only[aV,if_true];rfl) ?_)
  refine aA rfl (aA rfl (aW [26,0,3] rfl rfl rfl fun K hK=>?_))
  simp(disch:=omega) only[Tryd.f24,go_sem,↓reduceIte,d1,d2,eW,d3,Bool.not_true]
  refine hK _ ?_
  refine aB (eC (.tmp 26) rfl rfl rfl (fun h=>?_) (fun h=>?_))
  ·refine aI rfl ?_
   cases h
  refine aI rfl ?_
  clear h
  refine aQ rfl (aB (aA rfl (aC (Γ:=bC [(7,.heap aMq)]) [0,6] (aH eJc aO) rfl rfl rfl (fun K hK=>?_))))
  simp(disch:=omega) only[Tryd.f24,go_sem,↓reduceIte,eGh,eFt]
  refine hK _ ?_
  refine aB ?_
  simp only[Nat.add_assoc,Nat.reduceAdd]
  rw[hb]
  refine aA rfl (aC (Γ:=bC [(40,.pure true eFn)]) [0,6] (aH eIp aO) rfl rfl rfl (fun K hK=>?_))
  simp(disch:=omega) only[Tryd.f24,go_sem,↓reduceIte,hcl,hb4,bGy,jA,List.nil_append,List.cons_append,List.set_cons_succ,List.set_cons_zero]
  refine hK _ ?_
  refine aB (yK (hp':=setR (nx+29) (nx+26) (nx+27) ⟨c,eDy (L.take 0),last,[]⟩ hp) (fun j o hj=>oK (C:=⟨c,eDy (L.take 0),last,[]⟩) ?_ ?_ ?_ ?_ j o hj) ?_)
  ·simp(disch:=omega) only[aV,↓reduceIte,eq_self]<;>rfl
  ·simp(disch:=omega) only[aV,bGw,bY,↓reduceIte]<;>rfl
  ·simp(disch:=omega) only[aV,cHw,bY,↓reduceIte,eq_self]<;>rfl
  ·intro k o k1 k2 k3 hk
   have:=hlt k o hk
   simp(disch:=omega) only[aV,jN,bY,↓reduceIte]
   exact hk
  refine aA rfl (aW [0,6,7] rfl rfl rfl fun K hK=>?_)
  simp(disch:=omega) only[Tryd.f24,go_sem,↓reduceIte]
  refine hK _ ?_
  refine aB (aA rfl (aA rfl (aW [6,7,8] rfl rfl rfl fun K hK=>?_)))
  simp(disch:=omega) only[Tryd.f24,go_sem,↓reduceIte,J7,J9]
  refine hK _ ?_
  refine aB (aR 0 rfl rfl ?_)
  refine bR (fun p:KC=> {fr:=[(6,.op (nx+29) 0),(7,.w32 (ahd L p.k)),(8,.sl (27*(L.length-p.k)) (c8 (eEb (L.drop p.k))))],hp:=setR (nx+29) (nx+26) (nx+27) ⟨c,eDy (L.take p.k),last,[]⟩ hp,nx:=0,cx:=p.c}) (fun p=>p.k≤L.length∧nx+40<p.c∧p.c≤nx+100+300*p.k) (fun p=>L.length-p.k) rfl ⟨⟨0,_⟩,⟨Nat.zero_le _,by simp only;omega,by simp only;omega⟩,bD (by simp only[J9,Nat.sub_zero,Nat.add_sub_cancel_left];rfl) rfl (U3 _)⟩ ?_
  rintro⟨k,cc⟩ ⟨hk,hc1,hc2⟩ n0
  simp only at hk hc1 hc2⊢
  refine aA rfl (aA rfl (aW [38,6,7,8] rfl rfl rfl fun K hK=>?_))
  simp(disch:=omega) only[Tryd.f24,go_sem,↓reduceIte]
  refine hK _ ?_
  refine aB (gP (.tmp 38) rfl rfl rfl (fun h=>?_) (fun h=>?_))
  ·refine aI rfl ?_
   have hkl:k<L.length:=by omega
   clear h
   obtain⟨X,hX⟩: ∃X,kyA L k=X:=⟨_,rfl⟩
   have hdr:eEb (L.drop k)=rcB X++eEb (L.drop (k+1)):=by rw[List.drop_eq_getElem_cons hkl,kJ L k hkl,hX];rfl
   have hrl:=eDv (L.drop (k+1))
   rw[List.length_drop]at hrl
   have hkey:eFh [.sl (27*(L.length-k)) (c8 (eEb (L.drop k)))]=some (.agg (kyC X)):=by rw[hdr];exact eIe hG.ch (hX▸hG0 k hkl) _ _ (by omega)
   have hd27:List.drop 27 (eEb (L.drop k))=eEb (L.drop (k+1)):=by rw[hdr];rfl
   have hrg:eHk ⟨c,eDy (L.take k),last,[]⟩ X (ahd L k):=hX▸hG.rgt hkl _
   have hmid:aNn (.w32 X.id) (eDs (eDy (L.take k)))=some none:=eFx (hX▸eIj hG.sl hkl)
   have happ:eDy (L.take k)++[(X.id,X)]=eDy (L.take (k+1)):=by rw[eIk hkl,hX]
   have hky:=sM X
   have hah:X.id=ahd L (k+1):=by unfold ahd;rw[J3 (by omega),Nat.add_sub_cancel,hX]
   have hky15:(kyC X).length=15:=rfl
   have hkt:List.take 15 (kyC X)=kyC X:=rfl
   have h27:27≤27*(L.length-k):=by omega
   refine aQ rfl (aB (aA rfl (aR 1 rfl rfl (aA rfl ?_))))
   have hnm:AV.noMem.noMemL (kyC X)=true:=rfl
   refine aC (Γ:=bC [(41,.pure true eFh)]) [6,7,8,9] (aH eJr aO) rfl rfl rfl (fun K hK=>?_)
   simp(disch:=omega) only[Tryd.f24,go_sem,↓reduceIte,hkey,eGi,hnm]
   refine hK _ ?_
   refine aB ?_
   refine lW 9 (cc+3+2) 0 rfl (by simp(disch:=omega) only[jN,aV,↓reduceIte,eq_self];rfl) ?_
   refine aA rfl (aA rfl (aC (Γ:=bC [(42,.heap gY)]) [47,6,8,9] (aH eJq aO) rfl rfl rfl (fun K hK=>?_)))
   simp(disch:=omega) only[Tryd.f24,go_sem,↓reduceIte,hky15,hkt,hky,hrg,J9]
   refine hK _ ?_
   refine aB (eC (.tmp 47) rfl rfl rfl (fun h=>?_) (fun h=>?_))
   ·refine aI rfl ?_
    cases h
   refine aI rfl (aQ rfl (aB (eIi (d:=nx+29) (s:=nx+26) (m:=nx+27) (by omega) (by omega) hmid (bU (aB ?_)))))
   dsimp only
   rw[happ]
   refine aW [6,7,8] rfl rfl rfl fun K hK=>?_
   simp(disch:=omega) only[Tryd.f24,go_sem,↓reduceIte,hd27]
   refine hK _ ?_
   refine bT ?_
   rw[hah,show 27*(L.length-k)-27=27*(L.length-(k+1))by omega]
   refine⟨⟨k+1,_⟩,⟨by simp only;omega,by simp only;omega,by simp only;omega⟩,by simp only;omega,⟨fun _=> .inr rfl,fun j o h=>hU (fun j2 o2 h2=>jB hnone (by omega) j2 o2 h2) j o h,U3 _⟩⟩
  refine aI rfl (bF 0 rfl rfl (aY (aZ (bE (aB (aA rfl ?_))))))
  obtain rfl:k=L.length:=by omega
  refine aW [4,5] rfl rfl rfl fun K hK=>?_
  simp(disch:=omega) only[Tryd.f24,go_sem,↓reduceIte]
  refine hK _ ?_
  refine aB (aS rfl ?_)
  exact⟨rfl,fun j o h=>h,by simp only;omega⟩
 cases hg
theorem eJu:bX Tryd.prog GLh 24 (.heap eFf):=⟨⟨_,Tryd.func24,rfl,rfl⟩,eHd⟩
end Go.AX

namespace Go.AX
open Go Go.Proofs
set_option maxRecDepth 8000
structure TW (g:H) (d s m e l:Nat) (C:RC) (M:MC) (Q:QT):Prop where
 r:aDt g d s m C
 mm:aFj g e l M
 q:uX g M.q Q
 ne:(d≠e∧d≠l∧d≠M.q)∧(s≠e∧s≠l∧s≠M.q)∧(m≠e∧m≠l∧m≠M.q)∧e≠M.q∧l≠M.q
 qa:Q.R≠[]→(Q.a≠d∧Q.a≠s∧Q.a≠m∧Q.a≠e∧Q.a≠l)∧(Q.b≠d∧Q.b≠s∧Q.b≠m∧Q.b≠e∧Q.b≠l)∧(Q.c≠d∧Q.c≠s∧Q.c≠m∧Q.c≠e∧Q.c≠l)
noncomputable instance (g:H) (d s m e l:Nat) (C:RC) (M:MC) (Q:QT):Decidable (TW g d s m e l C M Q):=Classical.propDecidable _
section
variable {g : H} {d s m e l : Nat} {C : RC} {M : MC} {Q : QT}
theorem TW.rng (h:TW g d s m e l C M Q):iN g d=some ⟨s,m,C⟩:=aFy h.r
theorem TW.mrg (h:TW g d s m e l C M Q):kH g e=some ⟨l,M⟩:=xR h.mm
theorem TW.qof (h:TW g d s m e l C M Q):qOf g M.q=some Q:=aIt h.q
structure eGx (n:Nat) (d s m e l:Nat) (M:MC) (Q:QT):Prop where
 a:d<n∧s<n∧m<n∧e<n∧l<n∧M.q<n
 b:Q.R≠[]→Q.a<n∧Q.b<n∧Q.c<n
theorem TW.lt (h:TW g d s m e l C M Q) {n:Nat} (hn: ∀j o,g j=some o→j<n):eGx n d s m e l M Q:=
 ⟨⟨hn _ _ h.r.hd,hn _ _ h.r.hs,hn _ _ h.r.hm,hn _ _ h.mm.hd,hn _ _ h.mm.hl,hn _ _ h.q.hq⟩,fun hz=>by
  obtain⟨a,b,c,_⟩:=h.q.h hz
  exact⟨hn _ _ a,hn _ _ b,hn _ _ c⟩⟩
theorem TW.upd (h:TW g d s m e l C M Q) {n:Nat} (hn:eGx n d s m e l M Q) {j:Nat} (hj:n≤j) (o:AO):TW (upd g j o) d s m e l C M Q:=by
 obtain⟨a1,a2,a3,a4,a5,a6⟩:=hn.a
 refine⟨⟨by rw[bJ,J3 (by omega)];exact h.r.hd,by rw[bJ,J3 (by omega)];exact h.r.hs,by rw[bJ,J3 (by omega)];exact h.r.hm,h.r.ne⟩,⟨by rw[bJ,J3 (by omega)];exact h.mm.hd,by rw[bJ,J3 (by omega)];exact h.mm.hl,h.mm.ne⟩,h.q.upd j o (by omega) (fun hz=>by have:=hn.b hz;omega),h.ne,h.qa⟩
theorem TW.setR (h:TW g d s m e l C M Q) (C':RC):TW (setR d s m C' g) d s m e l C' M Q:=by
 obtain⟨n1,n2,n3,n4,n5,n6⟩:=h.r.ne
 obtain⟨⟨a1,a2,a3⟩,⟨b1,b2,b3⟩,⟨c1,c2,c3⟩,f1,f2⟩:=h.ne
 refine⟨bGx (by omega) (by omega) (by omega),⟨by rw[jN _ _ _ _ _ _ (Ne.symm a1) (Ne.symm b1) (Ne.symm c1)];exact h.mm.hd,by rw[jN _ _ _ _ _ _ (Ne.symm a2) (Ne.symm b2) (Ne.symm c2)];exact h.mm.hl,h.mm.ne⟩,⟨by rw[jN _ _ _ _ _ _ (Ne.symm a3) (Ne.symm b3) (Ne.symm c3)];exact h.q.hq,h.q.z,fun hz=>?_⟩,h.ne,h.qa⟩
 obtain⟨x1,x2,x3,x4⟩:=h.q.h hz
 obtain⟨⟨y1,y2,y3,y4,y5⟩,⟨z1,z2,z3,z4,z5⟩,⟨w1,w2,w3,w4,w5⟩⟩:=h.qa hz
 exact⟨by rw[jN _ _ _ _ _ _ y1 y2 y3];exact x1,by rw[jN _ _ _ _ _ _ z1 z2 z3];exact x2,by rw[jN _ _ _ _ _ _ w1 w2 w3];exact x3,x4⟩
theorem eFd (Q:QT) (g:H) (k:Nat) (h:Q.R≠[]→k≠Q.a∧k≠Q.b∧k≠Q.c):jY Q g k=g k:=by
 unfold jY
 split
 ·rfl
 rename_i hz
 obtain⟨a,b,c⟩:=h hz
 simp only[eV,J3 a,J3 b,J3 c]
theorem TW.setQ (h:TW g d s m e l C M Q) {n:Nat} (hn:eGx n d s m e l M Q) (t:TK) {b:Nat} (hb:n≤b):TW (setQ M.q (oA Q t b) (jY Q g)) d s m e l C M (oA Q t b):=by
 obtain⟨a1,a2,a3,a4,a5,a6⟩:=hn.a
 obtain⟨⟨d1,d2,d3⟩,⟨b1,b2,b3⟩,⟨c1,c2,c3⟩,f1,f2⟩:=h.ne
 have hqa:(oA Q t b).R≠[]→((oA Q t b).a≠d∧(oA Q t b).a≠s∧(oA Q t b).a≠m∧(oA Q t b).a≠e∧(oA Q t b).a≠l)∧((oA Q t b).b≠d∧(oA Q t b).b≠s∧(oA Q t b).b≠m∧(oA Q t b).b≠e∧(oA Q t b).b≠l)∧((oA Q t b).c≠d∧(oA Q t b).c≠s∧(oA Q t b).c≠m∧(oA Q t b).c≠e∧(oA Q t b).c≠l):=by
  intro hz
  by_cases ht:t∈Q.R
  ·rw[sD ht]at hz⊢;exact h.qa hz
  rw[qQ ht]
  refine⟨⟨?_,?_,?_,?_,?_⟩,⟨?_,?_,?_,?_,?_⟩,⟨?_,?_,?_,?_,?_⟩⟩<;>simp only<;>omega
 have hok:QOk M.q (oA Q t b):=by
  by_cases ht:t∈Q.R
  ·rw[sD ht];exact h.q.ok
  rw[qQ ht]
  refine⟨fun e=>by simp at e,fun _=>⟨by simp only;omega,by simp only;omega,by simp only;omega,by simp only;omega,by simp only;omega,by simp only;omega⟩⟩
 have app: ∀k,k≠M.q→(Q.R≠[]→k≠Q.a∧k≠Q.b∧k≠Q.c)→k<n→AX.setQ M.q (oA Q t b) (jY Q g) k=g k:=by
  intro k k1 k2 k3
  rw[jZ _ _ _ _ k1 (fun hz=>by
   by_cases ht:t∈Q.R
   ·rw[sD ht]at hz⊢;exact k2 hz
   rw[qQ ht];exact⟨by simp only;omega,by simp only;omega,by simp only;omega⟩),eFd _ _ _ k2]
 have ap2: ∀k,k≠M.q→(k=d∨k=s∨k=m∨k=e∨k=l)→AX.setQ M.q (oA Q t b) (jY Q g) k=g k:=by
  intro k k1 k2
  refine app k k1 (fun hz=>?_) (by omega)
  obtain⟨⟨y1,y2,y3,y4,y5⟩,⟨z1,z2,z3,z4,z5⟩,⟨w1,w2,w3,w4,w5⟩⟩:=h.qa hz
  rcases k2 with rfl|rfl|rfl|rfl|rfl
  ·exact⟨Ne.symm y1,Ne.symm z1,Ne.symm w1⟩
  ·exact⟨Ne.symm y2,Ne.symm z2,Ne.symm w2⟩
  ·exact⟨Ne.symm y3,Ne.symm z3,Ne.symm w3⟩
  ·exact⟨Ne.symm y4,Ne.symm z4,Ne.symm w4⟩
  exact⟨Ne.symm y5,Ne.symm z5,Ne.symm w5⟩
 exact⟨⟨by rw[ap2 d d3 (by simp)];exact h.r.hd,by rw[ap2 s b3 (by simp)];exact h.r.hs,by rw[ap2 m c3 (by simp)];exact h.r.hm,h.r.ne⟩,⟨by rw[ap2 e f1 (by simp)];exact h.mm.hd,by rw[ap2 l f2 (by simp)];exact h.mm.hl,h.mm.ne⟩,bGz hok,h.ne,hqa⟩
end
def hoC (C:RC) (L:List KY):Nat→RC
 |0=>C
 |j+1=> {hoC C L j with tr:=trP (hoC C L j) (kyA L j)}
theorem RM.hoC {C:RC} {M:MC} (h:RM C M): ∀j,j≤M.L.length→RM (hoC C M.L j) M
 |0,_=>h
 |j+1,hj=>by
  have ih:=RM.hoC h j (by omega)
  refine⟨ih.ok.trP ?_,ih.l,ih.last,ih.c⟩
  rw[ih.get]
  exact aDb ih.sl (by omega)
noncomputable def hoQ (b:Nat) (L:List KY) (Q:QT):Nat→QT
 |0=>Q
 |j+1=>oA (hoQ b L Q j) ⟨(kyA L j).seed,(kyA L j).h⟩ (b+100000*j+rdN (kyA L j)+60*L.length+100*(hoQ b L Q j).R.length)
theorem bIc (Q:QT) (t:TK) (n:Nat):(oA Q t n).R.length≤Q.R.length+1:=by
 unfold oA
 split
 ·omega
 simp
theorem eFr (b:Nat) (L:List KY) (Q:QT): ∀j,(hoQ b L Q j).R.length≤Q.R.length+j
 |0=>U3 _
 |j+1=>by
  have:=eFr b L Q j
  have:=bIc (hoQ b L Q j) ⟨(kyA L j).seed,(kyA L j).h⟩ (b+100000*j+rdN (kyA L j)+60*L.length+100*(hoQ b L Q j).R.length)
  show(oA _ _ _).R.length≤_
  omega
theorem eFq (b:Nat) (L:List KY) (Q:QT) {i:Nat} (hi:i<b) (hQ:Q.R≠[]→i≠Q.a∧i≠Q.b∧i≠Q.c): ∀j,(hoQ b L Q j).R≠[]→i≠(hoQ b L Q j).a∧i≠(hoQ b L Q j).b∧i≠(hoQ b L Q j).c
 |0,h=>hQ h
 |j+1,h=>by
  have ih:=eFq b L Q hi hQ j
  have e:hoQ b L Q (j+1)=oA (hoQ b L Q j) ⟨(kyA L j).seed,(kyA L j).h⟩ (b+100000*j+rdN (kyA L j)+60*L.length+100*(hoQ b L Q j).R.length):=rfl
  rw[e]at h⊢
  by_cases ht:(⟨(kyA L j).seed,(kyA L j).h⟩:TK)∈(hoQ b L Q j).R
  ·rw[sD ht]at h⊢;exact ih h
  rw[qQ ht];exact⟨by simp only;omega,by simp only;omega,by simp only;omega⟩
theorem eDq {g:H} {n j:Nat} {a:AO} (hj:j<n) (hg: ∀k o,g k=some o→k<n): ∀k o,upd g j a k=some o→k<n:=by
 intro k o h
 rw[bJ]at h
 split at h
 ·omega
 exact hg _ _ h
theorem eDu {g:H} {n d s m:Nat} {C:RC} (h1:d<n) (h2:s<n) (h3:m<n) (hg: ∀k o,g k=some o→k<n): ∀k o,setR d s m C g k=some o→k<n:=by
 unfold setR
 exact eDq h1 (eDq h3 (eDq h2 hg))
theorem eFc {g:H} {n:Nat} (Q:QT) (hg: ∀k o,g k=some o→k<n): ∀k o,jY Q g k=some o→k<n:=fun k o h=>hg _ _ (qP Q g k o h).1
theorem eFb {g:H} {n q:Nat} {Q:QT} (h1:q<n) (h2:Q.R≠[]→Q.a<n∧Q.b<n∧Q.c<n) (hg: ∀k o,g k=some o→k<n): ∀k o,setQ q Q g k=some o→k<n:=by
 unfold setQ
 split
 ·exact eDq h1 hg
 rename_i hz
 obtain⟨a,b,c⟩:=h2 hz
 exact eDq h1 (eDq c (eDq b (eDq a hg)))
theorem eFe {Q:QT} {t:TK} {b n:Nat} (hb:b+23<n) (h:Q.R≠[]→Q.a<n∧Q.b<n∧Q.c<n):(oA Q t b).R≠[]→(oA Q t b).a<n∧(oA Q t b).b<n∧(oA Q t b).c<n:=by
 intro hz
 by_cases ht:t∈Q.R
 ·rw[sD ht]at hz⊢;exact h hz
 rw[qQ ht];exact⟨by simp only;omega,by simp only;omega,by simp only;omega⟩
end Go.AX

namespace Go.AX
open Go Go.Proofs
set_option maxRecDepth 8000
noncomputable instance (C:RC) (M:MC):Decidable (RM C M):=Classical.propDecidable _
noncomputable instance (M:MC):Decidable (∀k∈M.L,KG 2 k):=Classical.propDecidable _
noncomputable def eFz:List AV→H→Nat→Option (AV×H×Nat)
 |[.op d 0,.op e 0],hp,nx=>aK (iN hp d) fun t=>aK (kH hp e) fun u=>aK (qOf hp u.M.q) fun Q=>aN (TW hp d t.s t.m e u.l t.C u.M Q∧RM t.C u.M∧(∀k∈u.M.L,KG 2 k)∧Q.R.length≤50∧u.M.L.length≤16∧u.M.last.toNat<1000000)
   (some (.b true,setR d t.s t.m (hoC t.C u.M.L u.M.L.length) (setQ u.M.q (hoQ (nx+3621) u.M.L Q u.M.L.length) (jY Q hp)),nx+10000+100000*u.M.L.length))
 |_,_,_=>none
theorem eHg (d e:Nat) (hp:H) (nx:Nat):eFz [.op d 0,.op e 0] hp nx=aK (iN hp d) fun t=>aK (kH hp e) fun u=>aK (qOf hp u.M.q) fun Q=>aN (TW hp d t.s t.m e u.l t.C u.M Q∧RM t.C u.M∧(∀k∈u.M.L,KG 2 k)∧Q.R.length≤50∧u.M.L.length≤16∧u.M.last.toNat<1000000)
   (some (.b true,setR d t.s t.m (hoC t.C u.M.L u.M.L.length) (setQ u.M.q (hoQ (nx+3621) u.M.L Q u.M.L.length) (jY Q hp)),nx+10000+100000*u.M.L.length)):=(rfl)
attribute [go_sem] eHg
structure HOI where
 k:Nat
 g:H
 c:Nat
theorem aGm: ∀L:List KY,dB (jQ L)=true
 |[]=>rfl
 |k::r=>by rw[jQ,aGn,aGm r];rfl
theorem eHl {q:Nat} {Q:QT} {a b:H} {k:Nat} (h:a k=b k):setQ q Q a k=setQ q Q b k:=by
 unfold setQ
 split<;>simp only[bJ,h]
set_option maxHeartbeats 4000000 in
theorem eIh:cQ Tryd.prog GLh 26 eFz:=by
 refine gF Tryd.func26 (aT rfl) ?_
 intro args hp nx r hp' nx' hg
 unfold eFz at hg
 split at hg
 ·rename_i d e
  replace hg:=aJ hg;obtain⟨⟨s,m,C⟩,hD0,hg⟩:=hg
  replace hg:=aJ hg;obtain⟨⟨l,M⟩,hM0,hg⟩:=hg
  replace hg:=aJ hg;obtain⟨Q,hQ0,hg⟩:=hg
  replace hg:=aP hg;obtain⟨⟨hT,hRM,hKG,hQl,hL16,hla⟩,hg⟩:=hg
  simp only[Option.some.injEq,Prod.mk.injEq]at hg hD0 hM0 hQ0 hT hRM hKG hQl hL16 hla;obtain⟨rfl,rfl,rfl⟩:=hg
  refine⟨J1 rfl,by omega,fun hnone=>?_⟩
  have hlt: ∀k o,hp k=some o→k<nx:=fun k o hk=>lI hnone hk
  have hlen:=hRM.len
  have hall:=hRM.l
  obtain⟨N,hN⟩: ∃N,M.L.length=N:=⟨_,rfl⟩
  rw[hN]at hlen hL16
  have hle:N≤1000:=by omega
  have hkl:=iJ M.L
  rw[hN]at hkl
  have hW0:=hT.lt hlt
  obtain⟨a1,a2,a3,a4,a5,a6⟩:=hW0.a
  rw[hN]
  refine aA rfl (aW [0,1] rfl rfl rfl fun K hK=>?_)
  simp(disch:=omega) only[Tryd.f26,go_sem,↓reduceIte]
  refine hK _ ?_
  refine aB (aA rfl (aC (Γ:=bC [(15,.heap rU)]) [0,1,5] (aH pA aO) rfl rfl rfl (fun K hK=>?_)))
  simp(disch:=omega) only[Tryd.f26,go_sem,↓reduceIte,hD0,hlen,hle,hall]
  refine hK _ ?_
  refine aB (kU (nx+3000) (by omega) (aA rfl (aA rfl (aW [0,1,5,6] rfl rfl rfl fun K hK=>?_))))
  simp(disch:=omega) only[Tryd.f26,go_sem,↓reduceIte]
  refine hK _ ?_
  refine aB (aR 0 rfl rfl ?_)
  refine bR (fun p:HOI=> {fr:=[(0,.op d 0),(1,.op e 0),(5,.sl N (jQ M.L)),(6,.i p.k)],hp:=p.g,nx:=0,cx:=p.c}) (fun p=>p.k≤N∧p.c=nx+3000+1+100000*p.k∧TW p.g d s m e l (hoC C M.L p.k) M (hoQ (nx+3621) M.L Q p.k)∧(∀j o,p.g j=some o→j<p.c)∧(∀j o,j≠d→j≠s→j≠m→j≠M.q→(Q.R≠[]→j≠Q.a∧j≠Q.b∧j≠Q.c)→hp j=some o→p.g j=some o)) (fun p=>N-p.k) rfl ⟨⟨0,hp,nx+3000+1⟩,⟨Nat.zero_le _,rfl,hT,fun j o hj=>by have:=hlt j o hj;simp only;omega,fun j o _ _ _ _ _ hj=>hj⟩,bD rfl rfl (U3 _)⟩ ?_
  rintro⟨k,g,c⟩ ⟨hk,hc,hTk,hglt,hsub⟩ n0
  simp only at hk hc hTk hglt hsub⊢
  have hmm:=hTk.mm.hd
  have hml:=hTk.mm.hl
  refine aA rfl (aA rfl (aW [23,0,1,5,6] rfl rfl rfl fun K hK=>?_))
  simp(disch:=omega) only[Tryd.f26,go_sem,↓reduceIte,hmm,jR,hN,J8,J7,J9]
  refine hK _ ?_
  refine aB (gP (.tmp 23) rfl rfl rfl (fun h=>?_) (fun h=>?_))
  ·refine aI rfl ?_
   have hkN:k<M.L.length:=by omega
   clear h
   have hRk:=hRM.hoC k (by omega)
   have hfk:=aDb hRM.sl hkN
   have hgk:iK (kyA M.L k).id (hoC C M.L k).by'=some (kyA M.L k):=by rw[hRk.get];exact hfk
   have hC1:hoC C M.L (k+1)= {hoC C M.L k with tr:=trP (hoC C M.L k) (kyA M.L k)}:=rfl
   have hQ1:hoQ (nx+3621) M.L Q (k+1)=oA (hoQ (nx+3621) M.L Q k) ⟨(kyA M.L k).seed,(kyA M.L k).h⟩ (nx+3621+100000*k+rdN (kyA M.L k)+60*M.L.length+100*(hoQ (nx+3621) M.L Q k).R.length):=rfl
   have hQk:=eFr (nx+3621) M.L Q k
   have hkg:=hKG _ (eEa hkN)
   have hrow:=lC M.L k hkN
   have ha0:(List.drop (15*k) (jQ M.L)).head? =some (.w32 (kyA M.L k).id):=by have:=jW M.L k 0 hkN (by omega);rw[Nat.add_zero]at this;rw[this];rfl
   have ha12:=jW M.L k 12 hkN (by omega)
   have e15:k*15=15*k:=by omega
   have hd15:15≤(List.drop (15*k) (jQ M.L)).length:=by rw[List.length_drop];omega
   obtain⟨X,hX⟩: ∃X,kyA M.L k=X:=⟨_,rfl⟩
   obtain⟨D,hD⟩: ∃D,hoC C M.L k=D:=⟨_,rfl⟩
   obtain⟨Z,hZ⟩: ∃Z,hoQ (nx+3621) M.L Q k=Z:=⟨_,rfl⟩
   rw[hX]at hfk hgk hC1 hQ1 hkg hrow ha0 ha12
   rw[hD]at hTk hRk hgk hC1
   rw[hZ]at hTk hQ1 hQk
   have hok:=hRk.ok
   have hrng:=hTk.rng
   refine aQ rfl (aB (aA rfl (aR 1 rfl rfl (aA rfl (aC (Γ:=bC [(11,.heap bOf)]) [0,1,5,6,7,8] (aH cWf aO) rfl rfl rfl (fun K hK=>?_))))))
   simp(disch:=omega) only[Tryd.f26,go_sem,↓reduceIte,hmm,hml,jR,hN,ha0,e15,hrng,hok,hgk,J8,J7,J9]
   refine hK _ ?_
   refine aB ?_
   obtain⟨v1,hv1⟩: ∃v1,c+7+15+dtN X=v1:=⟨_,rfl⟩
   have hdt:dtN X≤135:=by unfold dtN;split<;>omega
   have hT2:=(hTk.upd (hTk.lt hglt) (show c≤v1 by omega) (.cells (c8 (dkB X)) true)).setR {D with tr:=trP D X}
   have hlt2: ∀j o,setR d s m {D with tr:=trP D X} (upd g v1 (.cells (c8 (dkB X)) true)) j=some o→j<c+7+15+400:=eDu (by omega) (by omega) (by omega) (eDq (by omega) (fun k o h=>by have:=hglt k o h;omega))
   have hv1g:setR d s m {D with tr:=trP D X} (upd g v1 (.cells (c8 (dkB X)) true)) v1=some (.cells (c8 (dkB X)) true):=by rw[jN _ _ _ _ _ _ (by omega) (by omega) (by omega),bJ,J4 rfl]
   have hsub2: ∀j o,j≠d→j≠s→j≠m→g j=some o→setR d s m {D with tr:=trP D X} (upd g v1 (.cells (c8 (dkB X)) true)) j=some o:=fun j o j1 j2 j3 h=>by
    have:=hglt j o h
    rw[jN _ _ _ _ _ _ j1 j2 j3,bJ,J3 (by omega)];exact h
   rw[hv1]
   obtain⟨g2,hg2⟩: ∃g2,setR d s m {D with tr:=trP D X} (upd g v1 (.cells (c8 (dkB X)) true))=g2:=⟨_,rfl⟩
   rw[hg2]at hT2 hlt2 hv1g hsub2
   rw[←hC1]at hT2
   rw[hg2]
   clear hg2
   have hmm2:=hT2.mm.hd
   have hml2:=hT2.mm.hl
   have hmr2:=hT2.mrg
   have hqo2:=hT2.qof
   have hZ100:Z.R.length≤100:=by omega
   have hX10:X.h≤10:=by have:=hkg.hq;omega
   have hN100:N≤100:=by omega
   refine aA rfl (aC (Γ:=bC [(23,.heap aMs)]) [0,1,5,6,7,8,9] (aH eIr aO) rfl rfl rfl (fun K hK=>?_))
   simp(disch:=omega) only[Tryd.f26,go_sem,↓reduceIte,hmm2,hml2,jR,hN,ha0,e15,hmr2,hqo2,hfk,hZ100,hX10,hN100,J8,J7,J9]
   refine hK _ ?_
   refine aB ?_
   have eb:c+7+15+400+15+183+rdN X+60*N+100*Z.R.length=nx+3621+100000*k+rdN X+60*M.L.length+100*Z.R.length:=by rw[hN];omega
   have hrd:rdN X≤3:=by unfold rdN;split<;>omega
   rw[eb,←hQ1]
   obtain⟨v2,hv2⟩: ∃v2,c+7+15+400+15+94+rdN X+60*N+20000=v2:=⟨_,rfl⟩
   rw[hv2]
   have hW2:=hT2.lt hlt2
   have hT3a:=hT2.setQ hW2 ⟨X.seed,X.h⟩ (show c+7+15+400≤nx+3621+100000*k+rdN X+60*M.L.length+100*Z.R.length by omega)
   rw[←hQ1]at hT3a
   have hqd:(hoQ (nx+3621) M.L Q (k+1)).R≠[]→(hoQ (nx+3621) M.L Q (k+1)).a<v2∧(hoQ (nx+3621) M.L Q (k+1)).b<v2∧(hoQ (nx+3621) M.L Q (k+1)).c<v2:=by
    rw[hQ1]
    exact eFe (by omega) (fun hz=>by have:=hW2.b hz;omega)
   have hlt3: ∀j o,setQ M.q (hoQ (nx+3621) M.L Q (k+1)) (jY Z g2) j=some o→j<v2:=eFb (by omega) hqd (eFc Z (fun k o h=>by have:=hlt2 k o h;omega))
   have hT3:=hT3a.upd (hT3a.lt hlt3) (U3 v2) (.cells (c8 (dkB X)) true)
   have hv2g:upd (setQ M.q (hoQ (nx+3621) M.L Q (k+1)) (jY Z g2)) v2 (.cells (c8 (dkB X)) true) v2=some (.cells (c8 (dkB X)) true):=by rw[bJ,J4 rfl]
   have hlt3b: ∀j o,upd (setQ M.q (hoQ (nx+3621) M.L Q (k+1)) (jY Z g2)) v2 (.cells (c8 (dkB X)) true) j=some o→j<c+7+15+400+15+40000:=eDq (by omega) (fun k o h=>by have:=hlt3 k o h;omega)
   have hQn:(hoQ (nx+3621) M.L Q (k+1)).R≠[]→∀j,j<c+7+15+400→(Z.R≠[]→j≠Z.a∧j≠Z.b∧j≠Z.c)→j≠(hoQ (nx+3621) M.L Q (k+1)).a∧j≠(hoQ (nx+3621) M.L Q (k+1)).b∧j≠(hoQ (nx+3621) M.L Q (k+1)).c:=by
    rw[hQ1]
    intro hz j hj hZj
    by_cases ht:(⟨X.seed,X.h⟩:TK)∈Z.R
    ·rw[sD ht]at hz⊢;exact hZj hz
    rw[qQ ht];exact⟨by simp only;omega,by simp only;omega,by simp only;omega⟩
   have hsub3: ∀j o,j≠M.q→(Z.R≠[]→j≠Z.a∧j≠Z.b∧j≠Z.c)→g2 j=some o→upd (setQ M.q (hoQ (nx+3621) M.L Q (k+1)) (jY Z g2)) v2 (.cells (c8 (dkB X)) true) j=some o:=fun j o j1 j2 h=>by
    have:=hlt2 j o h
    rw[bJ,J3 (by omega),jZ _ _ _ _ j1 (fun hz=>hQn hz j this j2),eFd _ _ _ j2];exact h
   have hv1g3:=hsub3 v1 _ (by omega) (fun hz=>by have:=(hTk.lt hglt).b hz;omega) hv1g
   obtain⟨g3,hg3⟩: ∃g3,upd (setQ M.q (hoQ (nx+3621) M.L Q (k+1)) (jY Z g2)) v2 (.cells (c8 (dkB X)) true)=g3:=⟨_,rfl⟩
   rw[hg3]at hT3 hv2g hlt3b hsub3 hv1g3⊢
   have hmm3:=hT3.mm.hd
   have hml3:=hT3.mm.hl
   have hrng3:=hT3.rng
   rw[hC1]at hrng3
   have hgk3:iK X.id (hoC C M.L (k+1)).by'=some X:=by rw[hC1];exact hgk
   rw[←hC1]at hrng3
   refine aA rfl (aC (Γ:=bC [(17,.heap uT)]) [0,1,5,6,7,8,9,11,12] (aH bJg aO) rfl rfl rfl (fun K hK=>?_))
   simp(maxSteps:=400000) (disch:=omega) only[Tryd.f26,go_sem,↓reduceIte,hmm3,hml3,jR,hN,ha0,e15,hrng3,hgk3,aXa,uV,eGi,J8,J7,J9]
   refine hK _ ?_
   refine aB ?_
   simp only[fA,cPd,eB,Nat.reduceEqDiff,↓reduceIte]
   refine lW 11 (c+7+15+400+15+40000+13) 0 rfl (by rw[bJ,J4 rfl]) ?_
   have hlf:lfV (hoC C M.L (k+1)) X.id=4#32-X.next:=by rw[cFs hgk3,hkg.hq];rfl
   have hok3:ROk (hoC C M.L (k+1)):=(hRM.hoC (k+1) (by omega)).ok
   have hT4:=hT3.upd (hT3.lt hlt3b) (show c+7+15+400+15+40000≤c+7+15+400+15+40000+13 by omega) (.cells (kyC X) false)
   have hrng4:=hT4.rng
   have hdl:=aAg X
   have hkt:List.take 15 (kyC X)=kyC X:=rfl
   have hky15:(kyC X).length=15:=rfl
   rw[eFm]at ha12
   refine aA rfl (aYa (Γ:=bC [(44,.pure true cCe),(14,.heap aNy)]) (fun k=>if k=28 then true else if k=32 then true else if k=33 then true else if k=37 then true else if k=41 then true else false) [(28,37),(32,37),(33,37),(28,41),(32,41),(33,41)] (fun k=>if k=33 then 0 else if k=9 then 0 else if k=13 then 1 else 2) [109,0,1,5,6] bZ (aH ok31 (aH cWe aO)) rfl rfl rfl (by kernel_rfl) (fun K hK=>?_))
   simp(maxSteps:=400000) (disch:=omega) only[Tryd.f26,go_sem,and_self,and_true,true_and,↓reduceIte,hmm3,hml3,jR,hN,hrow,hd15,ha0,ha12,e15,hrng4,hok3,hlf,hv1g3,hv2g,kK,hdl,hkt,hky15,decide_true,Bool.not_true,J9,J8,J7,J9]
   refine hK _ ?_
   refine aB (eC (.tmp 109) rfl rfl rfl (fun h=>?_) (fun h=>?_))
   ·refine aI rfl ?_
    cases h
   refine aI rfl ?_
   clear h
   refine aQ rfl (bU (aB (aW [0,1,5,6] rfl rfl rfl fun K hK=>?_)))
   simp(disch:=omega) only[Tryd.f26,go_sem,↓reduceIte]
   refine hK _ ?_
   refine bT ?_
   obtain⟨cn,hcn⟩: ∃cn,nx+3000+1+100000*(k+1)=cn:=⟨_,rfl⟩
   refine⟨⟨k+1,g3,cn⟩,⟨by simp only;omega,hcn.symm,hT3,fun j o hj=>by have:=hlt3b j o hj;simp only;omega,fun j o j1 j2 j3 j4 j5 hj=>?_⟩,by simp only;omega,⟨fun _=> .inr ?_,fun j o hj=>?_,by simp only;omega⟩⟩
   ·have hjn:=hlt j o hj
    refine hsub3 j o j4 ?_ (hsub2 j o j1 j2 j3 (hsub j o j1 j2 j3 j4 j5 hj))
    rw[←hZ]
    exact eFq (nx+3621) M.L Q (by omega) j5 k
   ·simp only[Int.natCast_add,Int.natCast_one]
   have:=hlt3b j o hj
   show upd g3 _ _ j=some o
   rw[bJ,J3 (by omega)]
   exact hj
  refine aI rfl (bF 0 rfl rfl (aY (aZ (bE (aB (aA rfl ?_))))))
  obtain rfl:k=N:=by omega
  have hRk:=hRM.hoC k (by omega)
  have hrng:=hTk.rng
  have hgn:iK (M.last+1#32) (hoC C M.L k).by'=none:=by
   rw[hRk.get]
   refine aDa fun x hx e=>?_
   have h1:=hRM.le hx
   have h2:(M.last+1#32).toNat=M.last.toNat+1:=by
    rw[BitVec.toNat_add]
    show(M.last.toNat+1)%4294967296=_
    omega
   rw[e,h2]at h1
   omega
  refine aC (Γ:=bC [(17,.heap uT)]) [1,5,14] (aH bJg aO) rfl rfl rfl (fun K hK=>?_)
  simp(maxSteps:=400000) (disch:=omega) only[Tryd.f26,go_sem,↓reduceIte,hmm,jR,hrng,hgn,cYc,uV,eGi,J8,J7,J9]
  refine hK _ ?_
  refine aB ?_
  simp only[fA,cPd,eB,Nat.reduceEqDiff,↓reduceIte]
  refine aA rfl (aC (Γ:=bC [(45,.pure true aXb)]) [4] (aH eJp aO) rfl rfl rfl (fun K hK=>?_))
  simp(disch:=omega) only[Tryd.f26,go_sem,↓reduceIte,hmm,hml,jR,hN,hkl,sK,aGm,hle,decide_true,Bool.not_false,J9,J8,J7,J9]
  refine hK _ ?_
  refine aB (aS rfl ?_)
  have hT5:=hTk.upd (hTk.lt hglt) (show c≤c+7+10 by omega) (.cells (kyC ky0) true)
  refine⟨rfl,fun j o hj=>oK hT5.r.hd hT5.r.hs hT5.r.hm (fun k1 o1 j1 j2 j3 h1=>?_) j o hj,by simp only;omega⟩
  have h1':setQ M.q (hoQ (nx+3621) M.L Q k) (fun x=>if x=k1 then jY Q hp x else none) k1=some o1:=by rw[eHl (b:=jY Q hp) (J4 rfl)];exact h1
  refine aBe hT5.q (fun k2 o2 j4 _ h2=>?_) k1 o1 h1'
  split at h2
  ·rename_i e2
   subst e2
   obtain⟨h3,h4⟩:=qP Q hp _ _ h2
   have:=hlt _ _ h3
   rw[bJ,J3 (by omega)]
   exact hsub _ _ j1 j2 j3 j4 h4 h3
  cases h2
 cases hg
theorem eJs:bX Tryd.prog GLh 26 (.heap eFz):=⟨⟨_,Tryd.func26,rfl,rfl⟩,eIh⟩
end Go.AX

namespace Go.AX
open Go Go.Proofs
set_option maxRecDepth 8000
def eDr:CF:= {cBk with h:=2}
def kq (sd:S8) (role st:Int) (n since:W32):KY:=⟨1#32,role,st,sd,2,n,since,0#32⟩
def R0 (k:KY):RC:=⟨eDr,[(1#32,k)],1#32,[]⟩
def R1 (k:KY):RC:=⟨eDr,[(1#32,k)],1#32,[(1#32,⟨k.seed,k.h⟩)]⟩
section
variable (sd : S8) (role st : Int) (n since : W32)
theorem eKb:iK 1#32 (R0 (kq sd role st n since)).by'=some (kq sd role st n since):=rfl
theorem eIy:iK 1#32 (R1 (kq sd role st n since)).by'=some (kq sd role st n since):=rfl
theorem get1 {β:Type} (id:W32) (x y:β) (h:iK id [(1#32,x)]=some y):id=1#32∧y=x:=by
 simp only[iK]at h
 split at h
 ·rename_i e;exact⟨e,(J0 h).symm⟩
 cases h
theorem rok0 (hn:n.toNat≤4):ROk (R0 (kq sd role st n since)):=by
 refine⟨fun id k hk=>?_,fun id t ht=>(nomatch ht),by simp[R0],List.nodup_nil⟩
 obtain⟨rfl,rfl⟩:=get1 _ _ _ hk
 exact⟨rfl,J1 rfl,hn,U3 _⟩
theorem rok1 (hn:n.toNat≤4):ROk (R1 (kq sd role st n since)):=by
 refine⟨fun id k hk=>?_,fun id t ht=>?_,by simp[R1],by simp[R1]⟩
 ·obtain⟨rfl,rfl⟩:=get1 _ _ _ hk
  exact⟨rfl,J1 rfl,hn,U3 _⟩
 obtain⟨rfl,rfl⟩:=get1 _ _ _ ht
 exact⟨_,rfl,rfl⟩
theorem nlv2 (hn:n.toNat<4): ¬nlv 2-n=0#32:=by
 rw[bFx (by omega) (by omega)]
 omega
theorem sgA0 (msg:List B8) (hn:n.toNat<4):sgV (R0 (kq sd role st n since)) 1#32 msg=(some (lK sd.l 2 n msg),0,R1 (kq sd role st (n+1#32) since)):=by
 rw[cEp (eKb sd role st n since)]
 exact(J3 (nlv2 n hn)).trans rfl
theorem sgA9 (msg:List B8):sgV (R1 (kq sd role st n since)) 9#32 msg=(none,130,R1 (kq sd role st n since)):=cEq rfl
theorem lf1:lfV (R1 (kq sd role st n since)) 1#32=4#32-n:=cFs (eIy sd role st n since)
theorem trP1: {R1 (kq sd role st n since)with tr:=trP (R1 (kq sd role st n since)) (kq sd role st n since)}=R1 (kq sd role st n since):=rfl
theorem eIm:List.take 8 (List.drop 4 (dkB (kq sd role st n since)))=iR sd.l 2 0:=by
 have e:dkB (kq sd role st n since)=[((flK (kq sd role st n since))>>>8).setWidth 8,(flK (kq sd role st n since)).setWidth 8,3#8,253#8]++iR sd.l 2 0:=rfl
 have h:=iW sd.l 2 0
 rw[e,List.drop_append,List.take_of_length_le]<;>simp[h]
end
theorem mk0 (role st:Int) (sd:S8) (since:W32) (h1:role=0∨role=1) (h2:0≤st∧st≤3):mkV ⟨eDr,[],0#32,[]⟩ role sd st since=(1#32,0,R0 (kq sd role st 0#32 since)):=by
 unfold mkV
 rw[J3 (by omega),J3 (by show¬16≤0;omega)]
 rfl
def eEn:List AV→Option AV
 |[]=>some (.b true)
 |_=>none
theorem eFy:eEn []=some (.b true):=(rfl)
attribute [go_sem] eFy
def sd7:S8:=⟨7#8,0#8,0#8,0#8,0#8,0#8,0#8,0#8⟩
set_option maxHeartbeats 2000000 in
theorem eGe:cL Tryd.prog GLh 6 eEn:=by
 refine cC Tryd.func6 (aT rfl) ?_
 intro args r hg
 unfold eEn at hg
 split at hg
 ·obtain rfl:=J0 hg
  refine⟨J1 rfl,fun nx=>?_⟩
  have ec:oW (cfC {cBk with h:=2})=some eDr:=aDi eDr
  have hr:=ROk.new eDr
  have hm0:=mk0 0 1 sd7 5#32 (.inl rfl) (by omega)
  have hr0:=rok0 sd7 0 1 0#32 5#32 (J1 rfl)
  have hr1:=rok1 sd7 0 1 1#32 5#32 (J1 rfl)
  have hs0:=sgA0 sd7 0 1 0#32 5#32 [104#8,105#8] (by decide)
  refine aA rfl (aW [] rfl rfl rfl fun K hK=>?_)
  simp(disch:=omega) only[Tryd.f6,go_sem]
  refine hK _ ?_
  refine aB (aA rfl (aC (Γ:=bC [(8,.pure false bUe),(7,.heap aMq)]) [1] (aH eJn (aH eJc aO)) rfl rfl rfl (fun K hK=>?_)))
  simp(disch:=omega) only[Tryd.f6,go_sem,↓reduceIte,ec]
  refine hK _ ?_
  refine aB (aA rfl (aA rfl (aW [13,1] rfl rfl rfl fun K hK=>?_)))
  simp(disch:=omega) only[Tryd.f6,go_sem,↓reduceIte]
  refine hK _ ?_
  refine aB (eC (.tmp 13) rfl rfl rfl (fun h=>?_) (fun h=>?_))
  ·refine aI rfl ?_
   cases h
  refine aI rfl ?_
  clear h
  refine aQ rfl (aB (aA rfl ?_))
  have h8:s8L sd7.l=some sd7:=rfl
  have hc2:eDr.h≤10:=J1 rfl
  have hsp:cK (c8 (List.replicate 8 0#8)) 0 [.w8 7#8]=c8 sd7.l:=rfl
  refine aC (Γ:=bC [(9,.heap uF)]) [1,2,3] (aH aZx aO) rfl rfl rfl (fun K hK=>?_)
  simp(disch:=omega) only[Tryd.f6,go_sem,↓reduceIte,hr,hm0,h8,hc2,hsp]
  refine hK _ ?_
  refine aB (aA rfl (aC (Γ:=bC [(12,.heap aJo)]) [1,2,3,4,5] (aH eFw aO) rfl rfl rfl (fun K hK=>?_)))
  simp(disch:=omega) only[Tryd.f6,go_sem,↓reduceIte,hr0,hs0,eKf,eGy,U0,U1,J9,List.length_cons,List.length_nil]
  refine hK _ ?_
  refine aB ?_
  have hg1:=eIy sd7 0 1 1#32 5#32
  have hdn:dtN (kq sd7 0 1 1#32 5#32)=130:=rfl
  have htp:=trP1 sd7 0 1 1#32 5#32
  have hs9:=sgA9 sd7 0 1 1#32 5#32 []
  rw[show(0#32+1#32:W32)=1#32 from rfl]
  refine aA rfl (aC (Γ:=bC [(11,.heap bOf)]) [1,2,3,4,5,6,7] (aH cWf aO) rfl rfl rfl (fun K hK=>?_))
  simp(disch:=omega) only[Tryd.f6,go_sem,↓reduceIte,hr1,hg1,hdn,htp]
  refine hK _ ?_
  refine aB (aA rfl (aC (Γ:=bC [(12,.heap aJo)]) [1,2,3,4,5,6,7,9] (aH eFw aO) rfl rfl rfl (fun K hK=>?_)))
  simp(disch:=omega) only[Tryd.f6,go_sem,↓reduceIte,hr1,hs9,eJk,bHc,List.length_nil]
  refine hK _ ?_
  refine aB ?_
  have htl:(lK sd7.l 2 0#32 [104#8,105#8]).length=532:=qM sd7.l 2 0#32 [104#8,105#8]
  have hdl:=aAg (kq sd7 0 1 1#32 5#32)
  have hrt:=eIm sd7 0 1 1#32 5#32
  have hnl:=iW sd7.l 2 0
  have hv:aLo (iR sd7.l 2 0) 2 [104#8,105#8] (lK sd7.l 2 0#32 [104#8,105#8])=true:=cSx sd7.l 2 0#32 [104#8,105#8] (by omega) (by decide)
  have hlf:=lf1 sd7 0 1 1#32 5#32
  refine aA rfl (aC (Γ:=bC [(13,.pure true aQq),(14,.heap aNy)]) [0] (aH eJv (aH cWe aO)) rfl rfl rfl (fun K hK=>?_))
  simp(disch:=omega) only[Tryd.f6,go_sem,↓reduceIte,htl,hdl,hrt,hnl,hv,hlf,hr1,U0,U1,J9,List.length_cons,List.length_nil,Int.cast_ofNat_Int]
  refine hK _ ?_
  refine aB (aS rfl ?_)
  simp(disch:=omega) only[cN,bV,bK,bQ,Tryd.f6,go_sem,↓reduceIte]
 cases hg
theorem okd6:bX Tryd.prog GLh 6 (.pure true eEn):=⟨⟨_,Tryd.func6,rfl,rfl⟩,eGe⟩
end Go.AX

namespace Go.AX
open Go Go.Proofs
set_option maxRecDepth 8000
theorem sig3 (s:List B8) (n:W32) (msg:List B8):(lK s 2 n msg).getD 3 0#8=n.setWidth 8:=rfl
end Go.AX

namespace Go.AX
open Go Go.Proofs
set_option maxRecDepth 8000
theorem aUt {α:Type} [DecidableEq α]: ∀(R S:List α),R.Nodup→(∀t∈R,t∈S)→R.length≤S.length
 |[],_,_,_=>Nat.zero_le _
 |a::r,S,hn,hs=>by
  have ha:=hs a (by simp)
  obtain⟨h1,h2⟩:=List.nodup_cons.1 hn
  have:=aUt r (S.erase a) h2 fun t ht=>(List.mem_erase_of_ne (show t≠a from fun e=>by rw[e]at ht;exact h1 ht)).2 (hs t (by simp[ht]))
  rw[List.length_erase_of_mem ha]at this
  have:=List.length_pos_of_mem ha
  rw[List.length_cons];omega
def sdq (b:B8):S8:=⟨b,0#8,0#8,0#8,0#8,0#8,0#8,0#8⟩
def seS:List TK:=[⟨sdq 0#8,2⟩,⟨sdq 1#8,2⟩,⟨sdq 2#8,2⟩,⟨sdq 3#8,2⟩]
theorem bHe (x:B8):(⟨sdq (x%4#8),2⟩:TK)∈seS:=by
 have h:(x%4#8).toNat<4:=by rw[BitVec.toNat_umod];exact Nat.mod_lt _ (by decide)
 have h4:x%4#8=0#8∨x%4#8=1#8∨x%4#8=2#8∨x%4#8=3#8:=by
  have h0:(x%4#8).toNat=0∨(x%4#8).toNat=1∨(x%4#8).toNat=2∨(x%4#8).toNat=3:=by omega
  rcases h0 with e|e|e|e
  ·exact .inl (BitVec.eq_of_toNat_eq e)
  ·exact .inr (.inl (BitVec.eq_of_toNat_eq e))
  ·exact .inr (.inr (.inl (BitVec.eq_of_toNat_eq e)))
  exact .inr (.inr (.inr (BitVec.eq_of_toNat_eq e)))
 rcases h4 with e|e|e|e<;>rw[e]<;>simp[seS]
def SG (L:List KY):Prop:= ∀k∈L,(⟨k.seed,k.h⟩:TK)∈seS
def QG (Q:QT):Prop:=Q.R.Nodup∧∀t∈Q.R,t∈seS
theorem QG.len {Q:QT} (h:QG Q):Q.R.length≤4:=aUt Q.R seS h.1 h.2
theorem QG.add {Q:QT} (h:QG Q) {t:TK} (ht:t∈seS) (n:Nat):QG (oA Q t n):=by
 by_cases hm:t∈Q.R
 ·rw[sD hm];exact h
 rw[qQ hm]
 refine⟨List.nodup_append.2 ⟨h.1,by simp,fun x hx y hy=>?_⟩,fun x hx=>?_⟩
 ·rw[List.mem_singleton]at hy;subst hy
  exact fun e=>hm (e▸hx)
 rcases List.mem_append.1 hx with hx|hx
 ·exact h.2 x hx
 rw[List.mem_singleton]at hx;subst hx;exact ht
theorem QG.hoQ {L:List KY} (hL:SG L) {Q:QT} (h:QG Q) (b:Nat): ∀j,j≤L.length→QG (hoQ b L Q j)
 |0,_=>h
 |j+1,hj=>(QG.hoQ hL h b j (by omega)).add (hL _ (eEa (by omega))) _
structure MG (M:MC):Prop where
 c:M.c=eDr
 kg: ∀k∈M.L,KG 2 k
 sg:SG M.L
 len:M.L.length≤16
theorem MG.set {M:MC} (h:MG M) {i:Nat} (hi:i<M.L.length) {k:KY} (hk:KG 2 k) (hs:k.seed=(kyA M.L i).seed∧k.h=(kyA M.L i).h):MG {M with L:=M.L.set i k}:=by
 refine⟨h.c,fun x hx=>?_,fun x hx=>?_,by show(M.L.set i k).length≤16;rw[List.length_set];exact h.len⟩
 ·rcases List.mem_or_eq_of_mem_set hx with hx|rfl
  ·exact h.kg x hx
  exact hk
 rcases List.mem_or_eq_of_mem_set hx with hx|rfl
 ·exact h.sg x hx
 rw[hs.1,hs.2];exact h.sg _ (eEa hi)
theorem MG.at_ {M:MC} (h:MG M) {i:Nat} (hi:i<M.L.length):KG 2 (kyA M.L i):=h.kg _ (eEa hi)
theorem MG.turn {M:MC} (h:MG M) (id:W32) (st:Int) (now:W32):MG (kG M id st now).2:=by
 unfold kG
 rcases kX M.L id with⟨h1,_⟩|⟨i,hi,h2,h3,h4⟩
 ·rw[h1,J4 (by decide)];exact h
 rw[h2,J3 (by omega),U2]
 split
 ·exact h
 rename_i hc
 have hk:=h.at_ hi
 have h0:=hk.st0
 split
 ·refine⟨h.c,fun x hx=>?_,fun x hx=>?_,?_⟩
  ·rcases List.mem_append.1 hx with hx|hx
   ·exact h.kg x (List.mem_of_mem_take hx)
   exact h.kg x (List.mem_of_mem_drop hx)
  ·rcases List.mem_append.1 hx with hx|hx
   ·exact h.sg x (List.mem_of_mem_take hx)
   exact h.sg x (List.mem_of_mem_drop hx)
  have:=h.len
  show(M.L.take i++M.L.drop (i+1)).length≤16
  rw[List.length_append,List.length_take,List.length_drop];omega
 refine h.set (k:= {kyA M.L i with st:=st,since:=now}) hi ⟨hk.ro,?_,?_,hk.hq,hk.n,?_⟩ ⟨rfl,rfl⟩
 ·show 0≤st;omega
 ·show st≤3;omega
 rcases hk.s with e|⟨e1,e2⟩
 ·exact .inl e
 exact .inr ⟨e1,by show 2≤st;omega⟩
theorem MG.seen {M:MC} (h:MG M) (id now:W32):MG (mX M id now).2:=by
 unfold mX
 rcases kX M.L id with⟨h1,_⟩|⟨i,hi,h2,h3,h4⟩
 ·rw[h1,J4 (by decide)];exact h
 rw[h2,J3 (by omega),U2]
 split
 ·exact h
 rename_i hc
 have hk:=h.at_ hi
 refine h.set (k:= {kyA M.L i with seen:=mx1 now}) hi ⟨hk.ro,hk.st0,hk.st3,hk.hq,hk.n,?_⟩ ⟨rfl,rfl⟩
 refine .inr ⟨?_,?_⟩
 ·by_cases e:(kyA M.L i).role=1
  ·exact e
  exact absurd (.inl e) hc
 by_cases e:(kyA M.L i).st=2
 ·show 2≤(kyA M.L i).st;omega
 exact absurd (.inr (.inl e)) hc
theorem MG.next {M:MC} (h:MG M) {i:Nat} (hi:i<M.L.length) {n:W32} (hn:n≤4#32):MG {M with L:=M.L.set i {kyA M.L i with next:=n}}:=
 h.set (k:= {kyA M.L i with next:=n}) hi ⟨(h.at_ hi).ro,(h.at_ hi).st0,(h.at_ hi).st3,(h.at_ hi).hq,hn,(h.at_ hi).s⟩ ⟨rfl,rfl⟩
theorem MG.make {M:MC} (h:MG M) (role:Int) (x:B8) (st:Int) (now:W32):MG ((nK M role (sdq (x%4#8)) st now).2.2.getD M):=by
 unfold nK
 split
 ·exact h
 rename_i hb
 split
 ·exact h
 rename_i h16
 have hc:M.c.h=2:=by rw[h.c];rfl
 refine⟨h.c,fun y hy=>?_,fun y hy=>?_,?_⟩
 ·rcases List.mem_append.1 hy with hy|hy
  ·exact h.kg y hy
  rw[List.mem_singleton]at hy;subst hy
  refine⟨?_,?_,?_,hc,by show(0#32:W32)≤_;exact BitVec.le_def.2 (Nat.zero_le _),.inl rfl⟩
  ·show role=0∨role=1;omega
  ·show 0≤st;omega
  show st≤3;omega
 ·rcases List.mem_append.1 hy with hy|hy
  ·exact h.sg y hy
  rw[List.mem_singleton]at hy;subst hy
  show(⟨sdq (x%4#8),M.c.h⟩:TK)∈seS
  rw[hc];exact bHe x
 show(M.L++[_]).length≤16
 rw[List.length_append];show _+1≤16;omega
end Go.AX

namespace Go.AX
open Go Go.Proofs
set_option maxRecDepth 8000
theorem eFg:nlv 2=4#32:=rfl
def nxM (M:MC) (i:Nat) (n:W32):MC:= {M with L:=M.L.set i {kyA M.L i with next:=n}}
theorem RM.skip_n {C:RC} {M:MC} (h:RM C M) {id:W32} (n:W32) (hf:jS id M.L=none):skV C id n=(130,C):=cEo ((h.get id).trans hf)
theorem RM.skip_y {C:RC} {M:MC} (h:RM C M) (g:MG M) {i:Nat} (hi:i<M.L.length) (n:W32) (hn:(kyA M.L i).next<n∧n≤4#32):
  (skV C (kyA M.L i).id n).1=0∧RM (skV C (kyA M.L i).id n).2 (nxM M i n):=by
 have hk:=(h.get (kyA M.L i).id).trans (aDb h.sl hi)
 have hq:=(g.at_ hi).hq
 have e:=cEn (n:=n) hk
 have hb: ¬(n≤(kyA M.L i).next∨nlv (kyA M.L i).h<n):=by
  rw[hq,eFg]
  intro hh
  rcases hh with hh|hh
  ·have:=BitVec.le_def.1 hh
   have:=BitVec.lt_def.1 hn.1
   omega
  ·have:=BitVec.lt_def.1 hh
   have:=BitVec.le_def.1 hn.2
   omega
 rw[J3 hb]at e
 have hok:=h.ok.skV (kyA M.L i).id n
 rw[e]at hok⊢
 exact⟨rfl,h.upd hok hi rfl rfl rfl rfl⟩
theorem RM.skip_b {C:RC} {M:MC} (h:RM C M) (g:MG M) {i:Nat} (hi:i<M.L.length) (n:W32) (hn: ¬((kyA M.L i).next<n∧n≤4#32)):skV C (kyA M.L i).id n=(131,C):=by
 have hk:=(h.get (kyA M.L i).id).trans (aDb h.sl hi)
 have hq:=(g.at_ hi).hq
 rw[cEn hk,J4]
 rw[hq,eFg]
 by_cases h1:n≤(kyA M.L i).next
 ·exact .inl h1
 by_cases h2:(4#32:W32)<n
 ·exact .inr h2
 exact absurd ⟨BitVec.not_le.1 h1,BitVec.not_lt.1 h2⟩ hn
theorem RM.sign_n {C:RC} {M:MC} (h:RM C M) {id:W32} (msg:List B8) (hf:jS id M.L=none):sgV C id msg=(none,130,C):=cEq ((h.get id).trans hf)
theorem RM.sign_f {C:RC} {M:MC} (h:RM C M) (g:MG M) {i:Nat} (hi:i<M.L.length) (msg:List B8) (hn:(kyA M.L i).next=4#32):sgV C (kyA M.L i).id msg=(none,132,C):=by
 have hk:=(h.get (kyA M.L i).id).trans (aDb h.sl hi)
 rw[cEp hk,J4]
 rw[(g.at_ hi).hq,eFg,hn];rfl
theorem RM.sign_y {C:RC} {M:MC} (h:RM C M) (g:MG M) {i:Nat} (hi:i<M.L.length) (msg:List B8) (hn:(kyA M.L i).next≠4#32):
  sgV C (kyA M.L i).id msg=(some (lK (kyA M.L i).seed.l 2 (kyA M.L i).next msg),0,sgC C (kyA M.L i).id (kyA M.L i))∧RM (sgC C (kyA M.L i).id (kyA M.L i)) (nxM M i ((kyA M.L i).next+1#32)):=by
 have hk:=(h.get (kyA M.L i).id).trans (aDb h.sl hi)
 have hq:=(g.at_ hi).hq
 have e:=cEp (msg:=msg) hk
 have hb: ¬nlv (kyA M.L i).h-(kyA M.L i).next=0#32:=by
  rw[hq,eFg]
  intro hh
  apply hn
  have h1:=congrArg BitVec.toNat hh
  rw[BitVec.toNat_sub]at h1
  have h2:=BitVec.le_def.1 (g.at_ hi).n
  rw[eFg]at h2
  apply BitVec.eq_of_toNat_eq
  simp only[BitVec.toNat_ofNat]at h1 h2⊢
  omega
 rw[J3 hb]at e
 have hok:=h.ok.sgC hk hb
 exact⟨by rw[e,hq],h.upd hok hi rfl rfl rfl rfl⟩
theorem MG.next4 {M:MC} (h:MG M) {i:Nat} (hi:i<M.L.length) (hn:(kyA M.L i).next≠4#32):(kyA M.L i).next+1#32≤4#32:=by
 have h2:=BitVec.le_def.1 (h.at_ hi).n
 rw[eFg]at h2
 have h3:(kyA M.L i).next.toNat≠4:=fun e=>hn (BitVec.eq_of_toNat_eq e)
 rw[BitVec.le_def,BitVec.toNat_add]
 simp only[BitVec.toNat_ofNat]at h2⊢
 omega
theorem RM.og {C:RC} {M:MC} (h:RM C M) (g:MG M) (hp: ∀k∈M.L,0<k.id.toNat):OG M.c M.last M.L:=
 ⟨h.sl,fun k hk=>⟨hp k hk,h.le hk⟩,by rw[show M.c.h=2 by rw[g.c];rfl];exact g.kg,by rw[show M.c.h=2 by rw[g.c];rfl];omega,g.len⟩
end Go.AX

namespace Go.AX
open Go Go.Proofs
set_option maxRecDepth 8000
structure KPI where
 i:Nat
 h:H
 d:Nat
 s:Nat
 m:Nat
 l:Nat
 C:RC
 M:MC
 Q:QT
 c:Nat
structure KS (p:KPI) (e:Nat):Prop where
 tw:TW p.h p.d p.s p.m e p.l p.C p.M p.Q
 rm:RM p.C p.M
 mg:MG p.M
 qg:QG p.Q
 pos: ∀k∈p.M.L,0<k.id.toNat
 la:p.M.last.toNat≤p.i
 dom: ∀j o,p.h j=some o→j<p.c
theorem KS.start {h1:H} {d s m e l q c1:Nat} (hT:TW h1 d s m e l ⟨eDr,[],0#32,[]⟩ ⟨eDr,q,[],0#32⟩ ⟨0,0,0,[]⟩) (hdom: ∀j o,h1 j=some o→j<c1):KS ⟨0,h1,d,s,m,l,⟨eDr,[],0#32,[]⟩,⟨eDr,q,[],0#32⟩,⟨0,0,0,[]⟩,c1⟩ e:=
 ⟨hT,⟨ROk.new _,List.eq_nil_of_length_eq_zero (by rw[qL];rfl),rfl,rfl⟩,⟨rfl,fun _ h=>(nomatch h),fun _ h=>(nomatch h),Nat.zero_le _⟩,⟨List.nodup_nil,fun _ h=>(nomatch h)⟩,fun _ h=>(nomatch h),U3 _,hdom⟩
theorem eGl {g:H} {n j:Nat} (hg: ∀k o,g k=some o→k<n): ∀k o,del g j k=some o→k<n:=by
 intro k o h
 rw[eV]at h
 split at h
 ·cases h
 exact hg _ _ h
theorem eEv {g:H} {n e l:Nat} {M:MC} (h1:e<n) (h2:l<n) (hg: ∀k o,g k=some o→k<n): ∀k o,setM e l M g k=some o→k<n:=by
 unfold setM
 exact eDq h1 (eDq h2 hg)
theorem eDx {g:H} {n n':Nat} (h:n≤n') (hg: ∀k o,g k=some o→k<n): ∀k o,g k=some o→k<n':=fun k o hk=>Nat.lt_of_lt_of_le (hg k o hk) h
section
variable {g : H} {d s m e l : Nat} {C : RC} {M : MC} {Q : QT}
theorem TW.row (h:TW g d s m e l C M Q) {M':MC} {l':Nat} (hq:M'.q=M.q) {g':H} (ha: ∀k,k≠e→k≠l→k≠l'→g' k=g k) (hm:aFj g' e l' M') (hn:(l'≠d∧l'≠s∧l'≠m∧l'≠M.q)∧(Q.R≠[]→l'≠Q.a∧l'≠Q.b∧l'≠Q.c)):TW g' d s m e l' C M' Q:=by
 obtain⟨⟨a1,a2,a3⟩,⟨b1,b2,b3⟩,⟨c1,c2,c3⟩,f1,f2⟩:=h.ne
 obtain⟨⟨n1,n2,n3,n4⟩,n5⟩:=hn
 refine⟨⟨?_,?_,?_,h.r.ne⟩,hm,⟨?_,h.q.z,fun hz=>?_⟩,?_,fun hz=>?_⟩
 ·rw[ha d a1 a2 (Ne.symm n1)];exact h.r.hd
 ·rw[ha s b1 b2 (Ne.symm n2)];exact h.r.hs
 ·rw[ha m c1 c2 (Ne.symm n3)];exact h.r.hm
 ·rw[hq,ha M.q (Ne.symm f1) (Ne.symm f2) (Ne.symm n4)];exact h.q.hq
 ·obtain⟨x1,x2,x3,x4⟩:=h.q.h hz
  obtain⟨⟨y1,y2,y3,y4,y5⟩,⟨z1,z2,z3,z4,z5⟩,⟨w1,w2,w3,w4,w5⟩⟩:=h.qa hz
  obtain⟨p1,p2,p3⟩:=n5 hz
  rw[hq]
  exact⟨by rw[ha _ y4 y5 (Ne.symm p1)];exact x1,by rw[ha _ z4 z5 (Ne.symm p2)];exact x2,by rw[ha _ w4 w5 (Ne.symm p3)];exact x3,x4⟩
 ·rw[hq];exact⟨⟨a1,Ne.symm n1,a3⟩,⟨b1,Ne.symm n2,b3⟩,⟨c1,Ne.symm n3,c3⟩,f1,n4⟩
 obtain⟨⟨y1,y2,y3,y4,y5⟩,⟨z1,z2,z3,z4,z5⟩,⟨w1,w2,w3,w4,w5⟩⟩:=h.qa hz
 obtain⟨p1,p2,p3⟩:=n5 hz
 exact⟨⟨y1,y2,y3,y4,Ne.symm p1⟩,⟨z1,z2,z3,z4,Ne.symm p2⟩,⟨w1,w2,w3,w4,Ne.symm p3⟩⟩
theorem TW.old (h:TW g d s m e l C M Q):(l≠d∧l≠s∧l≠m∧l≠M.q)∧(Q.R≠[]→l≠Q.a∧l≠Q.b∧l≠Q.c):=by
 obtain⟨⟨a1,a2,a3⟩,⟨b1,b2,b3⟩,⟨c1,c2,c3⟩,f1,f2⟩:=h.ne
 refine⟨⟨Ne.symm a2,Ne.symm b2,Ne.symm c2,f2⟩,fun hz=>?_⟩
 obtain⟨⟨y1,y2,y3,y4,y5⟩,⟨z1,z2,z3,z4,z5⟩,⟨w1,w2,w3,w4,w5⟩⟩:=h.qa hz
 exact⟨Ne.symm y5,Ne.symm z5,Ne.symm w5⟩
theorem TW.setM (h:TW g d s m e l C M Q) {M':MC} (hq:M'.q=M.q):TW (setM e l M' g) d s m e l C M' Q:=
 h.row hq (fun _ h1 h2 _=>qA _ _ _ _ _ h1 h2) (aBh h.mm.ne.1) h.old
theorem TW.newM (h:TW g d s m e l C M Q) {n:Nat} (hn:eGx n d s m e l M Q) {l':Nat} (hl:n≤l') {M':MC} (hq:M'.q=M.q):TW (AX.setM e l' M' (del g l)) d s m e l' C M' Q:=by
 obtain⟨a1,a2,a3,a4,a5,a6⟩:=hn.a
 refine h.row hq (fun k h1 h2 h3=>by rw[qA _ _ _ _ _ h1 h3,eV,J3 h2]) (aBh (by omega)) ⟨by omega,fun hz=>by have:=hn.b hz;omega⟩
theorem TW.put (h:TW g d s m e l C M Q) {L':List KY} (hl:L'.length=M.L.length):TW (AX.upd g l (.cells (jQ L') true)) d s m e l C {M with L:=L'} Q:=by
 refine h.row (M':= {M with L:=L'}) rfl (fun k _ h2 _=>by rw[bJ,J3 h2]) ⟨?_,by rw[bJ,J4 rfl],h.mm.ne⟩ h.old
 rw[bJ,J3 h.mm.ne.1,h.mm.hd]
 show some (AO.cells (mgC l M) true)=some (AO.cells (mgC l {M with L:=L'}) true)
 unfold mgC
 rw[show({M with L:=L'}:MC).L=L' from rfl,hl]
theorem TW.opened (h:TW g d s m e l C M Q) {n:Nat} (hn:eGx n d s m e l M Q) {d' s' m':Nat} (h1:n≤d') (h2:n≤s') (h3:n≤m') (hd:d'≠s'∧d'≠m'∧s'≠m') (C':RC):TW (AX.setR d' s' m' C' g) d' s' m' e l C' M Q:=by
 obtain⟨a1,a2,a3,a4,a5,a6⟩:=hn.a
 obtain⟨_,_,_,f1,f2⟩:=h.ne
 refine⟨bGx hd.1 hd.2.1 hd.2.2,⟨?_,?_,h.mm.ne⟩,⟨?_,h.q.z,fun hz=>?_⟩,⟨⟨by omega,by omega,by omega⟩,⟨by omega,by omega,by omega⟩,⟨by omega,by omega,by omega⟩,f1,f2⟩,fun hz=>?_⟩
 ·rw[jN _ _ _ _ _ _ (by omega) (by omega) (by omega)];exact h.mm.hd
 ·rw[jN _ _ _ _ _ _ (by omega) (by omega) (by omega)];exact h.mm.hl
 ·rw[jN _ _ _ _ _ _ (by omega) (by omega) (by omega)];exact h.q.hq
 ·obtain⟨x1,x2,x3,x4⟩:=h.q.h hz
  have:=hn.b hz
  exact⟨by rw[jN _ _ _ _ _ _ (by omega) (by omega) (by omega)];exact x1,by rw[jN _ _ _ _ _ _ (by omega) (by omega) (by omega)];exact x2,by rw[jN _ _ _ _ _ _ (by omega) (by omega) (by omega)];exact x3,x4⟩
 have:=hn.b hz
 obtain⟨⟨y1,y2,y3,y4,y5⟩,⟨z1,z2,z3,z4,z5⟩,⟨w1,w2,w3,w4,w5⟩⟩:=h.qa hz
 exact⟨⟨by omega,by omega,by omega,y4,y5⟩,⟨by omega,by omega,by omega,z4,z5⟩,⟨by omega,by omega,by omega,w4,w5⟩⟩
theorem TW.rts (h:TW g d s m e l C M Q) {n:Nat} (hn:eGx n d s m e l M Q) {Q':QT} (hok:QOk M.q Q') (hq: ∀i,i<n→(Q.R≠[]→i≠Q.a∧i≠Q.b∧i≠Q.c)→Q'.R≠[]→i≠Q'.a∧i≠Q'.b∧i≠Q'.c):TW (AX.setQ M.q Q' (jY Q g)) d s m e l C M Q':=by
 obtain⟨a1,a2,a3,a4,a5,a6⟩:=hn.a
 obtain⟨⟨d1,d2,d3⟩,⟨b1,b2,b3⟩,⟨c1,c2,c3⟩,f1,f2⟩:=h.ne
 have key: ∀k,(k=d∨k=s∨k=m∨k=e∨k=l)→(Q.R≠[]→k≠Q.a∧k≠Q.b∧k≠Q.c):=by
  intro k k2 hz
  obtain⟨⟨y1,y2,y3,y4,y5⟩,⟨z1,z2,z3,z4,z5⟩,⟨w1,w2,w3,w4,w5⟩⟩:=h.qa hz
  rcases k2 with rfl|rfl|rfl|rfl|rfl
  ·exact⟨Ne.symm y1,Ne.symm z1,Ne.symm w1⟩
  ·exact⟨Ne.symm y2,Ne.symm z2,Ne.symm w2⟩
  ·exact⟨Ne.symm y3,Ne.symm z3,Ne.symm w3⟩
  ·exact⟨Ne.symm y4,Ne.symm z4,Ne.symm w4⟩
  exact⟨Ne.symm y5,Ne.symm z5,Ne.symm w5⟩
 have ap2: ∀k,k≠M.q→(k=d∨k=s∨k=m∨k=e∨k=l)→AX.setQ M.q Q' (jY Q g) k=g k:=by
  intro k k1 k2
  rw[jZ _ _ _ _ k1 (hq k (by omega) (key k k2)),eFd _ _ _ (key k k2)]
 refine⟨⟨by rw[ap2 d d3 (by simp)];exact h.r.hd,by rw[ap2 s b3 (by simp)];exact h.r.hs,by rw[ap2 m c3 (by simp)];exact h.r.hm,h.r.ne⟩,⟨by rw[ap2 e f1 (by simp)];exact h.mm.hd,by rw[ap2 l f2 (by simp)];exact h.mm.hl,h.mm.ne⟩,bGz hok,h.ne,fun hz=>?_⟩
 obtain⟨x1,x2,x3⟩:=hq d a1 (key d (by simp)) hz
 obtain⟨y1,y2,y3⟩:=hq s a2 (key s (by simp)) hz
 obtain⟨z1,z2,z3⟩:=hq m a3 (key m (by simp)) hz
 obtain⟨u1,u2,u3⟩:=hq e a4 (key e (by simp)) hz
 obtain⟨v1,v2,v3⟩:=hq l a5 (key l (by simp)) hz
 exact⟨⟨Ne.symm x1,Ne.symm y1,Ne.symm z1,Ne.symm u1,Ne.symm v1⟩,⟨Ne.symm x2,Ne.symm y2,Ne.symm z2,Ne.symm u2,Ne.symm v2⟩,⟨Ne.symm x3,Ne.symm y3,Ne.symm z3,Ne.symm u3,Ne.symm v3⟩⟩
end
theorem eHs {q:Nat} {Q:QT} (h:QOk q Q) (t:TK) {b:Nat} (hq:q<b):QOk q (oA Q t b):=by
 by_cases ht:t∈Q.R
 ·rw[sD ht];exact h
 rw[qQ ht]
 exact⟨fun e=>by simp at e,fun _=>⟨by simp only;omega,by simp only;omega,by simp only;omega,by simp only;omega,by simp only;omega,by simp only;omega⟩⟩
theorem eHh {q b:Nat} {L:List KY} {Q:QT} (h:QOk q Q) (hq:q<b): ∀j,QOk q (hoQ b L Q j)
 |0=>h
 |j+1=>eHs (eHh h hq j) _ (by omega)
theorem eHi {b:Nat} {L:List KY} {Q:QT} (hb:Q.R≠[]→Q.a<b∧Q.b<b∧Q.c<b) (hl:L.length≤16) (hQ:Q.R.length≤50): ∀j,j≤16→(hoQ b L Q j).R≠[]→(hoQ b L Q j).a<b+100000*j∧(hoQ b L Q j).b<b+100000*j∧(hoQ b L Q j).c<b+100000*j
 |0,_=>hb
 |j+1,hj=>by
  have ih:=eHi hb hl hQ j (by omega)
  have hlen:=eFr b L Q j
  have hr:rdN (kyA L j)≤3:=by unfold rdN;split<;>omega
  refine eFe (n:=b+100000*(j+1)) ?_ (fun hz=>?_)
  ·omega
  have:=ih hz;omega
theorem KS.hold {i:Nat} {g:H} {d s m e l:Nat} {C:RC} {M:MC} {Q:QT} {c:Nat} (h:KS ⟨i,g,d,s,m,l,C,M,Q,c⟩ e) {n c':Nat} (hn:c≤n) (hc:n+10000+100000*M.L.length≤c'):
  KS ⟨i,setR d s m (hoC C M.L M.L.length) (setQ M.q (hoQ (n+3621) M.L Q M.L.length) (jY Q g)),d,s,m,l,hoC C M.L M.L.length,M,hoQ (n+3621) M.L Q M.L.length,c'⟩ e:=by
 obtain⟨tw,rm,mg,qg,pos,la,dom⟩:=h
 simp only at tw rm mg qg pos la dom
 have hW:=tw.lt dom
 obtain⟨a1,a2,a3,a4,a5,a6⟩:=hW.a
 have hl:=mg.len
 have hlt:=eHi (b:=n+3621) (L:=M.L) (Q:=Q) (fun hz=>by have:=hW.b hz;omega) hl (by have:=qg.len;omega) M.L.length hl
 refine⟨?_,rm.hoC _ (U3 _),mg,qg.hoQ mg.sg _ _ (U3 _),pos,la,?_⟩
 ·exact(tw.rts hW (eHh tw.q.ok (by omega) _) (fun i hi h1=>eFq _ _ _ (by omega) h1 _)).setR _
 ·exact eDu (by simp only;omega) (by simp only;omega) (by simp only;omega) (eFb (by simp only;omega) (fun hz=>by have:=hlt hz;simp only;omega) (eDx (by simp only;omega) (eFc Q dom)))
theorem KS.hg {i:Nat} {g:H} {d s m e l:Nat} {C:RC} {M:MC} {Q:QT} {c:Nat} (h:KS ⟨i,g,d,s,m,l,C,M,Q,c⟩ e) (hi:i≤41):TW g d s m e l C M Q∧RM C M∧(∀k∈M.L,KG 2 k)∧Q.R.length≤50∧M.L.length≤16∧M.last.toNat<1000000:=
 ⟨h.tw,h.rm,h.mg.kg,by have:=h.qg.len;simp only at this;omega,h.mg.len,by have:=h.la;simp only at this;omega⟩
section
variable {i e : Nat} {g : H} {d s m l : Nat} {C : RC} {M : MC} {Q : QT} {c : Nat}
theorem KS.upd (h:KS ⟨i,g,d,s,m,l,C,M,Q,c⟩ e) {j c':Nat} (hj:c≤j) (hc:j<c') (o:AO):KS ⟨i,upd g j o,d,s,m,l,C,M,Q,c'⟩ e:=
 {h with tw:=h.tw.upd (h.tw.lt h.dom) hj o,dom:=eDq hc (eDx (show c≤c' by omega) h.dom)}
theorem KS.up (h:KS ⟨i,g,d,s,m,l,C,M,Q,c⟩ e) {c' i':Nat} (hc:c≤c') (hi:i≤i'):KS ⟨i',g,d,s,m,l,C,M,Q,c'⟩ e:=
 {h with la:=Nat.le_trans h.la hi,dom:=eDx hc h.dom}
theorem KS.make (h:KS ⟨i,g,d,s,m,l,C,M,Q,c⟩ e) (hi:i≤40) (x:B8) (r st:Int) (n:W32) {n1 c':Nat} (hn:c≤n1) (hc:n1+100≤c'):
  (mkV C r (sdq (x%4#8)) st n).1=(nK M r (sdq (x%4#8)) st n).1∧(mkV C r (sdq (x%4#8)) st n).2.1=(nK M r (sdq (x%4#8)) st n).2.1∧
  ∃l' M',KS ⟨i+1,bAl e l M (setR d s m (mkV C r (sdq (x%4#8)) st n).2.2 g) n1 (nK M r (sdq (x%4#8)) st n).2.2,d,s,m,l',(mkV C r (sdq (x%4#8)) st n).2.2,M',Q,c'⟩ e:=by
 obtain⟨tw,rm,mg,qg,pos,la,dom⟩:=h
 simp only at tw rm mg qg pos la dom
 have hW:=tw.lt dom
 obtain⟨a1,a2,a3,a4,a5,a6⟩:=hW.a
 obtain⟨e1,e2,e3⟩:=rm.mk' (by rw[rm.last];omega) (by rw[rm.c,mg.c];exact J1 rfl) r (sdq (x%4#8)) st n
 refine⟨e1,e2,?_⟩
 have hg:=mg.make r x st n
 have hT:=tw.setR (mkV C r (sdq (x%4#8)) st n).2.2
 have hd:=eDu (C:=(mkV C r (sdq (x%4#8)) st n).2.2) a1 a2 a3 dom
 rcases ho:(nK M r (sdq (x%4#8)) st n).2.2 with _|M'
 ·rw[ho]at e3 hg
  exact⟨l,M,hT,e3,hg,qg,pos,by simp only;omega,eDx (by simp only;omega) hd⟩
 ·rw[ho]at e3 hg
  have hM:M'=aEj M (wA M r (sdq (x%4#8)) st n):=by
   unfold nK at ho
   split at ho
   ·cases ho
   ·split at ho
    ·cases ho
    ·exact(J0 ho).symm
  subst hM
  have hls:(M.last+1#32).toNat=M.last.toNat+1:=by
   rw[BitVec.toNat_add]
   show(M.last.toNat+1)%4294967296=_
   omega
  refine⟨n1+51,_,hT.newM (hT.lt hd) (by omega) rfl,e3,hg,qg,fun k hk=>?_,?_,eEv (by simp only;omega) (by simp only;omega) (eGl (eDx (by simp only;omega) hd))⟩
  ·rcases List.mem_append.1 hk with hk|hk
   ·exact pos k hk
   ·rw[List.mem_singleton]at hk;subst hk
    show 0<(M.last+1#32).toNat
    omega
  ·show(M.last+1#32).toNat≤i+1
   omega
theorem eEz {L:List KY} (h: ∀k∈L,0<k.id.toNat) {j:Nat} (hj:j<L.length) {k':KY} (hk:k'.id=(kyA L j).id): ∀k∈L.set j k',0<k.id.toNat:=by
 intro k hm
 rcases List.mem_or_eq_of_mem_set hm with hm|rfl
 ·exact h k hm
 rw[hk];exact h _ (eEa hj)
theorem KS.turn (h:KS ⟨i,g,d,s,m,l,C,M,Q,c⟩ e) (id:W32) (st:Int) (n:W32) {n1 c':Nat} (hn:c≤n1) (hc:n1+300+60*M.L.length≤c'):
  (tnV C id st n).1=(uA e l M id st n (setR d s m (tnV C id st n).2 g) n1).1∧
  ∃l' M',KS ⟨i+1,(uA e l M id st n (setR d s m (tnV C id st n).2 g) n1).2,d,s,m,l',(tnV C id st n).2,M',Q,c'⟩ e:=by
 obtain⟨tw,rm,mg,qg,pos,la,dom⟩:=h
 simp only at tw rm mg qg pos la dom
 have hW:=tw.lt dom
 obtain⟨a1,a2,a3,a4,a5,a6⟩:=hW.a
 obtain⟨e1,e2⟩:=rm.turn id st n
 have hg:=mg.turn id st n
 have hT:=tw.setR (tnV C id st n).2
 have hd:=eDu (C:=(tnV C id st n).2) a1 a2 a3 dom
 have hp:(∀k∈(kG M id st n).2.L,0<k.id.toNat)∧(kG M id st n).2.last=M.last∧(kG M id st n).2.q=M.q:=by
  unfold kG
  rcases kX M.L id with⟨h1,_⟩|⟨j,h1,h2,h3,h4⟩
  ·rw[h1,J4 (by decide)];exact⟨pos,rfl,rfl⟩
  ·rw[h2,J3 (by omega),U2]
   split
   ·exact⟨pos,rfl,rfl⟩
   ·split
    ·refine⟨fun k hk=>?_,rfl,rfl⟩
     rcases List.mem_append.1 hk with hk|hk
     ·exact pos k (List.mem_of_mem_take hk)
     ·exact pos k (List.mem_of_mem_drop hk)
    ·exact⟨eEz pos h1 rfl,rfl,rfl⟩
 obtain⟨p1,p2,p3⟩:=hp
 have hla:(kG M id st n).2.last.toNat≤i+1:=by rw[p2];omega
 rcases cLr e l M id st n (setR d s m (tnV C id st n).2 g) n1 with⟨h1,h2⟩|h1|h1
 ·rw[h1]
  refine⟨e1,l,_,?_,e2,hg,qg,p1,hla,eDx (by simp only;omega) hd⟩
  show TW (AX.setR d s m (tnV C id st n).2 g) d s m e l (tnV C id st n).2 (kG M id st n).2 Q
  rw[h2];exact hT
 ·rw[h1]
  exact⟨e1,_,_,hT.newM (hT.lt hd) (by omega) p3,e2,hg,qg,p1,hla,eEv (by simp only;omega) (by simp only;omega) (eGl (eDx (by simp only;omega) hd))⟩
 ·rw[h1]
  exact⟨e1,l,_,hT.setM p3,e2,hg,qg,p1,hla,eEv (by simp only;omega) (by simp only;omega) (eDx (by simp only;omega) hd)⟩
theorem KS.seen (h:KS ⟨i,g,d,s,m,l,C,M,Q,c⟩ e) (id n:W32) {c':Nat} (hc:c≤c'):
  (snV C id n).1=(mX M id n).1∧
  ∃M',KS ⟨i+1,setM e l (mX M id n).2 (setR d s m (snV C id n).2 g),d,s,m,l,(snV C id n).2,M',Q,c'⟩ e:=by
 obtain⟨tw,rm,mg,qg,pos,la,dom⟩:=h
 simp only at tw rm mg qg pos la dom
 have hW:=tw.lt dom
 obtain⟨a1,a2,a3,a4,a5,a6⟩:=hW.a
 obtain⟨e1,e2⟩:=rm.seen id n
 have hg:=mg.seen id n
 have hT:=tw.setR (snV C id n).2
 have hd:=eDu (C:=(snV C id n).2) a1 a2 a3 dom
 have hp:(∀k∈(mX M id n).2.L,0<k.id.toNat)∧(mX M id n).2.last=M.last∧(mX M id n).2.q=M.q:=by
  unfold mX
  rcases kX M.L id with⟨h1,_⟩|⟨j,h1,h2,h3,h4⟩
  ·rw[h1,J4 (by decide)];exact⟨pos,rfl,rfl⟩
  ·rw[h2,J3 (by omega),U2]
   split
   ·exact⟨pos,rfl,rfl⟩
   ·exact⟨eEz pos h1 rfl,rfl,rfl⟩
 obtain⟨p1,p2,p3⟩:=hp
 exact⟨e1,_,hT.setM p3,e2,hg,qg,p1,by show(mX M id n).2.last.toNat≤i+1;rw[p2];omega,eEv (by simp only;omega) (by simp only;omega) (eDx (by simp only;omega) hd)⟩
theorem KS.nx (h:KS ⟨i,g,d,s,m,l,C,M,Q,c⟩ e) {j:Nat} (hj:j<M.L.length) {C':RC} {n:W32} (hr:RM C' (nxM M j n)) (hn:n≤4#32):
  KS ⟨i+1,AX.upd (setR d s m C' g) l (.cells (jQ (M.L.set j {kyA M.L j with next:=n})) true),d,s,m,l,C',nxM M j n,Q,c⟩ e:=by
 obtain⟨tw,rm,mg,qg,pos,la,dom⟩:=h
 simp only at tw rm mg qg pos la dom
 have hW:=tw.lt dom
 obtain⟨a1,a2,a3,a4,a5,a6⟩:=hW.a
 have hT:=tw.setR C'
 exact⟨hT.put (List.length_set ..),hr,mg.next hj hn,qg,eEz pos hj rfl,by show M.last.toNat≤i+1;omega,eDq a5 (eDu a1 a2 a3 dom)⟩
theorem KS.setR (h:KS ⟨i,g,d,s,m,l,C,M,Q,c⟩ e) {C':RC} (hr:RM C' M):KS ⟨i,AX.setR d s m C' g,d,s,m,l,C',M,Q,c⟩ e:=by
 obtain⟨tw,rm,mg,qg,pos,la,dom⟩:=h
 simp only at tw rm mg qg pos la dom
 have hW:=tw.lt dom
 obtain⟨a1,a2,a3,a4,a5,a6⟩:=hW.a
 exact⟨tw.setR C',hr,mg,qg,pos,la,eDu a1 a2 a3 dom⟩
theorem KS.opened (h:KS ⟨i,g,d,s,m,l,C,M,Q,c⟩ e) {n c':Nat} (hn:c≤n) (hc:n+500≤c'):
  KS ⟨i+1,AX.setR (n+29) (n+26) (n+27) ⟨M.c,eDy M.L,M.last,[]⟩ g,n+29,n+26,n+27,l,⟨M.c,eDy M.L,M.last,[]⟩,M,Q,c'⟩ e:=by
 obtain⟨tw,rm,mg,qg,pos,la,dom⟩:=h
 simp only at tw rm mg qg pos la dom
 have hW:=tw.lt dom
 obtain⟨a1,a2,a3,a4,a5,a6⟩:=hW.a
 exact⟨tw.opened hW (by omega) (by omega) (by omega) ⟨by omega,by omega,by omega⟩ _,(rm.og mg pos).rm,mg,qg,pos,by show M.last.toNat≤i+1;omega,eDu (by simp only;omega) (by simp only;omega) (by simp only;omega) (eDx (by simp only;omega) dom)⟩
theorem TW.data {g:H} {d s m e l:Nat} {C:RC} {M:MC} {Q:QT} {c:Nat} (tw:TW g d s m e l C M Q) (dom: ∀k o,g k=some o→k<c) (hl:M.L.length≤16) (hq:Q.R.length≤4) (k:KY) {n:Nat} (hn:c≤n):
  TW (AX.upd (AX.setQ M.q (oA Q ⟨k.seed,k.h⟩ (n+183+rdN k+60*M.L.length+100*Q.R.length)) (jY Q g)) (n+94+rdN k+60*M.L.length+20000) (.cells (c8 (dkB k)) true)) d s m e l C M (oA Q ⟨k.seed,k.h⟩ (n+183+rdN k+60*M.L.length+100*Q.R.length))∧
  ∀j o,AX.upd (AX.setQ M.q (oA Q ⟨k.seed,k.h⟩ (n+183+rdN k+60*M.L.length+100*Q.R.length)) (jY Q g)) (n+94+rdN k+60*M.L.length+20000) (.cells (c8 (dkB k)) true) j=some o→j<n+40000:=by
 have hW:=tw.lt dom
 obtain⟨a1,a2,a3,a4,a5,a6⟩:=hW.a
 have hr:rdN k≤3:=by unfold rdN;split<;>omega
 have hT:=tw.setQ hW ⟨k.seed,k.h⟩ (b:=n+183+rdN k+60*M.L.length+100*Q.R.length) (by omega)
 have hd: ∀j o,AX.setQ M.q (oA Q ⟨k.seed,k.h⟩ (n+183+rdN k+60*M.L.length+100*Q.R.length)) (jY Q g) j=some o→j<n+10000:=
  eFb (by omega) (fun hz=>eFe (n:=n+10000) (by omega) (fun hz=>by have:=hW.b hz;omega) hz) (eDx (by omega) (eFc Q dom))
 exact⟨hT.upd (hT.lt hd) (by omega) _,eDq (by omega) (eDx (by omega) hd)⟩
theorem KS.sign (h:KS ⟨i,g,d,s,m,l,C,M,Q,c⟩ e) {j:Nat} (hj:j<M.L.length) (h4:(kyA M.L j).next≠4#32) {C':RC} (hr:RM C' (nxM M j ((kyA M.L j).next+1#32))) {g2:H} {Q2:QT} {c2:Nat} (hT:TW g2 d s m e l C' M Q2) (hd: ∀k o,g2 k=some o→k<c2) (hQ:QG Q2):
  KS ⟨i+1,AX.upd g2 l (.cells (jQ (M.L.set j {kyA M.L j with next:=(kyA M.L j).next+1#32})) true),d,s,m,l,C',nxM M j ((kyA M.L j).next+1#32),Q2,c2⟩ e:=by
 obtain⟨tw,rm,mg,qg,pos,la,dom⟩:=h
 simp only at tw rm mg qg pos la dom
 have hW:=hT.lt hd
 exact⟨hT.put (List.length_set ..),hr,mg.next hj (mg.next4 hj h4),hQ,eEz pos hj rfl,by show M.last.toNat≤i+1;omega,eDq hW.a.2.2.2.2.1 hd⟩
theorem eKd {k:KY} (hq:k.h=2):List.take 8 (List.drop 4 (dkB k))=iR k.seed.l 2 0:=by
 have e:dkB k=[((flK k)>>>8).setWidth 8,(flK k).setWidth 8,3#8,253#8]++iR k.seed.l k.h 0:=rfl
 have h:=iW k.seed.l 2 0
 rw[e,hq,List.drop_append,List.take_of_length_le]<;>simp[h]
theorem sw4 {n:W32} (hn:n.toNat<4):((n.setWidth 8:B8)).setWidth 32=n:=by
 apply BitVec.eq_of_toNat_eq
 rw[BitVec.toNat_setWidth,BitVec.toNat_setWidth]
 omega
end
end Go.AX

namespace Go.AX
open Go
def okC (P:Program) (Γ:Env) (md:Nat→Nat) (ops:Array Oper) (i:Nat):List Nat→Bool
 |[]=>false
 |j::r=>j==i||((match ops[j]?,ops[i]? with
  |some y,some x=>y.apart ops x&&eEq j i (tI P Γ (md j) y.op) (tI P Γ (md i) x.op)
  |_,_=>false)&&okC P Γ md ops i r)
def aRj (ops:Array Oper) (rem:List Nat) (i:Nat):Bool:=match ops[i]? with
 |some x=>x.after.all fun e=> !Region.binds .any e|| !rem.contains e.on
 |none=>false
def aWm (P:Program) (Γ:Env) (md:Nat→Nat) (ops:Array Oper) (i:Nat) (cs:List (List Nat)):List (List Nat):=(cs.filter (okC P Γ md ops i)).map fun l=>l.erase i
def okT (P:Program) (Γ:Env) (md:Nat→Nat) (ops:Array Oper):Nat→List Nat→List (List Nat)→Bool
 |0,_,cs=>cs.any List.isEmpty
 |n+1,rem,cs=> !cs.isEmpty&&(!rem.isEmpty||cs.any List.isEmpty)&&rem.all fun i=> !aRj ops rem i||okT P Γ md ops n (rem.filter fun k=>k !=i) (aWm P Γ md ops i cs)
theorem aGk {P:Program} {Γ:Env} {md:Nat→Nat} {ops:Array Oper} {i:Nat}: ∀ {l:List Nat},okC P Γ md ops i l=true→∃p q,l=p++i::q∧l.erase i=p++q∧
  ∀j∈p,j≠i∧∃y x,ops[j]? =some y∧ops[i]? =some x∧y.apart ops x=true∧eEq j i (tI P Γ (md j) y.op) (tI P Γ (md i) x.op)=true
 |[],h=>by cases h
 |j::r,h=>by
  by_cases e:j=i
  ·subst e
   exact⟨[],r,rfl,by simp,fun j hj=>nomatch hj⟩
  ·have e2:(j==i)=false:=by simp[e]
   simp only[okC,e2,Bool.false_or,Bool.and_eq_true]at h
   obtain⟨h1,h2⟩:=h
   obtain⟨p,q,g1,g2,g3⟩:=aGk h2
   refine⟨j::p,q,by rw[g1];rfl,by rw[List.erase_cons,e2];simp[g2],fun k hk=>?_⟩
   rcases List.mem_cons.1 hk with rfl|hk
   ·refine⟨e,?_⟩
    split at h1
    ·rename_i y x hy hx
     simp only[Bool.and_eq_true]at h1
     exact⟨y,x,hy,hx,h1.1,h1.2⟩
    ·cases h1
   ·exact g3 k hk
section
variable {P : Program} {Γ : Env} {c : Ctx} {σ0 : Nat → Loc} {I0 : Nat → Prop} {w0 : World} {md : Nat → Nat} {ops : Array Oper}
theorem cKn {n:Nat} {rem:List Nat} {cs:List (List Nat)} (h:okT P Γ md ops n rem cs=true):cs≠[]:=by
 rintro rfl
 cases n<;>simp[okT]at h
theorem aJw (hΓ:eJ P c.GL Γ) {Q:Exit→Act→World→Prop} (hdst:fK c.nt ops.toList=true) (he:tJ ops=true) {G:S→Prop} (hG: ∀s t,G s→gC s t→G t)
  (hQ: ∀s a' w',G s→R c σ0 I0 w0 (fun _=>False) s a' w'→Q .normal a' w'):
  ∀(fuel:Nat) (listed:Array Bool) (s:S) (a:Act) (w:World) (cs:List (List Nat)),listed.size=ops.size→(unl ops.size listed).length≤fuel→
   okT P Γ md ops fuel (unl ops.size listed) cs=true→(∀l∈cs,∃sf,dQ P Γ c.GL md ops l s=some sf∧G sf)→R c σ0 I0 w0 (fun k=>k∈unl ops.size listed) s a w→wpAny P .any ops Q fuel listed a w:=by
 have fin: ∀(listed:Array Bool) (s:S) (a:Act) (w:World) (cs:List (List Nat)),cs.any List.isEmpty=true→(∀l∈cs,∃sf,dQ P Γ c.GL md ops l s=some sf∧G sf)→R c σ0 I0 w0 (fun k=>k∈unl ops.size listed) s a w→Q .normal a w:=by
  intro listed s a w cs hcs hrun hR
  obtain⟨l,hl,hl2⟩:=List.any_eq_true.1 hcs
  obtain rfl:=List.isEmpty_iff.1 hl2
  obtain⟨sf,h1,h2⟩:=hrun _ hl
  obtain rfl:=J0 h1
  exact hQ _ _ _ h2 (hR.un fun k hk=>hk.elim)
 have unl_nil: ∀(listed:Array Bool),listed.size=ops.size→Region.ready .any ops listed=[]→unl ops.size listed=[]:=by
  intro listed hsz hr
  have hall:=uQ he listed hsz hr
  unfold unl
  refine List.filter_eq_nil_iff.2 fun i hi=>?_
  rw[hall i (List.mem_range.1 hi)];simp
 intro fuel
 induction fuel with
 |zero=>
  intro listed s a w cs hsz hlen hok hrun hR
  have hun0:unl ops.size listed=[]:=List.eq_nil_of_length_eq_zero (by omega)
  have hr:Region.ready .any ops listed=[]:=by
   refine List.eq_nil_iff_forall_not_mem.2 fun i hi=>?_
   obtain⟨h1,o,ho,_⟩:=mem_ready.1 hi
   have:i∈unl ops.size listed:=by unfold unl;rw[List.mem_filter,List.mem_range];exact⟨(Array.getElem?_eq_some_iff.1 ho).1,by rw[h1];rfl⟩
   rw[hun0]at this;cases this
  exact⟨hr,fin listed s a w cs hok hrun hR⟩
 |succ fuel ih=>
  intro listed s a w cs hsz hlen hok hrun hR
  simp only[okT,Bool.and_eq_true,List.all_eq_true]at hok
  obtain⟨⟨_,hemp⟩,hstepT⟩:=hok
  refine⟨fun hr=>?_,fun i hi=>?_⟩
  ·have hz:=unl_nil listed hsz hr
   rw[hz]at hemp
   exact fin listed s a w cs (by simpa using hemp) hrun hR
  obtain⟨hun,x,hx,hall⟩:=mem_ready.1 hi
  have hlt:=(Array.getElem?_eq_some_iff.1 hx).1
  have hmem:i∈unl ops.size listed:=by unfold unl;rw[List.mem_filter,List.mem_range];exact⟨hlt,by rw[hun];rfl⟩
  have hrd:aRj ops (unl ops.size listed) i=true:=by
   unfold aRj
   simp only[hx]
   refine Array.all_eq_true_iff_forall_mem.2 fun e hem=>?_
   cases hb:Region.binds .any e with
   |false=>rfl
   |true=>
    have h1:=hall e hem hb
    simp only[Bool.not_true,Bool.false_or,Bool.not_eq_true']
    rw[←Bool.not_eq_true]
    intro hc
    have hc2:=List.contains_iff_mem.1 hc
    unfold unl at hc2
    rw[List.mem_filter,List.mem_range]at hc2
    obtain⟨hc3,hc4⟩:=hc2
    have hs2:e.on<listed.size:=by omega
    rw[Array.getD_eq_getD_getElem?,Array.getElem?_eq_getElem hs2]at h1 hc4
    simp only[Option.getD_some]at h1 hc4
    rw[h1]at hc4;cases hc4
  have hT:=hstepT i hmem
  rw[hrd]at hT
  simp only[Bool.not_true,Bool.false_or]at hT
  have hsub: ∀k,k∈unl ops.size (listed.setIfInBounds i true)→k∈unl ops.size listed∧k≠i:=by
   intro k hk
   simp only[unl,List.mem_filter,List.mem_range]at hk⊢
   by_cases hki:k=i
   ·subst hki
    rw[Array.getD_eq_getD_getElem?,Array.getElem?_setIfInBounds_self_of_lt (by omega)]at hk
    simp at hk
   ·rw[getD_set_ne true (Ne.symm hki)]at hk
    exact⟨hk,hki⟩
  have e0:unl ops.size (listed.setIfInBounds i true)=(unl ops.size listed).filter (fun k=>k !=i):=by
   unfold unl
   rw[List.filter_filter]
   refine List.filter_congr fun k hk=>?_
   by_cases hki:k=i
   ·subst hki
    rw[Array.getD_eq_getD_getElem?,Array.getElem?_setIfInBounds_self_of_lt (by omega)];simp
   ·rw[getD_set_ne true (Ne.symm hki)]
    simp[hki]
  have hlen2:(unl ops.size (listed.setIfInBounds i true)).length<(unl ops.size listed).length:=by
   rw[e0]
   refine Nat.lt_of_le_of_ne (List.length_filter_le _ _) fun e=>?_
   have:=List.length_filter_eq_length_iff.1 e i hmem
   simp at this
  have hfw: ∀l,l∈cs→okC P Γ md ops i l=true→∃s1 sf,kA P Γ c.GL md ops i x s=some s1∧dQ P Γ c.GL md ops (l.erase i) s1=some sf∧G sf:=by
   intro l hl hc
   obtain⟨p,q,g1,g2,g3⟩:=aGk hc
   obtain⟨sf,r1,r2⟩:=hrun l hl
   rw[g1]at r1
   obtain⟨s1,sf',f1,f2,f3⟩:=wK hx p q (fun j hj=>by
    obtain⟨a1,y,x',a2,a3,a4,a5⟩:=g3 j hj
    rw[hx]at a3;obtain rfl:=J0 a3
    exact⟨a1,y,a2,a4,a5⟩) r1
   exact⟨s1,sf',f1,by rw[g2];exact f2,hG _ _ r2 f3⟩
  have hcs:=cKn hT
  obtain⟨s1,hs1⟩: ∃s1,kA P Γ c.GL md ops i x s=some s1:=by
   unfold aWm at hcs
   cases hf:cs.filter (okC P Γ md ops i)with
   |nil=>rw[hf]at hcs;exact absurd rfl hcs
   |cons l r=>
    have hm:=List.mem_filter.1 (show l∈cs.filter (okC P Γ md ops i)by rw[hf];simp)
    obtain⟨s1,_,f1,_⟩:=hfw l hm.1 hm.2
    exact⟨s1,f1⟩
  have hstep:=fX (K:=wpAny P .any ops Q fuel (listed.setIfInBounds i true)) (Q:=Q) (ops:=ops) hΓ hs1 (lU hdst (Array.mem_toList_iff.2 (Array.mem_of_getElem? hx))) (rem:=fun k=>k∈unl ops.size listed) hmem hR (fun a' w' hR'=>
   ih (listed.setIfInBounds i true) s1 a' w' (aWm P Γ md ops i cs) (by simpa using hsz) (by omega) (by rw[e0];exact hT) (fun l hl=>by
    unfold aWm at hl
    obtain⟨l0,hl0,rfl⟩:=List.mem_map.1 hl
    obtain⟨h1,h2⟩:=List.mem_filter.1 hl0
    obtain⟨s1',sf,f1,f2,f3⟩:=hfw l0 h1 h2
    rw[hs1]at f1;obtain rfl:=J0 f1
    exact⟨sf,f2,f3⟩) (hR'.un fun k hk=>hsub k hk))
  unfold wpOp
  simp only[hx]
  split
  ·rename_i hw;rw[J4 hw]at hstep;exact .inl hstep
  ·rename_i hw;rw[J3 hw]at hstep;exact hstep
end
def cWh (P:Program) (Γ:Env) (md:Nat→Nat) (L:List (List Nat)) (c:Code):Bool:=tJ (aM c)&&okT P Γ md (aM c) (aM c).size (List.range (aM c).size) L
theorem aXz {P:Program} {GL:Nat→Option (List AV)} {nt:Nat} {Q:Exit→S→Prop} {s:S} {code:Code} {Γ:Env} (L:List (List Nat)) (md:Nat→Nat) (ks:List Nat) (hm:P.follows .mixedOrders=true) (hΓ:eJ P GL Γ) (hc:eEs code=true) (hd:lZ code=true) (ho:fK nt (aM code).toList=true) (hk:cWh P Γ md L code=true)
  (h: ∀K:S→Prop,(∀t,Q .normal t→K t)→aUe (fun l=>nH (xL P Γ GL md (rN code) (aF code) l (cX (rN code) s)) fun t=>K {t with fr:=gL ks t.fr}) L):Awp P GL nt code s Q:=by
 have h':=aDs (h (Q .normal) fun _ h=>h)
 clear h
 refine sX ?_
 cases code<;>first|(cases hc;done)|skip
 rename_i id ops d
 simp only[lZ]at hd
 subst hd
 intro c h1 h2 σ0 I0 w0 a w hR
 subst h1;subst h2
 simp only[aM,cWh,Bool.and_eq_true]at ho hk
 have h0:unl ops.size (Array.replicate ops.size false)=List.range ops.size:=by
  unfold unl
  refine List.filter_eq_self.2 fun k hk=>?_
  rw[List.mem_range]at hk
  rw[Array.getD_eq_getD_getElem?,Array.getElem?_replicate,J4 hk];rfl
 have hrun: ∀(l:List Nat) (s:S),xL P Γ c.GL md (rN (.region id ops true)) (aF (.region id ops true)) l s=dQ P Γ c.GL md ops l s:=by
  intro l
  induction l with
  |nil=>intro s;rfl
  |cons i r ih=>
   intro s
   have hl:(aF (.region id ops true))[i]? =(ops[i]?).map (light ops):=by simp only[aF,aM,List.getElem?_map,Array.getElem?_toList]
   simp only[xL,dQ,hl]
   cases ops[i]? with
   |none=>rfl
   |some o=>
    simp only[Option.map_some,yR,vJ]
    congr 1
    funext s'
    exact ih s'
 refine wp_region_any hm (aJw (σ0:=σ0) (I0:=I0) (w0:=w0) (md:=md) (G:=fun sf=> ∃s',gC s' sf∧Q .normal {s' with fr:=gL ks s'.fr}) hΓ ho hk.1
  (fun s t hs he=>by obtain⟨s',e1,e2⟩:=hs;exact⟨s',e1.trans he,e2⟩)
  (fun s a' w' hs hR'=>by obtain⟨s',e1,e2⟩:=hs;exact⟨s',⟨_,e2,dWs ks s',rfl⟩,hR'.eqv e1.symm⟩)
  ops.size _ (cX ops.size s) a _ L (by simp) (by rw[h0];simp) (by rw[h0];exact hk.2) (fun l hl=>?_) ?_)
 ·obtain⟨t,e1,e2⟩:=mR (h' l hl)
  rw[hrun]at e1
  exact⟨t,e1,t,gC.refl _,e2⟩
 ·exact((hR.enter ops.size).un fun k hk=>by rw[h0]at hk;exact List.mem_range.1 hk).world rfl rfl rfl rfl
end Go.AX
