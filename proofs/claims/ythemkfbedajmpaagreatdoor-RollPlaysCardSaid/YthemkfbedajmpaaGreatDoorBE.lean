/-
  Sort, part G: sorting a little, at numbers of 32 bits. Sort, part H: the sort itself, at numbers of 32 bits. Sort, part I: the sort of a slice, at numbers of 32 bits. Keys, part uK: a map's keys, collected, at numbers of 32 bits (the kit's own walk, for ranges over a function). Keys, part uL: contracts of a map's keys, sorted, at numbers of 32 bits. Keys, part I: all keys, in order. Keys, part J: keys turned, seen, told. Keys, part M: the document's ring in memory; found, made. Keys, part N: keys whose DS was seen. Keys, part O: the document's keys turned. Rolls, part A: sums of times; numbers held against one another; settings. Rolls, part B: the keys of a role. Rolls, part C: rows of keys cloned; keys struck out of them; the keys of a role. Rolls, part D: which keys sign; what is due. Rolls, part E: all that is due. Rolls, part F: what is due first.
-/
import Derived.Test.YthemkfbedajmpaaGreatDoorBD
import Derived.RangeFuncBox
import Derived.RangeFuncLeaves
import Derived.RangeFuncStops
import Derived.Lib.SlKeysI
import Derived.Sort.MapsRangeIn
import Derived.Shelf.Abstract
import Derived.WalkKit
import Derived.OwnWalkIn
import Derived.TacticsInMore
import Derived.RegionIn
import Derived.LoopNIn
import Derived.LoopIn
import Derived.Maps.AppendAt
import Derived.Test.YthemkfbedajmpaaGreatDoorProg
import Derived.KernelRfl
namespace Go.AX
open Go Go.Proofs
theorem aVe: ∀(j:Nat) (d:Array T32),(Sort.shiftDown ltN j d).size=d.size
 |0,d=>rfl
 |j+1,d=>by
  rw[Sort.shiftDown]
  split
  ·rfl
  rw[aVe j,cW]
theorem aUu (b:Nat): ∀(m j:Nat) (d:Array T32),b-j≤m→(Sort.shiftUp ltN b j d).size=d.size:=by
 intro m
 induction m with
 |zero=>intro j d h;rw[Sort.shiftUp,J3 (by omega)]
 |succ m ih=>
  intro j d h
  rw[Sort.shiftUp]
  split
  ·split
   ·rfl
   rw[ih _ _ (by omega),cW]
  rfl
theorem cTm (b:Nat) (d:Array T32): ∀(m i:Nat),b-i≤m→i≤b→i≤Sort.scanSorted ltN d b i∧Sort.scanSorted ltN d b i≤b:=by
 intro m
 induction m with
 |zero=>intro i h hi;rw[Sort.scanSorted,J6 (by omega: ¬i<b),Bool.false_and];simp only[Bool.false_eq_true,if_false];omega
 |succ m ih=>
  intro i h hi
  rw[Sort.scanSorted]
  by_cases hib:i<b
  ·split
   ·have:=ih (i+1) (by omega) (by omega);omega
   omega
  rw[J6 hib,Bool.false_and];simp only[Bool.false_eq_true,if_false];omega
set_option maxHeartbeats 1000000 in
theorem cVd {id n a b I I2 nx0 cx0:Nat} {s:Int} {gg:Bool} {D:Array T32} {Q:Exit→S→Prop} (hI:Sort.scanSorted ltN D b I=I2) (hs:D.size=n) (hI1:0<I) (hb:b≤n) (hbig:n≤1000000) (hid:id<cx0)
  (hQ: ∀n1 c1,id<c1→Q .normal {fr:=[(0,.os id 0 n 1 gg),(1,.i (a:Int)),(2,.i (b:Int)),(7,.i (I2:Int)),(8,.i s)],hp:=upd (fun _=>none) id (.cells (cA D) true),nx:=n1,cx:=c1}):
  Awp Tryz.prog GLh Tryz.f73.ntmps (cl (cl (cl (cr (cl (cl (cr (cl (cr (cr (aE Tryz.f73))))))))))) {fr:=[(0,.os id 0 n 1 gg),(1,.i (a:Int)),(2,.i (b:Int)),(7,.i (I:Int)),(8,.i s)],hp:=upd (fun _=>none) id (.cells (cA D) true),nx:=nx0,cx:=cx0} Q:=by
  refine aR 2 rfl rfl (bR (fun q:SKC=> {fr:=[(0,.os id 0 n 1 gg),(1,.i a),(2,.i b),(7,.i q.k),(8,.i s)],hp:=upd (fun _=>none) id (.cells (cA D) true),nx:=0,cx:=q.c}) (fun q=>Sort.scanSorted ltN D b q.k=I2∧0<q.k∧id<q.c) (fun q=>b-q.k) rfl ⟨⟨I,_⟩,⟨hI,hI1,hid⟩,bD rfl rfl (U3 _)⟩ ?_)
  rintro⟨i,c⟩ ⟨hr,hi,hc⟩ n0
  simp only at hr hi hc⊢
  by_cases hij:i<b
  ·have hd1:decide ((i:Int)<(b:Int))=true:=J5 (by omega)
   have hin:i<n:=by omega
   have ei:(i:Int)-1=((i-1:Nat):Int):=by omega
   obtain⟨v,hv⟩: ∃v,ltN D[i]! D[i-1]! =v:=⟨_,rfl⟩
   rw[Sort.scanSorted,J5 hij,Bool.true_and,hv]at hr
   refine aA rfl (aA rfl (bB (Γ:=bC [(74,.pure true dY)]) (fun k=>if k=13 then 0 else 2) [32,0,1,2,7,8] bZ (aH jC aO) rfl rfl rfl (by kernel_rfl) (fun K hK=>?_)))
   simp(disch:=omega) only[Tryz.f73,go_sem,↓reduceIte,hd1,ei,hv,U2]
   refine hK _ ?_
   refine aB ?_
   cases v
   ·simp only[Bool.not_false,if_true]at hr
    refine eC (.tmp 32) rfl rfl rfl (fun h=>?_) (fun h=>?_)
    ·refine aI rfl (aQ rfl (aB (aR 3 rfl rfl (bA [0,1,2,7,8] rfl rfl rfl fun K hK=>?_))))
     simp(disch:=omega) only[Tryz.f73,go_sem,↓reduceIte]
     refine hK _ ?_
     refine bU (bT ?_)
     refine⟨⟨i+1,_⟩,⟨hr,by simp only;omega,by simp only;omega⟩,by simp only;omega,bD (by simp only[Int.natCast_add,Int.natCast_one]) rfl (U3 _)⟩
    refine aI rfl ?_
    cases h
   simp only[Bool.not_true,Bool.false_eq_true,if_false]at hr
   subst hr
   refine eC (.tmp 32) rfl rfl rfl (fun h=>?_) (fun h=>?_)
   ·refine aI rfl ?_
    cases h
   exact aI rfl (bF 2 rfl rfl (aY (aZ (bE (hQ _ _ (by omega))))))
  have hd1:decide ((i:Int)<(b:Int))=false:=J6 (by omega)
  rw[Sort.scanSorted,J6 hij,Bool.false_and]at hr
  simp only[Bool.false_eq_true,if_false]at hr
  subst hr
  refine aA rfl (aA rfl (bB (Γ:=bC [(74,.pure true dY)]) (fun k=>if k=13 then 0 else 2) [32,0,1,2,7,8] bZ (aH jC aO) rfl rfl rfl (by kernel_rfl) (fun K hK=>?_)))
  simp(disch:=omega) only[Tryz.f73,go_sem,↓reduceIte,hd1]
  refine hK _ ?_
  refine aB (eC (.tmp 32) rfl rfl rfl (fun h=>?_) (fun h=>?_))
  ·refine aI rfl ?_
   cases h
  exact aI rfl (bF 2 rfl rfl (aY (aZ (bE (hQ _ _ (by omega))))))
set_option maxHeartbeats 1000000 in
theorem cVc {id n a b i J nx0 cx0:Nat} {s:Int} {gg:Bool} {D E:Array T32} {Q:Exit→S→Prop} (hE:Sort.shiftDown ltN J D=E) (hs:D.size=n) (hJ:J<n) (hbig:n≤1000000) (hid:id<cx0)
  (hQ: ∀jj n1 c1,id<c1→Q .normal {fr:=[(0,.os id 0 n 1 gg),(1,.i (a:Int)),(2,.i (b:Int)),(7,.i (i:Int)),(8,.i s),(9,.i jj)],hp:=upd (fun _=>none) id (.cells (cA E) true),nx:=n1,cx:=c1}):
  Awp Tryz.prog GLh Tryz.f73.ntmps (cr (cl (cr (cl (cr (cr (cr (cr (cl (cl (cr (cl (cl (cr (cl (cr (cr (aE Tryz.f73)))))))))))))))))) {fr:=[(0,.os id 0 n 1 gg),(1,.i (a:Int)),(2,.i (b:Int)),(7,.i (i:Int)),(8,.i s),(9,.i (J:Int))],hp:=upd (fun _=>none) id (.cells (cA D) true),nx:=nx0,cx:=cx0} Q:=by
  refine aR 4 rfl rfl (bR (fun q:SDC=> {fr:=[(0,.os id 0 n 1 gg),(1,.i a),(2,.i b),(7,.i i),(8,.i s),(9,.i q.k)],hp:=upd (fun _=>none) id (.cells (cA q.d) true),nx:=0,cx:=q.c}) (fun q=>Sort.shiftDown ltN q.k q.d=E∧q.d.size=n∧q.k<n∧id<q.c) (fun q=>q.k) rfl ⟨⟨J,D,_⟩,⟨hE,hs,hJ,hid⟩,bD rfl rfl (U3 _)⟩ ?_)
  rintro⟨j,d1,c⟩ ⟨hr,hs1,hj,hc⟩ n0
  simp only at hr hs1 hj hc⊢
  refine aA rfl (aA rfl (bA [65,0,1,2,7,8,9] rfl rfl rfl fun K hK=>?_))
  simp(disch:=omega) only[Tryz.f73,go_sem,↓reduceIte]
  refine hK _ ?_
  refine aB (aW (.tmp 65) rfl rfl rfl (fun h=>?_) (fun h=>?_))
  ·refine aI rfl ?_
   obtain⟨j,rfl⟩: ∃j',j=j'+1:=⟨j-1,by omega⟩
   have ej1:((j+1:Nat):Int)-1=(j:Int):=by omega
   obtain⟨v,hv⟩: ∃v,ltN d1[j+1]! d1[j]! =v:=⟨_,rfl⟩
   rw[Sort.shiftDown,hv]at hr
   refine aQ rfl (aB (aA rfl (aR 5 rfl rfl (aA rfl (aA rfl (bB (Γ:=bC [(74,.pure true dY)]) (fun k=>if k=9 then 0 else 2) [78,0,1,2,7,8,9] bZ (aH jC aO) rfl rfl rfl (by kernel_rfl) (fun K hK=>?_)))))))
   simp(disch:=omega) only[Tryz.f73,go_sem,↓reduceIte,ej1,hv,U2]
   refine hK _ ?_
   refine aB ?_
   cases v
   ·simp only[Bool.not_false,if_true]at hr
    subst hr
    refine eC (.tmp 78) rfl rfl rfl (fun h=>?_) (fun h=>?_)
    ·refine aI rfl (bF 4 rfl rfl (aY (mW (aY (aZ (bE ?_))) rfl)))
     exact hQ _ _ _ (by omega)
    refine aI rfl ?_
    cases h
   simp only[Bool.not_true,Bool.false_eq_true,if_false]at hr
   refine eC (.tmp 78) rfl rfl rfl (fun h=>?_) (fun h=>?_)
   ·refine aI rfl ?_
    cases h
   refine aI rfl (aQ rfl (aB ?_))
   have hsw:(d1.setIfInBounds (j+1) d1[j]!).setIfInBounds j d1[j+1]! =Sort.swp d1 (j+1) j:=rfl
   refine bB (Γ:=aL) (fun _=>2) [0,1,2,7,8,9] bZ (aD _ _) rfl rfl rfl (by kernel_rfl) (fun K hK=>?_)
   simp(disch:=omega) only[Tryz.f73,go_sem,↓reduceIte,ej1,hsw,U2]
   refine hK _ ?_
   refine bU (aB (bA [0,1,2,7,8,9] rfl rfl rfl fun K hK=>?_))
   simp(disch:=omega) only[Tryz.f73,go_sem,↓reduceIte,ej1]
   refine hK _ ?_
   refine bT ?_
   refine⟨⟨j,Sort.swp d1 (j+1) j,_⟩,⟨hr,by simp only[cW];exact hs1,by simp only;omega,by simp only;omega⟩,by simp only;omega,⟨fun _=> .inr rfl,bS (by simp(disch:=omega) only[aV,↓reduceIte,eq_self]) cB,U3 _⟩⟩
  refine aI rfl ?_
  obtain rfl:j=0:=by omega
  rw[Sort.shiftDown]at hr
  subst hr
  exact bF 4 rfl rfl (aY (aZ (bE (hQ _ _ _ (by omega)))))
set_option maxHeartbeats 1000000 in
theorem cEw {id n a b i J nx0 cx0:Nat} {s:Int} {gg:Bool} {D E:Array T32} {Q:Exit→S→Prop} (hE:Sort.shiftUp ltN b J D=E) (hs:D.size=n) (hJ:0<J) (hb:b≤n) (hbig:n≤1000000) (hid:id<cx0)
  (hQ: ∀jj n1 c1,id<c1→Q .normal {fr:=[(0,.os id 0 n 1 gg),(1,.i (a:Int)),(2,.i (b:Int)),(7,.i (i:Int)),(8,.i s),(10,.i jj)],hp:=upd (fun _=>none) id (.cells (cA E) true),nx:=n1,cx:=c1}):
  Awp Tryz.prog GLh Tryz.f73.ntmps (cr (cl (cr (cr (cr (cr (cr (cr (cl (cl (cr (cl (cl (cr (cl (cr (cr (aE Tryz.f73)))))))))))))))))) {fr:=[(0,.os id 0 n 1 gg),(1,.i (a:Int)),(2,.i (b:Int)),(7,.i (i:Int)),(8,.i s),(10,.i (J:Int))],hp:=upd (fun _=>none) id (.cells (cA D) true),nx:=nx0,cx:=cx0} Q:=by
  refine aR 6 rfl rfl (bR (fun q:SDC=> {fr:=[(0,.os id 0 n 1 gg),(1,.i a),(2,.i b),(7,.i i),(8,.i s),(10,.i q.k)],hp:=upd (fun _=>none) id (.cells (cA q.d) true),nx:=0,cx:=q.c}) (fun q=>Sort.shiftUp ltN b q.k q.d=E∧q.d.size=n∧0<q.k∧id<q.c) (fun q=>b-q.k) rfl ⟨⟨J,D,_⟩,⟨hE,hs,hJ,hid⟩,bD rfl rfl (U3 _)⟩ ?_)
  rintro⟨j,d1,c⟩ ⟨hr,hs1,hj,hc⟩ n0
  simp only at hr hs1 hj hc⊢
  refine aA rfl (aA rfl (bA [103,0,1,2,7,8,10] rfl rfl rfl fun K hK=>?_))
  simp(disch:=omega) only[Tryz.f73,go_sem,↓reduceIte]
  refine hK _ ?_
  refine aB (aW (.tmp 103) rfl rfl rfl (fun h=>?_) (fun h=>?_))
  ·refine aI rfl ?_
   have hjb:j<b:=by omega
   have hjn:j<n:=by omega
   have ej1:(j:Int)-1=((j-1:Nat):Int):=by omega
   obtain⟨v,hv⟩: ∃v,ltN d1[j]! d1[j-1]! =v:=⟨_,rfl⟩
   rw[Sort.shiftUp,J4 hjb,hv]at hr
   refine aQ rfl (aB (aA rfl (aR 7 rfl rfl (aA rfl (aA rfl (bB (Γ:=bC [(74,.pure true dY)]) (fun k=>if k=9 then 0 else 2) [116,0,1,2,7,8,10] bZ (aH jC aO) rfl rfl rfl (by kernel_rfl) (fun K hK=>?_)))))))
   simp(disch:=omega) only[Tryz.f73,go_sem,↓reduceIte,ej1,hv,U2]
   refine hK _ ?_
   refine aB ?_
   cases v
   ·simp only[Bool.not_false,if_true]at hr
    subst hr
    refine eC (.tmp 116) rfl rfl rfl (fun h=>?_) (fun h=>?_)
    ·refine aI rfl (bF 6 rfl rfl (aY (mW (aY (aZ (bE ?_))) rfl)))
     exact hQ _ _ _ (by omega)
    refine aI rfl ?_
    cases h
   simp only[Bool.not_true,Bool.false_eq_true,if_false]at hr
   refine eC (.tmp 116) rfl rfl rfl (fun h=>?_) (fun h=>?_)
   ·refine aI rfl ?_
    cases h
   refine aI rfl (aQ rfl (aB ?_))
   have hsw:(d1.setIfInBounds j d1[j-1]!).setIfInBounds (j-1) d1[j]! =Sort.swp d1 j (j-1):=rfl
   refine bB (Γ:=aL) (fun _=>2) [0,1,2,7,8,10] bZ (aD _ _) rfl rfl rfl (by kernel_rfl) (fun K hK=>?_)
   simp(disch:=omega) only[Tryz.f73,go_sem,↓reduceIte,ej1,hsw,U2]
   refine hK _ ?_
   refine bU (aB (bA [0,1,2,7,8,10] rfl rfl rfl fun K hK=>?_))
   simp(disch:=omega) only[Tryz.f73,go_sem,↓reduceIte]
   refine hK _ ?_
   refine bT ?_
   refine⟨⟨j+1,Sort.swp d1 j (j-1),_⟩,⟨hr,by simp only[cW];exact hs1,by simp only;omega,by simp only;omega⟩,by simp only;omega,⟨fun _=> .inr (by simp only[Int.natCast_add,Int.natCast_one]),bS (by simp(disch:=omega) only[aV,↓reduceIte,eq_self]) cB,U3 _⟩⟩
  refine aI rfl ?_
  have hjb: ¬j<b:=by omega
  rw[Sort.shiftUp,J3 hjb]at hr
  subst hr
  exact bF 6 rfl rfl (aY (aZ (bE (hQ _ _ _ (by omega)))))
structure SPI where
 s:Nat
 i:Nat
 d:Array T32
 c:Nat
def piG:List AV→List AV→Option (AV×List AV)
 |[.os _ 0 n 1 _,.i a,.i b],xs=>aK (unA xs) fun l=>aN (l.length=n∧0≤a∧a<b∧b≤n∧n≤1000000) (some (.b (Sort.partialInsertionSort ltN l.toArray a.toNat b.toNat).2,cA (Sort.partialInsertionSort ltN l.toArray a.toNat b.toNat).1))
 |_,_=>none
theorem cJm (id n:Nat) (gg:Bool) (a b:Int) (xs:List AV):piG [.os id 0 n 1 gg,.i a,.i b] xs=aK (unA xs) fun l=>aN (l.length=n∧0≤a∧a<b∧b≤n∧n≤1000000) (some (.b (Sort.partialInsertionSort ltN l.toArray a.toNat b.toNat).2,cA (Sort.partialInsertionSort ltN l.toArray a.toNat b.toNat).1)):=(rfl)
attribute [go_sem] cJm
set_option maxHeartbeats 2000000 in
theorem cVe:cQ Tryz.prog GLh 73 (dP piG):=by
 refine dN Tryz.func73 (aT rfl) ?_
 intro id off n e gg rest nx xs r ys hg
 unfold piG at hg
 split at hg
 ·rename_i id2 n2 gg2 a0 b0 heq
  simp only[List.cons.injEq,AV.os.injEq]at heq
  obtain⟨⟨rfl,rfl,rfl,rfl,rfl⟩,rfl⟩:=heq
  replace hg:=aJ hg;obtain⟨l,hl,hg⟩:=hg
  replace hg:=aP hg;obtain⟨⟨hn,ha,hab,hbn,hbig⟩,hg⟩:=hg
  simp only[Option.some.injEq,Prod.mk.injEq]at hg;obtain⟨rfl,rfl⟩:=hg
  have:=dO hl;subst this
  obtain⟨a,rfl⟩:=Int.eq_ofNat_of_zero_le ha
  obtain⟨b,rfl⟩:=Int.eq_ofNat_of_zero_le (show 0≤b0 by omega)
  simp only[U2]at*
  obtain⟨d,hd⟩: ∃d,l.toArray=d:=⟨_,rfl⟩
  have hds:d.size=n:=by rw[←hd];simpa using hn
  have hab2:a<b:=by omega
  have hbn2:b≤n:=by omega
  rw[hd]
  refine⟨J1 rfl,fun hid=>?_⟩
  clear hl hn ha hab hbn
  obtain⟨⟨E,F⟩,hR⟩: ∃R,Sort.partialInsertionSort ltN d a b=R:=⟨_,rfl⟩
  rw[hR]
  have hR0:Sort.partialIns ltN a b 5 (a+1) d=(E,F):=hR
  clear hR
  have ebL:(b:Int)-(a:Int)=((b-a:Nat):Int):=by omega
  refine aA rfl (bA [0,1,2] rfl rfl rfl fun K hK=>?_)
  simp(disch:=omega) only[Tryz.f73,go_sem,↓reduceIte]
  refine hK _ ?_
  refine aB (aA rfl (bA [0,1,2,7] rfl rfl rfl fun K hK=>?_))
  simp(disch:=omega) only[Tryz.f73,go_sem,↓reduceIte]
  refine hK _ ?_
  refine aB (aA rfl (aA rfl (bA [0,1,2,7,8] rfl rfl rfl fun K hK=>?_)))
  simp(disch:=omega) only[Tryz.f73,go_sem,↓reduceIte]
  refine hK _ ?_
  refine aB (aR 0 rfl rfl ?_)
  refine bR (fun p:SPI=> {fr:=[(0,.os id 0 n 1 gg),(1,.i a),(2,.i b),(7,.i p.i),(8,.i (5-(p.s:Int)))],hp:=upd (fun _=>none) id (.cells (cA p.d) true),nx:=0,cx:=p.c}) (fun p=>Sort.partialIns ltN a b p.s p.i p.d=(E,F)∧p.d.size=n∧a<p.i∧p.i≤b∧p.s≤5∧id<p.c) (fun p=>p.s) rfl ⟨⟨5,a+1,d,_⟩,⟨hR0,hds,by simp only;omega,by simp only;omega,by simp only;omega,by simp only;omega⟩,bD (by simp only[Int.natCast_add,Int.cast_ofNat_Int,Int.sub_self]) rfl (U3 _)⟩ ?_
  rintro⟨s,i,d1,c⟩ ⟨hr,hs1,hai,hib,hs5,hc⟩ n0
  simp only at hr hs1 hai hib hs5 hc⊢
  refine aA rfl (aA rfl (bA [14,0,1,2,7,8] rfl rfl rfl fun K hK=>?_))
  simp(disch:=omega) only[Tryz.f73,go_sem,↓reduceIte]
  refine hK _ ?_
  refine aB (aW (.tmp 14) rfl rfl rfl (fun h=>?_) (fun h=>?_))
  ·refine aI rfl ?_
   obtain⟨s,rfl⟩: ∃s',s=s'+1:=⟨s-1,by omega⟩
   obtain⟨i2,hi2⟩: ∃i2,Sort.scanSorted ltN d1 b i=i2:=⟨_,rfl⟩
   have gi2:=cTm b d1 _ i (U3 _) hib
   rw[hi2]at gi2
   rw[Sort.partialIns,hi2]at hr
   refine aQ rfl (aB (aA rfl (aR 1 rfl rfl (aA rfl (cVd hi2 hs1 (by omega) hbn2 hbig (by omega) (fun n1 c1 hc1=>?_))))))
   refine aB (aA rfl (aA rfl (bA [37,0,1,2,7,8] rfl rfl rfl fun K hK=>?_)))
   simp(disch:=omega) only[Tryz.f73,go_sem,↓reduceIte]
   refine hK _ ?_
   refine aB (aW (.tmp 37) rfl rfl rfl (fun h=>?_) (fun h=>?_))
   ·refine aI rfl ?_
    have hib2:i2=b:=by omega
    rw[J4 hib2]at hr
    simp only[Prod.mk.injEq]at hr
    obtain⟨rfl,rfl⟩:=hr
    refine aA rfl (bA [6] rfl rfl rfl fun K hK=>?_)
    simp(disch:=omega) only[Tryz.f73,go_sem,↓reduceIte]
    refine hK _ ?_
    exact aB (aS rfl (bI (bN (bI (dF (bN (bI (⟨rfl,by simp only[aV,if_true],rfl,dZ _⟩))))))))
   refine aI rfl ?_
   have hib2: ¬i2=b:=by omega
   rw[J3 hib2]at hr
   refine aQ rfl (aB (aA rfl (aA rfl (bA [41,0,1,2,7,8] rfl rfl rfl fun K hK=>?_))))
   simp(disch:=omega) only[Tryz.f73,go_sem,↓reduceIte]
   refine hK _ ?_
   refine aB (aW (.tmp 41) rfl rfl rfl (fun h=>?_) (fun h=>?_))
   ·refine aI rfl ?_
    have hab50:b-a<50:=by omega
    rw[J4 hab50]at hr
    simp only[Prod.mk.injEq]at hr
    obtain⟨rfl,rfl⟩:=hr
    refine aA rfl (bA [6] rfl rfl rfl fun K hK=>?_)
    simp(disch:=omega) only[Tryz.f73,go_sem,↓reduceIte]
    refine hK _ ?_
    exact aB (aS rfl (bI (bN (bI (dF (bN (bI (⟨rfl,by simp only[aV,if_true],rfl,dZ _⟩))))))))
   refine aI rfl ?_
   have hab50: ¬b-a<50:=by omega
   rw[J3 hab50]at hr
   refine aQ rfl (aB (aA rfl ?_))
   have hin:i2<n:=by omega
   have ei2:(i2:Int)-1=((i2-1:Nat):Int):=by omega
   have hsw:(d1.setIfInBounds i2 d1[i2-1]!).setIfInBounds (i2-1) d1[i2]! =Sort.swp d1 i2 (i2-1):=rfl
   refine bB (Γ:=aL) (fun _=>2) [0,1,2,7,8] bZ (aD _ _) rfl rfl rfl (by kernel_rfl) (fun K hK=>?_)
   simp(disch:=omega) only[Tryz.f73,go_sem,↓reduceIte,ei2,hsw,U2]
   refine hK _ ?_
   refine aB ?_
   obtain⟨d2,hd2⟩: ∃d2,Sort.swp d1 i2 (i2-1)=d2:=⟨_,rfl⟩
   have hs2:d2.size=n:=by rw[←hd2,cW];exact hs1
   rw[hd2]
   simp only[hd2]at hr
   have e5:5-((s+1:Nat):Int)+1=5-(s:Int):=by omega
   have ei3:(i2:Int)+1=((i2+1:Nat):Int):=by omega
   clear hsw
   refine aA rfl (aA rfl (bA [61,0,1,2,7,8] rfl rfl rfl fun K hK=>?_))
   simp(disch:=omega) only[Tryz.f73,go_sem,↓reduceIte]
   refine hK _ ?_
   refine aB (aW (.tmp 61) rfl rfl rfl (fun h=>?_) (fun h=>?_))
   ·refine aI rfl ?_
    have hia:i2-a≥2:=by omega
    simp only[J4 hia]at hr
    obtain⟨d3,hd3⟩: ∃d3,Sort.shiftDown ltN (i2-1) d2=d3:=⟨_,rfl⟩
    have hs3:d3.size=n:=by rw[←hd3,aVe];exact hs2
    rw[hd3]at hr
    refine aA rfl (bA [0,1,2,7,8,9] rfl rfl rfl fun K hK=>?_)
    simp(disch:=omega) only[Tryz.f73,go_sem,↓reduceIte,ei2]
    refine hK _ ?_
    refine aB (cVc hd3 hs2 (by omega) hbig (by omega) (fun jj n2 c2 hc2=>?_))
    refine aB (aA rfl (bA [98,0,1,2,7,8] rfl rfl rfl fun K hK=>?_))
    simp(disch:=omega) only[Tryz.f73,go_sem,↓reduceIte]
    refine hK _ ?_
    refine aB (aW (.tmp 98) rfl rfl rfl (fun h=>?_) (fun h=>?_))
    ·refine aI rfl ?_
     have hbi:b-i2≥2:=by omega
     simp only[J4 hbi]at hr
     obtain⟨d4,hd4⟩: ∃d4,Sort.shiftUp ltN b (i2+1) d3=d4:=⟨_,rfl⟩
     have hs4:d4.size=n:=by rw[←hd4,aUu b _ _ _ (U3 _)];exact hs3
     rw[hd4]at hr
     refine aA rfl (bA [0,1,2,7,8,10] rfl rfl rfl fun K hK=>?_)
     simp(disch:=omega) only[Tryz.f73,go_sem,↓reduceIte,ei3]
     refine hK _ ?_
     refine aB (cEw hd4 hs3 (by omega) hbn2 hbig (by omega) (fun jj n3 c3 hc3=>?_))
     refine bU (aB (bA [0,1,2,7,8] rfl rfl rfl fun K hK=>?_))
     simp(disch:=omega) only[Tryz.f73,go_sem,↓reduceIte]
     refine hK _ ?_
     refine bT ?_
     refine⟨⟨s,i2,d4,_⟩,⟨hr,hs4,by simp only;omega,by simp only;omega,by simp only;omega,by simp only;omega⟩,by simp only;omega,bD (by simp only[e5]) rfl (U3 _)⟩
    refine aI rfl ?_
    have hbi: ¬b-i2≥2:=by omega
    simp only[J3 hbi]at hr
    refine aQ rfl (bU (aB (bA [0,1,2,7,8] rfl rfl rfl fun K hK=>?_)))
    simp(disch:=omega) only[Tryz.f73,go_sem,↓reduceIte]
    refine hK _ ?_
    refine bT ?_
    refine⟨⟨s,i2,d3,_⟩,⟨hr,hs3,by simp only;omega,by simp only;omega,by simp only;omega,by simp only;omega⟩,by simp only;omega,bD (by simp only[e5]) rfl (U3 _)⟩
   refine aI rfl ?_
   have hia: ¬i2-a≥2:=by omega
   simp only[J3 hia]at hr
   refine aQ rfl (aB (aA rfl (bA [98,0,1,2,7,8] rfl rfl rfl fun K hK=>?_)))
   simp(disch:=omega) only[Tryz.f73,go_sem,↓reduceIte]
   refine hK _ ?_
   refine aB (aW (.tmp 98) rfl rfl rfl (fun h=>?_) (fun h=>?_))
   ·refine aI rfl ?_
    have hbi:b-i2≥2:=by omega
    simp only[J4 hbi]at hr
    obtain⟨d4,hd4⟩: ∃d4,Sort.shiftUp ltN b (i2+1) d2=d4:=⟨_,rfl⟩
    have hs4:d4.size=n:=by rw[←hd4,aUu b _ _ _ (U3 _)];exact hs2
    rw[hd4]at hr
    refine aA rfl (bA [0,1,2,7,8,10] rfl rfl rfl fun K hK=>?_)
    simp(disch:=omega) only[Tryz.f73,go_sem,↓reduceIte,ei3]
    refine hK _ ?_
    refine aB (cEw hd4 hs2 (by omega) hbn2 hbig (by omega) (fun jj n3 c3 hc3=>?_))
    refine bU (aB (bA [0,1,2,7,8] rfl rfl rfl fun K hK=>?_))
    simp(disch:=omega) only[Tryz.f73,go_sem,↓reduceIte]
    refine hK _ ?_
    refine bT ?_
    refine⟨⟨s,i2,d4,_⟩,⟨hr,hs4,by simp only;omega,by simp only;omega,by simp only;omega,by simp only;omega⟩,by simp only;omega,bD (by simp only[e5]) rfl (U3 _)⟩
   refine aI rfl ?_
   have hbi: ¬b-i2≥2:=by omega
   simp only[J3 hbi]at hr
   refine aQ rfl (bU (aB (bA [0,1,2,7,8] rfl rfl rfl fun K hK=>?_)))
   simp(disch:=omega) only[Tryz.f73,go_sem,↓reduceIte]
   refine hK _ ?_
   refine bT ?_
   refine⟨⟨s,i2,d2,_⟩,⟨hr,hs2,by simp only;omega,by simp only;omega,by simp only;omega,by simp only;omega⟩,by simp only;omega,bD (by simp only[e5]) rfl (U3 _)⟩
  refine aI rfl ?_
  obtain rfl:s=0:=by omega
  rw[Sort.partialIns]at hr
  simp only[Prod.mk.injEq]at hr
  obtain⟨rfl,rfl⟩:=hr
  refine bF 0 rfl rfl (aY (aZ (bE (aB (aA rfl (bA [6] rfl rfl rfl fun K hK=>?_))))))
  simp(disch:=omega) only[Tryz.f73,go_sem,↓reduceIte]
  refine hK _ ?_
  exact aB (aS rfl (⟨rfl,by simp only[aV,if_true],rfl,dZ _⟩))
 cases hg
theorem cVo:bX Tryz.prog GLh 73 (.heap (dP piG)):=⟨⟨_,Tryz.func73,rfl,rfl⟩,cVe⟩
end Go.AX

namespace Go.AX
open Go Go.Proofs
noncomputable def aJp {α:Type} (p:Prop) (x:Option α):Option α:=@aN _ p (Classical.propDecidable p) x
theorem aSo {α:Type} {p:Prop} {x:Option α} {y:α} (h:aJp p x=some y):p∧x=some y:=@aP _ p (Classical.propDecidable p) x y h
theorem bMz {α:Type} (x:Option α):aJp True x=x:=@cU _ True (Classical.propDecidable True) x trivial
attribute [go_sem] bMz
noncomputable def zR (N:Nat):List AV→List AV→Option (AV×List AV)
 |[.os _ 0 n 1 _,.i a,.i b,.i k],xs=>aK (unA xs) fun l=>aN (l.length=n∧0≤a∧a≤b∧b≤n∧0≤k∧k≤1000∧n≤1000000∧b-a<N) (aJp (Sort.Below ltN a.toNat b.toNat l.toArray) (some (.tup [],cA (Sort.pdq ltN l.toArray a.toNat b.toNat k.toNat true true))))
 |_,_=>none
theorem bVl (N id n:Nat) (gg:Bool) (a b k:Int) (xs:List AV):zR N [.os id 0 n 1 gg,.i a,.i b,.i k] xs=aK (unA xs) fun l=>aN (l.length=n∧0≤a∧a≤b∧b≤n∧0≤k∧k≤1000∧n≤1000000∧b-a<N) (aJp (Sort.Below ltN a.toNat b.toNat l.toArray) (some (.tup [],cA (Sort.pdq ltN l.toArray a.toNat b.toNat k.toNat true true)))):=(rfl)
attribute [go_sem] bVl
structure SPQ where
 a:Nat
 b:Nat
 l:Nat
 wb:Bool
 wp:Bool
 d:Array T32
 c:Nat
theorem bVk:cQ Tryz.prog GLh 63 (dP (zR 0)):=by
 refine dN Tryz.func63 (aT rfl) ?_
 intro id off n e gg rest nx xs r ys hg
 exfalso
 unfold zR at hg
 split at hg
 ·replace hg:=aJ hg;obtain⟨l,hl,hg⟩:=hg
  replace hg:=aP hg;obtain⟨⟨hn,ha,hab,hbn,hk,hk2,hbig,hN⟩,hg⟩:=hg
  omega
 cases hg
theorem aVs {a b:Nat} {d x:Array T32} (c:Prop) [Decidable c] (h:Sort.PermIn a b d x):Sort.PermIn a b d (if c then x else d):=by
 split
 ·exact h
 exact Sort.permIn_refl _ _ _
set_option maxHeartbeats 1000000 in
theorem cJr {id n a b k L nx0 cx0:Nat} {gg wb wp:Bool} {d:Array T32} {Q:Exit→S→Prop} {k1:Nat} {d1:Array T32} (hd1:(if(!wb)=true then Sort.breakPatterns d a b else d)=d1) (hk1:(if(!wb)=true then k-1 else k)=k1) (hk:0<k) (hk2:k≤1000) (hds:d.size=n) (hab:a<b) (hbn:b≤n) (hbig:n≤1000000) (hid:id<cx0)
  (hQ: ∀n1 c1,id<c1→Q .normal {fr:=[(0,.os id 0 n 1 gg),(1,.i (a:Int)),(2,.i (b:Int)),(3,.i (k1:Int)),(8,.b wb),(9,.b wp),(10,.i (L:Int))],hp:=upd (fun _=>none) id (.cells (cA d1) true),nx:=n1,cx:=c1}):
  Awp Tryz.prog GLh Tryz.f63.ntmps (cl (cr (cr (cr (cl (cl (cl (cr (cr (aE Tryz.f63)))))))))) {fr:=[(0,.os id 0 n 1 gg),(1,.i (a:Int)),(2,.i (b:Int)),(3,.i (k:Int)),(8,.b wb),(9,.b wp),(10,.i (L:Int))],hp:=upd (fun _=>none) id (.cells (cA d) true),nx:=nx0,cx:=cx0} Q:=by
  cases wb
  ·simp only[Bool.not_false,if_true]at hd1 hk1
   have ek:(k:Int)-1=(k1:Int):=by omega
   refine aA rfl (bA [35,0,1,2,3,8,9,10] rfl rfl rfl fun K hK=>?_)
   simp(disch:=omega) only[Tryz.f63,go_sem,↓reduceIte]
   refine hK _ ?_
   refine aB (eC (.tmp 35) rfl rfl rfl (fun h=>?_) (fun h=>?_))
   ·refine aI rfl (aA rfl (aC (Γ:=bC [(70,.heap (dP bPn))]) [0,1,2,3,8,9,10] (aH cVr aO) rfl rfl rfl (fun K hK=>?_)))
    simp(disch:=omega) only[Tryz.f63,go_sem,↓reduceIte,hds,hd1,U2]
    refine hK _ ?_
    refine aB (bA [0,1,2,3,8,9,10] rfl rfl rfl fun K hK=>?_)
    simp(disch:=omega) only[Tryz.f63,go_sem,↓reduceIte,ek]
    refine hK _ ?_
    exact hQ _ _ (by omega)
   refine aI rfl ?_
   cases h
  simp only[Bool.not_true,Bool.false_eq_true,if_false]at hd1 hk1
  subst hd1;subst hk1
  refine aA rfl (bA [35,0,1,2,3,8,9,10] rfl rfl rfl fun K hK=>?_)
  simp(disch:=omega) only[Tryz.f63,go_sem,↓reduceIte]
  refine hK _ ?_
  refine aB (eC (.tmp 35) rfl rfl rfl (fun h=>?_) (fun h=>?_))
  ·refine aI rfl ?_
   cases h
  exact aI rfl (aQ rfl (hQ _ _ (by omega)))
set_option maxHeartbeats 1000000 in
theorem cJo {id n a b k L nx0 cx0:Nat} {gg wb wp:Bool} {d:Array T32} {Q:Exit→S→Prop} {pv pv2:Nat} {ht ht2:Sort.Hint} {d2:Array T32} (hd2:(if ht=Sort.Hint.decreasing then Sort.reverseRange d a b else d)=d2) (hpv2:(if ht=Sort.Hint.decreasing then(b-1)-(pv-a)else pv)=pv2) (hht2:(if ht=Sort.Hint.decreasing then Sort.Hint.increasing else ht)=ht2) (hpa:a≤pv) (hpb:pv<b) (hds:d.size=n) (hab:a<b) (hbn:b≤n) (hbig:n≤1000000) (hid:id<cx0)
  (hQ: ∀n1 c1,id<c1→Q .normal {fr:=[(0,.os id 0 n 1 gg),(1,.i (a:Int)),(2,.i (b:Int)),(3,.i (k:Int)),(8,.b wb),(9,.b wp),(10,.i (L:Int)),(11,.i (pv2:Int)),(12,.i (gM ht2))],hp:=upd (fun _=>none) id (.cells (cA d2) true),nx:=n1,cx:=c1}):
  Awp Tryz.prog GLh Tryz.f63.ntmps (cl (cr (cr (cr (cr (cr (cl (cl (cl (cr (cr (aE Tryz.f63)))))))))))) {fr:=[(0,.os id 0 n 1 gg),(1,.i (a:Int)),(2,.i (b:Int)),(3,.i (k:Int)),(8,.b wb),(9,.b wp),(10,.i (L:Int)),(11,.i (pv:Int)),(12,.i (gM ht))],hp:=upd (fun _=>none) id (.cells (cA d) true),nx:=nx0,cx:=cx0} Q:=by
  cases ht
  ·simp only[reduceCtorEq,if_false]at hd2 hpv2 hht2
   subst hd2;subst hpv2;subst hht2
   refine aA rfl (bA [50,0,1,2,3,8,9,10,11,12] rfl rfl rfl fun K hK=>?_)
   simp(disch:=omega) only[Tryz.f63,go_sem,↓reduceIte,gM,decide_false]
   refine hK _ ?_
   refine aB (eC (.tmp 50) rfl rfl rfl (fun h=>?_) (fun h=>?_))
   ·refine aI rfl ?_
    cases h
   exact aI rfl (aQ rfl (hQ _ _ (by omega)))
  ·simp only[reduceCtorEq,if_false]at hd2 hpv2 hht2
   subst hd2;subst hpv2;subst hht2
   refine aA rfl (bA [50,0,1,2,3,8,9,10,11,12] rfl rfl rfl fun K hK=>?_)
   simp(disch:=omega) only[Tryz.f63,go_sem,↓reduceIte,gM,decide_false]
   refine hK _ ?_
   refine aB (eC (.tmp 50) rfl rfl rfl (fun h=>?_) (fun h=>?_))
   ·refine aI rfl ?_
    cases h
   exact aI rfl (aQ rfl (hQ _ _ (by omega)))
  simp only[if_true]at hd2 hpv2 hht2
  subst hht2
  have ep:(b:Int)-1-((pv:Int)-(a:Int))=(pv2:Int):=by omega
  refine aA rfl (bA [50,0,1,2,3,8,9,10,11,12] rfl rfl rfl fun K hK=>?_)
  simp(disch:=omega) only[Tryz.f63,go_sem,↓reduceIte,gM,decide_true]
  refine hK _ ?_
  refine aB (eC (.tmp 50) rfl rfl rfl (fun h=>?_) (fun h=>?_))
  ·refine aI rfl (aA rfl (aC (Γ:=bC [(72,.heap (dP bHw))]) [0,1,2,3,8,9,10,11] (aH cVp aO) rfl rfl rfl (fun K hK=>?_)))
   simp(disch:=omega) only[Tryz.f63,go_sem,↓reduceIte,hds,hd2,U2]
   refine hK _ ?_
   refine aB (aA rfl (bA [0,1,2,3,8,9,10,11] rfl rfl rfl fun K hK=>?_))
   simp(disch:=omega) only[Tryz.f63,go_sem,↓reduceIte,ep]
   refine hK _ ?_
   refine aB (bA [0,1,2,3,8,9,10,11,12] rfl rfl rfl fun K hK=>?_)
   simp(disch:=omega) only[Tryz.f63,go_sem,↓reduceIte]
   refine hK _ ?_
   exact hQ _ _ (by omega)
  refine aI rfl ?_
  cases h
set_option maxHeartbeats 1000000 in
theorem cJp {id n a b k L nx0 cx0:Nat} {gg wb wp:Bool} {d:Array T32} {Q:Exit→S→Prop} {pv:Nat} {ht:Sort.Hint} {d3:Array T32} {ok:Bool} (hpi:(if(wb&&wp&&decide (ht=Sort.Hint.increasing))=true then Sort.partialInsertionSort ltN d a b else(d,false))=(d3,ok)) (hds:d.size=n) (hab:a<b) (hbn:b≤n) (hbig:n≤1000000) (hid:id<cx0)
  (hQ: ∀n1 c1,id<c1→ok=false→Q .normal {fr:=[(0,.os id 0 n 1 gg),(1,.i (a:Int)),(2,.i (b:Int)),(3,.i (k:Int)),(8,.b wb),(9,.b wp),(10,.i (L:Int)),(11,.i (pv:Int))],hp:=upd (fun _=>none) id (.cells (cA d3) true),nx:=n1,cx:=c1})
  (hQr: ∀fr n1 c1,id<c1→ok=true→Q .ret {fr:=fr,hp:=upd (fun _=>none) id (.cells (cA d3) true),nx:=n1,cx:=c1}):
  Awp Tryz.prog GLh Tryz.f63.ntmps (cl (cr (cr (cr (cr (cr (cr (cl (cl (cl (cr (cr (aE Tryz.f63))))))))))))) {fr:=[(0,.os id 0 n 1 gg),(1,.i (a:Int)),(2,.i (b:Int)),(3,.i (k:Int)),(8,.b wb),(9,.b wp),(10,.i (L:Int)),(11,.i (pv:Int)),(12,.i (gM ht))],hp:=upd (fun _=>none) id (.cells (cA d) true),nx:=nx0,cx:=cx0} Q:=by
  cases wb
  ·simp only[Bool.false_and,Bool.false_eq_true,if_false,Prod.mk.injEq]at hpi
   obtain⟨rfl,rfl⟩:=hpi
   refine aA rfl (bA [68,0,1,2,3,8,9,10,11] rfl rfl rfl fun K hK=>?_)
   simp(disch:=omega) only[Tryz.f63,go_sem,↓reduceIte,gM]
   refine hK _ ?_
   refine aB (eC (.tmp 68) rfl rfl rfl (fun h=>?_) (fun h=>?_))
   ·refine aI rfl ?_
    cases h
   exact aI rfl (aQ rfl (hQ _ _ (by omega) rfl))
  cases wp
  ·simp only[Bool.and_false,Bool.false_and,Bool.false_eq_true,if_false,Prod.mk.injEq]at hpi
   obtain⟨rfl,rfl⟩:=hpi
   refine aA rfl (bA [68,0,1,2,3,8,9,10,11] rfl rfl rfl fun K hK=>?_)
   simp(disch:=omega) only[Tryz.f63,go_sem,↓reduceIte,gM]
   refine hK _ ?_
   refine aB (eC (.tmp 68) rfl rfl rfl (fun h=>?_) (fun h=>?_))
   ·refine aI rfl ?_
    cases h
   exact aI rfl (aQ rfl (hQ _ _ (by omega) rfl))
  cases ht
  ·simp only[Bool.and_true,Bool.and_false,reduceCtorEq,decide_false,Bool.false_eq_true,if_false,Prod.mk.injEq]at hpi
   obtain⟨rfl,rfl⟩:=hpi
   refine aA rfl (bA [68,0,1,2,3,8,9,10,11] rfl rfl rfl fun K hK=>?_)
   simp(disch:=omega) only[Tryz.f63,go_sem,↓reduceIte,gM,decide_false]
   refine hK _ ?_
   refine aB (eC (.tmp 68) rfl rfl rfl (fun h=>?_) (fun h=>?_))
   ·refine aI rfl ?_
    cases h
   exact aI rfl (aQ rfl (hQ _ _ (by omega) rfl))
  ·simp only[Bool.and_true,decide_true,if_true]at hpi
   refine aA rfl (bA [68,0,1,2,3,8,9,10,11] rfl rfl rfl fun K hK=>?_)
   simp(disch:=omega) only[Tryz.f63,go_sem,↓reduceIte,gM,decide_true]
   refine hK _ ?_
   refine aB (eC (.tmp 68) rfl rfl rfl (fun h=>?_) (fun h=>?_))
   ·refine aI rfl (aA rfl (aC (Γ:=bC [(73,.heap (dP piG))]) [72,0,1,2,3,8,9,10,11] (aH cVo aO) rfl rfl rfl (fun K hK=>?_)))
    simp(disch:=omega) only[Tryz.f63,go_sem,↓reduceIte,hds,hpi,U2]
    refine hK _ ?_
    refine aB (eC (.tmp 72) rfl rfl rfl (fun h=>?_) (fun h=>?_))
    ·exact aI rfl (aS rfl (hQr _ _ _ (by omega) h))
    exact aI rfl (aQ rfl (hQ _ _ (by omega) (by simpa using h)))
   refine aI rfl ?_
   cases h
  simp only[Bool.and_true,Bool.and_false,reduceCtorEq,decide_false,Bool.false_eq_true,if_false,Prod.mk.injEq]at hpi
  obtain⟨rfl,rfl⟩:=hpi
  refine aA rfl (bA [68,0,1,2,3,8,9,10,11] rfl rfl rfl fun K hK=>?_)
  simp(disch:=omega) only[Tryz.f63,go_sem,↓reduceIte,gM,decide_false]
  refine hK _ ?_
  refine aB (eC (.tmp 68) rfl rfl rfl (fun h=>?_) (fun h=>?_))
  ·refine aI rfl ?_
   cases h
  exact aI rfl (aQ rfl (hQ _ _ (by omega) rfl))
set_option maxHeartbeats 1000000 in
theorem cJq {id n a b k L nx0 cx0:Nat} {gg wb wp:Bool} {d:Array T32} {Q:Exit→S→Prop} {pv:Nat} {u:Bool} (hu:(decide (a>0)&& !ltN d[a-1]! d[pv]!)=u) (hpb:pv<b) (hds:d.size=n) (hab:a<b) (hbn:b≤n) (hbig:n≤1000000) (hid:id<cx0)
  (hQ: ∀n1 c1,id<c1→Q .normal {fr:=[(87,.b u),(0,.os id 0 n 1 gg),(1,.i (a:Int)),(2,.i (b:Int)),(3,.i (k:Int)),(8,.b wb),(9,.b wp),(10,.i (L:Int)),(11,.i (pv:Int))],hp:=upd (fun _=>none) id (.cells (cA d) true),nx:=n1,cx:=c1}):
  Awp Tryz.prog GLh Tryz.f63.ntmps (cl (cl (cr (cr (cr (cr (cr (cr (cr (cl (cl (cl (cr (cr (aE Tryz.f63))))))))))))))) {fr:=[(0,.os id 0 n 1 gg),(1,.i (a:Int)),(2,.i (b:Int)),(3,.i (k:Int)),(8,.b wb),(9,.b wp),(10,.i (L:Int)),(11,.i (pv:Int))],hp:=upd (fun _=>none) id (.cells (cA d) true),nx:=nx0,cx:=cx0} Q:=by
  by_cases ha:a>0
  ·have hd1:decide (0<(a:Int))=true:=J5 (by omega)
   have ea:(a:Int)-1=((a-1:Nat):Int):=by omega
   have han:a<n:=by omega
   have hpn:pv<n:=by omega
   obtain⟨v,hv⟩: ∃v,ltN d[a-1]! d[pv]! =v:=⟨_,rfl⟩
   rw[J5 ha,hv,Bool.true_and]at hu
   subst hu
   refine bB (Γ:=bC [(74,.pure true dY)]) (fun k=>if k=12 then 0 else 2) [87,0,1,2,3,8,9,10,11] bZ (aH jC aO) rfl rfl rfl (by kernel_rfl) (fun K hK=>?_)
   simp(disch:=omega) only[Tryz.f63,go_sem,↓reduceIte,hd1,ea,hv,U2]
   refine hK _ ?_
   exact hQ _ _ (by omega)
  have hd1:decide (0<(a:Int))=false:=J6 (by omega)
  rw[J6 ha,Bool.false_and]at hu
  subst hu
  refine bB (Γ:=bC [(74,.pure true dY)]) (fun k=>if k=12 then 0 else 2) [87,0,1,2,3,8,9,10,11] bZ (aH jC aO) rfl rfl rfl (by kernel_rfl) (fun K hK=>?_)
  simp(disch:=omega) only[Tryz.f63,go_sem,↓reduceIte,hd1]
  refine hK _ ?_
  exact hQ _ _ (by omega)
set_option maxHeartbeats 4000000 in
theorem bVj (N:Nat) (ih:cQ Tryz.prog GLh 63 (dP (zR N))):cQ Tryz.prog GLh 63 (dP (zR (N+1))):=by
 have oku91:bX Tryz.prog GLh 63 (.heap (dP (zR N))):=⟨⟨_,Tryz.func63,rfl,rfl⟩,ih⟩
 refine dN Tryz.func63 (aT rfl) ?_
 intro id off n e gg rest nx xs r ys hg
 unfold zR at hg
 split at hg
 ·rename_i id2 n2 gg2 a0 b0 k0 heq
  simp only[List.cons.injEq,AV.os.injEq]at heq
  obtain⟨⟨rfl,rfl,rfl,rfl,rfl⟩,rfl⟩:=heq
  replace hg:=aJ hg;obtain⟨l,hl,hg⟩:=hg
  replace hg:=aP hg;obtain⟨⟨hn,ha,hab,hbn,hk0,hk1,hbig,hN⟩,hg⟩:=hg
  replace hg:=aSo hg;obtain⟨hB,hg⟩:=hg
  simp only[Option.some.injEq,Prod.mk.injEq]at hg;obtain⟨rfl,rfl⟩:=hg
  have:=dO hl;subst this
  obtain⟨a,rfl⟩:=Int.eq_ofNat_of_zero_le ha
  obtain⟨b,rfl⟩:=Int.eq_ofNat_of_zero_le (show 0≤b0 by omega)
  obtain⟨k,rfl⟩:=Int.eq_ofNat_of_zero_le hk0
  simp only[U2]at*
  obtain⟨d,hd⟩: ∃d,l.toArray=d:=⟨_,rfl⟩
  have hds:d.size=n:=by rw[←hd];simpa using hn
  have hab2:a≤b:=by omega
  have hbn2:b≤n:=by omega
  have hk2:k≤1000:=by omega
  have hN2:b-a<N+1:=by omega
  rw[hd]at hB⊢
  refine⟨J1 rfl,fun hid=>?_⟩
  obtain⟨R,hR⟩: ∃R,Sort.pdq ltN d a b k true true=R:=⟨_,rfl⟩
  rw[hR]
  clear hl hn ha hab hbn hk0 hk1 hN
  refine aA rfl (bA [0,1,2,3,8] rfl rfl rfl fun K hK=>?_)
  simp(disch:=omega) only[Tryz.f63,go_sem,↓reduceIte]
  refine hK _ ?_
  refine aB (aA rfl (bA [0,1,2,3,8,9] rfl rfl rfl fun K hK=>?_))
  simp(disch:=omega) only[Tryz.f63,go_sem,↓reduceIte]
  refine hK _ ?_
  refine aB (aR 0 rfl rfl ?_)
  refine bR (fun p:SPQ=> {fr:=[(0,.os id 0 n 1 gg),(1,.i p.a),(2,.i p.b),(3,.i p.l),(8,.b p.wb),(9,.b p.wp)],hp:=upd (fun _=>none) id (.cells (cA p.d) true),nx:=0,cx:=p.c}) (fun p=>Sort.pdq ltN p.d p.a p.b p.l p.wb p.wp=R∧p.d.size=n∧p.a≤p.b∧p.b≤n∧p.l≤1000∧p.b-p.a<N+1∧Sort.Below ltN p.a p.b p.d∧id<p.c) (fun p=>p.b-p.a) rfl ⟨⟨a,b,k,true,true,d,_⟩,⟨hR,hds,hab2,hbn2,hk2,hN2,hB,by simp only;omega⟩,bD rfl rfl (U3 _)⟩ ?_
  rintro⟨a,b,k,wb,wp,d,c⟩ ⟨hr,hds,hab,hbn,hk,hN,hB,hc⟩ n0
  simp only at hr hds hab hbn hk hN hB hc⊢
  have ebL:(b:Int)-(a:Int)=((b-a:Nat):Int):=by omega
  refine aR 1 rfl rfl (aA rfl (bA [0,1,2,3,8,9,10] rfl rfl rfl fun K hK=>?_))
  simp(disch:=omega) only[Tryz.f63,go_sem,↓reduceIte,ebL]
  refine hK _ ?_
  refine aB (aA rfl (aA rfl (bA [23,0,1,2,3,8,9,10] rfl rfl rfl fun K hK=>?_)))
  simp(disch:=omega) only[Tryz.f63,go_sem,↓reduceIte]
  refine hK _ ?_
  refine aB (aW (.tmp 23) rfl rfl rfl (fun h=>?_) (fun h=>?_))
  ·refine aI rfl ?_
   have h12:b-a≤12:=by omega
   rw[Sort.pdq,J4 h12]at hr
   refine aA rfl (aC (Γ:=bC [(68,.heap (dP bMq))]) [] (aH cVt aO) rfl rfl rfl (fun K hK=>?_))
   simp(disch:=omega) only[Tryz.f63,go_sem,↓reduceIte,hds,U2]
   refine hK _ ?_
   exact aB (aS rfl (bI (bN (dF (bN (⟨rfl,by simp only[aV,if_true,hr],rfl,dZ _⟩))))))
  refine aI rfl ?_
  have h12: ¬b-a≤12:=by omega
  rw[Sort.pdq,J3 h12]at hr
  refine aQ rfl (aB (aA rfl (aA rfl (bA [29,0,1,2,3,8,9,10] rfl rfl rfl fun K hK=>?_))))
  simp(disch:=omega) only[Tryz.f63,go_sem,↓reduceIte]
  refine hK _ ?_
  refine aB (aW (.tmp 29) rfl rfl rfl (fun h=>?_) (fun h=>?_))
  ·refine aI rfl ?_
   have hk0:k=0:=by omega
   rw[J4 hk0]at hr
   refine aA rfl (aC (Γ:=bC [(69,.heap (dP bMx))]) [] (aH cVs aO) rfl rfl rfl (fun K hK=>?_))
   simp(disch:=omega) only[Tryz.f63,go_sem,↓reduceIte,hds,U2]
   refine hK _ ?_
   exact aB (aS rfl (bI (bN (dF (bN (⟨rfl,by simp only[aV,if_true,hr],rfl,dZ _⟩))))))
  refine aI rfl ?_
  have hk0: ¬k=0:=by omega
  rw[J3 hk0]at hr
  obtain⟨d1,hd1⟩: ∃x,(if(!wb)=true then Sort.breakPatterns d a b else d)=x:=⟨_,rfl⟩
  obtain⟨k1,hk1⟩: ∃x,(if(!wb)=true then k-1 else k)=x:=⟨_,rfl⟩
  obtain⟨⟨pv,ht⟩,hch⟩: ∃x,Sort.choosePivot ltN d1 a b=x:=⟨_,rfl⟩
  obtain⟨d2,hd2⟩: ∃x,(if ht=Sort.Hint.decreasing then Sort.reverseRange d1 a b else d1)=x:=⟨_,rfl⟩
  obtain⟨pv2,hpv2⟩: ∃x,(if ht=Sort.Hint.decreasing then(b-1)-(pv-a)else pv)=x:=⟨_,rfl⟩
  obtain⟨ht2,hht2⟩: ∃x,(if ht=Sort.Hint.decreasing then Sort.Hint.increasing else ht)=x:=⟨_,rfl⟩
  obtain⟨⟨d3,ok⟩,hpi⟩: ∃x,(if(wb&&wp&&decide (ht2=Sort.Hint.increasing))=true then Sort.partialInsertionSort ltN d2 a b else(d2,false))=x:=⟨_,rfl⟩
  simp only[hd1,hk1,hch,hd2,hpv2,hht2,hpi]at hr
  have hk1b:k1≤1000:=by rw[←hk1];split<;>omega
  have hab3:a<b:=by omega
  have p1:Sort.PermIn a b d d1:=by rw[←hd1];exact aVs _ (Sort.breakPatterns_holds d a b hab (by omega))
  have s1:d1.size=n:=by rw[p1.1];exact hds
  refine aQ rfl (aB (aA rfl (cJr hd1 hk1 (by omega) hk hds hab3 hbn hbig (by omega) (fun n1 c1 hc1=>?_))))
  refine aB (aA rfl (aC (Γ:=bC [(71,.heap (dP chG))]) [0,1,2,3,8,9,10,11,12] (aH cVq aO) rfl rfl rfl (fun K hK=>?_)))
  simp(disch:=omega) only[Tryz.f63,go_sem,↓reduceIte,s1,hch,U2]
  refine hK _ ?_
  refine aB ?_
  have hcr:=Sort.choosePivot_holds ltN d1 a b hab3
  rw[hch]at hcr
  simp only at hcr
  have p2:Sort.PermIn a b d1 d2:=by rw[←hd2];exact aVs _ (Sort.reverseRange_holds d1 a b hab (by omega))
  have s2:d2.size=n:=by rw[p2.1];exact s1
  refine aA rfl (cJo hd2 hpv2 hht2 hcr.1 hcr.2 s1 hab3 hbn hbig (by omega) (fun n2 c2 hc2=>?_))
  refine aB ?_
  have hb2:Sort.Below ltN a b d2:=(hB.perm (by omega) p1).perm (by omega) p2
  have hps:=Sort.step_partial Sort.partialInsertionSort_holds qW d2 hab3 (by omega) hb2 ((wb&&wp&&decide (ht2=Sort.Hint.increasing))=true)
  have hpi2:(if _h:(wb&&wp&&decide (ht2=Sort.Hint.increasing))=true then Sort.partialInsertionSort ltN d2 a b else(d2,false))=(d3,ok):=by rw[←hpi];split<;>simp_all
  rw[hpi2]at hps
  have p3:Sort.PermIn a b d2 d3:=hps.1
  have s3:d3.size=n:=by rw[p3.1];exact s2
  have hb3:Sort.Below ltN a b d3:=hb2.perm (by omega) p3
  have hpv:a≤pv2∧pv2<b:=by rw[←hpv2];split<;>omega
  refine aA rfl ?_
  refine cJp hpi s2 hab3 hbn hbig hc2 (fun n3 c3 hc3 hok=>?_) (fun fr n3 c3 hc3 hok=>by subst hok;rw[J4 rfl]at hr;subst hr;exact(show aLl Tryz.prog Tryz.f63.results.toList (.tup []) id (cA d3) _ from⟨rfl,by simp only[aV,if_true],rfl,dZ _⟩))
  refine aB ?_
  subst hok
  simp only[Bool.false_eq_true,if_false]at hr
  obtain⟨u,hu⟩: ∃u,(decide (a>0)&& !ltN d3[a-1]! d3[pv2]!)=u:=⟨_,rfl⟩
  rw[hu]at hr
  refine aA rfl (aA rfl (cJq hu hpv.2 s3 hab3 hbn hbig hc3 (fun n4 c4 hc4=>?_)))
  refine aB ?_
  cases u
  ·obtain⟨⟨mid,ap,d4⟩,hx⟩: ∃x,Sort.partition ltN d3 a b pv2=x:=⟨_,rfl⟩
   obtain⟨g1,g2,hs4,hBa,hBr,hleft,hright⟩:=Sort.round_part qW (Sort.partition_holds ltN) hpv.1 hpv.2 (by omega) hb3 hx
   have s4:d4.size=n:=by rw[hs4];exact s3
   have hpn:pv2<n:=by omega
   simp only[Bool.false_eq_true,if_false,hx,dif_pos (And.intro g1 g2)]at hr
   have eL:(mid:Int)-(a:Int)=((mid-a:Nat):Int):=by omega
   have eR:(b:Int)-(mid:Int)=((b-mid:Nat):Int):=by omega
   have e8:((b-a:Nat):Int).tdiv 8=(((b-a)/8:Nat):Int):=by rw[Int.tdiv_eq_ediv_of_nonneg (by omega)];omega
   have em:(mid:Int)+1=((mid+1:Nat):Int):=by omega
   have hd1:decide ((((b-a)/8:Nat):Int)≤((mid-a:Nat):Int))=decide (mid-a≥(b-a)/8):=decide_eq_decide.2 (by omega)
   have hd2:decide ((((b-a)/8:Nat):Int)≤((b-mid:Nat):Int))=decide (b-mid≥(b-a)/8):=decide_eq_decide.2 (by omega)
   refine eC (.tmp 87) rfl rfl rfl (fun h=>?_) (fun h=>?_)
   ·cases h
   refine aQ rfl (aB (aA rfl (aC (Γ:=bC [(76,.heap (dP ptG))]) [0,1,2,3,10,14,15] (aH cKk aO) rfl rfl rfl (fun K hK=>?_))))
   simp(disch:=omega) only[Tryz.f63,go_sem,↓reduceIte,s3,hx,U2]
   refine hK _ ?_
   refine aB (aA rfl (bA [0,1,2,3,9,10,14] rfl rfl rfl fun K hK=>?_))
   simp(disch:=omega) only[Tryz.f63,go_sem,↓reduceIte]
   refine hK _ ?_
   refine aB (aA rfl (bA [0,1,2,3,9,10,14,16,17] rfl rfl rfl fun K hK=>?_))
   simp(disch:=omega) only[Tryz.f63,go_sem,↓reduceIte,eL,eR]
   refine hK _ ?_
   refine aB (aA rfl (bA [0,1,2,3,9,14,16,17,18] rfl rfl rfl fun K hK=>?_))
   simp(disch:=omega) only[Tryz.f63,go_sem,↓reduceIte,e8]
   refine hK _ ?_
   refine aB (aA rfl (bA [113,0,1,2,3,9,14,16,17,18] rfl rfl rfl fun K hK=>?_))
   simp(disch:=omega) only[Tryz.f63,go_sem,↓reduceIte]
   refine hK _ ?_
   refine aB (aW (.tmp 113) rfl rfl rfl (fun h=>?_) (fun h=>?_))
   ·refine aI rfl ?_
    have hlr:mid-a<b-mid:=by omega
    rw[J4 hlr]at hr
    obtain⟨q1,q2⟩:=Sort.pdq_sorts ltN qW d4 a mid k1 true true g1 (by omega) hBa
    obtain⟨d5,hd5⟩: ∃x,Sort.pdq ltN d4 a mid k1 true true=x:=⟨_,rfl⟩
    rw[hd5]at hr q1 q2
    have s5:d5.size=n:=by rw[q1.1];exact s4
    have hB5:=(hleft d5 q1 q2).1
    refine aA rfl (bA [0,1,2,3,8,9,14] rfl rfl rfl fun K hK=>?_)
    simp(disch:=omega) only[Tryz.f63,go_sem,↓reduceIte,hd1]
    refine hK _ ?_
    refine aB (aA rfl (aC (Γ:=bC [(63,.heap (dP (zR N)))]) [0,2,3,8,9,14] (aH oku91 aO) rfl rfl rfl (fun K hK=>?_)))
    simp(disch:=omega) only[Tryz.f63,go_sem,↓reduceIte,s4,hBa,hd5,U2]
    refine hK _ ?_
    refine aB (bA [0,1,2,3,8,9] rfl rfl rfl fun K hK=>?_)
    simp(disch:=omega) only[Tryz.f63,go_sem,↓reduceIte,em]
    refine hK _ ?_
    refine bU (bT ?_)
    refine⟨⟨mid+1,b,k1,decide (mid-a≥(b-a)/8),ap,d5,_⟩,⟨hr,s5,by simp only;omega,by simp only;omega,by simp only;omega,by simp only;omega,hB5,by simp only;omega⟩,by simp only;omega,⟨fun _=> .inr rfl,bS (by simp(disch:=omega) only[aV,↓reduceIte,eq_self]) cB,U3 _⟩⟩
   refine aI rfl ?_
   have hlr: ¬mid-a<b-mid:=by omega
   rw[J3 hlr]at hr
   obtain⟨q1,q2⟩:=Sort.pdq_sorts ltN qW d4 (mid+1) b k1 true true (by omega) (by omega) hBr
   obtain⟨d5,hd5⟩: ∃x,Sort.pdq ltN d4 (mid+1) b k1 true true=x:=⟨_,rfl⟩
   rw[hd5]at hr q1 q2
   have s5:d5.size=n:=by rw[q1.1];exact s4
   have hB5:=(hright d5 q1 q2).1
   refine aA rfl (bA [0,1,2,3,8,9,14] rfl rfl rfl fun K hK=>?_)
   simp(disch:=omega) only[Tryz.f63,go_sem,↓reduceIte,hd2]
   refine hK _ ?_
   refine aB (aA rfl (aC (Γ:=bC [(63,.heap (dP (zR N)))]) [0,1,3,8,9,14] (aH oku91 aO) rfl rfl rfl (fun K hK=>?_)))
   simp(disch:=omega) only[Tryz.f63,go_sem,↓reduceIte,em,s4,hBr,hd5,U2]
   refine hK _ ?_
   refine aB (bA [0,1,2,3,8,9] rfl rfl rfl fun K hK=>?_)
   simp(disch:=omega) only[Tryz.f63,go_sem,↓reduceIte]
   refine hK _ ?_
   refine bU (bT ?_)
   refine⟨⟨a,mid,k1,decide (b-mid≥(b-a)/8),ap,d5,_⟩,⟨hr,s5,by simp only;omega,by simp only;omega,by simp only;omega,by simp only;omega,hB5,by simp only;omega⟩,by simp only;omega,⟨fun _=> .inr rfl,bS (by simp(disch:=omega) only[aV,↓reduceIte,eq_self]) cB,U3 _⟩⟩
  obtain⟨⟨mid,d4⟩,hx⟩: ∃x,Sort.partitionEqual ltN d3 a b pv2=x:=⟨_,rfl⟩
  simp only[Bool.and_eq_true,decide_eq_true_eq,Bool.not_eq_true']at hu
  obtain⟨g1,g2,hs4,hB4,_⟩:=Sort.round_eq qW (Sort.partitionEqual_holds ltN) hu.1 hpv.1 hpv.2 (by omega) hb3 hu.2 hx
  have s4:d4.size=n:=by rw[hs4];exact s3
  have hpn:pv2<n:=by omega
  simp only[if_true,hx,dif_pos (And.intro g1 g2)]at hr
  refine eC (.tmp 87) rfl rfl rfl (fun h=>?_) (fun h=>?_)
  ·refine aA rfl (aC (Γ:=bC [(75,.heap (dP peG))]) [0,2,3,8,9,13] (aH cKl aO) rfl rfl rfl (fun K hK=>?_))
   simp(disch:=omega) only[Tryz.f63,go_sem,↓reduceIte,s3,hx,U2]
   refine hK _ ?_
   refine aB (aA rfl (bA [0,1,2,3,8,9] rfl rfl rfl fun K hK=>?_))
   simp(disch:=omega) only[Tryz.f63,go_sem,↓reduceIte]
   refine hK _ ?_
   refine aB (bF 1 rfl rfl (aY (bE (bT ?_))))
   refine⟨⟨mid,b,k1,wb,wp,d4,_⟩,⟨hr,s4,by simp only;omega,by simp only;omega,by simp only;omega,by simp only;omega,hB4,by simp only;omega⟩,by simp only;omega,⟨fun _=> .inr rfl,bS (by simp(disch:=omega) only[aV,↓reduceIte,eq_self]) cB,U3 _⟩⟩
  cases h
 cases hg
end Go.AX

namespace Go.AX
open Go Go.Proofs
theorem aVt: ∀N:Nat,cQ Tryz.prog GLh 63 (dP (zR N))
 |0=>bVk
 |N+1=>bVj N (aVt N)
theorem oku91:bX Tryz.prog GLh 63 (.heap (dP (zR 1000001))):=⟨⟨_,Tryz.func63,rfl,rfl⟩,aVt 1000001⟩
def bGg:List AV→List AV→Option (AV×List AV)
 |[.os _ 0 n 1 _],xs=>aK (unA xs) fun l=>aN (l.length=n∧n≤1000000) (some (.tup [],cA (iU l).toArray))
 |_,_=>none
theorem aUw (id n:Nat) (gg:Bool) (xs:List AV):bGg [.os id 0 n 1 gg] xs=aK (unA xs) fun l=>aN (l.length=n∧n≤1000000) (some (.tup [],cA (iU l).toArray)):=(rfl)
attribute [go_sem] aUw
set_option maxHeartbeats 1000000 in
theorem bGf:cQ Tryz.prog GLh 54 (dP bGg):=by
 refine dN Tryz.func54 (aT rfl) ?_
 intro id off n e gg rest nx xs r ys hg
 unfold bGg at hg
 split at hg
 ·rename_i id2 n2 gg2 heq
  simp only[List.cons.injEq,AV.os.injEq]at heq
  obtain⟨⟨rfl,rfl,rfl,rfl,rfl⟩,rfl⟩:=heq
  replace hg:=aJ hg;obtain⟨l,hl,hg⟩:=hg
  replace hg:=aP hg;obtain⟨⟨hn,hbig⟩,hg⟩:=hg
  simp only[Option.some.injEq,Prod.mk.injEq]at hg;obtain⟨rfl,rfl⟩:=hg
  have:=dO hl;subst this
  obtain⟨R,hR⟩: ∃R,(iU l).toArray=R:=⟨_,rfl⟩
  obtain⟨d,hd⟩: ∃d,l.toArray=d:=⟨_,rfl⟩
  have hds:d.size=n:=by rw[←hd];simpa using hn
  have hR2:Sort.pdq ltN d 0 n (Sort.bitsLen n) true true=R:=by
   rw[←hR,←hd];unfold iU Sort.sort;simp[←hds,←hd]
  rw[hR,hd]
  have h20:=aTm hbig
  have e1:=aWd hbig
  have hB:Sort.Below ltN 0 n d:=.inl rfl
  refine⟨J1 rfl,fun hid=>?_⟩
  clear hl hn
  refine aA rfl (bA [0,2] rfl rfl rfl fun K hK=>?_)
  simp(disch:=omega) only[Tryz.f54,go_sem,↓reduceIte]
  refine hK _ ?_
  refine aB (aC (Γ:=bC [(64,.pure true uJ),(63,.heap (dP (zR 1000001)))]) [] (aH cFa (aH oku91 aO)) rfl rfl rfl (fun K hK=>?_))
  simp(disch:=omega) only[Tryz.f54,go_sem,↓reduceIte,e1,hds,hB,hR2,U2,Int.toNat_zero]
  refine hK _ ?_
  exact⟨rfl,by simp only[aV,if_true],rfl,dZ _⟩
 cases hg
end Go.AX

namespace Go.AX
open Go Go.Proofs Go.RowKit Go.Shelf Go.Maps Go.Sort
abbrev wM:Int→Value:=Value.int .u32
theorem bNo {x y:Int} (h:wM x=wM y):x=y:=by simpa [wM]using h
theorem xU {P:Program} {k:TypeId} (hk:P.underlying k=some (.int .u32)) {key:Value} {kl:Lit} (h:keyOf P k key=some kl): ∃x:Int,key=wM x∧kl=.int .u32 x∧(Lit.int .u32 x).wf=true:=by
 cases key<;>simp[keyOf,hk,mapKey]at h
 rename_i q a
 obtain⟨⟨rfl,hw⟩,rfl⟩:=h
 exact⟨a,rfl,rfl,hw⟩
theorem aRn {H:Type} {es:List (Lit×DataW H)} (hp:es.Pairwise (fun p q=>p.1≠q.1)) (hk: ∀p∈es,∃x,p.1=.int .u32 x) {ss:List Int} (hnd:ss.Nodup) (hm: ∀x,x∈ss↔has (.map es) (.int .u32 x)=true):
  ss.Perm (intKeys (.map es)):=by
 refine(List.perm_ext_iff_of_nodup hnd ?_).2 fun x=>?_
 ·show(es.map fun p=>intOf p.1).Nodup
  refine List.pairwise_map.2 (hp.imp_of_mem fun {p q} hp' hq' hne e=>hne ?_)
  obtain⟨a,ha⟩:=hk p hp'
  obtain⟨b,hb⟩:=hk q hq'
  rw[ha,hb]at e⊢
  exact congrArg _ e
 ·rw[hm x,has_eq,List.any_eq_true]
  show _↔x∈es.map fun p=>intOf p.1
  rw[List.mem_map]
  constructor
  ·rintro⟨p,hp',hs⟩
   obtain⟨a,ha⟩:=hk p hp'
   rw[ha]at hs
   exact⟨p,hp',by rw[ha];simpa [Lit.sameKey,intOf]using hs⟩
  ·rintro⟨p,hp',rfl⟩
   obtain⟨a,ha⟩:=hk p hp'
   exact⟨p,hp',by rw[ha];simp[Lit.sameKey,intOf]⟩
def xA {H:Type} (D0:DataW H) (left:Lit→Bool) (ss:List Int):Prop:=ss.Nodup∧∀x,x∈ss↔(has D0 (.int .u32 x)=true∧left (.int .u32 x)=false)
section
variable {H : Type} {D0 : DataW H} {left : Lit → Bool} {ss : List Int}
theorem xA.start (D0:DataW H):xA D0 (has D0) []:=⟨List.nodup_nil,fun x=>by cases has D0 (.int .u32 x)<;>simp⟩
theorem xA.step (h:xA D0 left ss) {x:Int} {y:DataW H} (hlk:left (.int .u32 x)=true) (hat: ∀zd,D0.atKey (.int .u32 x) zd=y):xA D0 (fun z=>left z&& !z.sameKey (.int .u32 x)) (ss++[x]):=by
 have hhas:has D0 (.int .u32 x)=true:=has_true_of_atKey hat
 have hnew:x∉ss:=fun hx=>by have:=((h.2 x).1 hx).2;rw[hlk]at this;cases this
 refine⟨List.nodup_append.2 ⟨h.1,by simp,fun a ha b hb=>by simp at hb;subst hb;exact fun e=>hnew (e▸ha)⟩,fun y=>?_⟩
 by_cases hy:y=x
 ·subst hy;simp[hhas,Lit.sameKey]
 simp[h.2 y,hy,Lit.sameKey]
variable {P : Program} {k : TypeId} {R : Value → Option (DataW H × List MemPlace)} {w : World} {b n : Nat}
theorem xA.perm (h:xA D0 left ss) (hown:w.ownsMap P k R b n D0) (K:Keyed P k) (hk:P.underlying k=some (.int .u32)) (hl: ∀kl,left kl=false):ss.Perm (intKeys D0):=by
 obtain⟨es,hD,hpw,_⟩:=hown.entries K
 obtain⟨es',hD',hko⟩:=hown.keysOf
 obtain rfl:es=es':=by rw[hD]at hD';simpa using hD'
 subst hD
 exact aRn hpw (fun p hp=>by obtain⟨v,hv⟩:=hko p hp;obtain⟨x,_,hx,_⟩:=xU hk hv;exact⟨x,hx⟩) h.1 (fun x=>by rw[h.2 x,hl];simp)
end
attribute [local go_sem] Oper.semAt_some
set_option maxRecDepth 100000 in
set_option maxHeartbeats 2000000 in
theorem bMe {H:Type} (F:Fence) (n:Nat) (h10:F.fn 55) (hro:F.round=none) (hn:1≤n) (l Bm ob b nn:Nat) (D0:DataW H) {R:Value→Option (DataW H×List MemPlace)} (J Jx:List Int→World→Prop)
  (hY: ∀pre x W,J pre W→pre.length<Maps.size D0→YieldAt F (n-1) Tryz.prog l #[wM x] W fun e W'=>
   (e=.returned (.bool true)∧J (pre++[x]) W'∧KeepsWalks W W')∨(e=.returned (.bool false)∧Jx (pre++[x]) W'))
  (W:World) (hJ:AbidesFrom W.heap.size J) (hm:W.cell? ⟨Bm,ob,none⟩=some (.map (some b))) (hown:W.ownsMap Tryz.prog 23 R b nn D0) (h0:J [] W):
  CallsIn F n Tryz.prog 55 #[.func (.yield l) #[] #[],.pointer (some ⟨Bm,ob,none⟩)] W fun e W'=>(∃v,e=.returned v)∧
   ((∃ss:List Int,ss.Perm (intKeys D0)∧J ss W')∨(∃pre:List Int,True∧Jx pre W')):=by
 refine callsIn_of_wp Tryz.func55 rfl h10 ?_ hro
 simp only[Tryz.ntmps55,List.size_toArray,List.length_cons,List.length_nil,Nat.reduceAdd,Nat.reduceSub,Array.replicate_succ,Array.replicate_zero,List.push_toArray,List.append_toArray,List.nil_append,List.cons_append]
 gi_wp2_with (first
  |(gi_at_range;refine wpListIn_range_own _ rfl _ 94 rfl 23 50 (int_keyed Tryz.underlying23) Tryz.underlying94 _ b nn _ rfl hown ?_;intro w0 hrg0 hg0 hs0)
  |gi_in)
 go_frame
 gi_loopw [3] (fun _ wr=> ∃(left:Lit→Bool) (cnt:Nat) (ss:List Int),wr.ranges Tryz.prog 23 R b W.heap.size nn D0 left cnt∧ss.length+cnt≤Maps.size D0∧xA D0 left ss∧J ss wr)
  (fun _ wr=>wr.rangeLeft b W.heap.size)
 case atStart=>
  exact⟨_,_,[],hrg0,by simp,xA.start D0,hJ [] W w0 none h0 hg0 (fun r e=>by cases e)⟩
 case round=>
  obtain⟨left,cnt,ss,hrg,hcs,hC,hJs⟩:=hrel
  gi_wp2_with (first
   |(gi_at_next;refine wpListIn_next_ranges _ rfl _ rfl 23 (int_keyed Tryz.underlying23) R wM id (fun key kl hk=>by obtain⟨x,hx,_⟩:=xU Tryz.underlying23 hk;exact⟨x,hx⟩) (fun v _ _=>⟨v,rfl⟩) b W.heap.size nn _ _ _ rfl hrg ?_ ?_)
   |gi_in)
  ·intro hc0 hl0
   gi_wp2
   go_end0
   exact⟨⟨_,rfl⟩,.inl ⟨ss,hC.perm hown (int_keyed Tryz.underlying23) Tryz.underlying23 hl0,hJs⟩⟩
  ·intro x c kl yd yp w2 cnt2 hkey hlk hv hat hrg2 hlt hg2 hs2 hen
   obtain⟨x',ex,rfl,_⟩:=xU Tryz.underlying23 hkey
   obtain rfl:x=x':=bNo ex
   have hJ2:J ss w2:=hJ ss wr w2 (some W.heap.size) hJs hg2 (fun r e=>by cases e;exact⟨Nat.le_refl _,hrg.iter_walk⟩)
   obtain⟨fn,tmps,assign,body,hy,hR⟩:=hY ss x w2 hJ2 (by omega)
   clear hs2
   gi_wp2
   refine hR.mono ?_
   have hC2:=hC.step hlk hat
   rintro e W3 (⟨rfl,hJ3,hk3⟩|⟨rfl,hJx3⟩)
   ·gi_wp2
    have hrg3:=hrg2.of_walks hk3
    go_roundw
    case rel=>exact⟨_,cnt2,ss++[x],hrg3,by simp;omega,hC2,hJ3⟩
    case measure=>rw[hrg3.left_eq,hrg.left_eq];exact hlt
   ·gi_wp2
    refine bodyPost_ret (results_none rfl _ _ _) rfl ?_
    exact⟨⟨_,rfl⟩,.inr ⟨ss++[x],trivial,hJx3⟩⟩
theorem aOc {H:Type} (F:Fence) (n:Nat) (h10:F.fn 55) (hro:F.round=none) (hn:1≤n) (Bm ob b nn:Nat) (D0:DataW H) {R:Value→Option (DataW H×List MemPlace)} (w:World) (hBm:Bm<w.heap.size)
  (hm:w.cell? ⟨Bm,ob,none⟩=some (.map (some b))) (hown:w.ownsMap Tryz.prog 23 R b nn D0):
  SeqStopsK F n Tryz.prog 55 #[.pointer (some ⟨Bm,ob,none⟩)] (fun x:Int=> #[wM x]) KeepsWalks (fun ss=>ss.Perm (intKeys D0)) (fun _=>True) (Maps.size D0) w:=fun l J Jx W hW hJ _ hY h0=>by
 have hown':W.ownsMap Tryz.prog 23 R b nn D0:=by
  have hbl:=hown.lt
  obtain⟨es,clock,hb,Ft,hs,hD⟩:=hown
  exact⟨es,clock,(hW.block b hbl).trans hb,Ft,hs,hD⟩
 exact bMe F n h10 hro hn l Bm ob b nn D0 J Jx hY W hJ ((hW.cell (p:=⟨Bm,ob,none⟩) hBm).trans hm) hown' h0
theorem cYm:(Tryz.prog.info? 23).map (fun i=>(i.zero,i.size,i.bytes))=some (some (.int .u32 0),1,4):=by kernel_rfl
theorem aIl {W:World} {base:Nat} {e:TypeId} {size:Nat} {v:Value} {k:Nat} {xs:List Value} (h:W.ownsRow base e size v k xs): ∀(j:Nat) (o:Obj),v.ownBlock=some j→W.heap[j]? =some o→o.isWalk=false:=by
 intro j o hj ho
 rcases h.2 with⟨rfl,_⟩|⟨g,cap,cur,rfl,_,hgb,_⟩
 ·simp[Value.ownBlock]at hj
 have:g=j:=by simpa [Value.ownBlock]using hj
 subst this;rw[hgb]at ho;cases ho;rfl
set_option maxRecDepth 100000 in
set_option maxHeartbeats 2000000 in
theorem cDz {H:Type} (F:Fence) (n:Nat) (h3:F.fn 62) (h5:F.fn 55) (hro:F.round=none) (hn:3≤n) (Bm ob b nn:Nat) (D0:DataW H) (R:Value→Option (DataW H×List MemPlace)) (hlen:Maps.size D0≤1000000) (w:World) (hBm:Bm<w.heap.size)
  (hm:w.cell? ⟨Bm,ob,none⟩=some (.map (some b))) (hown:w.ownsMap Tryz.prog 23 R b nn D0):
  CallsIn F n Tryz.prog 62 #[.slice none 0 0,.func (.func 55) #[] #[.pointer (some ⟨Bm,ob,none⟩)]] w fun e W'=> ∃(v:Value) (ss:List Int),e=.returned v∧ss.Perm (intKeys D0)∧W'.ownsRow w.heap.size 23 1 v ss.length (ss.map wM)∧(v=.slice none 0 0↔ss=[])∧Below w.heap.size w W':=by
 have h1:1≤n:=by omega
 obtain⟨i0,hi,hz0,hz1,hz2⟩:=info_parts cYm
 refine callsIn_of_wp_marks Tryz.func62 rfl h3 ?_ hro
 simp only[Tryz.ntmps62,List.size_toArray,List.length_cons,List.length_nil,Nat.reduceAdd,Nat.reduceSub,Array.replicate_succ,Array.replicate_zero,List.push_toArray,List.append_toArray,List.nil_append,List.cons_append]
 gi_wp2
 have bO:=Boxed.new w 61 (.slice none 0 0)
 have hB0:Below w.heap.size w (w.alloc (.cells #[.slice none 0 0] 61)):=(Below.refl _ w).alloc (Nat.le_refl _) _
 have hown0:(w.alloc (.cells #[.slice none 0 0] 61)).ownsMap Tryz.prog 23 R b nn D0:=by
  have hbl:=hown.lt
  obtain⟨es,clock,hb,Ft,hs,hD⟩:=hown
  exact⟨es,clock,(hB0.block b hbl).trans hb,Ft,hs,hD⟩
 refine wpIn_rangeFunc_ownG hro h1 (gf:=55) (lb:= #[.pointer (some ⟨Bm,ob,none⟩)]) rfl h5 (enters_of Tryz.func55 (by kernel_rfl) rfl)
  (aOc F (n-1) h5 hro (by omega) Bm ob b nn D0 _ (by simp;omega) ((hB0.cell (p:=⟨Bm,ob,none⟩) hBm).trans hm) hown0) walksK_t walksK_b (Below.refl _ _) (fun _=>rfl)
  (fun pre W=>(∃v,Boxed W w.heap.size 61 v∧W.ownsRow w.heap.size 23 1 v pre.length (pre.map wM)∧(v=.slice none 0 0↔pre=[]))∧Below w.heap.size w W)
  (fun _ _ _=>False)
  (OwnFrom.and (Own.from (holdsRow_own w.heap.size w.heap.size 61 23 1 (fun pre=>pre.length) (fun pre=>pre.map wM) (fun pre v=>v=.slice none 0 0↔pre=[])) _) (ownFrom_below (Nat.le_refl _) (by simp)))
  (fun _ _ _ _ _ hs _ _=>hs)
  ⟨⟨_,bO,World.ownsRow_nil _ _ _ _,by simp⟩,hB0⟩
  (fun x=> {tmps:= #[.slice none 0 0,.func (.func 55) #[] #[.pointer (some ⟨Bm,ob,none⟩)],.pointer (some ⟨w.heap.size,0,none⟩),undef,.slice none 0 0,.int .u32 x,.func (.func 55) #[] #[.pointer (some ⟨Bm,ob,none⟩)],.int .u32 x,undef,undef,undef,undef,undef],defers:=[]}) ?assign ?body ?done ?stop
 case assign=>
  intro l x W K hK
  gi_wp2
  exact hK
 case body=>
  rintro l pre x W ⟨⟨v,hv,hrow,hnil⟩,hB⟩ hlt
  have hc:=hv.cell
  gi_wp2_with (gi_at_builtin;refine wpListIn_append_own _ rfl _ _ 61 rfl w.heap.size 23 i0 (.int .u32 0) 1 4 Tryz.underlying61 hi hz0 hz1 hz2 rfl (by decide) _ _ _ rfl (hrow.alloc _) ⟨W.heap.size,0,none⟩ 1 1 [.int .u32 x] rfl rfl (cell_one_new _ _ _) (by simp[Value.oneCell']) (by simp[maxLen];omega) (by omega) (by have:=hB.size;simp;omega) ?_;intro v' w1 hown' hgrow _;obtain⟨g',cap',rfl⟩:=ownsRow_succ hown';obtain⟨hv1,hv2,hr2,hk2,hb2⟩:=hv.appended (by decide) hrow hB.size (Nat.le_refl _) hown' hgrow;have hc1:=hv1.cell;have hf1:=hv1.frozen)
  exact⟨hk2.from _,((KeepsWalks.alloc _ _).trans (KeepsWalks.of_grownBy hgrow (aIl (hrow.alloc _)))).trans (KeepsWalks.setCell _ _ _),⟨_,hv2,by simpa using hr2,by simp⟩,hB.trans hb2⟩
 case done=>
  rintro D ys W hD hp ⟨⟨v,hv,hrow,hnil⟩,hB⟩ hK
  have hc:=hv.cell
  gi_wp2
  refine⟨by simp,.inl ⟨_,_,rfl,run_takeDeferred hK,?_⟩⟩
  exact⟨_,results_tmp rfl _ _ _,v,ys,rfl,hp,ownsRow_putObj hrow _ hK rfl,hnil,hB.trans (belowK_b (w:=w) (Nat.le_refl _) W D _ _ (by simp at hD;omega) hK rfl rfl)⟩
 case stop=>
  rintro D c pre W _ _ h _
  exact h.elim
set_option maxHeartbeats 1000000 in
theorem aPg {H:Type} (F:Fence) (n:Nat) (h8:F.fn 53) (h3:F.fn 62) (h5:F.fn 55) (hro:F.round=none) (hn:4≤n) (Bm ob b nn:Nat) (D0:DataW H) (R:Value→Option (DataW H×List MemPlace)) (hlen:Maps.size D0≤1000000) (w:World) (hBm:Bm<w.heap.size)
  (hm:w.cell? ⟨Bm,ob,none⟩=some (.map (some b))) (hown:w.ownsMap Tryz.prog 23 R b nn D0):
  CallsIn F n Tryz.prog 53 #[.func (.func 55) #[] #[.pointer (some ⟨Bm,ob,none⟩)]] w fun e W'=> ∃(v:Value) (ss:List Int),e=.returned v∧ss.Perm (intKeys D0)∧W'.ownsRow w.heap.size 23 1 v ss.length (ss.map wM)∧(v=.slice none 0 0↔ss=[])∧Below w.heap.size w W':=by
 have h1:1≤n:=by omega
 refine callsIn_of_wp Tryz.func53 rfl h8 ?_ hro
 simp only[Tryz.ntmps53,List.size_toArray,List.length_cons,List.length_nil,Nat.reduceAdd,Nat.reduceSub,Array.replicate_succ,Array.replicate_zero,List.push_toArray,List.append_toArray,List.nil_append,List.cons_append]
 gi_wp2_with (gi_at_call 62;refine(cDz F (n-1) h3 h5 hro (by omega) Bm ob b nn D0 R hlen _ hBm hm hown).mono ?_;rintro e w' ⟨v,ss,rfl,hp,hrow,hnil,hb⟩)
 go_ret
 exact⟨v,ss,rfl,hp,hrow,hnil,hb⟩
end Go.AX

namespace Go.AX
open Go Go.Proofs
open Go.WideElems (Fit rd rg)
theorem aDy {l l':List T32} (h:l.Perm l'):iU l=iU l':=by
 refine List.Perm.eq_of_pairwise (le:=fun a b=>a.toNat≤b.toNat) (fun a b _ _ h1 h2=>BitVec.eq_of_toNat_eq (Nat.le_antisymm h1 h2)) (nY l) (nY l') (((kC l).trans h).trans (kC l').symm)
def aOd:List AV→H→Nat→Option (AV×H×Nat)
 |[.mp m],hp,nx=>some (.fn 55 [.op nx 0],upd hp nx (.cells [.mp m] true),nx+10)
 |_,_,_=>none
theorem bMf (m:Nat) (hp:H) (nx:Nat):aOd [.mp m] hp nx=some (.fn 55 [.op nx 0],upd hp nx (.cells [.mp m] true),nx+10):=(rfl)
attribute [go_sem] bMf
theorem bYk:cQ Tryz.prog GLh 42 aOd:=by
 refine gF Tryz.func42 (aT rfl) ?_
 intro args hp nx r hp' nx' hg
 unfold aOd at hg
 split at hg
 ·rename_i m
  simp only[Option.some.injEq,Prod.mk.injEq]at hg;obtain⟨rfl,rfl,rfl⟩:=hg
  refine⟨J1 rfl,by omega,fun hnone=>?_⟩
  refine aA rfl (bA [1] rfl rfl rfl fun K hK=>?_)
  simp(disch:=omega) only[Tryz.f42,go_sem,↓reduceIte]
  refine hK _ ?_
  refine aB (aA rfl (bA [2] rfl rfl rfl fun K hK=>?_))
  simp(disch:=omega) only[Tryz.f42,go_sem,↓reduceIte]
  refine hK _ ?_
  refine aB (aS rfl ?_)
  exact⟨rfl,fun j o h=>h,by simp only;omega⟩
 cases hg
theorem cWa:bX Tryz.prog GLh 42 (.heap aOd):=⟨⟨_,Tryz.func42,rfl,rfl⟩,bYk⟩
def zG:List (AV×AV)→Option (List T32)
 |[]=>some []
 |p::r=>match p.1 with
  | .w32 k=>aK (zG r) fun l=>some (k::l)
  |_=>none
theorem bYl (l:List (W32×KY)):zG (rD l)=some (l.map (·.1)):=by
 induction l with
 |nil=>rfl
 |cons p r ih=>simp only[rD,List.map_cons,zG]at ih⊢;rw[ih];rfl
theorem aGy: ∀ {es:List (AV×AV)} {ks:List T32},zG es=some ks→ks.length=es.length∧∀i (h:i<es.length),es[i].1=.w32 (ks.getD i 0#32)
 |[],ks,h=>by obtain rfl:=J0 h;exact⟨rfl,fun i h=>by simp at h⟩
 |p::r,ks,h=>by
  simp only[zG]at h
  split at h
  ·rename_i k e
   replace h:=aJ h;obtain⟨l,hl,h⟩:=h
   obtain rfl:=J0 h
   obtain⟨i1,i2⟩:=aGy hl
   refine⟨by simp[i1],fun i hi=>?_⟩
   cases i with
   |zero=>exact e
   |succ i=>simpa using i2 i (by simpa using hi)
  cases h
def sdO (nx:Nat) (hp:H):AO→Option (AV×H×Nat)
 | .mapo es _=>aK (zG es) fun ks=>aN (ks.length≤1000000) (some (.os nx 0 ks.length 1 true,upd hp nx (.cells (c32 (iU ks)) true),nx+1))
 |_=>none
def sdP (nx:Nat) (hp:H):AO→Option (AV×H×Nat)
 | .cells [.mp m] _=>aK (hp m) (sdO nx hp)
 |_=>none
def sdG:List AV→H→Nat→Option (AV×H×Nat)
 |[.fn 55 [.op b 0]],hp,nx=>aK (hp b) (sdP nx hp)
 |_,_,_=>none
theorem cHy (b:Nat) (hp:H) (nx:Nat):sdG [.fn 55 [.op b 0]] hp nx=aK (hp b) (sdP nx hp):=(rfl)
theorem cHx (m nx:Nat) (hp:H) (mt:Bool):sdP nx hp (.cells [.mp m] mt)=aK (hp m) (sdO nx hp):=(rfl)
theorem bHf (nx:Nat) (hp:H) (es:List (AV×AV)) (mt:Bool):sdO nx hp (.mapo es mt)=aK (zG es) fun ks=>aN (ks.length≤1000000) (some (.os nx 0 ks.length 1 true,upd hp nx (.cells (c32 (iU ks)) true),nx+1)):=(rfl)
attribute [go_sem] cHy cHx bHf bYl
def aGg:Value→Option (DataW Unit×List MemPlace):=fun _=>some (.lit (.bool true),[])
theorem aGz (x:Lit×DataW Unit): ∀l,(DataW.insert x l).Perm (x::l)
 |[]=>List.Perm.refl _
 |y::r=>by
  simp only[DataW.insert]
  split
  ·exact List.Perm.refl _
  exact((aGz x r).cons y).trans (List.Perm.swap x y r)
theorem sQ: ∀l:List (Lit×DataW Unit),(l.foldr DataW.insert []).Perm l
 |[]=>List.Perm.refl _
 |x::r=>(aGz x _).trans ((sQ r).cons x)
theorem bHg {σ:Nat→Loc} {I:Nat→Prop} {w:World} {n:W32} {v:Value} (h:Rel σ I w (.w32 n) v):v=.int .u32 (n.toNat:Int):=by cases h;rfl
theorem cGh (k:W32):(Lit.int .u32 (k.toNat:Int)).wf=true:=by
 have:=k.isLt
 simp[Lit.wf,IntKind.min,IntKind.max,IntKind.signed,IntKind.bits]
 omega
theorem aJc {σ:Nat→Loc} {I:Nat→Prop} {w:World} {es:List (AV×AV)} {blk:Nat} {ks:List T32} (h:yQ σ I w es blk) (hk:zG es=some ks) (hlen:ks.length≤1000000):
  ∃D:DataW Unit,w.ownsMap Tryz.prog 23 aGg blk ks.length D∧(intKeys D).Perm (ks.map fun k=>(k.toNat:Int))∧Maps.size D=ks.length:=by
 obtain⟨⟨ents,cl,h1,h2,h3,h4⟩⟩:=h
 obtain⟨k1,k2⟩:=aGy hk
 have hkey: ∀i (hi:i<ents.size),ents[i].key=.int .u32 ((ks.getD i 0#32).toNat:Int):=by
  intro i hi
  have:=(h4 i (by omega)).2.1
  rw[k2 i (by omega)]at this
  have e:ents.getD i default=ents[i]:=by rw[Array.getD_eq_getD_getElem?,Array.getElem?_eq_getElem hi];rfl
  rw[e]at this
  exact bHg this
 have hrd: ∀i (hi:i<ents.size),rd Tryz.prog 23 aGg ents[i]=some (.int .u32 ((ks.getD i 0#32).toNat:Int),.lit (.bool true)):=by
  intro i hi
  have hw:=cGh (ks.getD i 0#32)
  have hk:=hkey i hi
  generalize ks.getD i 0#32=k at hw hk⊢
  simp[rd,hk,keyOf,mapKey,Tryz.underlying23,hw,aGg]
 have hmap:ents.toList.map (rg Tryz.prog 23 aGg)=ks.map fun k=>(.int .u32 (k.toNat:Int),.lit (.bool true)):=by
  apply List.ext_getElem
  ·simp[h2,k1]
  ·intro i hi1 hi2
   simp at hi1 hi2
   simp only[List.getElem_map,Array.getElem_toList,rg,hrd i hi1,Option.getD_some]
   rw[List.getD_eq_getElem?_getD,List.getElem?_eq_getElem hi2];rfl
 refine⟨.map ((ents.toList.map (rg Tryz.prog 23 aGg)).foldr DataW.insert []),⟨ents,cl,h1,⟨by simp only[maxLen];omega,h3,fun x hx=>?_⟩,by omega,rfl⟩,?_,?_⟩
 ·obtain⟨i,hi,rfl⟩:=List.getElem_of_mem hx
  exact⟨_,hrd i (by simpa using hi)⟩
 ·rw[hmap]
  simp only[intKeys]
  refine((sQ _).map _).trans (List.Perm.of_eq ?_)
  rw[List.map_map]
  rfl
 ·rw[hmap,Maps.size_eq,(sQ _).length_eq,List.length_map]
attribute [local go_sem] Oper.semAt_some
set_option maxRecDepth 100000 in
set_option maxHeartbeats 2000000 in
theorem aQx {H:Type} (F:Fence) (n:Nat) (h6:F.fn 41) (h8:F.fn 53) (h9:F.fn 54) (h3:F.fn 62) (h5:F.fn 55) (hro:F.round=none) (hn:5≤n) (Bm ob b nn:Nat) (D0:DataW H) (R:Value→Option (DataW H×List MemPlace)) (hlen:Maps.size D0≤1000000) (w:World) (hBm:Bm<w.heap.size)
  (hm:w.cell? ⟨Bm,ob,none⟩=some (.map (some b))) (hown:w.ownsMap Tryz.prog 23 R b nn D0) (Post:Value→World→Prop)
  (hsort: ∀(v:Value) (ss:List Int) (w1:World),ss.Perm (intKeys D0)→w1.ownsRow w.heap.size 23 1 v ss.length (ss.map wM)→(v=.slice none 0 0↔ss=[])→RowKit.Below w.heap.size w w1→CallsIn F (n-1) Tryz.prog 54 #[v] w1 fun e w2=>e=.returned (.tuple #[])∧Post v w2):
  CallsIn F n Tryz.prog 41 #[.func (.func 55) #[] #[.pointer (some ⟨Bm,ob,none⟩)]] w fun e w'=> ∃v,e=.returned v∧Post v w':=by
 have h1:1≤n:=by omega
 refine callsIn_of_wp Tryz.func41 rfl h6 ?_ hro
 simp only[Tryz.ntmps41,List.size_toArray,List.length_cons,List.length_nil,Nat.reduceAdd,Nat.reduceSub,Array.replicate_succ,Array.replicate_zero,List.push_toArray,List.append_toArray,List.nil_append,List.cons_append]
 gi_wp2_with (gi_at_call 53;refine(aPg F (n-1) h8 h3 h5 hro (by omega) Bm ob b nn D0 R hlen _ hBm hm hown).mono ?_;rintro e w1 ⟨v,ss,rfl,hp,hrow,hnil,hb⟩)
 gi_wp2_with (gi_at_call 54;refine(hsort v ss w1 hp hrow hnil hb).mono ?_;rintro e w2 ⟨rfl,hpost⟩)
 go_ret
 exact⟨v,rfl,hpost⟩
theorem aDx {H:Type} (Bm ob b nn:Nat) (D0:DataW H) (R:Value→Option (DataW H×List MemPlace)) (hlen:Maps.size D0≤1000000) (w:World) (hBm:Bm<w.heap.size)
  (hm:w.cell? ⟨Bm,ob,none⟩=some (.map (some b))) (hown:w.ownsMap Tryz.prog 23 R b nn D0) (Post:Value→World→Prop)
  (hsort: ∀(v:Value) (ss:List Int) (w1:World),ss.Perm (intKeys D0)→w1.ownsRow w.heap.size 23 1 v ss.length (ss.map wM)→(v=.slice none 0 0↔ss=[])→RowKit.Below w.heap.size w w1→Calls Tryz.prog 54 #[v] w1 fun e w2=>e=.returned (.tuple #[])∧Post v w2):
  Calls Tryz.prog 41 #[.func (.func 55) #[] #[.pointer (some ⟨Bm,ob,none⟩)]] w fun e w'=> ∃v,e=.returned v∧Post v w':=
 callsIn_wide.1 (aQx Fence.wide 6 trivial trivial trivial trivial trivial rfl (by omega) Bm ob b nn D0 R hlen w hBm hm hown Post (fun v ss w1 a b c d=>callsIn_wide.2 (hsort v ss w1 a b c d)))
set_option maxHeartbeats 1000000 in
theorem cUc:cQ Tryz.prog GLh 41 sdG:=by
 intro c σ I w hp nx args vals r hp' nx' hGL hi hs hr hg
 unfold sdG at hg
 split at hg
 ·rename_i b
  replace hg:=aJ hg;obtain⟨o,ho,hg⟩:=hg
  unfold sdP at hg
  split at hg
  ·rename_i m mt
   replace hg:=aJ hg;obtain⟨o2,ho2,hg⟩:=hg
   cases o2 with
   |cells xs mt2=>cases hg
   |mapo es mt2=>
   rw[bHf]at hg
   replace hg:=aJ hg;obtain⟨ks,hks,hg⟩:=hg
   replace hg:=aP hg;obtain⟨hlen,hg⟩:=hg
   simp only[Option.some.injEq,Prod.mk.injEq]at hg;obtain⟨rfl,rfl,rfl⟩:=hg
   refine⟨by omega,?_⟩
   have hr0:=hr 0 (by simp)
   simp only[List.getElem_cons_zero]at hr0
   generalize hv0:vals.getD 0 undef=v0 at hr0
   cases hr0 with
   |fn f xs vs hvs hrel=>
   have hrp:=hrel 0 (by simp)
   simp only[List.getElem_cons_zero]at hrp
   obtain⟨blk,base,sz,hl,hp0⟩:=pM hrp
   have hvs1:vs= #[.pointer (some ⟨blk,base+0,none⟩)]:=by
    apply Array.ext
    ·rw[hvs];rfl
    intro i h1 h2
    obtain rfl:i=0:=by simp at h2;omega
    have:vs.getD 0 undef=vs[0]:=by simp[Array.getD,h1]
    rw[←this];simpa using hp0
   have hvals:vals= #[.func (.func 55) #[] #[.pointer (some ⟨blk,base+0,none⟩)]]:=by
    apply Array.ext
    ·rw[hs];rfl
    intro i h1 h2
    obtain rfl:i=0:=by simp at h2;omega
    have:vals.getD 0 undef=vals[0]:=by simp[Array.getD,h1]
    rw[←this,hv0,hvs1];rfl
   have hob:=hi.own b _ ho
   have hrow:=fH hob hl
   obtain⟨v1,hc1,_,hr1⟩:=hrow.get 0 (by simp)
   simp only[List.getElem_cons_zero]at hr1
   obtain⟨mb,e1,hmr,_⟩:=hi.own m _ ho2
   obtain rfl:=aWp hr1 e1
   have hlt:blk<w.heap.size:=hob.lt hl
   obtain⟨D,d1,d2,d3⟩:=aJc hmr hks hlen
   rw[hvals]
   refine(aDx blk (base+0) mb ks.length D aGg (by omega) w hlt hc1 d1 (fun v w2=> ∃σ' I',Inv c σ' I' w2 (upd hp nx (.cells (c32 (iU ks)) true)) (fun id=>nx+1≤id)∧Rel σ' I' w2 (.os nx 0 ks.length 1 true) v∧iO σ I w σ' I' w2∧(∀id,id<nx→σ id=.unset→σ' id=.unset)) ?_).mono ?_
   ·intro v ss w' hperm hrow2 hnil hb
    have hp2:=hperm.trans d2
    have hsl:ss.length=ks.length:=by rw[hp2.length_eq,List.length_map]
    have hinr: ∀x∈ss,(((BitVec.ofInt 32 x).toNat:Nat):Int)=x:=by
     intro x hx
     obtain⟨k,_,rfl⟩:=List.mem_map.1 (hp2.mem_iff.1 hx)
     have:=k.isLt
     rw[BitVec.toNat_ofInt]
     omega
    obtain⟨l,hl2⟩: ∃l,l=ss.map (BitVec.ofInt 32):=⟨_,rfl⟩
    have hss:ss=l.map fun k=>(k.toNat:Int):=by
     rw[hl2,List.map_map]
     exact(List.map_id' ss).symm.trans (List.map_congr_left fun x hx=>(hinr x hx).symm)
    have hlp:l.Perm ks:=by
     rw[hl2]
     refine(hp2.map _).trans (List.Perm.of_eq ?_)
     rw[List.map_map]
     refine(List.map_congr_left fun k _=>?_).trans (List.map_id' ks)
     apply BitVec.eq_of_toNat_eq
     have:=k.isLt
     simp only[Function.comp,BitVec.toNat_ofInt]
     omega
    have hll:l.length=ks.length:=hlp.length_eq
    rw[hss,List.length_map,List.map_map,hll]at hrow2
    have hext:=hi.extend hb.os hb.tape hb.output hb.size (fun k hk=>hb.block k hk) I (fun _ h=>h) (fun k hk=> .inl hk)
    have hun: ∀id,(nx+1≤id∨(id=nx∨(id<nx∧σ id=.unset)))→σ id=.unset:=by
     intro id h
     rcases h with h|h|h
     ·exact hi.un id (by omega)
     ·exact hi.un id (by omega)
     exact h.2
    have hext2:Inv c σ I w' hp (fun k=>nx+1≤k∨(k=nx∨(k<nx∧σ k=.unset))):= {hext with un:=hun}
    obtain⟨v2,σ2,I2,a1,a2,a3,a4⟩:=aCy (I:=I) (Iw:=I) (w:=w) (cx:=nx+1) (un:=fun k=>k=nx∨(k<nx∧σ k=.unset)) (id:=nx) (nn:=ks.length) (ee:=1) (xs:=c32 l) (v:=v) (I1:=I) hext2 (.inl rfl) hi.size (fun k hk=>hi.ilt k hk)
     (fun k o blk base sz h1 h2=>(hi.own k o h1).lt h2) ⟨fun _ _=>rfl,fun _ h=>h,fun k hk=>hb.block k (hi.ilt k hk)⟩ (by
      rcases hrow2.2 with⟨rfl,h0⟩|⟨g,cap,cur,rfl,hbg,hgb,hcap,hmax,hsz,htake⟩
      ·left
       refine⟨.inl rfl,h0,?_⟩
       rw[h0]at hll
       rw[List.eq_nil_of_length_eq_zero hll];rfl
      right
      refine⟨g,0,cap,cap,rfl,hcap,by omega,hbg,fun hI5=>absurd (hi.ilt g hI5) (by omega),⟨cur,23,0,0,hgb,by omega,by rw[iY];omega,⟨U3 _,fun _ _=>by omega⟩,fun i hi5=>?_⟩,fun i hi5=>?_⟩
      ·have hil:i<l.length:=by rw[iY]at hi5;exact hi5
       have e5:(c32 l)[i]'hi5=.w32 l[i]:=by simp[c32]
       rw[e5]
       have h6:(cur.toList.take (ks.length*1))[i]? =some (.int .u32 (l[i].toNat:Int)):=by rw[htake];simp[hil]
       rw[List.getElem?_take_of_lt (by omega)]at h6
       have e6:cur.getD (0+i) undef=.int .u32 (l[i].toNat:Int):=by
        rw[Nat.zero_add,Array.getD_eq_getD_getElem?,←Array.getElem?_toList,h6];rfl
       rw[e6];exact .w32 _
      have hil:i<l.length:=by rw[iY]at hi5;exact hi5
      have e5:(c32 l)[i]'hi5=.w32 l[i]:=by simp[c32]
      rw[e5];rfl) (fun k h=>by omega)
    cases a1
    have hca:c32 l=cA l.toArray:=by simp[cA,c32]
    have hmut:dP bGg [.os nx 0 ks.length 1 true] (upd hp nx (.cells (c32 l) true)) (nx+1)=some (.tup [],upd hp nx (.cells (c32 (iU ks)) true),nx+1):=by
     rw[aWn,bJ,J4 rfl,aX,bKi,cU _ rfl,aUw,hca,bFk,aX,cU _ ⟨by simpa using hll,hlen⟩,aX]
     have e7:iU l=iU ks:=aDy hlp
     have e8:cA (iU ks).toArray=c32 (iU ks):=by simp[cA,c32]
     simp only[Option.some.injEq,Prod.mk.injEq,true_and,and_true]
     rw[e7,e8]
     funext k
     simp only[bJ]
     split<;>rfl
    obtain⟨_,hcall⟩:=bGf c σ2 I2 w' (upd hp nx (.cells (c32 l) true)) (nx+1) [.os nx 0 ks.length 1 true] #[v] _ _ _ hGL (a2.mono_un (fun k hk=> .inl hk)) rfl (fun i hi6=>by
     obtain rfl:i=0:=by simp at hi6;omega
     exact a3) hmut
    refine hcall.mono ?_
    rintro e w2 ⟨v3,σ3,I3,rfl,b2,b3,b4,b5⟩
    have hv3:v3=.tuple #[]:=by
     cases b3 with
     |tup xs vs h1 h2=>
      have:vs= #[]:=Array.eq_empty_of_size_eq_zero h1
      rw[this]
    rw[hv3]
    exact⟨rfl,σ3,I3,b2,a3.grow b4,a4.trans b4,fun id hid hun2=>b5 id (by omega) (a2.un id (.inr ⟨.inr ⟨hid,hun2⟩,by omega⟩))⟩
   rintro e w2 ⟨v,rfl,σ',I',b2,b3,b4,b5⟩
   exact⟨v,σ',I',rfl,b2,b3,b4,b5⟩
  cases hg
 cases hg
theorem cWb:bX Tryz.prog GLh 41 (.heap sdG):=⟨⟨_,Tryz.func41,rfl,rfl⟩,cUc⟩
end Go.AX

namespace Go.AX
open Go Go.Proofs
set_option maxRecDepth 8000
def ky0:KY:=⟨0#32,0,0,⟨0#8,0#8,0#8,0#8,0#8,0#8,0#8,0#8⟩,0,0#32,0#32,0#32⟩
def jQ:List KY→List AV
 |[]=>[]
 |k::r=>kyC k++jQ r
theorem iJ (l:List KY):(jQ l).length=15*l.length:=by
 induction l with
 |nil=>rfl
 |cons k r ih=>rw[jQ,List.length_append,ih,List.length_cons];show 15+_=_;omega
theorem lD (l m:List KY):jQ (l++m)=jQ l++jQ m:=by
 induction l with
 |nil=>rfl
 |cons k r ih=>rw[List.cons_append,jQ,ih,jQ,List.append_assoc]
theorem sL (k:KY):jQ [k]=kyC k:=by rw[jQ,jQ,List.append_nil]
def idsL (C:RC):List W32:=iU (C.by'.map (·.1))
def iP (C:RC):List KY:=(idsL C).map fun id=>(iK id C.by').getD ky0
theorem aOh (C:RC):(idsL C).length=C.by'.length:=by rw[idsL,aFo,List.length_map]
theorem qL (C:RC):(iP C).length=C.by'.length:=by rw[iP,List.length_map,aOh]
theorem wH {β:Type} (id:W32): ∀l:List (W32×β),id∈l.map (·.1)→∃v,iK id l=some v
 |[],h=>by cases h
 |p::r,h=>by
  simp only[iK]
  by_cases e:id=p.1
  ·exact⟨p.2,by rw[J4 e]⟩
  rw[J3 e]
  rw[List.map_cons,List.mem_cons]at h
  exact wH id r (h.resolve_left e)
theorem bMv (C:RC) (k:Nat) (hk:k<(idsL C).length):iK ((idsL C).getD k 0#32) C.by'=some ((iP C).getD k ky0):=by
 have hm:(idsL C).getD k 0#32∈C.by'.map (·.1):=by
  rw[List.getD_eq_getElem?_getD,List.getElem?_eq_getElem hk]
  exact(kC _).mem_iff.1 (List.getElem_mem hk)
 obtain⟨v,hv⟩:=wH _ _ hm
 rw[hv]
 have e:(iP C).getD k ky0=((iK ((idsL C).getD k 0#32) C.by').getD ky0):=by
  simp[iP,List.getD_eq_getElem?_getD,List.getElem?_eq_getElem hk]
 rw[e,hv];rfl
theorem bEy (C:RC) (k:Nat) (hk:k<(iP C).length):(iP C).take (k+1)=(iP C).take k++[(iP C).getD k ky0]:=by
 rw[List.take_add_one,List.getElem?_eq_getElem hk,List.getD_eq_getElem?_getD,List.getElem?_eq_getElem hk];rfl
noncomputable def rU:List AV→H→Nat→Option (AV×H×Nat)
 |[.op d 0],hp,nx=>aK (iN hp d) fun t=>aN (t.C.by'.length≤1000) (some (.sl t.C.by'.length (jQ (iP t.C)),hp,nx+200+100*t.C.by'.length))
 |_,_,_=>none
theorem cEe (d:Nat) (hp:H) (nx:Nat):rU [.op d 0] hp nx=aK (iN hp d) fun t=>aN (t.C.by'.length≤1000) (some (.sl t.C.by'.length (jQ (iP t.C)),hp,nx+200+100*t.C.by'.length)):=(rfl)
attribute [go_sem] cEe
set_option maxHeartbeats 1000000 in
theorem cRu:cQ Tryz.prog GLh 18 rU:=by
 refine gF Tryz.func18 (aT rfl) ?_
 intro args hp nx r hp' nx' hg
 unfold rU at hg
 split at hg
 ·rename_i d
  replace hg:=aJ hg;obtain⟨⟨s,m,C⟩,hD0,hg⟩:=hg
  have hD:=iV hD0
  replace hg:=aP hg;obtain⟨hlen,hg⟩:=hg
  simp only[Option.some.injEq,Prod.mk.injEq]at hg hD hlen;obtain⟨rfl,rfl,rfl⟩:=hg
  refine⟨J1 rfl,by omega,fun hnone=>?_⟩
  have h1:=hD.hd;have h2:=hD.hs;have h3:=hD.hm
  obtain⟨n1,n2,n3,n4,n5,n6⟩:=hD.ne
  have hlt: ∀k o,hp k=some o→k<nx:=fun k o hk=>lI hnone hk
  have hd:=hlt _ _ h1
  have hs:=hlt _ _ h2
  have hm:=hlt _ _ h3
  have hil:=aOh C
  have hal:=qL C
  have hid:iU (C.by'.map (·.1))=idsL C:=rfl
  obtain⟨N,hN⟩: ∃N,C.by'.length=N:=⟨_,rfl⟩
  rw[hN]at hlen hil hal⊢
  refine aA rfl (bA [0] rfl rfl rfl fun K hK=>?_)
  simp(disch:=omega) only[Tryz.f18,go_sem,↓reduceIte]
  refine hK _ ?_
  refine aB (aA rfl (bA [0,3] rfl rfl rfl fun K hK=>?_))
  simp(disch:=omega) only[Tryz.f18,go_sem,↓reduceIte]
  refine hK _ ?_
  refine aB (aA rfl (aA rfl (aC (Γ:=bC [(42,.heap aOd),(41,.heap sdG)]) [0,3,11,12,13] (aH cWa (aH cWb aO)) rfl rfl rfl (fun K hK=>?_))))
  simp(disch:=omega) only[Tryz.f18,go_sem,↓reduceIte,h1,h2,jA,hid,hN,List.length_map,J8,J7,J9]
  refine hK _ ?_
  refine aB (iE 3 15 rfl (fF [0,3,11,12,13] ?_))
  simp only[iB,fU,eB,↓reduceIte,Nat.reduceEqDiff]
  refine aR 0 rfl rfl ?_
  refine bR (fun p:KIC=> {fr:=[(0,.op d 0),(3,.os p.id 0 p.k 15 true),(11,.os (nx+1+1+8+10) 0 N 1 true),(12,.i N),(13,.i p.k)],hp:=upd (upd (upd hp (nx+1+1+8) (.cells [.mp s] true)) (nx+1+1+8+10) (.cells (c32 (idsL C)) true)) p.id (.cells (jQ ((iP C).take p.k)) true),nx:=0,cx:=p.c}) (fun p=>p.k≤N∧nx+20<p.id∧p.id<p.c∧p.c≤nx+60+60*p.k) (fun p=>N-p.k) rfl ⟨⟨0,_,_⟩,⟨Nat.zero_le _,by simp only;omega,by simp only;omega,by simp only;omega⟩,bD rfl rfl (U3 _)⟩ ?_
  rintro⟨k,id,c⟩ ⟨hk,hid1,hid2,hcc⟩ n0
  simp only at hk hid1 hid2 hcc⊢
  refine aA rfl (bA [14,0,3,11,12,13] rfl rfl rfl fun K hK=>?_)
  simp(disch:=omega) only[Tryz.f18,go_sem,↓reduceIte]
  refine hK _ ?_
  refine aB (aA rfl (aW (.tmp 14) rfl rfl rfl (fun h=>?_) (fun h=>?_)))
  ·refine aI rfl ?_
   have hkN:k<N:=by omega
   have hgk:=bMv C k (by omega)
   have hta:=bEy C k (by omega)
   have htl:((iP C).take k).length=k:=by rw[List.length_take];omega
   refine aQ rfl (aB (aA rfl (aR 1 rfl rfl (aA rfl (bA [0,3,5,11,12,13] rfl rfl rfl fun K hK=>?_)))))
   simp(disch:=omega) only[Tryz.f18,go_sem,↓reduceIte]
   refine hK _ ?_
   refine aB ?_
   have hkt:=iJ ((iP C).take k)
   rw[htl]at hkt
   have htA:jQ ((iP C).take (k+1))=jQ ((iP C).take k)++kyC ((iP C).getD k ky0):=by rw[hta,lD,sL]
   generalize (iP C).getD k ky0=X at hgk htA
   refine bA [0,3,11,12,13] rfl rfl rfl fun K hK=>?_
   simp(disch:=omega) only[Tryz.f18,go_sem,↓reduceIte,h1,h2,hgk,jA,lV,cK,List.nil_append,List.cons_append,J8,U0,U1,J7,J9,List.length_cons,List.length_nil,hkt]
   refine hK _ ?_
   refine bU (aB (bA [0,3,11,12,13] rfl rfl rfl fun K hK=>?_))
   simp(disch:=omega) only[Tryz.f18,go_sem,↓reduceIte]
   refine hK _ ?_
   refine bT ?_
   refine⟨⟨k+1,c+1+3+8,_⟩,⟨by simp only;omega,by simp only;omega,by simp only;omega,by simp only;omega⟩,by simp only;omega,⟨fun _=> .inr ?_,fun j o h=>?_,U3 _⟩⟩
   ·simp only[Int.natCast_add,Int.natCast_one]
   simp only at h
   refine bS ?_ (bS ?_ (bS ?_ (fun j o h=>?_))) j o h
   ·simp(disch:=omega) only[aV,↓reduceIte,eq_self,htA]<;>rfl
   ·simp(disch:=omega) only[aV,kE,bY,↓reduceIte,eq_self]
   ·simp(disch:=omega) only[aV,kE,bY,↓reduceIte,eq_self]
   have:=hlt j o h
   simp(disch:=omega) only[aV,kE,bY,↓reduceIte]
   exact h
  refine aI rfl (bF 0 rfl rfl (aY (aZ (bE (aB (aA rfl ?_))))))
  obtain rfl:k=N:=by omega
  rw[List.take_of_length_le (by omega)]
  have hkl:=iJ (iP C)
  refine pS 3 id 0 k 15 rfl (by rw[bJ,J4 rfl]) (by omega) ?_
  rw[J9,List.take_of_length_le (by omega)]
  refine bA [2] rfl rfl rfl fun K hK=>?_
  simp(disch:=omega) only[Tryz.f18,go_sem,↓reduceIte]
  refine hK _ ?_
  refine aB (aS rfl ?_)
  refine⟨rfl,fun j o h=>?_,by simp only;omega⟩
  have:=hlt j o h
  simp(disch:=omega) only[aV,bY,↓reduceIte]
  exact h
 cases hg
theorem pA:bX Tryz.prog GLh 18 (.heap rU):=⟨⟨_,Tryz.func18,rfl,rfl⟩,cRu⟩
end Go.AX

namespace Go.AX
open Go Go.Proofs
set_option maxRecDepth 8000
def tnC (C:RC) (id:W32) (k:KY) (st:Int) (now:W32):RC:= {C with by':=kT id {k with st:=st,since:=now} C.by'}
def goC (C:RC) (id:W32):RC:= {C with by':=rE id C.by',tr:=rE id C.tr}
def tnV (C:RC) (id:W32) (st:Int) (now:W32):Int×RC:=match iK id C.by' with
 |none=>(130,C)
 |some k=>if st≤k.st∨4<st then(131,C)else if st=4 then(0,goC C id)else(0,tnC C id k st now)
theorem aUp {C:RC} {id:W32} {st:Int} {now:W32} (h:iK id C.by'=none):tnV C id st now=(130,C):=by rw[tnV,h]
theorem aUo {C:RC} {id:W32} {st:Int} {now:W32} {k:KY} (h:iK id C.by'=some k):tnV C id st now=if st≤k.st∨4<st then(131,C)else if st=4 then(0,goC C id)else(0,tnC C id k st now):=by rw[tnV,h]
theorem ROk.upd {C:RC} (h:ROk C) {id:W32} {k k':KY} (hk:iK id C.by'=some k) (e1:k'.id=k.id) (e2:k'.h=k.h) (e3:k'.next=k.next) (e4:k'.seed=k.seed):ROk {C with by':=kT id k' C.by'}:=by
 obtain⟨b1,b2,b3,b4⟩:=h.key _ _ hk
 refine⟨fun i k2 hk2=>?_,fun i t ht=>?_,tF _ _ _ h.nb,h.nt⟩
 ·simp only[jK]at hk2
  split at hk2
  ·rename_i e
   obtain rfl:=J0 hk2
   subst e
   exact⟨e1.trans b1,by rw[e2];exact b2,by rw[e2,e3];exact b3,b4⟩
  exact h.key _ _ hk2
 obtain⟨k2,a1,a2⟩:=h.tree _ _ ht
 by_cases e:i=id
 ·subst e
  obtain rfl:=J0 (hk.symm.trans a1)
  exact⟨k',by simp only[jK,if_true],by rw[e2,e4];exact a2⟩
 exact⟨k2,by simp only[jK];rw[J3 e];exact a1,a2⟩
theorem ROk.goC {C:RC} (h:ROk C) (id:W32):ROk (goC C id):=by
 refine⟨fun i k2 hk2=>?_,fun i t ht=>?_,yA _ _ h.nb,yA _ _ h.nt⟩
 ·simp only[AX.goC]at hk2
  rw[sP _ _ _ h.nb]at hk2
  split at hk2
  ·cases hk2
  exact h.key _ _ hk2
 simp only[AX.goC]at ht⊢
 rw[sP _ _ _ h.nt]at ht
 split at ht
 ·cases ht
 rename_i e
 obtain⟨k2,a1,a2⟩:=h.tree _ _ ht
 exact⟨k2,by rw[sP _ _ _ h.nb,J3 e];exact a1,a2⟩
theorem ROk.tnV {C:RC} (h:ROk C) (id:W32) (st:Int) (now:W32):ROk (tnV C id st now).2:=by
 rcases hk:iK id C.by' with _|k
 ·rw[aUp hk];exact h
 rw[aUo hk]
 split
 ·exact h
 split
 ·exact h.goC id
 exact h.upd hk rfl rfl rfl rfl
noncomputable def vD:List AV→H→Nat→Option (AV×H×Nat)
 |[.op d 0,.w32 id,.i st,.w32 now],hp,nx=>aK (iN hp d) fun t=>some (.i (tnV t.C id st now).1,iL d t.s t.m (tnV t.C id st now).2 hp,nx+90)
 |_,_,_=>none
theorem aQs (d:Nat) (id now:W32) (st:Int) (hp:H) (nx:Nat):vD [.op d 0,.w32 id,.i st,.w32 now] hp nx=aK (iN hp d) fun t=>some (.i (tnV t.C id st now).1,iL d t.s t.m (tnV t.C id st now).2 hp,nx+90):=(rfl)
attribute [go_sem] aQs
set_option maxHeartbeats 1000000 in
theorem aYl:cQ Tryz.prog GLh 36 vD:=by
 refine gF Tryz.func36 (aT rfl) ?_
 intro args hp nx r hp' nx' hg
 unfold vD at hg
 split at hg
 ·rename_i d id st now
  replace hg:=aJ hg;obtain⟨⟨s,m,C⟩,hD0,hg⟩:=hg
  have hD:=iV hD0
  simp only[Option.some.injEq,Prod.mk.injEq]at hg hD;obtain⟨rfl,rfl,rfl⟩:=hg
  refine⟨J1 rfl,by omega,fun hnone=>?_⟩
  have h1:=hD.hd;have h2:=hD.hs;have h3:=hD.hm
  obtain⟨n1,n2,n3,n4,n5,n6⟩:=hD.ne
  have hlt: ∀k o,hp k=some o→k<nx:=fun k o hk=>lI hnone hk
  have hd:=hlt _ _ h1
  have hs:=hlt _ _ h2
  have hm:=hlt _ _ h3
  refine aA rfl (bA [0,1,2,3] rfl rfl rfl fun K hK=>?_)
  simp(disch:=omega) only[Tryz.f36,go_sem,↓reduceIte]
  refine hK _ ?_
  refine aB ?_
  rcases hk:iK id C.by' with _|k
  ·rw[aUp hk]
   refine aA rfl (bA [0,1,2,3,9,10] rfl rfl rfl fun K hK=>?_)
   simp(disch:=omega) only[Tryz.f36,go_sem,↓reduceIte,h1,h2,hk,jA,J8,J7,J9]
   refine hK _ ?_
   refine aB (aA rfl (aR 0 rfl rfl (aA rfl (bA [20,0,1,2,3,9] rfl rfl rfl fun K hK=>?_))))
   simp(disch:=omega) only[Tryz.f36,go_sem,↓reduceIte]
   refine hK _ ?_
   refine aB (eC (.tmp 20) rfl rfl rfl (fun h=>?_) (fun h=>?_))
   ·refine aI rfl (aA rfl (bA [8] rfl rfl rfl fun K hK=>?_))
    simp(disch:=omega) only[Tryz.f36,go_sem,↓reduceIte]
    refine hK _ ?_
    refine aB (aS rfl (bN (bI ?_)))
    rw[iQ hD]
    exact⟨rfl,fun j o h=>jB hnone (by omega) j o h,by simp only;omega⟩
   refine aI rfl ?_
   cases h
  have ek:=aUo (st:=st) (now:=now) hk
  refine aA rfl (bA [0,1,2,3,9,10] rfl rfl rfl fun K hK=>?_)
  simp(disch:=omega) only[Tryz.f36,go_sem,↓reduceIte,h1,h2,hk,jA,lV,J8,J7,J9]
  refine hK _ ?_
  refine aB (aA rfl (aR 0 rfl rfl (aA rfl (bA [20,0,1,2,3,9] rfl rfl rfl fun K hK=>?_))))
  simp(disch:=omega) only[Tryz.f36,go_sem,↓reduceIte]
  refine hK _ ?_
  refine aB (eC (.tmp 20) rfl rfl rfl (fun h=>?_) (fun h=>?_))
  ·refine aI rfl ?_
   cases h
  refine aI rfl ?_
  clear h
  by_cases hb:st≤k.st
  ·have db:decide (st≤k.st)=true:=J5 hb
   rw[J4 (.inl hb)]at ek
   rw[ek]
   refine aA rfl (bA [23,0,1,2,3,9] rfl rfl rfl fun K hK=>?_)
   simp(disch:=omega) only[Tryz.f36,go_sem,↓reduceIte,db,J8,J7,J9]
   refine hK _ ?_
   refine aB (eC (.tmp 23) rfl rfl rfl (fun h=>?_) (fun h=>?_))
   ·refine aI rfl (aA rfl (bA [8] rfl rfl rfl fun K hK=>?_))
    simp(disch:=omega) only[Tryz.f36,go_sem,↓reduceIte]
    refine hK _ ?_
    refine aB (aS rfl (bN (bI ?_)))
    rw[iQ hD]
    exact⟨rfl,fun j o h=>jB hnone (by omega) j o h,by simp only;omega⟩
   refine aI rfl ?_
   cases h
  have db:decide (st≤k.st)=false:=J6 hb
  refine aA rfl (bA [23,0,1,2,3,9] rfl rfl rfl fun K hK=>?_)
  simp(disch:=omega) only[Tryz.f36,go_sem,↓reduceIte,db,J8,J7,J9]
  refine hK _ ?_
  refine aB (aW (.tmp 23) rfl rfl rfl (fun h=>?_) (fun h=>?_))
  ·refine aI rfl ?_
   rw[J4 (.inr h)]at ek
   rw[ek]
   refine aA rfl (bA [8] rfl rfl rfl fun K hK=>?_)
   simp(disch:=omega) only[Tryz.f36,go_sem,↓reduceIte]
   refine hK _ ?_
   refine aB (aS rfl (bN (bI ?_)))
   rw[iQ hD]
   exact⟨rfl,fun j o h=>jB hnone (by omega) j o h,by simp only;omega⟩
  refine aI rfl ?_
  rw[J3 (fun e=>e.elim hb h)]at ek
  clear h
  refine aA rfl (bA [32,0,1,2,3,9] rfl rfl rfl fun K hK=>?_)
  simp(disch:=omega) only[Tryz.f36,go_sem,↓reduceIte]
  refine hK _ ?_
  refine aB (aW (.tmp 32) rfl rfl rfl (fun h=>?_) (fun h=>?_))
  ·refine aI rfl ?_
   rw[J4 h]at ek
   rw[ek]
   refine aA rfl (bA [0,1] rfl rfl rfl fun K hK=>?_)
   simp(disch:=omega) only[Tryz.f36,go_sem,↓reduceIte,h1,h2,jA,J8,J7,J9]
   refine hK _ ?_
   refine aB (aA rfl (bA [] rfl rfl rfl fun K hK=>?_))
   simp(disch:=omega) only[Tryz.f36,go_sem,↓reduceIte,h1,h3,jA,J8,J7,J9]
   refine hK _ ?_
   refine aB (aA rfl (bA [8] rfl rfl rfl fun K hK=>?_))
   simp(disch:=omega) only[Tryz.f36,go_sem,↓reduceIte]
   refine hK _ ?_
   refine aB (aS rfl (bN (bI ?_)))
   refine⟨rfl,fun j o hj=>oK (C:=goC C id) ?_ ?_ ?_ ?_ j o hj,by simp only;omega⟩
   ·simp(disch:=omega) only[aV,bY,↓reduceIte]<;>first|exact h1|rfl
   ·simp(disch:=omega) only[aV,bY,↓reduceIte,eq_self]<;>first|exact h2|rfl
   ·simp(disch:=omega) only[aV,↓reduceIte,eq_self]<;>first|exact h3|rfl
   intro k o k1 k2 k3 hk
   have:=hlt k o hk
   simp(disch:=omega) only[aV,bY,↓reduceIte]
   exact hk
  refine aI rfl ?_
  rw[J3 h]at ek
  rw[ek]
  refine aQ rfl (bU (aB (aA rfl (bA [0,1,9] rfl rfl rfl fun K hK=>?_))))
  simp(disch:=omega) only[Tryz.f36,go_sem,↓reduceIte,List.set_cons_succ,List.set_cons_zero]
  refine hK _ ?_
  refine aB (aA rfl (bB (Γ:=aL) (fun _=>2) [] bZ (aD _ _) rfl rfl rfl (by kernel_rfl) (fun K hK=>?_)))
  simp(disch:=omega) only[Tryz.f36,go_sem,↓reduceIte,h1,h2,jA,J8,U0,U1,J7,J9]
  refine hK _ ?_
  refine aB (aA rfl (bA [8] rfl rfl rfl fun K hK=>?_))
  simp(disch:=omega) only[Tryz.f36,go_sem,↓reduceIte]
  refine hK _ ?_
  refine aB (aS rfl ?_)
  refine⟨rfl,fun j o hj=>oK (C:=tnC C id k st now) ?_ ?_ ?_ ?_ j o hj,by simp only;omega⟩
  ·simp(disch:=omega) only[aV,bY,↓reduceIte]<;>first|exact h1|rfl
  ·simp(disch:=omega) only[aV,↓reduceIte,eq_self]<;>first|exact h2|rfl
  ·simp(disch:=omega) only[aV,bY,↓reduceIte]<;>first|exact h3|rfl
  intro k o k1 k2 k3 hk
  have:=hlt k o hk
  simp(disch:=omega) only[aV,bY,↓reduceIte]
  exact hk
 cases hg
theorem cWd:bX Tryz.prog GLh 36 (.heap vD):=⟨⟨_,Tryz.func36,rfl,rfl⟩,aYl⟩
def kyR:Option KY→AV
 |none=> .tup [uV ky0,.b false]
 |some k=> .tup [uV k,.b true]
noncomputable def uT:List AV→H→Nat→Option (AV×H×Nat)
 |[.op d 0,.w32 id],hp,nx=>aK (iN hp d) fun t=>some (kyR (iK id t.C.by'),hp,nx+60)
 |_,_,_=>none
theorem bAz (d:Nat) (id:W32) (hp:H) (nx:Nat):uT [.op d 0,.w32 id] hp nx=aK (iN hp d) fun t=>some (kyR (iK id t.C.by'),hp,nx+60):=(rfl)
theorem cYc:kyR none=.tup [uV ky0,.b false]:=rfl
theorem aXa (k:KY):kyR (some k)=.tup [uV k,.b true]:=rfl
attribute [go_sem] bAz
set_option maxHeartbeats 1000000 in
theorem bMh:cQ Tryz.prog GLh 35 uT:=by
 refine gF Tryz.func35 (aT rfl) ?_
 intro args hp nx r hp' nx' hg
 unfold uT at hg
 split at hg
 ·rename_i d id
  replace hg:=aJ hg;obtain⟨⟨s,m,C⟩,hD0,hg⟩:=hg
  have hD:=iV hD0
  simp only[Option.some.injEq,Prod.mk.injEq]at hg hD;obtain⟨rfl,rfl,rfl⟩:=hg
  refine⟨J1 rfl,by omega,fun hnone=>?_⟩
  have h1:=hD.hd;have h2:=hD.hs;have h3:=hD.hm
  obtain⟨n1,n2,n3,n4,n5,n6⟩:=hD.ne
  have hlt: ∀k o,hp k=some o→k<nx:=fun k o hk=>lI hnone hk
  have hd:=hlt _ _ h1
  have hs:=hlt _ _ h2
  have hm:=hlt _ _ h3
  refine aA rfl (bA [0,1,4] rfl rfl rfl fun K hK=>?_)
  simp(disch:=omega) only[Tryz.f35,go_sem,↓reduceIte]
  refine hK _ ?_
  refine aB ?_
  rcases hk:iK id C.by' with _|k
  ·refine aA rfl (bA [4,6,7] rfl rfl rfl fun K hK=>?_)
   simp(disch:=omega) only[Tryz.f35,go_sem,↓reduceIte,h1,h2,hk,jA,J8,J7,J9]
   refine hK _ ?_
   refine aB (aA rfl (bA [4,5] rfl rfl rfl fun K hK=>?_))
   simp(disch:=omega) only[Tryz.f35,go_sem,↓reduceIte,U0,U1,J9]
   refine hK _ ?_
   refine aB (aS rfl ?_)
   refine⟨by simp(disch:=omega) only[bV,bK,bQ,Tryz.f35,go_sem,aV,ldV,lV,U0,U1,J9,cYc]<;>rfl,fun j o h=>?_,by simp only;omega⟩
   have:=hlt j o h
   simp(disch:=omega) only[aV,bY,↓reduceIte]
   exact h
  refine aA rfl (bA [4,6,7] rfl rfl rfl fun K hK=>?_)
  simp(disch:=omega) only[Tryz.f35,go_sem,↓reduceIte,h1,h2,hk,jA,lV,J8,J7,J9]
  refine hK _ ?_
  refine aB (aA rfl (bA [4,5] rfl rfl rfl fun K hK=>?_))
  simp(disch:=omega) only[Tryz.f35,go_sem,↓reduceIte,U0,U1,J9]
  refine hK _ ?_
  refine aB (aS rfl ?_)
  refine⟨by simp(disch:=omega) only[bV,bK,bQ,Tryz.f35,go_sem,aV,ldV,lV,U0,U1,J9,aXa]<;>rfl,fun j o h=>?_,by simp only;omega⟩
  have:=hlt j o h
  simp(disch:=omega) only[aV,bY,↓reduceIte]
  exact h
 cases hg
theorem bJg:bX Tryz.prog GLh 35 (.heap uT):=⟨⟨_,Tryz.func35,rfl,rfl⟩,bMh⟩
end Go.AX

namespace Go.AX
open Go Go.Proofs
set_option maxRecDepth 8000
theorem aCq: ∀ {a b:List KY},jQ a=jQ b→a=b
 |[],[],_=>rfl
 |[],y::s,h=>by have:=congrArg List.length h;rw[iJ,iJ]at this;simp at this
 |x::r,[],h=>by have:=congrArg List.length h;rw[iJ,iJ]at this;simp at this
 |x::r,y::s,h=>by
  rw[jQ,jQ]at h
  obtain⟨h1,h2⟩:=List.append_inj h rfl
  rw[aJn h1,aCq h2]
structure MC where
 c:CF
 q:Nat
 L:List KY
 last:W32
def mgC (l:Nat) (M:MC):List AV:=[.sl M.c.apx.length (cS M.c.apx),.w32 M.c.kt,.w32 M.c.pr,.w32 M.c.dt,.w32 M.c.dp,.w32 M.c.va,.w32 M.c.le,.w32 M.c.ga,.w32 M.c.mx,.sl M.c.salt.length (c8 M.c.salt),.w16 M.c.iter,.i M.c.h,.w16 M.c.size,.op M.q 0,.os l 0 M.L.length 15 true,.w32 M.last]
theorem jR (l:Nat) (M:MC):mgC l M=[.sl M.c.apx.length (cS M.c.apx),.w32 M.c.kt,.w32 M.c.pr,.w32 M.c.dt,.w32 M.c.dp,.w32 M.c.va,.w32 M.c.le,.w32 M.c.ga,.w32 M.c.mx,.sl M.c.salt.length (c8 M.c.salt),.w16 M.c.iter,.i M.c.h,.w16 M.c.size,.op M.q 0,.os l 0 M.L.length 15 true,.w32 M.last]:=rfl
theorem bXj {l l':Nat} {M M':MC} (h:mgC l M=mgC l' M'):l=l'∧M.c=M'.c∧M.q=M'.q∧M.last=M'.last:=by
 have e:mgC l M=cfC M.c++[.op M.q 0,.os l 0 M.L.length 15 true,.w32 M.last]:=rfl
 have e':mgC l' M'=cfC M'.c++[.op M'.q 0,.os l' 0 M'.L.length 15 true,.w32 M'.last]:=rfl
 rw[e,e']at h
 obtain⟨h1,h2⟩:=List.append_inj h rfl
 simp only[List.cons.injEq,AV.op.injEq,AV.os.injEq,AV.w32.injEq,and_true,true_and]at h2
 exact⟨h2.2.1.1,aKb h1,h2.1,h2.2.2⟩
structure aFj (hp:H) (d l:Nat) (M:MC):Prop where
 hd:hp d=some (.cells (mgC l M) true)
 hl:hp l=some (.cells (jQ M.L) true)
 ne:d≠l∧l≠d
def iZ (d l:Nat) (M:MC) (hp:H):H:=upd (upd hp l (.cells (jQ M.L) true)) d (.cells (mgC l M) true)
theorem aFj.uniq {hp:H} {d l l':Nat} {M M':MC} (h:aFj hp d l M) (h':aFj hp d l' M'):l=l'∧M=M':=by
 have e:=h.hd.symm.trans h'.hd
 obtain⟨rfl,ec,eq,el⟩:=bXj (AO.cells.inj (J0 e)).1
 have eb:=aCq (AO.cells.inj (J0 (h.hl.symm.trans h'.hl))).1
 obtain⟨c1,q1,b1,l1⟩:=M
 obtain⟨c2,q2,b2,l2⟩:=M'
 simp only at ec eq el eb
 subst ec;subst eq;subst el;subst eb
 exact⟨rfl,rfl⟩
structure MT where
 l:Nat
 M:MC
open Classical in
noncomputable def kH (hp:H) (d:Nat):Option MT:=if h: ∃t:MT,aFj hp d t.l t.M then some (Classical.choose h)else none
theorem xR {hp:H} {d l:Nat} {M:MC} (h:aFj hp d l M):kH hp d=some ⟨l,M⟩:=by
 have hx: ∃t:MT,aFj hp d t.l t.M:=⟨⟨l,M⟩,h⟩
 unfold kH
 rw[dif_pos hx]
 have h2:=Classical.choose_spec hx
 obtain⟨e1,e2⟩:=h2.uniq h
 congr 1
 generalize Classical.choose hx=t at e1 e2
 cases t;simp only at e1 e2;rw[e1,e2]
theorem kW {hp:H} {d:Nat} {t:MT} (h:kH hp d=some t):aFj hp d t.l t.M:=by
 unfold kH at h
 split at h
 ·rename_i hx
  obtain rfl:=J0 h
  exact Classical.choose_spec hx
 cases h
theorem aBh {hp:H} {d l:Nat} {M:MC} (h1:d≠l):aFj (iZ d l M hp) d l M:=
 ⟨by simp[iZ,bJ],by simp[iZ,bJ,Ne.symm h1],⟨h1,Ne.symm h1⟩⟩
theorem vZ (hp:H) (d l:Nat) (M:MC) (h1:d≠l):kH (iZ d l M hp) d=some ⟨l,M⟩:=xR (aBh h1)
theorem sA (hp:H) (d l:Nat) (M M':MC):iZ d l M' (iZ d l M hp)=iZ d l M' hp:=by
 funext k
 simp only[iZ,bJ]
 by_cases h1:k=d
 ·simp[h1]
 by_cases h2:k=l
 ·simp[h2]
 simp[h1,h2]
theorem qA (hp:H) (d l:Nat) (M:MC) (k:Nat) (h1:k≠d) (h2:k≠l):iZ d l M hp k=hp k:=by simp[iZ,bJ,h1,h2]
theorem aBg (hp:H) (d l:Nat) (M:MC) (k:Nat) (o:AO) (h1:k≠d) (h2:k≠l):upd (iZ d l M hp) k o=iZ d l M (upd hp k o):=by
 funext j
 simp only[iZ,bJ]
 by_cases e:j=k
 ·subst e;simp[h1,h2]
 simp[e]
theorem vM (hp:H) (d l:Nat) (M:MC) (k:Nat) (h1:k≠d) (h2:k≠l):del (iZ d l M hp) k=iZ d l M (del hp k):=by
 funext j
 simp only[iZ,bJ,eV]
 by_cases e:j=k
 ·subst e;simp[h1,h2]
 simp[e]
theorem oE {hp:H} {d l:Nat} {M:MC} (h:aFj hp d l M):iZ d l M hp=hp:=by
 funext k
 simp only[iZ,bJ]
 by_cases h1:k=d
 ·subst h1;rw[J4 rfl,h.hd]
 rw[J3 h1]
 by_cases h2:k=l
 ·subst h2;rw[J4 rfl,h.hl]
 rw[J3 h2]
theorem vL {hp t:H} {d l:Nat} {M:MC} (h1:t d=some (.cells (mgC l M) true)) (h2:t l=some (.cells (jQ M.L) true))
  (h: ∀k o,k≠d→k≠l→hp k=some o→t k=some o) (k:Nat) (o:AO) (hk:iZ d l M hp k=some o):t k=some o:=by
 simp only[iZ,bJ]at hk
 by_cases e1:k=d
 ·subst e1;rw[J4 rfl]at hk;rw[h1];exact hk
 ·rw[J3 e1]at hk
  by_cases e2:k=l
  ·subst e2;rw[J4 rfl]at hk;rw[h2];exact hk
  ·rw[J3 e2]at hk;exact h k o e1 e2 hk
theorem kV {hp hp2:H} {d l:Nat} {M:MC} (h: ∀j o,hp j=some o→hp2 j=some o) (k:Nat) (o:AO) (hk:iZ d l M hp k=some o):iZ d l M hp2 k=some o:=by
 simp only[iZ,bJ]at hk⊢
 by_cases e1:k=d
 ·rw[J4 e1]at hk⊢;exact hk
 rw[J3 e1]at hk⊢
 by_cases e2:k=l
 ·rw[J4 e2]at hk⊢;exact hk
 rw[J3 e2]at hk⊢;exact h k o hk
theorem mT (hp:H) (d l:Nat) (M:MC):iZ d l M hp d=some (.cells (mgC l M) true):=by simp[iZ,bJ]
theorem mS (hp:H) (d l:Nat) (M:MC) (h1:l≠d):iZ d l M hp l=some (.cells (jQ M.L) true):=by simp[iZ,bJ,h1]
attribute [go_sem] vZ sA qA aBg vM
def kyA (L:List KY) (k:Nat):KY:=L.getD k ky0
theorem wE: ∀(L:List KY) (k j:Nat),k<L.length→List.drop (15*k+j) (jQ L)=List.drop j (kyC (kyA L k)++jQ (L.drop (k+1)))
 |[],k,j,h=>by simp at h
 |x::r,0,j,_=>by simp[jQ,kyA]
 |x::r,k+1,j,h=>by
  have e:15*(k+1)+j=15+(15*k+j):=by omega
  have h15:(kyC x).length=15:=rfl
  rw[jQ,e,←List.drop_drop,List.drop_left' h15,wE r k j (by simpa using h)]
  simp[kyA]
theorem jW (L:List KY) (k j:Nat) (hk:k<L.length) (hj:j<15):(List.drop (15*k+j) (jQ L)).head? =(List.drop j (kyC (kyA L k))).head?:=by
 rw[wE L k j hk,List.drop_append_of_le_length (by show j≤15;omega)]
 have:(List.drop j (kyC (kyA L k)))≠[]:=by
  intro e
  have:=congrArg List.length e
  rw[List.length_drop]at this
  have h15:(kyC (kyA L k)).length=15:=rfl
  rw[h15]at this
  simp at this;omega
 rw[List.head?_append]
 cases hx:List.drop j (kyC (kyA L k))with
 |nil=>exact absurd hx this
 |cons a r=>rfl
def fdN (id:W32):List KY→Nat→Int
 |[],_=> -1
 |k::r,n=>if k.id=id then n else fdN id r (n+1)
def kB (L:List KY) (id:W32):Int:=fdN id L 0
theorem bNi (id:W32) (L:List KY) (k:Nat) (hk:k<L.length):fdN id (L.drop k) k=if(kyA L k).id=id then(k:Int)else fdN id (L.drop (k+1)) (k+1):=by
 rw[List.drop_eq_getElem_cons hk]
 have e:kyA L k=L[k]:=by simp[kyA,List.getD_eq_getElem?_getD,hk]
 rw[e,fdN]
noncomputable def zJ:List AV→H→Nat→Option (AV×H×Nat)
 |[.op d 0,.w32 id],hp,nx=>aK (kH hp d) fun t=>aN (t.M.L.length≤1000) (some (.i (kB t.M.L id),hp,nx+50+60*t.M.L.length))
 |_,_,_=>none
theorem bNh (d:Nat) (id:W32) (hp:H) (nx:Nat):zJ [.op d 0,.w32 id] hp nx=aK (kH hp d) fun t=>aN (t.M.L.length≤1000) (some (.i (kB t.M.L id),hp,nx+50+60*t.M.L.length)):=(rfl)
attribute [go_sem] bNh
set_option maxHeartbeats 1000000 in
theorem cAd:cQ Tryz.prog GLh 38 zJ:=by
 refine gF Tryz.func38 (aT rfl) ?_
 intro args hp nx r hp' nx' hg
 unfold zJ at hg
 split at hg
 ·rename_i d id
  replace hg:=aJ hg;obtain⟨⟨l,M⟩,hD0,hg⟩:=hg
  have hD:=kW hD0
  replace hg:=aP hg;obtain⟨hlen,hg⟩:=hg
  simp only[Option.some.injEq,Prod.mk.injEq]at hg hD hlen;obtain⟨rfl,rfl,rfl⟩:=hg
  refine⟨J1 rfl,by omega,fun hnone=>?_⟩
  have h1:=hD.hd;have h2:=hD.hl
  obtain⟨n1,n2⟩:=hD.ne
  have hd:=lI hnone h1
  have hl:=lI hnone h2
  have hkl:=iJ M.L
  refine aA rfl (bA [0,1] rfl rfl rfl fun K hK=>?_)
  simp(disch:=omega) only[Tryz.f38,go_sem,↓reduceIte]
  refine hK _ ?_
  refine aB (aA rfl (aA rfl (bA [0,1,5] rfl rfl rfl fun K hK=>?_)))
  simp(disch:=omega) only[Tryz.f38,go_sem,↓reduceIte]
  refine hK _ ?_
  refine aB (aR 0 rfl rfl ?_)
  refine bR (fun g:Nat=> {fr:=[(0,.op d 0),(1,.w32 id),(5,.i g)],hp:=hp,nx:=0,cx:=nx+40+50*g}) (fun g=>g≤M.L.length∧kB M.L id=fdN id (M.L.drop g) g) (fun g=>M.L.length-g) rfl ⟨0,⟨Nat.zero_le _,rfl⟩,⟨fun _=> .inr rfl,fun j o h=>h,by simp only;omega⟩⟩ ?_
  rintro g ⟨hg1,hg2⟩ n0
  simp only at hg1 hg2⊢
  refine aA rfl (aA rfl (bA [12,0,1,5] rfl rfl rfl fun K hK=>?_))
  simp(disch:=omega) only[Tryz.f38,go_sem,↓reduceIte,h1,jR,J8,J7,J9]
  refine hK _ ?_
  refine aB (aW (.tmp 12) rfl rfl rfl (fun h=>?_) (fun h=>?_))
  ·refine aI rfl ?_
   have hgl:g<M.L.length:=by omega
   have hst:=bNi id M.L g hgl
   have hka:=jW M.L g 0 hgl (by omega)
   rw[Nat.add_zero]at hka
   have e15:g*15=15*g:=by omega
   refine aQ rfl (aB (aA rfl (aR 1 rfl rfl (aA rfl (bA [24,0,1,5] rfl rfl rfl fun K hK=>?_)))))
   simp(disch:=omega) only[Tryz.f38,go_sem,↓reduceIte,h1,h2,jR,hka,e15,kyC,J8,J7,J9]
   refine hK _ ?_
   refine aB (aW (.tmp 24) rfl rfl rfl (fun h=>?_) (fun h=>?_))
   ·refine aI rfl ?_
    rw[J4 h]at hst
    refine aA rfl (bA [4] rfl rfl rfl fun K hK=>?_)
    simp(disch:=omega) only[Tryz.f38,go_sem,↓reduceIte]
    refine hK _ ?_
    refine aB (aS rfl (bN (bI (dF (bN (bI ?_))))))
    exact⟨by rw[hg2,hst];rfl,fun j o h=>h,by simp only;omega⟩
   refine aI rfl ?_
   rw[J3 h]at hst
   refine aQ rfl (bU (aB (bA [0,1,5] rfl rfl rfl fun K hK=>?_)))
   simp(disch:=omega) only[Tryz.f38,go_sem,↓reduceIte]
   refine hK _ ?_
   refine bT ?_
   exact⟨g+1,⟨by omega,by rw[hg2,hst]⟩,by omega,⟨fun _=> .inr (by simp only[Int.natCast_add,Int.natCast_one]),fun j o h=>h,by simp only;omega⟩⟩
  refine aI rfl (bF 0 rfl rfl (aY (aZ (bE (aB (aA rfl ?_))))))
  obtain rfl:g=M.L.length:=by omega
  rw[List.drop_length]at hg2
  refine bA [4] rfl rfl rfl fun K hK=>?_
  simp(disch:=omega) only[Tryz.f38,go_sem,↓reduceIte]
  refine hK _ ?_
  refine aB (aS rfl ?_)
  exact⟨by rw[hg2];rfl,fun j o h=>h,by simp only;omega⟩
 cases hg
theorem aWa:bX Tryz.prog GLh 38 (.heap zJ):=⟨⟨_,Tryz.func38,rfl,rfl⟩,cAd⟩
def aEj (M:MC) (k:KY):MC:= {M with last:=M.last+1#32,L:=M.L++[k]}
def wA (M:MC) (role:Int) (seed:S8) (st:Int) (now:W32):KY:=⟨M.last+1#32,role,st,seed,M.c.h,0#32,now,0#32⟩
def nK (M:MC) (role:Int) (seed:S8) (st:Int) (now:W32):W32×Int×Option MC:=
 if(role≠0∧role≠1)∨st<0∨3<st then(0#32,131,none)
 else if 16≤M.L.length then(0#32,133,none)
 else(M.last+1#32,0,some (aEj M (wA M role seed st now)))
noncomputable def bAl (d l:Nat) (_:MC) (hp:H) (nx:Nat):Option MC→H
 |none=>hp
 |some M'=>iZ d (nx+51) M' (del hp l)
noncomputable def sG:List AV→H→Nat→Option (AV×H×Nat)
 |[.op d 0,.i role,.agg xs,.i st,.w32 now],hp,nx=>aK (kH hp d) fun t=>aK (un8 xs) fun l=>aK (s8L l) fun sd=>
   some (.tup [.w32 (nK t.M role sd st now).1,.i (nK t.M role sd st now).2.1],bAl d t.l t.M hp nx (nK t.M role sd st now).2.2,nx+100)
 |_,_,_=>none
theorem bAm (d:Nat) (role st:Int) (now:W32) (xs:List AV) (hp:H) (nx:Nat):sG [.op d 0,.i role,.agg xs,.i st,.w32 now] hp nx=aK (kH hp d) fun t=>aK (un8 xs) fun l=>aK (s8L l) fun sd=>
   some (.tup [.w32 (nK t.M role sd st now).1,.i (nK t.M role sd st now).2.1],bAl d t.l t.M hp nx (nK t.M role sd st now).2.2,nx+100):=(rfl)
attribute [go_sem] bAm
theorem bKr {Q:Exit→S→Prop} {fr0:AV} {role st:Int} {now:W32} {x7:AV} {hp:H} {nx cx:Nat} (hQ:Q .normal {fr:=[(25,.b (decide ((role≠0∧role≠1)∨st<0∨3<st))),(0,fr0),(1,.i role),(3,.i st),(4,.w32 now),(7,x7)],hp:=hp,nx:=cx,cx:=cx+14}):
  Awp Tryz.prog GLh Tryz.f26.ntmps (cl (cl (cr (aE Tryz.f26)))) {fr:=[(0,fr0),(1,.i role),(3,.i st),(4,.w32 now),(7,x7)],hp:=hp,nx:=nx,cx:=cx} Q:=by
 by_cases h0:role=0
 ·have d0:decide (role=0)=true:=J5 h0
  by_cases h2:st<0
  ·have d2:decide (st<0)=true:=J5 h2
   rw[J5 (by omega)]at hQ
   refine bA [25,0,1,3,4,7] rfl rfl rfl fun K hK=>?_
   simp(disch:=omega) only[Tryz.f26,go_sem,↓reduceIte,d0,d2,Bool.not_true,beq_self_eq_true]
   refine hK _ ?_
   exact hQ
  ·have d2:decide (st<0)=false:=J6 h2
   by_cases h3:3<st
   ·have d3:decide (3<st)=true:=J5 h3
    rw[J5 (by omega)]at hQ
    refine bA [25,0,1,3,4,7] rfl rfl rfl fun K hK=>?_
    simp(disch:=omega) only[Tryz.f26,go_sem,↓reduceIte,d0,d2,d3,Bool.not_true,beq_self_eq_true]
    refine hK _ ?_
    exact hQ
   ·have d3:decide (3<st)=false:=J6 h3
    rw[J6 (by omega)]at hQ
    refine bA [25,0,1,3,4,7] rfl rfl rfl fun K hK=>?_
    simp(disch:=omega) only[Tryz.f26,go_sem,↓reduceIte,d0,d2,d3,Bool.not_true,beq_self_eq_true]
    refine hK _ ?_
    exact hQ
 ·have d0:decide (role=0)=false:=J6 h0
  by_cases h1:role=1
  ·have d1:decide (role=1)=true:=J5 h1
   by_cases h2:st<0
   ·have d2:decide (st<0)=true:=J5 h2
    rw[J5 (by omega)]at hQ
    refine bA [25,0,1,3,4,7] rfl rfl rfl fun K hK=>?_
    simp(disch:=omega) only[Tryz.f26,go_sem,↓reduceIte,d0,d1,d2,Bool.not_true,Bool.not_false,beq_self_eq_true]
    refine hK _ ?_
    exact hQ
   ·have d2:decide (st<0)=false:=J6 h2
    by_cases h3:3<st
    ·have d3:decide (3<st)=true:=J5 h3
     rw[J5 (by omega)]at hQ
     refine bA [25,0,1,3,4,7] rfl rfl rfl fun K hK=>?_
     simp(disch:=omega) only[Tryz.f26,go_sem,↓reduceIte,d0,d1,d2,d3,Bool.not_true,Bool.not_false,beq_self_eq_true]
     refine hK _ ?_
     exact hQ
    ·have d3:decide (3<st)=false:=J6 h3
     rw[J6 (by omega)]at hQ
     refine bA [25,0,1,3,4,7] rfl rfl rfl fun K hK=>?_
     simp(disch:=omega) only[Tryz.f26,go_sem,↓reduceIte,d0,d1,d2,d3,Bool.not_true,Bool.not_false,beq_self_eq_true]
     refine hK _ ?_
     exact hQ
  ·have d1:decide (role=1)=false:=J6 h1
   rw[J5 (by omega)]at hQ
   refine bA [25,0,1,3,4,7] rfl rfl rfl fun K hK=>?_
   simp(disch:=omega) only[Tryz.f26,go_sem,↓reduceIte,d0,d1,Bool.not_false,beq_self_eq_true]
   refine hK _ ?_
   exact hQ
set_option maxHeartbeats 1000000 in
theorem bKs:cQ Tryz.prog GLh 26 sG:=by
 refine gF Tryz.func26 (aT rfl) ?_
 intro args hp nx r hp' nx' hg
 unfold sG at hg
 split at hg
 ·rename_i d role xs st now
  replace hg:=aJ hg;obtain⟨⟨l,M⟩,hD0,hg⟩:=hg
  have hD:=kW hD0
  replace hg:=aJ hg;obtain⟨l8,hl8,hg⟩:=hg
  have:=iX _ hl8;subst this
  replace hg:=aJ hg;obtain⟨S,hS8,hg⟩:=hg
  have:=vN hS8;subst this
  have e0:c8 S.l=[.w8 S.a,.w8 S.b,.w8 S.c,.w8 S.d,.w8 S.e,.w8 S.f,.w8 S.g,.w8 S.h]:=rfl
  rw[e0]
  simp only[Option.some.injEq,Prod.mk.injEq]at hg hD;obtain⟨rfl,rfl,rfl⟩:=hg
  refine⟨J1 rfl,by omega,fun hnone=>?_⟩
  have h1:=hD.hd;have h2:=hD.hl
  obtain⟨n1,n2⟩:=hD.ne
  have hlt: ∀k o,hp k=some o→k<nx:=fun k o hk=>lI hnone hk
  have hd:=hlt _ _ h1
  have hl:=hlt _ _ h2
  have hkl:=iJ M.L
  refine aA rfl (bA [0,1,3,4,7] rfl rfl rfl fun K hK=>?_)
  simp(disch:=omega) only[Tryz.f26,go_sem,↓reduceIte]
  refine hK _ ?_
  refine aB (aA rfl (aA rfl (bKr (aB (aW (.tmp 25) rfl rfl rfl (fun h=>?_) (fun h=>?_))))))
  ·have e:nK M role S st now=(0#32,131,none):=J4 h
   rw[e]
   refine aA rfl (bA [10,11] rfl rfl rfl fun K hK=>?_)
   simp(disch:=omega) only[Tryz.f26,go_sem,↓reduceIte]
   refine hK _ ?_
   refine aB (aS rfl (bI ?_))
   exact⟨rfl,fun j o h=>jB hnone (by omega) j o h,by simp only;omega⟩
  have hbad:=h
  clear h
  refine aQ rfl (aB (aA rfl (aA rfl (bA [31,0,1,3,4,7] rfl rfl rfl fun K hK=>?_))))
  simp(disch:=omega) only[Tryz.f26,go_sem,↓reduceIte,h1,jR,J8,J7,J9]
  refine hK _ ?_
  refine aB (aW (.tmp 31) rfl rfl rfl (fun h=>?_) (fun h=>?_))
  ·refine aI rfl ?_
   have e:nK M role S st now=(0#32,133,none):=by unfold nK;rw[J3 hbad,J4 (by omega)]
   rw[e]
   refine aA rfl (bA [10,11] rfl rfl rfl fun K hK=>?_)
   simp(disch:=omega) only[Tryz.f26,go_sem,↓reduceIte]
   refine hK _ ?_
   refine aB (aS rfl (bI ?_))
   exact⟨rfl,fun j o h=>jB hnone (by omega) j o h,by simp only;omega⟩
  refine aI rfl ?_
  have e:nK M role S st now=(M.last+1#32,0,some (aEj M (wA M role S st now))):=by unfold nK;rw[J3 hbad,J3 (by omega)]
  rw[e]
  refine aQ rfl (aB (aA rfl (bA [0,1,3,4,7] rfl rfl rfl fun K hK=>?_)))
  simp(disch:=omega) only[Tryz.f26,go_sem,↓reduceIte,h1,jR,J8,List.set_cons_succ,List.set_cons_zero,J7,J9]
  refine hK _ ?_
  refine aB (aA rfl (bB (Γ:=aL) (fun k=>if k=20 then 1048578 else 2) [0] bZ (aD _ _) rfl rfl rfl (by kernel_rfl) (fun K hK=>?_)))
  simp(disch:=omega) only[Tryz.f26,go_sem,↓reduceIte,h2,hkl,cK,List.nil_append,List.cons_append,J8,List.set_cons_succ,List.set_cons_zero,U0,U1,J7,J9,List.all_cons,List.all_nil,Option.isSome_some,Bool.and_self,List.length_cons,List.length_nil]
  refine hK _ ?_
  refine aB (aA rfl (bA [10,11] rfl rfl rfl fun K hK=>?_))
  simp(disch:=omega) only[Tryz.f26,go_sem,↓reduceIte,J8,J7,J9]
  refine hK _ ?_
  refine aB (aS rfl ?_)
  refine⟨rfl,fun j o hj=>vL (M:=aEj M (wA M role S st now)) (l:=nx+51) ?_ ?_ ?_ j o hj,by simp only;omega⟩
  ·have e2:(aEj M (wA M role S st now)).L.length=M.L.length+1:=by simp[aEj]
   rw[jR,e2]
   simp only[Nat.add_assoc,Nat.reduceAdd]
   simp(disch:=omega) only[aV,↓reduceIte,eq_self]<;>rfl
  ·have e2:jQ (aEj M (wA M role S st now)).L=jQ M.L++kyC (wA M role S st now):=by
    show jQ (M.L++[_])=_
    rw[lD,sL]
   rw[e2]
   simp only[Nat.add_assoc,Nat.reduceAdd]
   simp(disch:=omega) only[aV,bY,↓reduceIte,eq_self]<;>rfl
  intro k o k1 k2 hk
  have hkl2:k≠l∧hp k=some o:=by
   rw[eV]at hk
   split at hk
   ·cases hk
   rename_i e3;exact⟨e3,hk⟩
  obtain⟨k3,hk3⟩:=hkl2
  have:=hlt k o hk3
  simp only[Nat.add_assoc,Nat.reduceAdd]
  simp(disch:=omega) only[aV,kE,bY,↓reduceIte]
  exact hk3
 cases hg
theorem aWb:bX Tryz.prog GLh 26 (.heap sG):=⟨⟨_,Tryz.func26,rfl,rfl⟩,bKs⟩
end Go.AX

namespace Go.AX
open Go Go.Proofs
set_option maxRecDepth 8000
theorem bXm (a b:W32):aGr (.w32 a) (.w32 b)=some (.w32 (if a<b then b else a)):=(rfl)
attribute [go_sem] bXm
def mx1 (x:W32):W32:=if x<1#32 then 1#32 else x
def snC (C:RC) (id:W32) (k:KY) (now:W32):RC:= {C with by':=kT id {k with seen:=mx1 now} C.by'}
def snV (C:RC) (id now:W32):Int×RC:=match iK id C.by' with
 |none=>(130,C)
 |some k=>if k.role≠1∨k.st≠2∨k.seen≠0#32 then(131,C)else(0,snC C id k now)
theorem bGn {C:RC} {id now:W32} (h:iK id C.by'=none):snV C id now=(130,C):=by rw[snV,h]
theorem aMa {C:RC} {id now:W32} {k:KY} (h:iK id C.by'=some k):snV C id now=if k.role≠1∨k.st≠2∨k.seen≠0#32 then(131,C)else(0,snC C id k now):=by rw[snV,h]
theorem ROk.snV {C:RC} (h:ROk C) (id now:W32):ROk (snV C id now).2:=by
 rcases hk:iK id C.by' with _|k
 ·rw[bGn hk];exact h
 rw[aMa hk]
 split
 ·exact h
 exact h.upd hk rfl rfl rfl rfl
noncomputable def aBj:List AV→H→Nat→Option (AV×H×Nat)
 |[.op d 0,.w32 id,.w32 now],hp,nx=>aK (iN hp d) fun t=>some (.i (snV t.C id now).1,iL d t.s t.m (snV t.C id now).2 hp,nx+90)
 |_,_,_=>none
theorem bHd (d:Nat) (id now:W32) (hp:H) (nx:Nat):aBj [.op d 0,.w32 id,.w32 now] hp nx=aK (iN hp d) fun t=>some (.i (snV t.C id now).1,iL d t.s t.m (snV t.C id now).2 hp,nx+90):=(rfl)
attribute [go_sem] bHd
set_option maxHeartbeats 1000000 in
theorem bUg:cQ Tryz.prog GLh 27 aBj:=by
 refine gF Tryz.func27 (aT rfl) ?_
 intro args hp nx r hp' nx' hg
 unfold aBj at hg
 split at hg
 ·rename_i d id now
  replace hg:=aJ hg;obtain⟨⟨s,m,C⟩,hD0,hg⟩:=hg
  have hD:=iV hD0
  simp only[Option.some.injEq,Prod.mk.injEq]at hg hD;obtain⟨rfl,rfl,rfl⟩:=hg
  refine⟨J1 rfl,by omega,fun hnone=>?_⟩
  have h1:=hD.hd;have h2:=hD.hs;have h3:=hD.hm
  obtain⟨n1,n2,n3,n4,n5,n6⟩:=hD.ne
  have hlt: ∀k o,hp k=some o→k<nx:=fun k o hk=>lI hnone hk
  have hd:=hlt _ _ h1
  have hs:=hlt _ _ h2
  have hm:=hlt _ _ h3
  refine aA rfl (bA [0,1,2] rfl rfl rfl fun K hK=>?_)
  simp(disch:=omega) only[Tryz.f27,go_sem,↓reduceIte]
  refine hK _ ?_
  refine aB ?_
  rcases hk:iK id C.by' with _|k
  ·rw[bGn hk]
   refine aA rfl (bA [0,1,2,7,8] rfl rfl rfl fun K hK=>?_)
   simp(disch:=omega) only[Tryz.f27,go_sem,↓reduceIte,h1,h2,hk,jA,J8,J7,J9]
   refine hK _ ?_
   refine aB (aA rfl (aR 0 rfl rfl (aA rfl (bA [18,0,1,2,7] rfl rfl rfl fun K hK=>?_))))
   simp(disch:=omega) only[Tryz.f27,go_sem,↓reduceIte]
   refine hK _ ?_
   refine aB (eC (.tmp 18) rfl rfl rfl (fun h=>?_) (fun h=>?_))
   ·refine aI rfl (aA rfl (bA [6] rfl rfl rfl fun K hK=>?_))
    simp(disch:=omega) only[Tryz.f27,go_sem,↓reduceIte]
    refine hK _ ?_
    refine aB (aS rfl (bN (bI ?_)))
    rw[iQ hD]
    exact⟨rfl,fun j o h=>jB hnone (by omega) j o h,by simp only;omega⟩
   refine aI rfl ?_
   cases h
  have ek:=aMa (now:=now) hk
  refine aA rfl (bA [0,1,2,7,8] rfl rfl rfl fun K hK=>?_)
  simp(disch:=omega) only[Tryz.f27,go_sem,↓reduceIte,h1,h2,hk,jA,lV,J8,J7,J9]
  refine hK _ ?_
  refine aB (aA rfl (aR 0 rfl rfl (aA rfl (bA [18,0,1,2,7] rfl rfl rfl fun K hK=>?_))))
  simp(disch:=omega) only[Tryz.f27,go_sem,↓reduceIte]
  refine hK _ ?_
  refine aB (eC (.tmp 18) rfl rfl rfl (fun h=>?_) (fun h=>?_))
  ·refine aI rfl ?_
   cases h
  refine aI rfl ?_
  clear h
  have hmx:(if now<1#32 then(1#32:W32)else now)=mx1 now:=rfl
  by_cases hb1:k.role=1
  ·have d1:decide (k.role=1)=true:=J5 hb1
   by_cases hb2:k.st=2
   ·have d2:decide (k.st=2)=true:=J5 hb2
    by_cases hb3:k.seen=0#32
    ·have d3:decide (k.seen=0#32)=true:=J5 hb3
     rw[J3 (fun e=>e.elim (fun e=>e hb1) (fun e=>e.elim (fun e=>e hb2) (fun e=>e hb3)))]at ek
     rw[ek]
     refine aA rfl (bA [21,0,1,2,7] rfl rfl rfl fun K hK=>?_)
     simp(disch:=omega) only[Tryz.f27,go_sem,↓reduceIte,d1,d2,d3,Bool.not_true,J8,J7,J9]
     refine hK _ ?_
     refine aB (eC (.tmp 21) rfl rfl rfl (fun h=>?_) (fun h=>?_))
     ·refine aI rfl ?_
      cases h
     refine aI rfl ?_
     clear h
     refine aQ rfl (bU (aB (aA rfl (bA [0,1,7] rfl rfl rfl fun K hK=>?_))))
     simp(disch:=omega) only[Tryz.f27,go_sem,↓reduceIte,hmx,List.set_cons_succ,List.set_cons_zero]
     refine hK _ ?_
     refine aB (aA rfl (bB (Γ:=aL) (fun _=>2) [] bZ (aD _ _) rfl rfl rfl (by kernel_rfl) (fun K hK=>?_)))
     simp(disch:=omega) only[Tryz.f27,go_sem,↓reduceIte,h1,h2,jA,J8,U0,U1,J7,J9]
     refine hK _ ?_
     refine aB (aA rfl (bA [6] rfl rfl rfl fun K hK=>?_))
     simp(disch:=omega) only[Tryz.f27,go_sem,↓reduceIte]
     refine hK _ ?_
     refine aB (aS rfl ?_)
     refine⟨rfl,fun j o hj=>oK (C:=snC C id k now) ?_ ?_ ?_ ?_ j o hj,by simp only;omega⟩
     ·simp(disch:=omega) only[aV,bY,↓reduceIte]<;>first|exact h1|rfl
     ·simp(disch:=omega) only[aV,↓reduceIte,eq_self]<;>first|exact h2|rfl
     ·simp(disch:=omega) only[aV,bY,↓reduceIte]<;>first|exact h3|rfl
     intro k o k1 k2 k3 hk
     have:=hlt k o hk
     simp(disch:=omega) only[aV,bY,↓reduceIte]
     exact hk
    have d3:decide (k.seen=0#32)=false:=J6 hb3
    refine aA rfl (bA [21,0,1,2,7] rfl rfl rfl fun K hK=>?_)
    simp(disch:=omega) only[Tryz.f27,go_sem,↓reduceIte,d1,d2,d3,Bool.not_true,Bool.not_false,J8,J7,J9]
    refine hK _ ?_
    refine aB (eC (.tmp 21) rfl rfl rfl (fun h=>?_) (fun h=>?_))
    ·refine aI rfl ?_
     rw[J4 (.inr (.inr hb3))]at ek
     rw[ek]
     refine aA rfl (bA [6] rfl rfl rfl fun K hK=>?_)
     simp(disch:=omega) only[Tryz.f27,go_sem,↓reduceIte]
     refine hK _ ?_
     refine aB (aS rfl (bN (bI ?_)))
     rw[iQ hD]
     exact⟨rfl,fun j o h=>jB hnone (by omega) j o h,by simp only;omega⟩
    refine aI rfl ?_
    cases h
   have d2:decide (k.st=2)=false:=J6 hb2
   refine aA rfl (bA [21,0,1,2,7] rfl rfl rfl fun K hK=>?_)
   simp(disch:=omega) only[Tryz.f27,go_sem,↓reduceIte,d1,d2,Bool.not_true,Bool.not_false,J8,J7,J9]
   refine hK _ ?_
   refine aB (eC (.tmp 21) rfl rfl rfl (fun h=>?_) (fun h=>?_))
   ·refine aI rfl ?_
    rw[J4 (.inr (.inl hb2))]at ek
    rw[ek]
    refine aA rfl (bA [6] rfl rfl rfl fun K hK=>?_)
    simp(disch:=omega) only[Tryz.f27,go_sem,↓reduceIte]
    refine hK _ ?_
    refine aB (aS rfl (bN (bI ?_)))
    rw[iQ hD]
    exact⟨rfl,fun j o h=>jB hnone (by omega) j o h,by simp only;omega⟩
   refine aI rfl ?_
   cases h
  have d1:decide (k.role=1)=false:=J6 hb1
  refine aA rfl (bA [21,0,1,2,7] rfl rfl rfl fun K hK=>?_)
  simp(disch:=omega) only[Tryz.f27,go_sem,↓reduceIte,d1,Bool.not_false,J8,J7,J9]
  refine hK _ ?_
  refine aB (eC (.tmp 21) rfl rfl rfl (fun h=>?_) (fun h=>?_))
  ·refine aI rfl ?_
   rw[J4 (.inl hb1)]at ek
   rw[ek]
   refine aA rfl (bA [6] rfl rfl rfl fun K hK=>?_)
   simp(disch:=omega) only[Tryz.f27,go_sem,↓reduceIte]
   refine hK _ ?_
   refine aB (aS rfl (bN (bI ?_)))
   rw[iQ hD]
   exact⟨rfl,fun j o h=>jB hnone (by omega) j o h,by simp only;omega⟩
  refine aI rfl ?_
  cases h
 cases hg
theorem bJf:bX Tryz.prog GLh 27 (.heap aBj):=⟨⟨_,Tryz.func27,rfl,rfl⟩,bUg⟩
theorem bNj (id:W32): ∀(L:List KY) (n:Nat),(fdN id L n= -1∧∀k,k<L.length→(kyA L k).id≠id)∨∃i,i<L.length∧fdN id L n=((n+i:Nat):Int)∧(kyA L i).id=id
 |[],n=> .inl ⟨rfl,fun k h=>by simp at h⟩
 |x::r,n=>by
  rw[fdN]
  by_cases e:x.id=id
  ·rw[J4 e];exact .inr ⟨0,by simp,by simp,by simpa [kyA]using e⟩
  rw[J3 e]
  rcases bNj id r (n+1)with⟨h1,h2⟩|⟨i,h1,h2,h3⟩
  ·refine .inl ⟨h1,fun k hk=>?_⟩
   cases k with
   |zero=>simpa [kyA]using e
   |succ k=>have:=h2 k (by simpa using hk);simpa [kyA]using this
  exact .inr ⟨i+1,by simpa using h1,by rw[h2];congr 1;omega,by simpa [kyA]using h3⟩
theorem aCz (L:List KY) (id:W32):kB L id= -1∨∃i,i<L.length∧kB L id=(i:Int)∧(kyA L i).id=id:=by
 rcases bNj id L 0 with⟨h,_⟩|⟨i,h1,h2,h3⟩
 ·exact .inl h
 exact .inr ⟨i,h1,by rw[kB,h2];simp,h3⟩
theorem aJm (L:List KY) (k j:Nat) (x:AV) (k':KY) (hk:k<L.length) (hj:j<15) (hx:(kyC (kyA L k)).set j x=kyC k'):(jQ L).set (15*k+j) x=jQ (L.set k k'):=by
 induction L generalizing k with
 |nil=>simp at hk
 |cons y r ih=>
  cases k with
  |zero=>
   have e:kyA (y::r) 0=y:=rfl
   rw[e]at hx
   rw[List.set_cons_zero,jQ,jQ,List.set_append_left _ _ (by show _<15;omega),←hx,Nat.mul_zero,Nat.zero_add]
  |succ k=>
   have e:15*(k+1)+j=(kyC y).length+(15*k+j):=by show _=15+_;omega
   rw[List.set_cons_succ,jQ,jQ,e,List.set_append_right _ _ (by omega),Nat.add_sub_cancel_left]
   rw[ih k (by simpa using hk) (by simpa [kyA]using hx)]
def aNk (M:MC) (i:Nat) (now:W32):MC:= {M with L:=M.L.set i {kyA M.L i with seen:=mx1 now}}
def mX (M:MC) (id now:W32):Int×MC:=
 if kB M.L id<0 then(130,M)
 else if(kyA M.L (kB M.L id).toNat).role≠1∨(kyA M.L (kB M.L id).toNat).st≠2∨(kyA M.L (kB M.L id).toNat).seen≠0#32 then(131,M)
 else(0,aNk M (kB M.L id).toNat now)
noncomputable def xQ:List AV→H→Nat→Option (AV×H×Nat)
 |[.op d 0,.w32 id,.w32 now],hp,nx=>aK (kH hp d) fun t=>aN (t.M.L.length≤1000) (some (.i (mX t.M id now).1,iZ d t.l (mX t.M id now).2 hp,nx+300+60*t.M.L.length))
 |_,_,_=>none
theorem bAk (d:Nat) (id now:W32) (hp:H) (nx:Nat):xQ [.op d 0,.w32 id,.w32 now] hp nx=aK (kH hp d) fun t=>aN (t.M.L.length≤1000) (some (.i (mX t.M id now).1,iZ d t.l (mX t.M id now).2 hp,nx+300+60*t.M.L.length)):=(rfl)
attribute [go_sem] bAk
set_option maxHeartbeats 1000000 in
theorem bKn:cQ Tryz.prog GLh 28 xQ:=by
 refine gF Tryz.func28 (aT rfl) ?_
 intro args hp nx r hp' nx' hg
 unfold xQ at hg
 split at hg
 ·rename_i d id now
  replace hg:=aJ hg;obtain⟨⟨l,M⟩,hD0,hg⟩:=hg
  have hD:=kW hD0
  replace hg:=aP hg;obtain⟨hlen,hg⟩:=hg
  simp only[Option.some.injEq,Prod.mk.injEq]at hg hD hlen;obtain⟨rfl,rfl,rfl⟩:=hg
  refine⟨J1 rfl,by omega,fun hnone=>?_⟩
  have h1:=hD.hd;have h2:=hD.hl
  obtain⟨n1,n2⟩:=hD.ne
  have hlt: ∀k o,hp k=some o→k<nx:=fun k o hk=>lI hnone hk
  have hd:=hlt _ _ h1
  have hl:=hlt _ _ h2
  have hkl:=iJ M.L
  refine aA rfl (bA [0,1,2] rfl rfl rfl fun K hK=>?_)
  simp(disch:=omega) only[Tryz.f28,go_sem,↓reduceIte]
  refine hK _ ?_
  refine aB (aA rfl (aC (Γ:=bC [(38,.heap zJ)]) [0,2,7] (aH aWa aO) rfl rfl rfl (fun K hK=>?_)))
  simp(disch:=omega) only[Tryz.f28,go_sem,↓reduceIte,hD0,hlen]
  refine hK _ ?_
  refine aB ?_
  rcases aCz M.L id with hf|⟨i,hi,hf,hid⟩
  ·have ek:mX M id now=(130,M):=by unfold mX;rw[hf];exact J4 (by omega)
   rw[hf]
   refine aA rfl (aA rfl (bA [12,0,2,7] rfl rfl rfl fun K hK=>?_))
   simp(disch:=omega) only[Tryz.f28,go_sem,↓reduceIte]
   refine hK _ ?_
   refine aB (eC (.tmp 12) rfl rfl rfl (fun h=>?_) (fun h=>?_))
   ·refine aI rfl ?_
    rw[ek]
    refine aA rfl (bA [6] rfl rfl rfl fun K hK=>?_)
    simp(disch:=omega) only[Tryz.f28,go_sem,↓reduceIte]
    refine hK _ ?_
    refine aB (aS rfl (bI ?_))
    rw[oE hD]
    exact⟨rfl,fun j o h=>h,by simp only;omega⟩
   refine aI rfl ?_
   cases h
  have ek:mX M id now=if(kyA M.L i).role≠1∨(kyA M.L i).st≠2∨(kyA M.L i).seen≠0#32 then(131,M)else(0,aNk M i now):=by
   unfold mX;rw[hf,U2];exact J3 (by omega)
  rw[hf]
  refine aA rfl (aA rfl (bA [12,0,2,7] rfl rfl rfl fun K hK=>?_))
  simp(disch:=omega) only[Tryz.f28,go_sem,↓reduceIte]
  refine hK _ ?_
  refine aB (aW (.tmp 12) rfl rfl rfl (fun h=>?_) (fun h=>?_))
  ·exact aI rfl (absurd h (by omega))
  refine aI rfl ?_
  clear h
  have hmx:(if now<1#32 then(1#32:W32)else now)=mx1 now:=rfl
  have a1:=jW M.L i 1 hi (by omega)
  have a2:=jW M.L i 2 hi (by omega)
  have a7:=jW M.L i 14 hi (by omega)
  have e15:i*15=15*i:=by omega
  refine aQ rfl (aB (aA rfl (aA rfl ?_)))
  by_cases hb1:(kyA M.L i).role=1
  ·have d1:decide ((kyA M.L i).role=1)=true:=J5 hb1
   by_cases hb2:(kyA M.L i).st=2
   ·have d2:decide ((kyA M.L i).st=2)=true:=J5 hb2
    by_cases hb3:(kyA M.L i).seen=0#32
    ·have d3:decide ((kyA M.L i).seen=0#32)=true:=J5 hb3
     rw[J3 (fun e=>e.elim (fun e=>e hb1) (fun e=>e.elim (fun e=>e hb2) (fun e=>e hb3)))]at ek
     rw[ek]
     refine bA [43,0,2,7] rfl rfl rfl fun K hK=>?_
     simp(disch:=omega) only[Tryz.f28,go_sem,↓reduceIte,d1,d2,d3,Bool.not_true,h1,h2,jR,a1,a2,a7,e15,kyC,J8,J7,J9]
     refine hK _ ?_
     refine aB (eC (.tmp 43) rfl rfl rfl (fun h=>?_) (fun h=>?_))
     ·refine aI rfl ?_
      cases h
     refine aI rfl ?_
     clear h
     refine aQ rfl (aB (aA rfl (bA [] rfl rfl rfl fun K hK=>?_)))
     simp(disch:=omega) only[Tryz.f28,go_sem,↓reduceIte,h1,h2,jR,hkl,hmx,e15,J8,J7,J9]
     refine hK _ ?_
     refine aB (aA rfl (bA [6] rfl rfl rfl fun K hK=>?_))
     simp(disch:=omega) only[Tryz.f28,go_sem,↓reduceIte]
     refine hK _ ?_
     refine aB (aS rfl ?_)
     have hset:=aJm M.L i 14 (.w32 (mx1 now)) {kyA M.L i with seen:=mx1 now} hi (by omega) rfl
     refine⟨rfl,fun j o hj=>vL (M:=aNk M i now) (l:=l) ?_ ?_ ?_ j o hj,by simp only;omega⟩
     ·have e2:mgC l (aNk M i now)=mgC l M:=by simp only[mgC,aNk,List.length_set]
      rw[e2]
      simp(disch:=omega) only[aV,bY,↓reduceIte]
      exact h1
     ·simp(disch:=omega) only[aV,↓reduceIte,eq_self,hset]<;>rfl
     intro k o k1 k2 hk
     simp(disch:=omega) only[aV,bY,↓reduceIte]
     exact hk
    have d3:decide ((kyA M.L i).seen=0#32)=false:=J6 hb3
    refine bA [43,0,2,7] rfl rfl rfl fun K hK=>?_
    simp(disch:=omega) only[Tryz.f28,go_sem,↓reduceIte,d1,d2,d3,Bool.not_true,Bool.not_false,h1,h2,jR,a1,a2,a7,e15,kyC,J8,J7,J9]
    refine hK _ ?_
    refine aB (eC (.tmp 43) rfl rfl rfl (fun h=>?_) (fun h=>?_))
    ·refine aI rfl ?_
     rw[J4 (.inr (.inr hb3))]at ek
     rw[ek]
     refine aA rfl (bA [6] rfl rfl rfl fun K hK=>?_)
     simp(disch:=omega) only[Tryz.f28,go_sem,↓reduceIte]
     refine hK _ ?_
     refine aB (aS rfl (bI ?_))
     rw[oE hD]
     exact⟨rfl,fun j o h=>h,by simp only;omega⟩
    refine aI rfl ?_
    cases h
   have d2:decide ((kyA M.L i).st=2)=false:=J6 hb2
   refine bA [43,0,2,7] rfl rfl rfl fun K hK=>?_
   simp(disch:=omega) only[Tryz.f28,go_sem,↓reduceIte,d1,d2,Bool.not_true,Bool.not_false,h1,h2,jR,a1,a2,e15,kyC,J8,J7,J9]
   refine hK _ ?_
   refine aB (eC (.tmp 43) rfl rfl rfl (fun h=>?_) (fun h=>?_))
   ·refine aI rfl ?_
    rw[J4 (.inr (.inl hb2))]at ek
    rw[ek]
    refine aA rfl (bA [6] rfl rfl rfl fun K hK=>?_)
    simp(disch:=omega) only[Tryz.f28,go_sem,↓reduceIte]
    refine hK _ ?_
    refine aB (aS rfl (bI ?_))
    rw[oE hD]
    exact⟨rfl,fun j o h=>h,by simp only;omega⟩
   refine aI rfl ?_
   cases h
  have d1:decide ((kyA M.L i).role=1)=false:=J6 hb1
  refine bA [43,0,2,7] rfl rfl rfl fun K hK=>?_
  simp(disch:=omega) only[Tryz.f28,go_sem,↓reduceIte,d1,Bool.not_false,h1,h2,jR,a1,e15,kyC,J8,J7,J9]
  refine hK _ ?_
  refine aB (eC (.tmp 43) rfl rfl rfl (fun h=>?_) (fun h=>?_))
  ·refine aI rfl ?_
   rw[J4 (.inl hb1)]at ek
   rw[ek]
   refine aA rfl (bA [6] rfl rfl rfl fun K hK=>?_)
   simp(disch:=omega) only[Tryz.f28,go_sem,↓reduceIte]
   refine hK _ ?_
   refine aB (aS rfl (bI ?_))
   rw[oE hD]
   exact⟨rfl,fun j o h=>h,by simp only;omega⟩
  refine aI rfl ?_
  cases h
 cases hg
theorem cFi:bX Tryz.prog GLh 28 (.heap xQ):=⟨⟨_,Tryz.func28,rfl,rfl⟩,bKn⟩
end Go.AX

namespace Go.AX
open Go Go.Proofs
set_option maxRecDepth 8000
theorem aNg (k:KY):gH (kyC k)=true:=rfl
theorem tK: ∀L:List KY,gH (jQ L)=true
 |[]=>rfl
 |k::r=>by
  have ih:=tK r
  rw[jQ]
  simp only[gH,Bool.not_eq_true',List.any_append,Bool.or_eq_false_iff]at ih⊢
  exact⟨rfl,ih⟩
theorem bWs (xs:List AV) (a b:Nat) (h:gH xs=true):gH ((xs.drop b).take a)=true:=by
 simp only[gH,Bool.not_eq_true',List.any_eq_false]at h⊢
 exact fun x hx=>h x (List.mem_of_mem_drop (List.mem_of_mem_take hx))
theorem aOa: ∀(L:List KY) (k:Nat),List.take (15*k) (jQ L)=jQ (L.take k)
 |[],k=>by simp[jQ]
 |x::r,0=>by simp[jQ]
 |x::r,k+1=>by
  have h15:(kyC x).length=15:=rfl
  rw[jQ,U0,jQ,show 15*(k+1)=(kyC x).length+15*k by rw[h15];omega,List.take_length_add_append,aOa r k]
theorem aGx: ∀(L:List KY) (k:Nat),List.drop (15*k) (jQ L)=jQ (L.drop k)
 |[],k=>by simp[jQ]
 |x::r,0=>by simp
 |x::r,k+1=>by
  have h15:(kyC x).length=15:=rfl
  rw[jQ,J7,show 15*(k+1)=(kyC x).length+15*k by rw[h15];omega,List.drop_length_add_append,aGx r k]
def xP (M:MC) (i:Nat) (st:Int) (now:W32):MC:= {M with L:=M.L.set i {kyA M.L i with st:=st,since:=now}}
def aSa (M:MC) (i:Nat):MC:= {M with L:=M.L.take i++M.L.drop (i+1)}
noncomputable def uA (d l:Nat) (M:MC) (id:W32) (st:Int) (now:W32) (hp:H) (nx:Nat):Int×H:=
 if kB M.L id<0 then(130,hp)
 else if st≤(kyA M.L (kB M.L id).toNat).st∨4<st then(131,hp)
 else if st=4 then(0,iZ d (nx+88+60*M.L.length) (aSa M (kB M.L id).toNat) (del hp l))
 else(0,iZ d l (xP M (kB M.L id).toNat st now) hp)
noncomputable def xO:List AV→H→Nat→Option (AV×H×Nat)
 |[.op d 0,.w32 id,.i st,.w32 now],hp,nx=>aK (kH hp d) fun t=>aN (t.M.L.length≤1000) (some (.i (uA d t.l t.M id st now hp nx).1,(uA d t.l t.M id st now hp nx).2,nx+300+60*t.M.L.length))
 |_,_,_=>none
theorem bAi (d:Nat) (id now:W32) (st:Int) (hp:H) (nx:Nat):xO [.op d 0,.w32 id,.i st,.w32 now] hp nx=aK (kH hp d) fun t=>aN (t.M.L.length≤1000) (some (.i (uA d t.l t.M id st now hp nx).1,(uA d t.l t.M id st now hp nx).2,nx+300+60*t.M.L.length)):=(rfl)
attribute [go_sem] bAi
set_option maxHeartbeats 1000000 in
theorem bKj:cQ Tryz.prog GLh 39 xO:=by
 refine gF Tryz.func39 (aT rfl) ?_
 intro args hp nx r hp' nx' hg
 unfold xO at hg
 split at hg
 ·rename_i d id st now
  replace hg:=aJ hg;obtain⟨⟨l,M⟩,hD0,hg⟩:=hg
  have hD:=kW hD0
  replace hg:=aP hg;obtain⟨hlen,hg⟩:=hg
  simp only[Option.some.injEq,Prod.mk.injEq]at hg hD hlen;obtain⟨rfl,rfl,rfl⟩:=hg
  refine⟨J1 rfl,by omega,fun hnone=>?_⟩
  have h1:=hD.hd;have h2:=hD.hl
  obtain⟨n1,n2⟩:=hD.ne
  have hlt: ∀k o,hp k=some o→k<nx:=fun k o hk=>lI hnone hk
  have hd:=hlt _ _ h1
  have hl:=hlt _ _ h2
  have hkl:=iJ M.L
  refine aA rfl (bA [0,1,2,3] rfl rfl rfl fun K hK=>?_)
  simp(disch:=omega) only[Tryz.f39,go_sem,↓reduceIte]
  refine hK _ ?_
  refine aB (aA rfl (aC (Γ:=bC [(38,.heap zJ)]) [0,2,3,9] (aH aWa aO) rfl rfl rfl (fun K hK=>?_)))
  simp(disch:=omega) only[Tryz.f39,go_sem,↓reduceIte,hD0,hlen]
  refine hK _ ?_
  refine aB ?_
  rcases aCz M.L id with hf|⟨i,hi,hf,hid⟩
  ·have ek:uA d l M id st now hp nx=(130,hp):=by unfold uA;rw[hf];exact J4 (by omega)
   rw[hf]
   refine aA rfl (aA rfl (bA [14,0,2,3,9] rfl rfl rfl fun K hK=>?_))
   simp(disch:=omega) only[Tryz.f39,go_sem,↓reduceIte]
   refine hK _ ?_
   refine aB (eC (.tmp 14) rfl rfl rfl (fun h=>?_) (fun h=>?_))
   ·refine aI rfl ?_
    rw[ek]
    refine aA rfl (bA [8] rfl rfl rfl fun K hK=>?_)
    simp(disch:=omega) only[Tryz.f39,go_sem,↓reduceIte]
    refine hK _ ?_
    refine aB (aS rfl (bI ?_))
    exact⟨rfl,fun j o h=>h,by simp only;omega⟩
   refine aI rfl ?_
   cases h
  have ek:uA d l M id st now hp nx=if st≤(kyA M.L i).st∨4<st then(131,hp)else if st=4 then(0,iZ d (nx+88+60*M.L.length) (aSa M i) (del hp l))else(0,iZ d l (xP M i st now) hp):=by
   unfold uA;rw[hf,U2];exact J3 (by omega)
  rw[hf]
  refine aA rfl (aA rfl (bA [14,0,2,3,9] rfl rfl rfl fun K hK=>?_))
  simp(disch:=omega) only[Tryz.f39,go_sem,↓reduceIte]
  refine hK _ ?_
  refine aB (aW (.tmp 14) rfl rfl rfl (fun h=>?_) (fun h=>?_))
  ·exact aI rfl (absurd h (by omega))
  refine aI rfl ?_
  clear h
  have a2:=jW M.L i 2 hi (by omega)
  have e15:i*15=15*i:=by omega
  refine aQ rfl (aB (aA rfl (aA rfl ?_)))
  by_cases hb:st≤(kyA M.L i).st
  ·have db:decide (st≤(kyA M.L i).st)=true:=J5 hb
   rw[J4 (.inl hb)]at ek
   refine bA [28,0,2,3,9] rfl rfl rfl fun K hK=>?_
   simp(disch:=omega) only[Tryz.f39,go_sem,↓reduceIte,h1,h2,jR,a2,e15,db,kyC,J8,J7,J9]
   refine hK _ ?_
   refine aB (eC (.tmp 28) rfl rfl rfl (fun h=>?_) (fun h=>?_))
   ·refine aI rfl ?_
    rw[ek]
    refine aA rfl (bA [8] rfl rfl rfl fun K hK=>?_)
    simp(disch:=omega) only[Tryz.f39,go_sem,↓reduceIte]
    refine hK _ ?_
    refine aB (aS rfl (bI ?_))
    exact⟨rfl,fun j o h=>h,by simp only;omega⟩
   refine aI rfl ?_
   cases h
  have db:decide (st≤(kyA M.L i).st)=false:=J6 hb
  refine bA [28,0,2,3,9] rfl rfl rfl fun K hK=>?_
  simp(disch:=omega) only[Tryz.f39,go_sem,↓reduceIte,h1,h2,jR,a2,e15,db,kyC,J8,J7,J9]
  refine hK _ ?_
  refine aB (aW (.tmp 28) rfl rfl rfl (fun h=>?_) (fun h=>?_))
  ·refine aI rfl ?_
   rw[J4 (.inr h)]at ek
   rw[ek]
   refine aA rfl (bA [8] rfl rfl rfl fun K hK=>?_)
   simp(disch:=omega) only[Tryz.f39,go_sem,↓reduceIte]
   refine hK _ ?_
   refine aB (aS rfl (bI ?_))
   exact⟨rfl,fun j o h=>h,by simp only;omega⟩
  refine aI rfl ?_
  rw[J3 (fun e=>e.elim hb h)]at ek
  clear h
  refine aQ rfl (aB (aA rfl (aA rfl (bA [30,0,2,3,9] rfl rfl rfl fun K hK=>?_))))
  simp(disch:=omega) only[Tryz.f39,go_sem,↓reduceIte]
  refine hK _ ?_
  refine aB (aW (.tmp 30) rfl rfl rfl (fun h=>?_) (fun h=>?_))
  ·refine aI rfl ?_
   rw[J4 h]at ek
   rw[ek]
   have ei:((i:Int)+1).toNat=i+1:=by omega
   have hno:=bWs (jQ M.L) ((M.L.length-(i+1))*15) ((i+1)*15) (tK M.L)
   refine aA rfl (bB (Γ:=aL) (fun _=>2) [] bZ (aD _ _) rfl rfl rfl (by kernel_rfl) (fun K hK=>?_))
   simp(disch:=omega) only[Tryz.f39,go_sem,↓reduceIte,h1,h2,jR,hkl,e15,ei,hno,Nat.sub_zero,J8,List.set_cons_succ,List.set_cons_zero,J7,J9]
   refine hK _ ?_
   refine aB (aA rfl (bA [8] rfl rfl rfl fun K hK=>?_))
   simp(disch:=omega) only[Tryz.f39,go_sem,↓reduceIte]
   refine hK _ ?_
   refine aB (aS rfl (bI ?_))
   have e3:(aSa M i).L.length=i+(M.L.length-(i+1)):=by
    show(M.L.take i++M.L.drop (i+1)).length=_
    rw[List.length_append,List.length_take,List.length_drop];omega
   have e4:List.take (15*i) (jQ M.L)++List.take ((M.L.length-(i+1))*15) (List.drop ((i+1)*15) (jQ M.L))=jQ (aSa M i).L:=by
    show _=jQ (M.L.take i++M.L.drop (i+1))
    rw[lD,aOa,show(i+1)*15=15*(i+1)by omega,aGx]
    congr 1
    exact List.take_of_length_le (by rw[iJ,List.length_drop];omega)
   have e5:nx+1+4+50+60*M.L.length+2+14+2+15=nx+88+60*M.L.length:=by omega
   rw[e4,e5,←e3]
   refine⟨rfl,fun j o hj=>vL (M:=aSa M i) (l:=nx+88+60*M.L.length) ?_ ?_ ?_ j o hj,by simp only;omega⟩
   ·simp(disch:=omega) only[aV,↓reduceIte,eq_self]<;>rfl
   ·simp(disch:=omega) only[aV,bY,↓reduceIte,eq_self]
   intro k o k1 k2 hk
   simp(disch:=omega) only[aV,bY,↓reduceIte]
   exact hk
  refine aI rfl ?_
  rw[J3 h]at ek
  rw[ek]
  refine aQ rfl (aB (aA rfl (bB (Γ:=aL) (fun _=>2) [] bZ (aD _ _) rfl rfl rfl (by kernel_rfl) (fun K hK=>?_))))
  simp(disch:=omega) only[Tryz.f39,go_sem,↓reduceIte,h1,h2,jR,hkl,e15,J8,J7,J9]
  refine hK _ ?_
  refine aB (aA rfl (bA [8] rfl rfl rfl fun K hK=>?_))
  simp(disch:=omega) only[Tryz.f39,go_sem,↓reduceIte]
  refine hK _ ?_
  refine aB (aS rfl ?_)
  have hset:=aJm M.L i 2 (.i st) {kyA M.L i with st:=st} hi (by omega) rfl
  have hka:kyA (M.L.set i {kyA M.L i with st:=st}) i= {kyA M.L i with st:=st}:=by simp[kyA,hi]
  have hset2:=aJm (M.L.set i {kyA M.L i with st:=st}) i 13 (.w32 now) {kyA M.L i with st:=st,since:=now} (by simpa using hi) (by omega) (by rw[hka];rfl)
  rw[List.set_set]at hset2
  refine⟨rfl,fun j o hj=>vL (M:=xP M i st now) (l:=l) ?_ ?_ ?_ j o hj,by simp only;omega⟩
  ·have e2:mgC l (xP M i st now)=mgC l M:=by simp only[mgC,xP,List.length_set]
   rw[e2]
   simp(disch:=omega) only[aV,bY,↓reduceIte]
   exact h1
  ·simp(disch:=omega) only[aV,↓reduceIte,eq_self,hset,hset2]<;>rfl
  intro k o k1 k2 hk
  simp(disch:=omega) only[aV,bY,↓reduceIte]
  exact hk
 cases hg
theorem cFj:bX Tryz.prog GLh 39 (.heap xO):=⟨⟨_,Tryz.func39,rfl,rfl⟩,bKj⟩
end Go.AX

namespace Go.AX
open Go Go.Proofs
set_option maxRecDepth 8000
theorem bXi (a b:W32):aCh (.w32 a) (.w32 b)=some (.w32 (if b<a then b else a)):=(rfl)
attribute [go_sem] bXi
def plV (a b:W32):W32:=a+(if 4294967295#32-a<b then 4294967295#32-a else b)
def rQ:List AV→Option AV
 |[.w32 a,.w32 b]=>some (.w32 (plV a b))
 |_=>none
theorem bIi (a b:W32):rQ [.w32 a,.w32 b]=some (.w32 (plV a b)):=(rfl)
attribute [go_sem] bIi
theorem bVh:cL Tryz.prog GLh 61 rQ:=by
 refine cC Tryz.func61 (aT rfl) ?_
 intro args r hg
 unfold rQ at hg
 split at hg
 ·rename_i a b
  obtain rfl:=J0 hg
  refine⟨J1 rfl,fun nx=>?_⟩
  refine aA rfl (bA [0,1] rfl rfl rfl fun K hK=>?_)
  simp(disch:=omega) only[Tryz.f61,go_sem,↓reduceIte]
  refine hK _ ?_
  refine aB (aA rfl (bA [4] rfl rfl rfl fun K hK=>?_))
  simp(disch:=omega) only[Tryz.f61,go_sem,↓reduceIte]
  refine hK _ ?_
  refine aB (aS rfl ?_)
  simp(disch:=omega) only[cN,bV,bK,bQ,Tryz.f61,go_sem,↓reduceIte]
  rfl
 cases hg
theorem cVu:bX Tryz.prog GLh 61 (.pure true rQ):=⟨⟨_,Tryz.func61,rfl,rfl⟩,bVh⟩
def bhV (t a b:W32):W32:=plV (plV t a) b
def aPs:List AV→Option AV
 |[.w32 t,.w32 a,.w32 b]=>some (.w32 (bhV t a b))
 |_=>none
theorem cCo (t a b:W32):aPs [.w32 t,.w32 a,.w32 b]=some (.w32 (bhV t a b)):=(rfl)
attribute [go_sem] cCo
theorem cRh:cL Tryz.prog GLh 52 aPs:=by
 refine cC Tryz.func52 (aT rfl) ?_
 intro args r hg
 unfold aPs at hg
 split at hg
 ·rename_i t a b
  obtain rfl:=J0 hg
  refine⟨J1 rfl,fun nx=>?_⟩
  refine aA rfl (bA [0,1,2] rfl rfl rfl fun K hK=>?_)
  simp(disch:=omega) only[Tryz.f52,go_sem,↓reduceIte]
  refine hK _ ?_
  refine aB (aA rfl (aC (Γ:=bC [(61,.pure true rQ)]) [6] (aH cVu aO) rfl rfl rfl (fun K hK=>?_)))
  simp(disch:=omega) only[Tryz.f52,go_sem,↓reduceIte]
  refine hK _ ?_
  refine aB (aS rfl ?_)
  simp(disch:=omega) only[cN,bV,bK,bQ,Tryz.f52,go_sem,↓reduceIte]
  rfl
 cases hg
theorem aVy:bX Tryz.prog GLh 52 (.pure true aPs):=⟨⟨_,Tryz.func52,rfl,rfl⟩,cRh⟩
def aSu:List AV→Option AV
 |[.w32 a,.w32 b]=>some (.b (decide (b≤a)))
 |_=>none
theorem cAs (a b:W32):aSu [.w32 a,.w32 b]=some (.b (decide (b≤a))):=(rfl)
attribute [go_sem] cAs
theorem cPr:cL Tryz.prog GLh 37 aSu:=by
 refine cC Tryz.func37 (aT rfl) ?_
 intro args r hg
 unfold aSu at hg
 split at hg
 ·rename_i a b
  obtain rfl:=J0 hg
  refine⟨J1 rfl,fun nx=>?_⟩
  refine aA rfl (bA [0,1] rfl rfl rfl fun K hK=>?_)
  simp(disch:=omega) only[Tryz.f37,go_sem,↓reduceIte]
  refine hK _ ?_
  refine aB (aA rfl (bA [4] rfl rfl rfl fun K hK=>?_))
  simp(disch:=omega) only[Tryz.f37,go_sem,↓reduceIte]
  refine hK _ ?_
  refine aB (aS rfl ?_)
  simp(disch:=omega) only[cN,bV,bK,bQ,Tryz.f37,go_sem,↓reduceIte]
 cases hg
theorem bJc:bX Tryz.prog GLh 37 (.pure true aSu):=⟨⟨_,Tryz.func37,rfl,rfl⟩,cPr⟩
theorem aLt {a b:List W32} {k:Nat} (ha:k<a.length) (hb:k<b.length) (h:a.take k=b.take k) (e:a.getD k 0#32=b.getD k 0#32):a.take (k+1)=b.take (k+1):=by
 rw[List.take_add_one,List.take_add_one,h,List.getElem?_eq_getElem ha,List.getElem?_eq_getElem hb]
 rw[List.getD_eq_getElem?_getD,List.getD_eq_getElem?_getD,List.getElem?_eq_getElem ha,List.getElem?_eq_getElem hb]at e
 rw[show a[k]=b[k]from e]
def bBb:List AV→Option AV
 |[.sl n xs,.sl m ys]=>aK (vC xs) fun a=>aK (vC ys) fun b=>aN (a.length=n∧b.length=m∧n≤9223372036854775807∧m≤9223372036854775807) (some (.b (decide (a=b))))
 |_=>none
theorem bZq (n m:Nat) (xs ys:List AV):bBb [.sl n xs,.sl m ys]=aK (vC xs) fun a=>aK (vC ys) fun b=>aN (a.length=n∧b.length=m∧n≤9223372036854775807∧m≤9223372036854775807) (some (.b (decide (a=b)))):=(rfl)
attribute [go_sem] bZq
set_option maxHeartbeats 1000000 in
theorem cOa:cL Tryz.prog GLh 20 bBb:=by
 refine cC Tryz.func20 (aT rfl) ?_
 intro args r hg
 unfold bBb at hg
 split at hg
 ·rename_i n xs m ys
  replace hg:=aJ hg;obtain⟨a,ha,hg⟩:=hg
  replace hg:=aJ hg;obtain⟨b,hb,hg⟩:=hg
  replace hg:=aP hg;obtain⟨⟨hn,hm,hbig,hbig2⟩,hg⟩:=hg
  obtain rfl:=J0 hg
  have:=vB _ ha;subst this
  have:=vB _ hb;subst this
  subst hn;subst hm
  clear hg ha hb
  refine⟨J1 rfl,fun nx=>?_⟩
  refine aA rfl (bA [0,1] rfl rfl rfl fun K hK=>?_)
  simp(disch:=omega) only[Tryz.f20,go_sem,↓reduceIte]
  refine hK _ ?_
  refine aB (aA rfl (aA rfl (bA [10,0,1] rfl rfl rfl fun K hK=>?_)))
  simp(disch:=omega) only[Tryz.f20,go_sem,↓reduceIte]
  refine hK _ ?_
  refine aB (xF (.tmp 10) rfl rfl rfl (fun h=>?_) (fun h=>?_))
  ·refine aI rfl ?_
   have hl:decide (a=b)=false:=J6 (fun e=>h (by rw[e]))
   refine aA rfl (bA [4] rfl rfl rfl fun K hK=>?_)
   simp(disch:=omega) only[Tryz.f20,go_sem,↓reduceIte]
   refine hK _ ?_
   refine aB (aS rfl (bI ?_))
   simp(disch:=omega) only[cN,bV,bK,bQ,Tryz.f20,go_sem,↓reduceIte,hl]
  refine aI rfl ?_
  have hab:a.length=b.length:=by omega
  refine aQ rfl (aB (aA rfl (aA rfl (bA [0,1,5] rfl rfl rfl fun K hK=>?_))))
  simp(disch:=omega) only[Tryz.f20,go_sem,↓reduceIte]
  refine hK _ ?_
  refine aB (aR 0 rfl rfl (bR (fun p:KC=> {fr:=[(0,.sl a.length (c32 a)),(1,.sl b.length (c32 b)),(5,.i p.k)],hp:=fun _=>none,nx:=0,cx:=p.c}) (fun p=>p.k≤a.length∧a.take p.k=b.take p.k) (fun p=>a.length-p.k) rfl ⟨⟨0,_⟩,⟨Nat.zero_le _,rfl⟩,bD rfl rfl (U3 _)⟩ ?_))
  rintro⟨k,c⟩ ⟨hk,ht⟩ n0
  simp only at hk ht⊢
  refine aA rfl (aA rfl (bA [14,0,1,5] rfl rfl rfl fun K hK=>?_))
  simp(disch:=omega) only[Tryz.f20,go_sem,↓reduceIte]
  refine hK _ ?_
  refine aB (aW (.tmp 14) rfl rfl rfl (fun h=>?_) (fun h=>?_))
  ·refine aI rfl ?_
   have hka:k<a.length:=by omega
   have hkb:k<b.length:=by omega
   refine aQ rfl (aB (aA rfl (aR 1 rfl rfl (aA rfl (bB (Γ:=aL) (fun _=>2) [25,0,1,5] bZ (aD _ _) rfl rfl rfl (by kernel_rfl) (fun K hK=>?_))))))
   simp(disch:=omega) only[Tryz.f20,go_sem,↓reduceIte]
   refine hK _ ?_
   refine aB (xF (.tmp 25) rfl rfl rfl (fun h=>?_) (fun h=>?_))
   ·refine aI rfl ?_
    have hl:decide (a=b)=false:=J6 (fun e=>h (by rw[e]))
    refine aA rfl (bA [4] rfl rfl rfl fun K hK=>?_)
    simp(disch:=omega) only[Tryz.f20,go_sem,↓reduceIte]
    refine hK _ ?_
    refine aB (aS rfl (bN (bI (dF (bN (bI ?_))))))
    simp(disch:=omega) only[cN,bV,bK,bQ,Tryz.f20,go_sem,↓reduceIte,hl]
   refine aI rfl (aQ rfl (bU (aB (bA [0,1,5] rfl rfl rfl fun K hK=>?_))))
   simp(disch:=omega) only[Tryz.f20,go_sem,↓reduceIte]
   refine hK _ ?_
   refine bT ?_
   refine⟨⟨k+1,_⟩,⟨by simp only;omega,aLt hka hkb ht h⟩,by simp only;omega,bD ?_ rfl (U3 _)⟩
   simp only[Int.natCast_add,Int.natCast_one]
  refine aI rfl (bF 0 rfl rfl (aY (aZ (bE (aB (aA rfl ?_))))))
  obtain rfl:k=a.length:=by omega
  have hl:decide (a=b)=true:=J5 (by rw[List.take_length,hab,List.take_length]at ht;exact ht)
  refine bA [4] rfl rfl rfl fun K hK=>?_
  simp(disch:=omega) only[Tryz.f20,go_sem,↓reduceIte]
  refine hK _ ?_
  refine aB (aS rfl ?_)
  simp(disch:=omega) only[cN,bV,bK,bQ,Tryz.f20,go_sem,↓reduceIte,hl]
 cases hg
theorem cFe:bX Tryz.prog GLh 20 (.pure true bBb):=⟨⟨_,Tryz.func20,rfl,rfl⟩,cOa⟩
def cBi (k:BitVec 16):CF:=⟨[apN],10#32+BitVec.setWidth 32 (k&&&3#16)*10#32,BitVec.setWidth 32 (k>>>2&&&3#16),8#32,BitVec.setWidth 32 (k>>>4&&&3#16),300#32+BitVec.setWidth 32 (k>>>6&&&3#16)*200#32,100#32,20#32,60#32,
 [170#8,187#8,204#8].take (k>>>10&&&3#16).toNat,k>>>8&&&3#16,6,if k>>>12&&&3#16=0#16 then 1400#16 else 16000#16⟩
theorem cBh (k:BitVec 16):cBi k=⟨[apN],10#32+BitVec.setWidth 32 (k&&&3#16)*10#32,BitVec.setWidth 32 (k>>>2&&&3#16),8#32,BitVec.setWidth 32 (k>>>4&&&3#16),300#32+BitVec.setWidth 32 (k>>>6&&&3#16)*200#32,100#32,20#32,60#32,
 [170#8,187#8,204#8].take (k>>>10&&&3#16).toNat,k>>>8&&&3#16,6,if k>>>12&&&3#16=0#16 then 1400#16 else 16000#16⟩:=rfl
def aDh:List AV→Option AV
 |[.w16 k]=>some (.agg (cfC (cBi k)))
 |_=>none
theorem bCc (k:BitVec 16):aDh [.w16 k]=some (.agg (cfC (cBi k))):=(rfl)
attribute [go_sem] bCc
theorem cRs (k:BitVec 16):k&&&3#16=0#16∨k&&&3#16=1#16∨k&&&3#16=2#16∨k&&&3#16=3#16:=by
 have h:(k&&&3#16).toNat≤3:=by rw[BitVec.toNat_and];exact Nat.and_le_right
 rcases(by omega:(k&&&3#16).toNat=0∨(k&&&3#16).toNat=1∨(k&&&3#16).toNat=2∨(k&&&3#16).toNat=3)with e|e|e|e
 ·exact .inl (BitVec.eq_of_toNat_eq e)
 ·exact .inr (.inl (BitVec.eq_of_toNat_eq e))
 ·exact .inr (.inr (.inl (BitVec.eq_of_toNat_eq e)))
 exact .inr (.inr (.inr (BitVec.eq_of_toNat_eq e)))
set_option maxHeartbeats 1000000 in
theorem bOk:cL Tryz.prog GLh 23 aDh:=by
 refine cC Tryz.func23 (aT rfl) ?_
 intro args r hg
 unfold aDh at hg
 split at hg
 ·rename_i k
  obtain rfl:=J0 hg
  refine⟨J1 rfl,fun nx=>?_⟩
  have ek:=cBh k
  refine aA rfl (bA [0,2] rfl rfl rfl fun K hK=>?_)
  simp(disch:=omega) only[Tryz.f23,go_sem,↓reduceIte]
  refine hK _ ?_
  refine aB (aA rfl (aC (Γ:=bC [(43,.fresh true aHr)]) [0,2,3] (aH cFf aO) rfl rfl rfl (fun K hK=>?_)))
  simp(disch:=omega) only[Tryz.f23,go_sem,↓reduceIte,cK,List.nil_append,List.cons_append,U0,U1,J7,J9,List.all_cons,List.all_nil,Option.isSome_some,Bool.and_self]
  refine hK _ ?_
  refine aB ?_
  rcases cRs (k>>>10)with e|e|e|e
  ·refine aA rfl (bA [0,2,3] rfl rfl rfl fun K hK=>?_)
   simp(disch:=omega) only[Tryz.f23,go_sem,↓reduceIte,e,BitVec.reduceMod,BitVec.reduceEq,List.set_cons_succ,List.set_cons_zero]
   refine hK _ ?_
   refine aB (aA rfl (aA rfl (bA [38,2,3] rfl rfl rfl fun K hK=>?_)))
   simp(disch:=omega) only[Tryz.f23,go_sem,↓reduceIte]
   refine hK _ ?_
   refine aB (aW (.tmp 38) rfl rfl rfl (fun h=>?_) (fun h=>?_))
   ·refine aI rfl ?_
    rw[e,J4 h]at ek
    refine bA [2,3] rfl rfl rfl fun K hK=>?_
    simp(disch:=omega) only[Tryz.f23,go_sem,↓reduceIte]
    refine hK _ ?_
    refine aB (aA rfl (bA [2] rfl rfl rfl fun K hK=>?_))
    simp(disch:=omega) only[Tryz.f23,go_sem,↓reduceIte]
    refine hK _ ?_
    refine aB (aS rfl ?_)
    simp(maxSteps:=400000) (disch:=omega) only[cN,bV,bK,bQ,Tryz.f23,go_sem,↓reduceIte,ek,jI,ldV,List.set_cons_succ,List.set_cons_zero,U0,U1,J9]
    rfl
   refine aI rfl ?_
   rw[e,J3 h]at ek
   refine aQ rfl (aB (aA rfl (bA [2] rfl rfl rfl fun K hK=>?_)))
   simp(disch:=omega) only[Tryz.f23,go_sem,↓reduceIte]
   refine hK _ ?_
   refine aB (aS rfl ?_)
   simp(maxSteps:=400000) (disch:=omega) only[cN,bV,bK,bQ,Tryz.f23,go_sem,↓reduceIte,ek,jI,ldV,U0,U1,J9]
   rfl
  ·refine aA rfl (bA [0,2,3] rfl rfl rfl fun K hK=>?_)
   simp(disch:=omega) only[Tryz.f23,go_sem,↓reduceIte,e,BitVec.reduceMod,BitVec.reduceEq,List.set_cons_succ,List.set_cons_zero]
   refine hK _ ?_
   refine aB (aA rfl (aA rfl (bA [38,2,3] rfl rfl rfl fun K hK=>?_)))
   simp(disch:=omega) only[Tryz.f23,go_sem,↓reduceIte]
   refine hK _ ?_
   refine aB (aW (.tmp 38) rfl rfl rfl (fun h=>?_) (fun h=>?_))
   ·refine aI rfl ?_
    rw[e,J4 h]at ek
    refine bA [2,3] rfl rfl rfl fun K hK=>?_
    simp(disch:=omega) only[Tryz.f23,go_sem,↓reduceIte]
    refine hK _ ?_
    refine aB (aA rfl (bA [2] rfl rfl rfl fun K hK=>?_))
    simp(disch:=omega) only[Tryz.f23,go_sem,↓reduceIte]
    refine hK _ ?_
    refine aB (aS rfl ?_)
    simp(maxSteps:=400000) (disch:=omega) only[cN,bV,bK,bQ,Tryz.f23,go_sem,↓reduceIte,ek,jI,ldV,List.set_cons_succ,List.set_cons_zero,U0,U1,J9]
    rfl
   refine aI rfl ?_
   rw[e,J3 h]at ek
   refine aQ rfl (aB (aA rfl (bA [2] rfl rfl rfl fun K hK=>?_)))
   simp(disch:=omega) only[Tryz.f23,go_sem,↓reduceIte]
   refine hK _ ?_
   refine aB (aS rfl ?_)
   simp(maxSteps:=400000) (disch:=omega) only[cN,bV,bK,bQ,Tryz.f23,go_sem,↓reduceIte,ek,jI,ldV,U0,U1,J9]
   rfl
  ·refine aA rfl (bA [0,2,3] rfl rfl rfl fun K hK=>?_)
   simp(disch:=omega) only[Tryz.f23,go_sem,↓reduceIte,e,BitVec.reduceMod,BitVec.reduceEq,List.set_cons_succ,List.set_cons_zero]
   refine hK _ ?_
   refine aB (aA rfl (aA rfl (bA [38,2,3] rfl rfl rfl fun K hK=>?_)))
   simp(disch:=omega) only[Tryz.f23,go_sem,↓reduceIte]
   refine hK _ ?_
   refine aB (aW (.tmp 38) rfl rfl rfl (fun h=>?_) (fun h=>?_))
   ·refine aI rfl ?_
    rw[e,J4 h]at ek
    refine bA [2,3] rfl rfl rfl fun K hK=>?_
    simp(disch:=omega) only[Tryz.f23,go_sem,↓reduceIte]
    refine hK _ ?_
    refine aB (aA rfl (bA [2] rfl rfl rfl fun K hK=>?_))
    simp(disch:=omega) only[Tryz.f23,go_sem,↓reduceIte]
    refine hK _ ?_
    refine aB (aS rfl ?_)
    simp(maxSteps:=400000) (disch:=omega) only[cN,bV,bK,bQ,Tryz.f23,go_sem,↓reduceIte,ek,jI,ldV,List.set_cons_succ,List.set_cons_zero,U0,U1,J9]
    rfl
   refine aI rfl ?_
   rw[e,J3 h]at ek
   refine aQ rfl (aB (aA rfl (bA [2] rfl rfl rfl fun K hK=>?_)))
   simp(disch:=omega) only[Tryz.f23,go_sem,↓reduceIte]
   refine hK _ ?_
   refine aB (aS rfl ?_)
   simp(maxSteps:=400000) (disch:=omega) only[cN,bV,bK,bQ,Tryz.f23,go_sem,↓reduceIte,ek,jI,ldV,U0,U1,J9]
   rfl
  refine aA rfl (bA [0,2,3] rfl rfl rfl fun K hK=>?_)
  simp(disch:=omega) only[Tryz.f23,go_sem,↓reduceIte,e,BitVec.reduceMod,BitVec.reduceEq,List.set_cons_succ,List.set_cons_zero]
  refine hK _ ?_
  refine aB (aA rfl (aA rfl (bA [38,2,3] rfl rfl rfl fun K hK=>?_)))
  simp(disch:=omega) only[Tryz.f23,go_sem,↓reduceIte]
  refine hK _ ?_
  refine aB (aW (.tmp 38) rfl rfl rfl (fun h=>?_) (fun h=>?_))
  ·refine aI rfl ?_
   rw[e,J4 h]at ek
   refine bA [2,3] rfl rfl rfl fun K hK=>?_
   simp(disch:=omega) only[Tryz.f23,go_sem,↓reduceIte]
   refine hK _ ?_
   refine aB (aA rfl (bA [2] rfl rfl rfl fun K hK=>?_))
   simp(disch:=omega) only[Tryz.f23,go_sem,↓reduceIte]
   refine hK _ ?_
   refine aB (aS rfl ?_)
   simp(maxSteps:=400000) (disch:=omega) only[cN,bV,bK,bQ,Tryz.f23,go_sem,↓reduceIte,ek,jI,ldV,List.set_cons_succ,List.set_cons_zero,U0,U1,J9]
   rfl
  refine aI rfl ?_
  rw[e,J3 h]at ek
  refine aQ rfl (aB (aA rfl (bA [2] rfl rfl rfl fun K hK=>?_)))
  simp(disch:=omega) only[Tryz.f23,go_sem,↓reduceIte]
  refine hK _ ?_
  refine aB (aS rfl ?_)
  simp(maxSteps:=400000) (disch:=omega) only[cN,bV,bK,bQ,Tryz.f23,go_sem,↓reduceIte,ek,jI,ldV,U0,U1,J9]
  rfl
 cases hg
theorem cVx:bX Tryz.prog GLh 23 (.pure false aDh):=⟨⟨_,Tryz.func23,rfl,rfl⟩,bOk⟩
end Go.AX

namespace Go.AX
open Go Go.Proofs
set_option maxRecDepth 8000
open Classical in
noncomputable def nM (xs:List AV):Option (List KY):=if h: ∃L,xs=jQ L then some (Classical.choose h)else none
theorem sK (L:List KY):nM (jQ L)=some L:=by
 have hx: ∃L',jQ L=jQ L':=⟨L,rfl⟩
 unfold nM
 rw[dif_pos hx]
 exact congrArg some (aCq (Classical.choose_spec hx)).symm
theorem lS {xs:List AV} {L:List KY} (h:nM xs=some L):xs=jQ L:=by
 unfold nM at h
 split at h
 ·rename_i hx
  rw[←J0 h]
  exact Classical.choose_spec hx
 cases h
attribute [go_sem] sK
def lH (r:Int) (L:List KY):List KY:=L.filter fun k=>decide (k.role=r)
theorem jP (r:Int) (L:List KY):(lH r L).length≤L.length:=List.length_filter_le _ _
theorem lC (L:List KY) (k:Nat) (hk:k<L.length):(List.drop (15*k) (jQ L)).take 15=kyC (kyA L k):=by
 have:=wE L k 0 hk
 rw[Nat.add_zero,J9]at this
 rw[this]
 exact List.take_left' rfl
theorem aWz: ∀(L:List KY) (k:Nat) (v:KY),k<L.length→cK (jQ L) (15*k) (kyC v)=jQ (L.set k v)
 |[],k,v,h=>by simp at h
 |y::r,0,v,_=>by
  have h15:(kyC y).length=15:=rfl
  have e15:(kyC v).length=15:=rfl
  rw[cK,Nat.mul_zero,U1,List.nil_append,Nat.zero_add,e15,jQ,List.drop_left' h15,List.set_cons_zero,jQ]
 |y::r,k+1,v,h=>by
  have h15:(kyC y).length=15:=rfl
  have ih:=aWz r k v (by simpa using h)
  have e15:(kyC v).length=15:=rfl
  have e1:15*(k+1)=(kyC y).length+15*k:=by rw[h15];omega
  have e2:15*(k+1)+15=(kyC y).length+(15*k+15):=by rw[h15];omega
  rw[cK,e15]at ih⊢
  rw[e2,e1,jQ,List.take_append,List.drop_append,List.set_cons_succ,jQ,←ih]
  rw[List.take_of_length_le (by omega),Nat.add_sub_cancel_left,List.drop_of_length_le (by omega),Nat.add_sub_cancel_left]
  simp[List.append_assoc]
def oN (r:Int) (L:List KY) (k:Nat):List KY:=lH r (L.take k)++L.drop (lH r (L.take k)).length
theorem nZ (r:Int) (L:List KY) (k:Nat):(lH r (L.take k)).length≤k:=Nat.le_trans (jP _ _) (by rw[List.length_take];omega)
theorem aMm (r:Int) (L:List KY) (k:Nat) (hk:k≤L.length):(oN r L k).length=L.length:=by
 have:=nZ r L k
 rw[oN,List.length_append,List.length_drop];omega
theorem tE (r:Int) (L:List KY) (k:Nat) (hk:k<L.length):lH r (L.take (k+1))=lH r (L.take k)++if(kyA L k).role=r then[kyA L k]else[]:=by
 have e:kyA L k=L[k]:=by simp[kyA,List.getD_eq_getElem?_getD,hk]
 rw[List.take_add_one,List.getElem?_eq_getElem hk,lH,List.filter_append,e]
 simp only[Option.toList_some,List.filter_cons,List.filter_nil,decide_eq_true_eq]
 rfl
theorem bUm (r:Int) (L:List KY) (k:Nat):kyA (oN r L k) k=kyA L k:=by
 have h:=nZ r L k
 unfold kyA oN
 rw[List.getD_eq_getElem?_getD,List.getD_eq_getElem?_getD,List.getElem?_append_right h,List.getElem?_drop]
 congr 2
 omega
theorem cIi (r:Int) (L:List KY) (k:Nat) (hk:k<L.length) (h:(kyA L k).role=r):oN r L (k+1)=(oN r L k).set (lH r (L.take k)).length (kyA L k):=by
 have hl:=nZ r L k
 unfold oN
 rw[tE r L k hk,J4 h,List.length_append,List.length_singleton,List.set_append_right _ _ (U3 _),Nat.sub_self]
 rw[List.drop_eq_getElem_cons (by omega:(lH r (L.take k)).length<L.length),List.set_cons_zero,List.append_assoc]
 rfl
theorem cIj (r:Int) (L:List KY) (k:Nat) (hk:k<L.length) (h: ¬(kyA L k).role=r):oN r L (k+1)=oN r L k:=by
 unfold oN
 rw[tE r L k hk,J3 h,List.append_nil]
def dfL (r:Int) (L:List KY):List KY:=lH r L++List.replicate (L.length-(lH r L).length) ky0
theorem aWy: ∀n:Nat,rep n (kyC ky0)=jQ (List.replicate n ky0)
 |0=>rfl
 |n+1=>by
  have ih:=aWy n
  unfold rep at ih⊢
  rw[List.replicate_succ,List.flatten_cons,List.replicate_succ,jQ,ih]
theorem bYd (r:Int) (L:List KY):cK (jQ (oN r L L.length)) (15*(lH r L).length) (rep (L.length-(lH r L).length) (kyC ky0))=jQ (dfL r L):=by
 have hl:=jP r L
 have e:oN r L L.length=lH r L++L.drop (lH r L).length:=by rw[oN,List.take_length]
 have h1:(jQ (lH r L)).length=15*(lH r L).length:=iJ _
 rw[e,cK,lD,List.take_left' h1,aWy,dfL,lD]
 rw[List.drop_of_length_le,List.append_nil]
 rw[List.length_append,iJ,iJ,iJ,List.length_replicate,List.length_drop]
 omega
def ixV (r:Int):List KY→Nat→Int
 |[],_=> -1
 |k::t,j=>if k.role=r then ixV r t (j+1)else j
theorem bMk (r:Int) (L:List KY) (k:Nat) (hk:k<L.length):ixV r (L.drop k) k=if(kyA L k).role=r then ixV r (L.drop (k+1)) (k+1)else(k:Int):=by
 rw[List.drop_eq_getElem_cons hk]
 have e:kyA L k=L[k]:=by simp[kyA,List.getD_eq_getElem?_getD,hk]
 rw[e,ixV]
theorem aOe (r:Int): ∀(L:List KY) (j:Nat),(ixV r L j= -1∧lH r L=L)∨∃i,i<L.length∧ixV r L j=((j+i:Nat):Int)∧lH r (L.take (i+1))=L.take i
 |[],j=> .inl ⟨rfl,rfl⟩
 |k::t,j=>by
  by_cases h:k.role=r
  ·have e:ixV r (k::t) j=ixV r t (j+1):=by rw[ixV,J4 h]
   rcases aOe r t (j+1)with⟨h1,h2⟩|⟨i,h1,h2,h3⟩
   ·refine .inl ⟨e.trans h1,?_⟩
    unfold lH at h2⊢
    rw[List.filter_cons,J4 (by simpa using h),h2]
   refine .inr ⟨i+1,by simpa using h1,e.trans (by rw[h2];congr 1;omega),?_⟩
   unfold lH at h3⊢
   rw[U0,List.filter_cons,J4 (by simpa using h),h3,U0]
  refine .inr ⟨0,by simp,by rw[ixV,J3 h];simp,?_⟩
  simp[lH,h]
noncomputable def bJk (k:KY) (hp:H) (nx:Nat):AO→Option (AV×H×Nat)
 | .cells [.i r] _=>some (.b (!decide (k.role=r)),hp,nx+20)
 |_=>none
noncomputable def bAa:List AV→H→Nat→Option (AV×H×Nat)
 |[.agg xs,.op b 0],hp,nx=>aK (zT xs) fun k=>aK (hp b) (bJk k hp nx)
 |_,_,_=>none
theorem bWj (xs:List AV) (b:Nat) (hp:H) (nx:Nat):bAa [.agg xs,.op b 0] hp nx=aK (zT xs) fun k=>aK (hp b) (bJk k hp nx):=(rfl)
theorem cKw (k:KY) (hp:H) (nx:Nat) (r:Int) (mt:Bool):bJk k hp nx (.cells [.i r] mt)=some (.b (!decide (k.role=r)),hp,nx+20):=(rfl)
attribute [go_sem] bWj cKw sM
theorem bJj {k:KY} {hp:H} {nx:Nat} {o:AO} {z:AV×H×Nat} (h:bJk k hp nx o=some z): ∃r mt,o=.cells [.i r] mt∧(.b (!decide (k.role=r)),hp,nx+20)=z:=by
 unfold bJk at h
 split at h
 ·rename_i r mt;exact⟨r,mt,rfl,J0 h⟩
 cases h
theorem cKv:cQ Tryz.prog GLh 46 bAa:=by
 refine gF Tryz.func46 (aT rfl) ?_
 intro args hp nx r hp' nx' hg
 unfold bAa at hg
 split at hg
 ·rename_i xs b
  replace hg:=aJ hg;obtain⟨k,hk,hg⟩:=hg
  have:=aOb hk;subst this
  replace hg:=aJ hg;obtain⟨o,ho,hg⟩:=hg
  obtain⟨r,mt,rfl,e⟩:=bJj hg
  simp only[Prod.mk.injEq]at e;obtain⟨rfl,rfl,rfl⟩:=e
  refine⟨J1 rfl,by omega,fun hnone=>?_⟩
  have hlt: ∀k o,hp k=some o→k<nx:=fun k o hk=>lI hnone hk
  have hb:=hlt _ _ ho
  refine aA rfl (bA [1,2] rfl rfl rfl fun K hK=>?_)
  simp(disch:=omega) only[Tryz.f46,go_sem,↓reduceIte]
  refine hK _ ?_
  refine aB (aA rfl (bA [3] rfl rfl rfl fun K hK=>?_))
  simp(disch:=omega) only[Tryz.f46,go_sem,↓reduceIte,ho,kyC,J8,J7,J9]
  refine hK _ ?_
  refine aB (aS rfl ?_)
  refine⟨rfl,fun j o h=>?_,by simp only;omega⟩
  have:=hlt j o h
  simp(disch:=omega) only[aV,bY,↓reduceIte]
  exact h
 cases hg
theorem cFc:bX Tryz.prog GLh 46 (.heap bAa):=⟨⟨_,Tryz.func46,rfl,rfl⟩,cKv⟩
noncomputable def bMm (L:List KY) (hp:H) (nx:Nat):AO→Option (AV×H×Nat)
 | .cells [.i r] _=>some (.i (ixV r L 0),hp,nx+40+60*L.length)
 |_=>none
noncomputable def ixO (n b:Nat) (hp:H) (nx:Nat):AO→Option (AV×H×Nat)
 | .cells xs _=>aK (nM xs) fun L=>aN (L.length=n∧n≤1000) (aK (hp b) (bMm L hp nx))
 |_=>none
noncomputable def ixG:List AV→H→Nat→Option (AV×H×Nat)
 |[.os s 0 n 15 _,.fn 46 [.op b 0]],hp,nx=>aK (hp s) (ixO n b hp nx)
 |[.v (.slice none 0 0),.fn 46 [.op _ 0]],hp,nx=>some (.i (-1),hp,nx+40)
 |_,_,_=>none
theorem cNe (s n b:Nat) (g:Bool) (hp:H) (nx:Nat):ixG [.os s 0 n 15 g,.fn 46 [.op b 0]] hp nx=aK (hp s) (ixO n b hp nx):=(rfl)
theorem bYp (b:Nat) (hp:H) (nx:Nat):ixG [.v (.slice none 0 0),.fn 46 [.op b 0]] hp nx=some (.i (-1),hp,nx+40):=(rfl)
theorem cFt (n b:Nat) (hp:H) (nx:Nat) (xs:List AV) (mt:Bool):ixO n b hp nx (.cells xs mt)=aK (nM xs) fun L=>aN (L.length=n∧n≤1000) (aK (hp b) (bMm L hp nx)):=(rfl)
theorem cNd (L:List KY) (hp:H) (nx:Nat) (r:Int) (mt:Bool):bMm L hp nx (.cells [.i r] mt)=some (.i (ixV r L 0),hp,nx+40+60*L.length):=(rfl)
attribute [go_sem] cNe bYp cFt cNd
theorem bMl {L:List KY} {hp:H} {nx:Nat} {o:AO} {z:AV×H×Nat} (h:bMm L hp nx o=some z): ∃r mt,o=.cells [.i r] mt∧(.i (ixV r L 0),hp,nx+40+60*L.length)=z:=by
 unfold bMm at h
 split at h
 ·rename_i r mt;exact⟨r,mt,rfl,J0 h⟩
 cases h
set_option maxHeartbeats 1000000 in
theorem cYi:cQ Tryz.prog GLh 56 ixG:=by
 refine gF Tryz.func56 (aT rfl) ?_
 intro args hp nx r hp' nx' hg
 unfold ixG at hg
 split at hg
 ·rename_i s n gg b
  replace hg:=aJ hg;obtain⟨o,ho,hg⟩:=hg
  cases o with
  |mapo es mt=>cases hg
  |cells xs mt=>
  rw[cFt]at hg
  replace hg:=aJ hg;obtain⟨L,hL,hg⟩:=hg
  have:=lS hL;subst this
  replace hg:=aP hg;obtain⟨⟨hn,hbig⟩,hg⟩:=hg
  replace hg:=aJ hg;obtain⟨o2,ho2,hg⟩:=hg
  obtain⟨r,mt2,rfl,e⟩:=bMl hg
  simp only[Prod.mk.injEq]at e;obtain⟨rfl,rfl,rfl⟩:=e
  refine⟨J1 rfl,by omega,fun hnone=>?_⟩
  have hlt: ∀k o,hp k=some o→k<nx:=fun k o hk=>lI hnone hk
  have hb:=hlt _ _ ho2
  have hs:=hlt _ _ ho
  have hkl:=iJ L
  refine aA rfl (bA [0,1] rfl rfl rfl fun K hK=>?_)
  simp(disch:=omega) only[Tryz.f56,go_sem,↓reduceIte]
  refine hK _ ?_
  refine aB (aA rfl (aA rfl (bA [0,1,7,8] rfl rfl rfl fun K hK=>?_)))
  simp(disch:=omega) only[Tryz.f56,go_sem,↓reduceIte]
  refine hK _ ?_
  refine aB (aR 0 rfl rfl ?_)
  refine bR (fun g:Nat=> {fr:=[(0,.os s 0 n 15 gg),(1,.fn 46 [.op b 0]),(7,.i n),(8,.i g)],hp:=hp,nx:=0,cx:=nx+30+50*g}) (fun g=>g≤n∧ixV r L 0=ixV r (L.drop g) g) (fun g=>n-g) rfl ⟨0,⟨Nat.zero_le _,rfl⟩,⟨fun _=> .inr rfl,fun j o h=>h,by simp only;omega⟩⟩ ?_
  rintro g ⟨hg1,hg2⟩ n0
  simp only at hg1 hg2⊢
  refine aA rfl (bA [9,0,1,7,8] rfl rfl rfl fun K hK=>?_)
  simp(disch:=omega) only[Tryz.f56,go_sem,↓reduceIte]
  refine hK _ ?_
  refine aB (aA rfl (aW (.tmp 9) rfl rfl rfl (fun h=>?_) (fun h=>?_)))
  ·refine aI rfl ?_
   have hgl:g<L.length:=by omega
   have hst:=bMk r L g hgl
   have hrow:=lC L g hgl
   have hdl:15≤(List.drop (15*g) (jQ L)).length:=by rw[List.length_drop];omega
   have e15:g*15=15*g:=by omega
   refine aQ rfl (aB (aA rfl (aR 1 rfl rfl (aA rfl (bA [0,1,5,7,8] rfl rfl rfl fun K hK=>?_)))))
   simp(disch:=omega) only[Tryz.f56,go_sem,↓reduceIte]
   refine hK _ ?_
   refine aB (aA rfl (aC (Γ:=bC [(46,.heap bAa)]) [16,0,1,5,7,8] (aH cFc aO) rfl rfl rfl (fun K hK=>?_)))
   simp(disch:=omega) only[Tryz.f56,go_sem,↓reduceIte,ho,ho2,hrow,hdl,e15]
   refine hK _ ?_
   refine aB (xF (.tmp 16) rfl rfl rfl (fun h=>?_) (fun h=>?_))
   ·refine aI rfl ?_
    rw[J3 h]at hst
    refine aA rfl (bA [4] rfl rfl rfl fun K hK=>?_)
    simp(disch:=omega) only[Tryz.f56,go_sem,↓reduceIte]
    refine hK _ ?_
    refine aB (aS rfl (bN (bI (dF (bN (bI ?_))))))
    exact⟨by rw[hg2,hst];rfl,fun j o h=>h,by simp only;omega⟩
   refine aI rfl ?_
   rw[J4 h]at hst
   refine aQ rfl (bU (aB (bA [0,1,7,8] rfl rfl rfl fun K hK=>?_)))
   simp(disch:=omega) only[Tryz.f56,go_sem,↓reduceIte]
   refine hK _ ?_
   refine bT ?_
   exact⟨g+1,⟨by omega,by rw[hg2,hst]⟩,by omega,⟨fun _=> .inr (by simp only[Int.natCast_add,Int.natCast_one]),fun j o h=>h,by simp only;omega⟩⟩
  refine aI rfl (bF 0 rfl rfl (aY (aZ (bE (aB (aA rfl ?_))))))
  obtain rfl:g=L.length:=by omega
  rw[List.drop_length]at hg2
  refine bA [4] rfl rfl rfl fun K hK=>?_
  simp(disch:=omega) only[Tryz.f56,go_sem,↓reduceIte]
  refine hK _ ?_
  refine aB (aS rfl ?_)
  exact⟨by rw[hg2];rfl,fun j o h=>h,by simp only;omega⟩
 ·rename_i b
  simp only[Option.some.injEq,Prod.mk.injEq]at hg;obtain⟨rfl,rfl,rfl⟩:=hg
  refine⟨J1 rfl,by omega,fun hnone=>?_⟩
  refine aA rfl (bA [0,1] rfl rfl rfl fun K hK=>?_)
  simp(disch:=omega) only[Tryz.f56,go_sem,↓reduceIte]
  refine hK _ ?_
  refine aB (aA rfl (aA rfl (bA [0,1,7,8] rfl rfl rfl fun K hK=>?_)))
  simp(disch:=omega) only[Tryz.f56,go_sem,↓reduceIte]
  refine hK _ ?_
  refine aB (aR 0 rfl rfl ?_)
  refine bR (fun u:Unit=> {fr:=[(0,.v (.slice none 0 0)),(1,.fn 46 [.op b 0]),(7,.i 0),(8,.i 0)],hp:=hp,nx:=0,cx:=nx+30}) (fun u=>True) (fun u=>0) rfl ⟨(),trivial,⟨fun _=> .inr rfl,fun j o h=>h,by simp only;omega⟩⟩ ?_
  rintro u hu n0
  simp only at hu⊢
  refine aA rfl (bA [9,0,1,7,8] rfl rfl rfl fun K hK=>?_)
  simp(disch:=omega) only[Tryz.f56,go_sem,↓reduceIte]
  refine hK _ ?_
  refine aB (aA rfl (eC (.tmp 9) rfl rfl rfl (fun h=>?_) (fun h=>?_)))
  ·refine aI rfl ?_
   cases h
  refine aI rfl (bF 0 rfl rfl (aY (aZ (bE (aB (aA rfl (bA [4] rfl rfl rfl fun K hK=>?_)))))))
  simp(disch:=omega) only[Tryz.f56,go_sem,↓reduceIte]
  refine hK _ ?_
  refine aB (aS rfl ?_)
  exact⟨rfl,fun j o h=>h,by simp only;omega⟩
 cases hg
theorem cFb:bX Tryz.prog GLh 56 (.heap ixG):=⟨⟨_,Tryz.func56,rfl,rfl⟩,cYi⟩
end Go.AX

namespace Go.AX
open Go Go.Proofs
set_option maxRecDepth 8000
theorem cMy (k:KY):zT [.w32 k.id,.i k.role,.i k.st,.w8 k.seed.a,.w8 k.seed.b,.w8 k.seed.c,.w8 k.seed.d,.w8 k.seed.e,.w8 k.seed.f,.w8 k.seed.g,.w8 k.seed.h,.i k.h,.w32 k.next,.w32 k.since,.w32 k.seen]=some k:=sM k
attribute [go_sem] cMy
theorem cUl (zs:List AV):rep 0 zs=[]:=(rfl)
theorem cYl:oQ Tryz.prog 45=true:=by kernel_rfl
def bOi:List AV→H→Nat→Option (AV×H×Nat)
 |[.sl n xs],hp,nx=>aN (0<n∧n≤1000∧xs.length=n*15∧gH xs=true) (some (.os (nx+5) 0 n 15 true,upd hp (nx+5) (.cells xs true),nx+20))
 |_,_,_=>none
theorem cBg (n:Nat) (xs:List AV) (hp:H) (nx:Nat):bOi [.sl n xs] hp nx=aN (0<n∧n≤1000∧xs.length=n*15∧gH xs=true) (some (.os (nx+5) 0 n 15 true,upd hp (nx+5) (.cells xs true),nx+20)):=(rfl)
attribute [go_sem] cBg
theorem cQd:cQ Tryz.prog GLh 45 bOi:=by
 refine gF Tryz.func45 (aT rfl) ?_
 intro args hp nx r hp' nx' hg
 unfold bOi at hg
 split at hg
 ·rename_i n xs
  replace hg:=aP hg;obtain⟨⟨h0,h1,hlen,hno⟩,hg⟩:=hg
  simp only[Option.some.injEq,Prod.mk.injEq]at hg;obtain⟨rfl,rfl,rfl⟩:=hg
  refine⟨J1 rfl,by omega,fun hnone=>?_⟩
  have hlt: ∀k o,hp k=some o→k<nx:=fun k o hk=>lI hnone hk
  have ht:xs.take (n*15)=xs:=List.take_of_length_le (by omega)
  refine aA rfl (bA [0] rfl rfl rfl fun K hK=>?_)
  simp(disch:=omega) only[Tryz.f45,go_sem,↓reduceIte]
  refine hK _ ?_
  refine aB (aA rfl (aA rfl (bA [4,0] rfl rfl rfl fun K hK=>?_)))
  simp(disch:=omega) only[Tryz.f45,go_sem,↓reduceIte,cYl,h0,true_and]
  refine hK _ ?_
  refine aB (eC (.tmp 4) rfl rfl rfl (fun h=>?_) (fun h=>?_))
  ·refine aI rfl ?_
   cases h
  refine aI rfl (aQ rfl (aB (aA rfl (bA [2] rfl rfl rfl fun K hK=>?_))))
  simp(disch:=omega) only[Tryz.f45,go_sem,↓reduceIte,cUl,List.length_nil,List.nil_append,hlen,J9,hno,Nat.zero_add]
  refine hK _ ?_
  refine aB (aS rfl ?_)
  refine⟨rfl,fun j o hj=>?_,by simp only;omega⟩
  simp only[bJ,eV]at hj⊢
  by_cases e:j=nx+5
  ·rw[J4 e]at hj;rw[J4 (by omega)];exact hj
  rw[J3 e]at hj
  have:=hlt j o hj
  rw[J3 (by omega),J3 (by omega),J3 (by omega)];exact hj
 cases hg
theorem cVv:bX Tryz.prog GLh 45 (.heap bOi):=⟨⟨_,Tryz.func45,rfl,rfl⟩,cQd⟩
noncomputable def bBz (s:Nat) (L:List KY) (hp:H) (nx:Nat):AO→Option (AV×H×Nat)
 | .cells [.i r] _=>some (.os s 0 (lH r L).length 15 true,upd hp s (.cells (jQ (dfL r L)) true),nx+200+200*L.length)
 |_=>none
noncomputable def dfO (s n b:Nat) (hp:H) (nx:Nat):AO→Option (AV×H×Nat)
 | .cells xs true=>aK (nM xs) fun L=>aN (L.length=n∧n≤1000∧b≠s) (aK (hp b) (bBz s L hp nx))
 |_=>none
noncomputable def dfG:List AV→H→Nat→Option (AV×H×Nat)
 |[.os s 0 n 15 true,.fn 46 [.op b 0]],hp,nx=>aK (hp s) (dfO s n b hp nx)
 |[.v (.slice none 0 0),.fn 46 [.op _ 0]],hp,nx=>some (.v (.slice none 0 0),hp,nx+200)
 |_,_,_=>none
theorem cPv (s n b:Nat) (hp:H) (nx:Nat):dfG [.os s 0 n 15 true,.fn 46 [.op b 0]] hp nx=aK (hp s) (dfO s n b hp nx):=(rfl)
theorem dAz (s n b:Nat) (hp:H) (nx:Nat) (xs:List AV):dfO s n b hp nx (.cells xs true)=aK (nM xs) fun L=>aN (L.length=n∧n≤1000∧b≠s) (aK (hp b) (bBz s L hp nx)):=(rfl)
theorem cPu (s:Nat) (L:List KY) (hp:H) (nx:Nat) (r:Int) (mt:Bool):bBz s L hp nx (.cells [.i r] mt)=some (.os s 0 (lH r L).length 15 true,upd hp s (.cells (jQ (dfL r L)) true),nx+200+200*L.length):=(rfl)
attribute [go_sem] cPv dAz cPu
theorem bOc {s:Nat} {L:List KY} {hp:H} {nx:Nat} {o:AO} {z:AV×H×Nat} (h:bBz s L hp nx o=some z): ∃r mt,o=.cells [.i r] mt∧(.os s 0 (lH r L).length 15 true,upd hp s (.cells (jQ (dfL r L)) true),nx+200+200*L.length)=z:=by
 unfold bBz at h
 split at h
 ·rename_i r mt;exact⟨r,mt,rfl,J0 h⟩
 cases h
theorem cAw {s n b:Nat} {hp:H} {nx:Nat} {o:AO} {z:AV×H×Nat} (h:dfO s n b hp nx o=some z): ∃L,o=.cells (jQ L) true∧(L.length=n∧n≤1000∧b≠s)∧aK (hp b) (bBz s L hp nx)=some z:=by
 unfold dfO at h
 split at h
 ·replace h:=aJ h;obtain⟨L,hL,h⟩:=h
  have:=lS hL;subst this
  replace h:=aP h;obtain⟨h1,h⟩:=h
  exact⟨L,rfl,h1,h⟩
 cases h
theorem cAx {r:Int} {L:List KY} (h:lH r L=L):dfL r L=L:=by rw[dfL,h,Nat.sub_self];exact List.append_nil _
set_option maxHeartbeats 1000000 in
theorem dAy:cQ Tryz.prog GLh 44 dfG:=by
 refine gF Tryz.func44 (aT rfl) ?_
 intro args hp nx r hp' nx' hg
 unfold dfG at hg
 split at hg
 ·rename_i s n b
  replace hg:=aJ hg;obtain⟨o,ho,hg⟩:=hg
  obtain⟨L,rfl,⟨hn,hbig,hbs⟩,hg⟩:=cAw hg
  replace hg:=aJ hg;obtain⟨o2,ho2,hg⟩:=hg
  obtain⟨r,mt2,rfl,e⟩:=bOc hg
  simp only[Prod.mk.injEq]at e;obtain⟨rfl,rfl,rfl⟩:=e
  refine⟨J1 rfl,by omega,fun hnone=>?_⟩
  have hlt: ∀k o,hp k=some o→k<nx:=fun k o hk=>lI hnone hk
  have hb:=hlt _ _ ho2
  have hs:=hlt _ _ ho
  have hkl:=iJ L
  have hrl:=jP r L
  refine aA rfl (bA [0,1] rfl rfl rfl fun K hK=>?_)
  simp(disch:=omega) only[Tryz.f44,go_sem,↓reduceIte]
  refine hK _ ?_
  refine aB (aA rfl (aC (Γ:=bC [(56,.heap ixG)]) [0,1,5] (aH cFb aO) rfl rfl rfl (fun K hK=>?_)))
  simp(disch:=omega) only[Tryz.f44,go_sem,↓reduceIte,ho,ho2,hn,hbig]
  refine hK _ ?_
  refine aB ?_
  rcases aOe r L 0 with⟨i1,i2⟩|⟨i,hi,i1,i2⟩
  ·rw[i1]
   refine aA rfl (aA rfl (bA [12,0,1,5] rfl rfl rfl fun K hK=>?_))
   simp(disch:=omega) only[Tryz.f44,go_sem,↓reduceIte]
   refine hK _ ?_
   refine aB (eC (.tmp 12) rfl rfl rfl (fun h=>?_) (fun h=>?_))
   ·refine aI rfl (aA rfl (bA [4] rfl rfl rfl fun K hK=>?_))
    simp(disch:=omega) only[Tryz.f44,go_sem,↓reduceIte]
    refine hK _ ?_
    refine aB (aS rfl (bI ?_))
    rw[i2,cAx i2,hn]
    refine⟨rfl,fun j o h=>?_,by simp only;omega⟩
    simp only[bJ]at h
    split at h
    ·rename_i e;subst e;show hp j=_;rw[ho];exact h
    exact h
   refine aI rfl ?_
   cases h
  rw[Nat.zero_add]at i1
  rw[i1]
  refine aA rfl (aA rfl (bA [12,0,1,5] rfl rfl rfl fun K hK=>?_))
  simp(disch:=omega) only[Tryz.f44,go_sem,↓reduceIte]
  refine hK _ ?_
  refine aB (eC (.tmp 12) rfl rfl rfl (fun h=>?_) (fun h=>?_))
  ·refine aI rfl ?_
   cases h
  refine aI rfl ?_
  have hI:(lH r (L.take (i+1))).length=i:=by rw[i2,List.length_take];omega
  have hrd:oN r L (i+1)=L:=by rw[oN,hI,i2];exact List.take_append_drop _ _
  refine aQ rfl (aB (aA rfl (aA rfl (bA [0,1,5,6] rfl rfl rfl fun K hK=>?_))))
  simp(disch:=omega) only[Tryz.f44,go_sem,↓reduceIte]
  refine hK _ ?_
  refine aB (aR 0 rfl rfl ?_)
  refine bR (fun p:KC=> {fr:=[(0,.os s 0 n 15 true),(1,.fn 46 [.op b 0]),(5,.i (lH r (L.take p.k)).length),(6,.i p.k)],hp:=upd hp s (.cells (jQ (oN r L p.k)) true),nx:=0,cx:=p.c}) (fun p=>p.k≤n∧p.c≤nx+100+60*n+60*p.k∧nx≤p.c) (fun p=>n-p.k) rfl ⟨⟨i+1,_⟩,⟨by simp only;omega,by simp only;omega,by simp only;omega⟩,⟨fun x=> .inr (by simp only[hI,Int.natCast_add,Int.natCast_one]),fun j o h=>by {simp only[hrd,bJ]at h;split at h; · {rename_i e;subst e;show hp j=_;rw[ho];exact h}; · exact h},U3 _⟩⟩ ?_
  rintro⟨k,c⟩ ⟨hk,hc,hc2⟩ n0
  simp only at hk hc hc2⊢
  refine aA rfl (aA rfl (bA [19,0,1,5,6] rfl rfl rfl fun K hK=>?_))
  simp(disch:=omega) only[Tryz.f44,go_sem,↓reduceIte]
  refine hK _ ?_
  refine aB (aW (.tmp 19) rfl rfl rfl (fun h=>?_) (fun h=>?_))
  ·refine aI rfl ?_
   have hkL:k<L.length:=by omega
   have hrw:=aMm r L k (by omega)
   have hat:=bUm r L k
   have hrow:=lC (oN r L k) k (by omega)
   rw[hat]at hrow
   have hkr:=iJ (oN r L k)
   have hdl:15≤(List.drop (15*k) (jQ (oN r L k))).length:=by rw[List.length_drop];omega
   have e15:k*15=15*k:=by omega
   have hlr:=nZ r L k
   refine aQ rfl (aB (aA rfl (aR 1 rfl rfl (aA rfl (bA [0,1,5,6,7] rfl rfl rfl fun K hK=>?_)))))
   simp(disch:=omega) only[Tryz.f44,go_sem,↓reduceIte,hrow,hdl,e15]
   refine hK _ ?_
   refine aB (aA rfl (aC (Γ:=bC [(46,.heap bAa)]) [29,0,1,5,6,7] (aH cFc aO) rfl rfl rfl (fun K hK=>?_)))
   simp(disch:=omega) only[Tryz.f44,go_sem,↓reduceIte,ho2,kyC,Bool.not_not,U0,U1,J9]
   refine hK _ ?_
   refine aB (aW (.tmp 29) rfl rfl rfl (fun h=>?_) (fun h=>?_))
   ·refine aI rfl ?_
    have hnx:=tE r L k hkL
    rw[J4 h]at hnx
    have hnl:(lH r (L.take (k+1))).length=(lH r (L.take k)).length+1:=by rw[hnx,List.length_append];rfl
    have hput:dV (jQ (oN r L k)) (15*(lH r (L.take k)).length) (kyC (kyA L k))=jQ (oN r L (k+1)):=by
     rw[cIi r L k hkL h]
     exact aWz (oN r L k) _ (kyA L k) (by omega)
    have e16:(lH r (L.take k)).length*15=15*(lH r (L.take k)).length:=by omega
    refine aA rfl (bA [0,1,5,6] rfl rfl rfl fun K hK=>?_)
    simp(disch:=omega) only[Tryz.f44,go_sem,↓reduceIte,hkr,e16,U0,U1,J9]
    refine hK _ ?_
    refine aB (bA [0,1,5,6] rfl rfl rfl fun K hK=>?_)
    simp(disch:=omega) only[Tryz.f44,go_sem,↓reduceIte]
    refine hK _ ?_
    refine bU (aB (bA [0,1,5,6] rfl rfl rfl fun K hK=>?_))
    simp(disch:=omega) only[Tryz.f44,go_sem,↓reduceIte]
    refine hK _ ?_
    refine bT ?_
    refine⟨⟨k+1,_⟩,⟨by simp only;omega,by simp only;omega,by simp only;omega⟩,by simp only;omega,⟨fun x=> .inr (by simp only[hnl,Int.natCast_add,Int.natCast_one]),fun j o hj=>?_,U3 _⟩⟩
    simp only[bJ]at hj⊢
    by_cases e:j=s
    ·rw[J4 e]at hj⊢;rw[←hput]at hj;exact hj
    rw[J3 e]at hj⊢;have:=hlt j o hj;rw[J3 (by omega),J3 e];exact hj
   refine aI rfl ?_
   have hnl:=cIj r L k hkL h
   have hnx:=tE r L k hkL
   rw[J3 h,List.append_nil]at hnx
   refine aQ rfl (bU (aB (bA [0,1,5,6] rfl rfl rfl fun K hK=>?_)))
   simp(disch:=omega) only[Tryz.f44,go_sem,↓reduceIte]
   refine hK _ ?_
   refine bT ?_
   refine⟨⟨k+1,_⟩,⟨by simp only;omega,by simp only;omega,by simp only;omega⟩,by simp only;omega,⟨fun x=> .inr (by simp only[hnx,Int.natCast_add,Int.natCast_one]),fun j o hj=>?_,U3 _⟩⟩
   simp only[bJ]at hj⊢
   by_cases e:j=s
   ·rw[J4 e]at hj;rw[J3 (by omega),J4 e,←hnl];exact hj
   rw[J3 e]at hj;have:=hlt j o hj;rw[J3 (by omega),J3 e];exact hj
  refine aI rfl (bF 0 rfl rfl (aY (aZ (bE (aB (aA rfl ?_))))))
  obtain rfl:k=n:=by omega
  subst hn
  have hclr:=bYd r L
  have hle:15*(lH r L).length+15*(L.length-(lH r L).length)≤(jQ (oN r L L.length)).length:=by
   rw[iJ,aMm r L _ (U3 _)];omega
  have e17:(lH r L).length*15=15*(lH r L).length:=by omega
  have e18:(L.length-(lH r L).length)*15=15*(L.length-(lH r L).length):=by omega
  have hz:([.w32 0#32,.i 0,.i 0,.w8 0#8,.w8 0#8,.w8 0#8,.w8 0#8,.w8 0#8,.w8 0#8,.w8 0#8,.w8 0#8,.i 0,.w32 0#32,.w32 0#32,.w32 0#32]:List AV)=kyC ky0:=rfl
  rw[List.take_length]
  refine bA [0,5] rfl rfl rfl fun K hK=>?_
  simp(disch:=omega) only[Tryz.f44,go_sem,↓reduceIte,e17,e18,hle,hz,hclr]
  refine hK _ ?_
  refine aB (aA rfl (bA [4] rfl rfl rfl fun K hK=>?_))
  simp(disch:=omega) only[Tryz.f44,go_sem,↓reduceIte]
  refine hK _ ?_
  refine aB (aS rfl ?_)
  refine⟨rfl,fun j o hj=>?_,by simp only;omega⟩
  simp only[bJ]at hj⊢
  by_cases e:j=s
  ·rw[J4 e]at hj⊢;exact hj
  rw[J3 e]at hj⊢;exact hj
 ·simp only[Option.some.injEq,Prod.mk.injEq]at hg;obtain⟨rfl,rfl,rfl⟩:=hg
  refine⟨J1 rfl,by omega,fun hnone=>?_⟩
  refine aA rfl (bA [0,1] rfl rfl rfl fun K hK=>?_)
  simp(disch:=omega) only[Tryz.f44,go_sem,↓reduceIte]
  refine hK _ ?_
  refine aB (aA rfl (aC (Γ:=bC [(56,.heap ixG)]) [0,1,5] (aH cFb aO) rfl rfl rfl (fun K hK=>?_)))
  simp(disch:=omega) only[Tryz.f44,go_sem,↓reduceIte]
  refine hK _ ?_
  refine aB (aA rfl (aA rfl (bA [12,0,1,5] rfl rfl rfl fun K hK=>?_)))
  simp(disch:=omega) only[Tryz.f44,go_sem,↓reduceIte]
  refine hK _ ?_
  refine aB (eC (.tmp 12) rfl rfl rfl (fun h=>?_) (fun h=>?_))
  ·refine aI rfl (aA rfl (bA [4] rfl rfl rfl fun K hK=>?_))
   simp(disch:=omega) only[Tryz.f44,go_sem,↓reduceIte]
   refine hK _ ?_
   refine aB (aS rfl (bI ?_))
   exact⟨rfl,fun j o h=>h,by simp only;omega⟩
  refine aI rfl ?_
  cases h
 cases hg
theorem cVw:bX Tryz.prog GLh 44 (.heap dfG):=⟨⟨_,Tryz.func44,rfl,rfl⟩,dAy⟩
noncomputable def ofG:List AV→Option AV
 |[.sl n xs,.i r]=>aK (nM xs) fun L=>aN (L.length=n∧0<n∧n≤1000) (some (.sl (lH r L).length (jQ (lH r L))))
 |_=>none
theorem cKu (n:Nat) (xs:List AV) (r:Int):ofG [.sl n xs,.i r]=aK (nM xs) fun L=>aN (L.length=n∧0<n∧n≤1000) (some (.sl (lH r L).length (jQ (lH r L)))):=(rfl)
attribute [go_sem] cKu
theorem bKb (xs ys:List AV) (h:gH xs=true) (h2:gH ys=true):gH (xs++ys)=true:=by
 unfold gH at h h2⊢
 rw[List.any_append]
 cases ha:xs.any wG<;>cases hb:ys.any wG<;>simp_all
theorem aNf: ∀L:List KY,gH (jQ L)=true
 |[]=>rfl
 |_::t=>bKb _ _ rfl (aNf t)
set_option maxHeartbeats 1000000 in
theorem cWt:cL Tryz.prog GLh 29 ofG:=by
 refine cC Tryz.func29 (aT rfl) ?_
 intro args r hg
 unfold ofG at hg
 split at hg
 ·rename_i n xs role
  replace hg:=aJ hg;obtain⟨L,hL,hg⟩:=hg
  have:=lS hL;subst this
  replace hg:=aP hg;obtain⟨⟨hn,h0,hbig⟩,hg⟩:=hg
  obtain rfl:=J0 hg
  refine⟨J1 rfl,fun nx=>?_⟩
  have hno:=aNf L
  have hkl:(jQ L).length=n*15:=by rw[iJ];omega
  have hrl:=jP role L
  have hdl:(jQ (dfL role L)).length=15*L.length:=by rw[iJ,dfL,List.length_append,List.length_replicate];omega
  have htk:(jQ (dfL role L)).take ((lH role L).length*15)=jQ (lH role L):=by
   rw[dfL,lD]
   exact List.take_left' (by rw[iJ];omega)
  refine aA rfl (bA [0,3] rfl rfl rfl fun K hK=>?_)
  simp(disch:=omega) only[Tryz.f29,go_sem,↓reduceIte]
  refine hK _ ?_
  refine aB (aA rfl (aC (Γ:=bC [(45,.heap bOi),(44,.heap dfG)]) [4] (aH cVv (aH cVw aO)) rfl rfl rfl (fun K hK=>?_)))
  simp(disch:=omega) only[Tryz.f29,go_sem,↓reduceIte,hno,hkl,h0,hbig,hn]
  refine hK _ ?_
  refine aB (pS 4 (nx+2+5+5) 0 _ 15 rfl (by rw[bJ,J4 rfl]) (by omega) ?_)
  rw[J9,htk]
  refine aS rfl ?_
  simp(disch:=omega) only[cN,bV,bK,bQ,Tryz.f29,go_sem,↓reduceIte]
 cases hg
theorem aGh:bX Tryz.prog GLh 29 (.pure false ofG):=⟨⟨_,Tryz.func29,rfl,rfl⟩,cWt⟩
end Go.AX

namespace Go.AX
open Go Go.Proofs
set_option maxRecDepth 8000
structure DU where
 id:W32
 st:Int
 w:W32
def duC (x:DU):List AV:=[.w32 x.id,.i x.st,.w32 x.w]
def jL:List DU→List AV
 |[]=>[]
 |x::r=>duC x++jL r
theorem nP (l:List DU):(jL l).length=3*l.length:=by
 induction l with
 |nil=>rfl
 |cons k r ih=>rw[jL,List.length_append,ih,List.length_cons];show 3+_=_;omega
theorem wO (l m:List DU):jL (l++m)=jL l++jL m:=by
 induction l with
 |nil=>rfl
 |cons k r ih=>rw[List.cons_append,jL,ih,jL,List.append_assoc]
theorem wN (k:DU):jL [k]=duC k:=by rw[jL,jL,List.append_nil]
open Classical in
def du0:DU:=⟨0#32,0,0#32⟩
def duA (L:List DU) (k:Nat):DU:=L.getD k du0
theorem aOw: ∀(L:List DU) (k:Nat),k<L.length→List.drop (3*k) (jL L)=duC (duA L k)++jL (L.drop (k+1))
 |[],k,h=>by simp at h
 |x::r,0,_=>by simp[jL,duA]
 |x::r,k+1,h=>by
  have e:3*(k+1)=3+3*k:=by omega
  have h3:(duC x).length=3:=rfl
  rw[jL,e,←List.drop_drop,List.drop_left' h3,aOw r k (by simpa using h)]
  simp[duA]
theorem cAr (L:List DU) (k:Nat) (hk:k<L.length):(List.drop (3*k) (jL L)).take 3=duC (duA L k):=by
 rw[aOw L k hk]
 exact List.take_left' rfl
def sgP (r:Int) (k:KY):Bool:=decide (k.st=1)||(decide (r=1)&&decide (k.st=2))
def sgL (r:Int) (L:List KY):List W32:=((lH r L).filter (sgP r)).map (·.id)
theorem xZ {α β:Type} (p:α→Bool) (f:α→β) (R:List α) (k:Nat) (hk:k<R.length):((R.take (k+1)).filter p).map f=((R.take k).filter p).map f++if p R[k]=true then[f R[k]]else[]:=by
 rw[List.take_add_one,List.getElem?_eq_getElem hk,List.filter_append,List.map_append]
 congr 1
 simp only[Option.toList_some,List.filter_cons,List.filter_nil]
 split<;>rfl
theorem kJ (L:List KY) (k:Nat) (hk:k<L.length):L[k]=kyA L k:=by simp[kyA,List.getD_eq_getElem?_getD,hk]
noncomputable def sgG:List AV→Option AV
 |[.sl n xs,.i r]=>aK (nM xs) fun L=>aN (L.length=n∧0<n∧n≤1000) (some (.sl (sgL r L).length (c32 (sgL r L))))
 |_=>none
theorem cHu (n:Nat) (xs:List AV) (r:Int):sgG [.sl n xs,.i r]=aK (nM xs) fun L=>aN (L.length=n∧0<n∧n≤1000) (some (.sl (sgL r L).length (c32 (sgL r L)))):=(rfl)
attribute [go_sem] cHu
set_option maxHeartbeats 1000000 in
theorem cTz:cL Tryz.prog GLh 21 sgG:=by
 refine cC Tryz.func21 (aT rfl) ?_
 intro args r hg
 unfold sgG at hg
 split at hg
 ·rename_i n xs role
  replace hg:=aJ hg;obtain⟨L,hL,hg⟩:=hg
  have:=lS hL;subst this
  replace hg:=aP hg;obtain⟨⟨hn,h0,hbig⟩,hg⟩:=hg
  obtain rfl:=J0 hg
  refine⟨J1 rfl,fun nx=>?_⟩
  obtain⟨R,hR⟩: ∃R,lH role L=R:=⟨_,rfl⟩
  have hRl:R.length≤1000:=by have:=jP role L;rw[hR]at this;omega
  have hsg:sgL role L=(R.filter (sgP role)).map (·.id):=by rw[sgL,hR]
  rw[hsg]
  refine aA rfl (bA [0,1] rfl rfl rfl fun K hK=>?_)
  simp(disch:=omega) only[Tryz.f21,go_sem,↓reduceIte]
  refine hK _ ?_
  refine aB (aA rfl (bA [0,1,5] rfl rfl rfl fun K hK=>?_))
  simp(disch:=omega) only[Tryz.f21,go_sem,↓reduceIte]
  refine hK _ ?_
  refine aB (aA rfl (aA rfl (aC (Γ:=bC [(29,.pure false ofG)]) [1,5,10,11,12] (aH aGh aO) rfl rfl rfl (fun K hK=>?_))))
  simp(disch:=omega) only[Tryz.f21,go_sem,↓reduceIte,h0,hbig,hn,hR]
  refine hK _ ?_
  refine aB (iE 5 1 rfl (fF [1,5,10,11,12] ?_))
  simp only[iB,fU,eB,↓reduceIte,Nat.reduceEqDiff]
  refine aR 0 rfl rfl ?_
  refine bR (fun p:KIC=> {fr:=[(1,.i role),(5,.os p.id 0 (((R.take p.k).filter (sgP role)).map (·.id)).length 1 true),(10,.sl R.length (jQ R)),(11,.i R.length),(12,.i p.k)],hp:=upd (fun _=>none) p.id (.cells (c32 (((R.take p.k).filter (sgP role)).map (·.id))) true),nx:=0,cx:=p.c}) (fun p=>p.k≤R.length∧nx≤p.id∧p.id<p.c) (fun p=>R.length-p.k) rfl ⟨⟨0,_,_⟩,⟨Nat.zero_le _,by simp only;omega,by simp only;omega⟩,bD rfl rfl (U3 _)⟩ ?_
  rintro⟨k,id,c⟩ ⟨hk,hid,hc⟩ n0
  simp only at hk hid hc⊢
  refine aA rfl (bA [13,1,5,10,11,12] rfl rfl rfl fun K hK=>?_)
  simp(disch:=omega) only[Tryz.f21,go_sem,↓reduceIte]
  refine hK _ ?_
  refine aB (aA rfl (aW (.tmp 13) rfl rfl rfl (fun h=>?_) (fun h=>?_)))
  ·refine aI rfl ?_
   have hkR:k<R.length:=by omega
   have hrow:=lC R k hkR
   have hkl:=iJ R
   have hdl:15≤(List.drop (15*k) (jQ R)).length:=by rw[List.length_drop];omega
   have e15:k*15=15*k:=by omega
   have hfn:=xZ (sgP role) (·.id) R k hkR
   rw[kJ R k hkR]at hfn
   have hll:(((R.take k).filter (sgP role)).map (·.id)).length≤1000:=by
    rw[List.length_map]
    exact Nat.le_trans (List.length_filter_le _ _) (by rw[List.length_take];omega)
   obtain⟨F,hF⟩: ∃F,((R.take k).filter (sgP role)).map (·.id)=F:=⟨_,rfl⟩
   rw[hF]at hfn hll⊢
   obtain⟨X,hX⟩: ∃X,kyA R k=X:=⟨_,rfl⟩
   rw[hX]at hrow hfn
   refine aQ rfl (aB (aA rfl (aR 1 rfl rfl (aA rfl (bA [1,5,7,10,11,12] rfl rfl rfl fun K hK=>?_)))))
   simp(disch:=omega) only[Tryz.f21,go_sem,↓reduceIte,hrow,hdl,e15]
   refine hK _ ?_
   refine aB ?_
   by_cases h1:X.st=1
   ·have d1:decide (X.st=1)=true:=J5 h1
    have hp:sgP role X=true:=by simp[sgP,h1]
    rw[J4 hp]at hfn
    refine aA rfl (bA [27,1,5,7,10,11,12] rfl rfl rfl fun K hK=>?_)
    simp(disch:=omega) only[Tryz.f21,go_sem,↓reduceIte,d1,kyC,J8,J7,J9]
    refine hK _ ?_
    refine aB (eC (.tmp 27) rfl rfl rfl (fun h=>?_) (fun h=>?_))
    ·refine aI rfl (bA [1,5,10,11,12] rfl rfl rfl fun K hK=>?_)
     simp(disch:=omega) only[Tryz.f21,go_sem,↓reduceIte,J8,U0,U1,J9]
     refine hK _ ?_
     refine bU (aB (bA [1,5,10,11,12] rfl rfl rfl fun K hK=>?_))
     simp(disch:=omega) only[Tryz.f21,go_sem,↓reduceIte]
     refine hK _ ?_
     refine bT ?_
     have hfl:(F++[X.id]).length=F.length+1:=by rw[List.length_append];rfl
     refine⟨⟨k+1,c+1+4+12+4,_⟩,⟨by simp only;omega,by simp only;omega,by simp only;omega⟩,by simp only;omega,⟨fun x=> .inr (by simp only[hfn,hfl,Int.natCast_add,Int.natCast_one]),fun j o hj=>?_,U3 _⟩⟩
     simp only[hfn,bJ]at hj
     simp only[bJ]
     by_cases e:j=c+1+4+12+4
     ·rw[J4 e]at hj⊢;rw[←hj,←tQ];rfl
     rw[J3 e]at hj;cases hj
    refine aI rfl ?_
    cases h
   have d1:decide (X.st=1)=false:=J6 h1
   by_cases h2:role=1
   ·have d2:decide (role=1)=true:=J5 h2
    by_cases h3:X.st=2
    ·have d3:decide (X.st=2)=true:=J5 h3
     have hp:sgP role X=true:=by simp[sgP,h2,h3]
     rw[J4 hp]at hfn
     refine aA rfl (bA [27,1,5,7,10,11,12] rfl rfl rfl fun K hK=>?_)
     simp(disch:=omega) only[Tryz.f21,go_sem,↓reduceIte,d1,d2,d3,beq_self_eq_true,kyC,J8,J7,J9]
     refine hK _ ?_
     refine aB (eC (.tmp 27) rfl rfl rfl (fun h=>?_) (fun h=>?_))
     ·refine aI rfl (bA [1,5,10,11,12] rfl rfl rfl fun K hK=>?_)
      simp(disch:=omega) only[Tryz.f21,go_sem,↓reduceIte,J8,U0,U1,J9]
      refine hK _ ?_
      refine bU (aB (bA [1,5,10,11,12] rfl rfl rfl fun K hK=>?_))
      simp(disch:=omega) only[Tryz.f21,go_sem,↓reduceIte]
      refine hK _ ?_
      refine bT ?_
      have hfl:(F++[X.id]).length=F.length+1:=by rw[List.length_append];rfl
      refine⟨⟨k+1,c+1+4+12+4,_⟩,⟨by simp only;omega,by simp only;omega,by simp only;omega⟩,by simp only;omega,⟨fun x=> .inr (by simp only[hfn,hfl,Int.natCast_add,Int.natCast_one]),fun j o hj=>?_,U3 _⟩⟩
      simp only[hfn,bJ]at hj
      simp only[bJ]
      by_cases e:j=c+1+4+12+4
      ·rw[J4 e]at hj⊢;rw[←hj,←tQ];rfl
      rw[J3 e]at hj;cases hj
     refine aI rfl ?_
     cases h
    have d3:decide (X.st=2)=false:=J6 h3
    have hp:sgP role X=false:=by simp[sgP,h1,h3]
    rw[J3 (by rw[hp];decide),List.append_nil]at hfn
    refine aA rfl (bA [27,1,5,7,10,11,12] rfl rfl rfl fun K hK=>?_)
    simp(disch:=omega) only[Tryz.f21,go_sem,↓reduceIte,d1,d2,d3,beq_self_eq_true,kyC,J8,J7,J9]
    refine hK _ ?_
    refine aB (eC (.tmp 27) rfl rfl rfl (fun h=>?_) (fun h=>?_))
    ·refine aI rfl ?_
     cases h
    refine aI rfl (aQ rfl (bU (aB (bA [1,5,10,11,12] rfl rfl rfl fun K hK=>?_))))
    simp(disch:=omega) only[Tryz.f21,go_sem,↓reduceIte]
    refine hK _ ?_
    refine bT ?_
    refine⟨⟨k+1,id,_⟩,⟨by simp only;omega,by simp only;omega,by simp only;omega⟩,by simp only;omega,⟨fun x=> .inr (by simp only[hfn,Int.natCast_add,Int.natCast_one]),fun j o hj=>?_,U3 _⟩⟩
    simp only[hfn,bJ]at hj
    simp only[bJ]
    by_cases e:j=id
    ·rw[J4 e]at hj;rw[J3 (by omega),J4 e];exact hj
    rw[J3 e]at hj;cases hj
   have d2:decide (role=1)=false:=J6 h2
   have hp:sgP role X=false:=by simp[sgP,h1,h2]
   rw[J3 (by rw[hp];decide),List.append_nil]at hfn
   refine aA rfl (bA [27,1,5,7,10,11,12] rfl rfl rfl fun K hK=>?_)
   simp(disch:=omega) only[Tryz.f21,go_sem,↓reduceIte,d1,d2,beq_self_eq_true,kyC,J8,J7,J9]
   refine hK _ ?_
   refine aB (eC (.tmp 27) rfl rfl rfl (fun h=>?_) (fun h=>?_))
   ·refine aI rfl ?_
    cases h
   refine aI rfl (aQ rfl (bU (aB (bA [1,5,10,11,12] rfl rfl rfl fun K hK=>?_))))
   simp(disch:=omega) only[Tryz.f21,go_sem,↓reduceIte]
   refine hK _ ?_
   refine bT ?_
   refine⟨⟨k+1,id,_⟩,⟨by simp only;omega,by simp only;omega,by simp only;omega⟩,by simp only;omega,⟨fun x=> .inr (by simp only[hfn,Int.natCast_add,Int.natCast_one]),fun j o hj=>?_,U3 _⟩⟩
   simp only[hfn,bJ]at hj
   simp only[bJ]
   by_cases e:j=id
   ·rw[J4 e]at hj;rw[J3 (by omega),J4 e];exact hj
   rw[J3 e]at hj;cases hj
  refine aI rfl (bF 0 rfl rfl (aY (aZ (bE (aB (aA rfl ?_))))))
  obtain rfl:k=R.length:=by omega
  rw[List.take_length]
  refine pS 5 id 0 _ 1 rfl (by rw[bJ,J4 rfl]) (by rw[iY];omega) ?_
  rw[J9,Nat.mul_one,List.take_of_length_le (Nat.le_of_eq (iY _))]
  refine bA [4] rfl rfl rfl fun K hK=>?_
  simp(disch:=omega) only[Tryz.f21,go_sem,↓reduceIte]
  refine hK _ ?_
  refine aB (aS rfl ?_)
  simp(disch:=omega) only[cN,bV,bK,bQ,Tryz.f21,go_sem,↓reduceIte]
 cases hg
theorem aGi:bX Tryz.prog GLh 21 (.pure false sgG):=⟨⟨_,Tryz.func21,rfl,rfl⟩,cTz⟩
end Go.AX

namespace Go.AX
open Go Go.Proofs
set_option maxRecDepth 8000
def wP (c:CF) (x:KY) (R:List KY):List DU:=(R.filter fun y=>decide (y.id<x.id)).map fun y=>⟨y.id,4,bhV x.seen c.dp c.dt⟩
def iS (L:List KY) (c:CF) (x:KY):List DU:=
 if x.role=0 then(if x.st=0 then[⟨x.id,1,bhV x.since c.pr c.kt⟩]else if x.st=3 then[⟨x.id,4,bhV x.since c.pr c.mx⟩]else[])
 else if x.role=1 then(if x.st=1 then[⟨x.id,2,bhV x.since c.pr c.kt⟩]else if x.st=2∧x.seen≠0#32 then wP c x (lH 1 L)else[])
 else[]
def alD (L:List KY) (c:CF) (xs:List KY):List DU:=xs.flatMap (iS L c)
theorem bSd (L:List KY) (c:CF) (k:Nat) (hk:k<L.length):alD L c (L.take (k+1))=alD L c (L.take k)++iS L c (kyA L k):=by
 rw[alD,List.take_add_one,List.getElem?_eq_getElem hk,List.flatMap_append,kJ L k hk]
 simp[alD]
theorem aOy (c:CF) (x:KY) (R:List KY):(wP c x R).length≤R.length:=by
 rw[wP,List.length_map];exact List.length_filter_le _ _
theorem bBw (L:List KY) (c:CF) (x:KY):(iS L c x).length≤L.length+1:=by
 have h:=aOy c x (lH 1 L)
 have h2:=jP 1 L
 unfold iS
 split
 ·split
  ·simp
  split<;>simp
 split
 ·split
  ·simp
  split
  ·omega
  simp
 simp
theorem aLh (L:List KY) (c:CF): ∀xs:List KY,(alD L c xs).length≤xs.length*(L.length+1)
 |[]=>by simp[alD]
 |x::r=>by
  have h:=aLh L c r
  have h2:=bBw L c x
  unfold alD at h⊢
  rw[List.flatMap_cons,List.length_append,List.length_cons,Nat.add_mul]
  omega
theorem bBx (c:CF) (x:KY) (R:List KY) (k:Nat) (hk:k<R.length):wP c x (R.take (k+1))=wP c x (R.take k)++if(kyA R k).id<x.id then[⟨(kyA R k).id,4,bhV x.seen c.dp c.dt⟩]else[]:=by
 have h:=xZ (fun y:KY=>decide (y.id<x.id)) (fun y=>(⟨y.id,4,bhV x.seen c.dp c.dt⟩:DU)) R k hk
 rw[kJ R k hk]at h
 simp only[decide_eq_true_eq]at h
 exact h
def inD (F:List DU) (c:CF) (x:KY) (R:List KY) (k:Nat):List DU:=F++wP c x (R.take k)
theorem aOg (F:List DU) (c:CF) (x:KY) (R:List KY):inD F c x R 0=F:=by simp[inD,wP]
theorem bYv (F:List DU) (c:CF) (x:KY) (R:List KY):inD F c x R R.length=F++wP c x R:=by rw[inD,List.take_length]
theorem bYu (F:List DU) (c:CF) (x:KY) (R:List KY) (k:Nat):(inD F c x R k).length≤F.length+k:=by
 have h:=aOy c x (R.take k)
 rw[List.length_take]at h
 rw[inD,List.length_append];omega
theorem bMr (F:List DU) (c:CF) (x:KY) (R:List KY) (k:Nat) (hk:k<R.length):inD F c x R (k+1)=inD F c x R k++if(kyA R k).id<x.id then[⟨(kyA R k).id,4,bhV x.seen c.dp c.dt⟩]else[]:=by
 rw[inD,bBx c x R k hk,←List.append_assoc];rfl
noncomputable def alG:List AV→Option AV
 |[.sl n xs,.agg cs]=>aK (nM xs) fun L=>aK (oW cs) fun c=>aN (L.length=n∧n≤100) (some (.sl (alD L c L).length (jL (alD L c L))))
 |[.v (.slice none 0 0),.agg cs]=>aK (oW cs) fun _=>some (.sl 0 [])
 |_=>none
theorem cRv (n:Nat) (xs cs:List AV):alG [.sl n xs,.agg cs]=aK (nM xs) fun L=>aK (oW cs) fun c=>aN (L.length=n∧n≤100) (some (.sl (alD L c L).length (jL (alD L c L)))):=(rfl)
attribute [go_sem] cRv
set_option maxHeartbeats 2000000 in
theorem dCz:cL Tryz.prog GLh 40 alG:=by
 refine cC Tryz.func40 (aT rfl) ?_
 intro args r hg
 unfold alG at hg
 split at hg
 ·rename_i n xs cs
  replace hg:=aJ hg;obtain⟨L,hL,hg⟩:=hg
  have:=lS hL;subst this
  replace hg:=aJ hg;obtain⟨cf,hcf,hg⟩:=hg
  have:=lF hcf;subst this
  replace hg:=aP hg;obtain⟨⟨hn,hbig⟩,hg⟩:=hg
  obtain rfl:=J0 hg
  refine⟨J1 rfl,fun nx=>?_⟩
  refine aA rfl (bA [0,3] rfl rfl rfl fun K hK=>?_)
  simp(disch:=omega) only[Tryz.f40,go_sem,↓reduceIte]
  refine hK _ ?_
  refine aB (aA rfl (bA [0,3,5] rfl rfl rfl fun K hK=>?_))
  simp(disch:=omega) only[Tryz.f40,go_sem,↓reduceIte]
  refine hK _ ?_
  refine aB (aA rfl (aA rfl (bA [0,3,5,10,11,12] rfl rfl rfl fun K hK=>?_)))
  simp(disch:=omega) only[Tryz.f40,go_sem,↓reduceIte]
  refine hK _ ?_
  refine aB (iE 5 3 rfl (fF [0,3,5,10,11,12] ?_))
  simp only[iB,fU,eB,↓reduceIte,Nat.reduceEqDiff]
  refine aR 0 rfl rfl ?_
  refine bR (fun p:KIC=> {fr:=[(0,.sl n (jQ L)),(3,.op nx 0),(5,.os p.id 0 (alD L cf (L.take p.k)).length 3 true),(10,.sl n (jQ L)),(11,.i n),(12,.i p.k)],hp:=upd (upd (fun _=>none) nx (.cells (cfC cf) true)) p.id (.cells (jL (alD L cf (L.take p.k))) true),nx:=0,cx:=p.c}) (fun p=>p.k≤n∧nx<p.id∧p.id<p.c) (fun p=>n-p.k) rfl ⟨⟨0,_,_⟩,⟨Nat.zero_le _,by simp only;omega,by simp only;omega⟩,bD rfl rfl (U3 _)⟩ ?_
  rintro⟨k,id,c⟩ ⟨hk,hid,hc⟩ n0
  simp only at hk hid hc⊢
  refine aA rfl (bA [13,0,3,5,10,11,12] rfl rfl rfl fun K hK=>?_)
  simp(disch:=omega) only[Tryz.f40,go_sem,↓reduceIte]
  refine hK _ ?_
  refine aB (aA rfl (aW (.tmp 13) rfl rfl rfl (fun h=>?_) (fun h=>?_)))
  ·refine aI rfl ?_
   have hkR:k<L.length:=by omega
   have hrow:=lC L k hkR
   have hkl:=iJ L
   have hdl:15≤(List.drop (15*k) (jQ L)).length:=by rw[List.length_drop];omega
   have e15:k*15=15*k:=by omega
   have hfn:=bSd L cf k hkR
   have hll:(alD L cf (L.take k)).length≤20000:=by
    have h1:=aLh L cf (L.take k)
    have h2:(L.take k).length*(L.length+1)≤100*101:=Nat.mul_le_mul (by rw[List.length_take];omega) (by omega)
    omega
   obtain⟨F,hF⟩: ∃F,alD L cf (L.take k)=F:=⟨_,rfl⟩
   rw[hF]at hfn hll⊢
   obtain⟨X,hX⟩: ∃X,kyA L k=X:=⟨_,rfl⟩
   rw[hX]at hrow hfn
   have hfl:=nP F
   refine aQ rfl (aB (aA rfl (aR 1 rfl rfl (aA rfl (bA [0,3,5,7,10,11,12] rfl rfl rfl fun K hK=>?_)))))
   simp(disch:=omega) only[Tryz.f40,go_sem,↓reduceIte,hrow,hdl,e15]
   refine hK _ ?_
   refine aB ?_
   by_cases r0:X.role=0
   ·have d0:decide (X.role=0)=true:=J5 r0
    have d1:decide (X.role=1)=false:=J6 (by omega)
    by_cases s0:X.st=0
    ·have b0:decide (X.st=0)=true:=J5 s0
     have hdu:iS L cf X=[⟨X.id,1,bhV X.since cf.pr cf.kt⟩]:=by unfold iS;rw[J4 r0,J4 s0]
     rw[hdu]at hfn
     refine aR 2 rfl rfl (aA rfl (bA [16,0,3,5,7,10,11,12] rfl rfl rfl fun K hK=>?_))
     simp(disch:=omega) only[Tryz.f40,go_sem,↓reduceIte,d0,b0,beq_self_eq_true,kyC,J8,J7,J9]
     refine hK _ ?_
     refine aB (eC (.tmp 16) rfl rfl rfl (fun h=>?_) (fun h=>?_))
     ·refine aI rfl (bB (Γ:=bC [(52,.pure true aPs)]) (fun k=>if k=12 then 4098 else 2) [0,3,5,10,11,12] bZ (aH aVy aO) rfl rfl rfl (by kernel_rfl) (fun K hK=>?_))
      simp(disch:=omega) only[Tryz.f40,go_sem,↓reduceIte,jI,hfl,cK,List.nil_append,List.cons_append,J8,U0,U1,J7,J9,List.all_cons,List.all_nil,Option.isSome_some,Bool.and_self]
      refine hK _ ?_
      refine bU (bU (aB (bA [0,3,5,10,11,12] rfl rfl rfl fun K hK=>?_)))
      simp(disch:=omega) only[Tryz.f40,go_sem,↓reduceIte]
      refine hK _ ?_
      refine bT ?_
      refine⟨⟨k+1,c+1+4+9+12,_⟩,⟨by simp only;omega,by simp only;omega,by simp only;omega⟩,by simp only;omega,⟨fun x=> .inr (by simp only[hfn,List.length_append,List.length_cons,List.length_nil,Nat.zero_add,Int.natCast_add,Int.natCast_one]),fun j o hj=>?_,U3 _⟩⟩
      simp only[hfn,bJ]at hj
      simp only[bJ,eV]
      by_cases e:j=c+1+4+9+12
      ·rw[J4 e]at hj⊢;rw[←hj,wO,wN];rfl
      rw[J3 e]at hj⊢
      by_cases e2:j=nx
      ·rw[J4 e2]at hj;rw[J3 (by omega),J3 (by omega),J3 (by omega),J3 (by omega),J4 e2];exact hj
      rw[J3 e2]at hj;cases hj
     refine aI rfl ?_
     cases h
    have b0:decide (X.st=0)=false:=J6 s0
    by_cases s3:X.st=3
    ·have b3:decide (X.st=3)=true:=J5 s3
     have hdu:iS L cf X=[⟨X.id,4,bhV X.since cf.pr cf.mx⟩]:=by unfold iS;rw[J4 r0,J3 s0,J4 s3]
     rw[hdu]at hfn
     refine aR 2 rfl rfl (aA rfl (bA [16,0,3,5,7,10,11,12] rfl rfl rfl fun K hK=>?_))
     simp(disch:=omega) only[Tryz.f40,go_sem,↓reduceIte,d0,b0,beq_self_eq_true,kyC,J8,J7,J9]
     refine hK _ ?_
     refine aB (eC (.tmp 16) rfl rfl rfl (fun h=>?_) (fun h=>?_))
     ·refine aI rfl ?_
      cases h
     refine aI rfl (aA rfl (bA [38,0,3,5,7,10,11,12] rfl rfl rfl fun K hK=>?_))
     simp(disch:=omega) only[Tryz.f40,go_sem,↓reduceIte,d0,b3,beq_self_eq_true,J8,J7,J9]
     refine hK _ ?_
     refine aB (eC (.tmp 38) rfl rfl rfl (fun h=>?_) (fun h=>?_))
     ·refine aI rfl (bB (Γ:=bC [(52,.pure true aPs)]) (fun k=>if k=12 then 4098 else 2) [0,3,5,10,11,12] bZ (aH aVy aO) rfl rfl rfl (by kernel_rfl) (fun K hK=>?_))
      simp(disch:=omega) only[Tryz.f40,go_sem,↓reduceIte,jI,hfl,cK,List.nil_append,List.cons_append,J8,U0,U1,J7,J9,List.all_cons,List.all_nil,Option.isSome_some,Bool.and_self]
      refine hK _ ?_
      refine bU (bU (aB (bA [0,3,5,10,11,12] rfl rfl rfl fun K hK=>?_)))
      simp(disch:=omega) only[Tryz.f40,go_sem,↓reduceIte]
      refine hK _ ?_
      refine bT ?_
      refine⟨⟨k+1,c+1+4+9+9+12,_⟩,⟨by simp only;omega,by simp only;omega,by simp only;omega⟩,by simp only;omega,⟨fun x=> .inr (by simp only[hfn,List.length_append,List.length_cons,List.length_nil,Nat.zero_add,Int.natCast_add,Int.natCast_one]),fun j o hj=>?_,U3 _⟩⟩
      simp only[hfn,bJ]at hj
      simp only[bJ,eV]
      by_cases e:j=c+1+4+9+9+12
      ·rw[J4 e]at hj⊢;rw[←hj,wO,wN];rfl
      rw[J3 e]at hj⊢
      by_cases e2:j=nx
      ·rw[J4 e2]at hj;rw[J3 (by omega),J3 (by omega),J3 (by omega),J3 (by omega),J4 e2];exact hj
      rw[J3 e2]at hj;cases hj
     refine aI rfl ?_
     cases h
    have b3:decide (X.st=3)=false:=J6 s3
    have hdu:iS L cf X=[]:=by unfold iS;rw[J4 r0,J3 s0,J3 s3]
    rw[hdu]at hfn
    refine aR 2 rfl rfl (aA rfl (bA [16,0,3,5,7,10,11,12] rfl rfl rfl fun K hK=>?_))
    simp(disch:=omega) only[Tryz.f40,go_sem,↓reduceIte,d0,b0,beq_self_eq_true,kyC,J8,J7,J9]
    refine hK _ ?_
    refine aB (eC (.tmp 16) rfl rfl rfl (fun h=>?_) (fun h=>?_))
    ·refine aI rfl ?_
     cases h
    refine aI rfl (aA rfl (bA [38,0,3,5,7,10,11,12] rfl rfl rfl fun K hK=>?_))
    simp(disch:=omega) only[Tryz.f40,go_sem,↓reduceIte,d0,b3,beq_self_eq_true,J8,J7,J9]
    refine hK _ ?_
    refine aB (eC (.tmp 38) rfl rfl rfl (fun h=>?_) (fun h=>?_))
    ·refine aI rfl ?_
     cases h
    refine aI rfl (aA rfl (bA [60,0,3,5,7,10,11,12] rfl rfl rfl fun K hK=>?_))
    simp(disch:=omega) only[Tryz.f40,go_sem,↓reduceIte,d1,J8,J7,J9]
    refine hK _ ?_
    refine aB (eC (.tmp 60) rfl rfl rfl (fun h=>?_) (fun h=>?_))
    ·refine aI rfl ?_
     cases h
    refine aI rfl (aA rfl (bA [82,0,3,5,7,10,11,12] rfl rfl rfl fun K hK=>?_))
    simp(disch:=omega) only[Tryz.f40,go_sem,↓reduceIte,d1,J8,J7,J9]
    refine hK _ ?_
    refine aB (eC (.tmp 82) rfl rfl rfl (fun h=>?_) (fun h=>?_))
    ·refine aI rfl ?_
     cases h
    refine aI rfl (aQ rfl (bU (bU (aB (bA [0,3,5,10,11,12] rfl rfl rfl fun K hK=>?_)))))
    simp(disch:=omega) only[Tryz.f40,go_sem,↓reduceIte]
    refine hK _ ?_
    refine bT ?_
    refine⟨⟨k+1,id,_⟩,⟨by simp only;omega,by simp only;omega,by simp only;omega⟩,by simp only;omega,⟨fun x=> .inr (by simp only[hfn,List.append_nil,Int.natCast_add,Int.natCast_one]),fun j o hj=>?_,U3 _⟩⟩
    simp only[hfn,List.append_nil,bJ]at hj
    simp only[bJ]
    by_cases e:j=id
    ·rw[J4 e]at hj;rw[J3 (by omega),J4 e];exact hj
    rw[J3 e]at hj
    by_cases e2:j=nx
    ·rw[J4 e2]at hj;rw[J3 (by omega),J3 e,J4 e2];exact hj
    rw[J3 e2]at hj;cases hj
   have d0:decide (X.role=0)=false:=J6 r0
   by_cases r1:X.role=1
   ·have d1:decide (X.role=1)=true:=J5 r1
    by_cases s1:X.st=1
    ·have b1:decide (X.st=1)=true:=J5 s1
     have hdu:iS L cf X=[⟨X.id,2,bhV X.since cf.pr cf.kt⟩]:=by unfold iS;rw[J3 r0,J4 r1,J4 s1]
     rw[hdu]at hfn
     refine aR 2 rfl rfl (aA rfl (bA [16,0,3,5,7,10,11,12] rfl rfl rfl fun K hK=>?_))
     simp(disch:=omega) only[Tryz.f40,go_sem,↓reduceIte,d0,kyC,J8,J7,J9]
     refine hK _ ?_
     refine aB (eC (.tmp 16) rfl rfl rfl (fun h=>?_) (fun h=>?_))
     ·refine aI rfl ?_
      cases h
     refine aI rfl (aA rfl (bA [38,0,3,5,7,10,11,12] rfl rfl rfl fun K hK=>?_))
     simp(disch:=omega) only[Tryz.f40,go_sem,↓reduceIte,d0,J8,J7,J9]
     refine hK _ ?_
     refine aB (eC (.tmp 38) rfl rfl rfl (fun h=>?_) (fun h=>?_))
     ·refine aI rfl ?_
      cases h
     refine aI rfl (aA rfl (bA [60,0,3,5,7,10,11,12] rfl rfl rfl fun K hK=>?_))
     simp(disch:=omega) only[Tryz.f40,go_sem,↓reduceIte,d1,b1,beq_self_eq_true,J8,J7,J9]
     refine hK _ ?_
     refine aB (eC (.tmp 60) rfl rfl rfl (fun h=>?_) (fun h=>?_))
     ·refine aI rfl (bB (Γ:=bC [(52,.pure true aPs)]) (fun k=>if k=12 then 4098 else 2) [0,3,5,10,11,12] bZ (aH aVy aO) rfl rfl rfl (by kernel_rfl) (fun K hK=>?_))
      simp(disch:=omega) only[Tryz.f40,go_sem,↓reduceIte,jI,hfl,cK,List.nil_append,List.cons_append,J8,U0,U1,J7,J9,List.all_cons,List.all_nil,Option.isSome_some,Bool.and_self]
      refine hK _ ?_
      refine bU (bU (aB (bA [0,3,5,10,11,12] rfl rfl rfl fun K hK=>?_)))
      simp(disch:=omega) only[Tryz.f40,go_sem,↓reduceIte]
      refine hK _ ?_
      refine bT ?_
      refine⟨⟨k+1,c+1+4+9+9+9+12,_⟩,⟨by simp only;omega,by simp only;omega,by simp only;omega⟩,by simp only;omega,⟨fun x=> .inr (by simp only[hfn,List.length_append,List.length_cons,List.length_nil,Nat.zero_add,Int.natCast_add,Int.natCast_one]),fun j o hj=>?_,U3 _⟩⟩
      simp only[hfn,bJ]at hj
      simp only[bJ,eV]
      by_cases e:j=c+1+4+9+9+9+12
      ·rw[J4 e]at hj⊢;rw[←hj,wO,wN];rfl
      rw[J3 e]at hj⊢
      by_cases e2:j=nx
      ·rw[J4 e2]at hj;rw[J3 (by omega),J3 (by omega),J3 (by omega),J3 (by omega),J4 e2];exact hj
      rw[J3 e2]at hj;cases hj
     refine aI rfl ?_
     cases h
    have b1:decide (X.st=1)=false:=J6 s1
    by_cases s2:X.st=2
    ·have b2:decide (X.st=2)=true:=J5 s2
     by_cases z:X.seen=0#32
     ·have bz:decide (X.seen=0#32)=true:=J5 z
      have hdu:iS L cf X=[]:=by unfold iS;rw[J3 r0,J4 r1,J3 s1,J3 (fun e=>e.2 z)]
      rw[hdu]at hfn
      refine aR 2 rfl rfl (aA rfl (bA [16,0,3,5,7,10,11,12] rfl rfl rfl fun K hK=>?_))
      simp(disch:=omega) only[Tryz.f40,go_sem,↓reduceIte,d0,kyC,J8,J7,J9]
      refine hK _ ?_
      refine aB (eC (.tmp 16) rfl rfl rfl (fun h=>?_) (fun h=>?_))
      ·refine aI rfl ?_
       cases h
      refine aI rfl (aA rfl (bA [38,0,3,5,7,10,11,12] rfl rfl rfl fun K hK=>?_))
      simp(disch:=omega) only[Tryz.f40,go_sem,↓reduceIte,d0,J8,J7,J9]
      refine hK _ ?_
      refine aB (eC (.tmp 38) rfl rfl rfl (fun h=>?_) (fun h=>?_))
      ·refine aI rfl ?_
       cases h
      refine aI rfl (aA rfl (bA [60,0,3,5,7,10,11,12] rfl rfl rfl fun K hK=>?_))
      simp(disch:=omega) only[Tryz.f40,go_sem,↓reduceIte,d1,b1,beq_self_eq_true,J8,J7,J9]
      refine hK _ ?_
      refine aB (eC (.tmp 60) rfl rfl rfl (fun h=>?_) (fun h=>?_))
      ·refine aI rfl ?_
       cases h
      refine aI rfl (aA rfl (bA [82,0,3,5,7,10,11,12] rfl rfl rfl fun K hK=>?_))
      simp(disch:=omega) only[Tryz.f40,go_sem,↓reduceIte,d1,b2,bz,beq_self_eq_true,Bool.not_true,J8,J7,J9]
      refine hK _ ?_
      refine aB (eC (.tmp 82) rfl rfl rfl (fun h=>?_) (fun h=>?_))
      ·refine aI rfl ?_
       cases h
      refine aI rfl (aQ rfl (bU (bU (aB (bA [0,3,5,10,11,12] rfl rfl rfl fun K hK=>?_)))))
      simp(disch:=omega) only[Tryz.f40,go_sem,↓reduceIte]
      refine hK _ ?_
      refine bT ?_
      refine⟨⟨k+1,id,_⟩,⟨by simp only;omega,by simp only;omega,by simp only;omega⟩,by simp only;omega,⟨fun x=> .inr (by simp only[hfn,List.append_nil,Int.natCast_add,Int.natCast_one]),fun j o hj=>?_,U3 _⟩⟩
      simp only[hfn,List.append_nil,bJ]at hj
      simp only[bJ]
      by_cases e:j=id
      ·rw[J4 e]at hj;rw[J3 (by omega),J4 e];exact hj
      rw[J3 e]at hj
      by_cases e2:j=nx
      ·rw[J4 e2]at hj;rw[J3 (by omega),J3 e,J4 e2];exact hj
      rw[J3 e2]at hj;cases hj
     have bz:decide (X.seen=0#32)=false:=J6 z
     have h0n:0<n:=by omega
     obtain⟨R,hRR⟩: ∃R,lH 1 L=R:=⟨_,rfl⟩
     have hRl:R.length≤100:=by have:=jP 1 L;rw[hRR]at this;omega
     have hdu:iS L cf X=wP cf X R:=by unfold iS;rw[J3 r0,J4 r1,J3 s1,J4 ⟨s2,z⟩,hRR]
     rw[hdu]at hfn
     refine aR 2 rfl rfl (aA rfl (bA [16,0,3,5,7,10,11,12] rfl rfl rfl fun K hK=>?_))
     simp(disch:=omega) only[Tryz.f40,go_sem,↓reduceIte,d0,kyC,J8,J7,J9]
     refine hK _ ?_
     refine aB (eC (.tmp 16) rfl rfl rfl (fun h=>?_) (fun h=>?_))
     ·refine aI rfl ?_
      cases h
     refine aI rfl (aA rfl (bA [38,0,3,5,7,10,11,12] rfl rfl rfl fun K hK=>?_))
     simp(disch:=omega) only[Tryz.f40,go_sem,↓reduceIte,d0,J8,J7,J9]
     refine hK _ ?_
     refine aB (eC (.tmp 38) rfl rfl rfl (fun h=>?_) (fun h=>?_))
     ·refine aI rfl ?_
      cases h
     refine aI rfl (aA rfl (bA [60,0,3,5,7,10,11,12] rfl rfl rfl fun K hK=>?_))
     simp(disch:=omega) only[Tryz.f40,go_sem,↓reduceIte,d1,b1,beq_self_eq_true,J8,J7,J9]
     refine hK _ ?_
     refine aB (eC (.tmp 60) rfl rfl rfl (fun h=>?_) (fun h=>?_))
     ·refine aI rfl ?_
      cases h
     refine aI rfl (aA rfl (bA [82,0,3,5,7,10,11,12] rfl rfl rfl fun K hK=>?_))
     simp(disch:=omega) only[Tryz.f40,go_sem,↓reduceIte,d1,b2,bz,beq_self_eq_true,Bool.not_false,J8,J7,J9]
     refine hK _ ?_
     refine aB (eC (.tmp 82) rfl rfl rfl (fun h=>?_) (fun h=>?_))
     ·refine aI rfl (aA rfl (aC (Γ:=bC [(29,.pure false ofG)]) [0,3,5,7,10,11,12,97,98,99] (aH aGh aO) rfl rfl rfl (fun K hK=>?_)))
      simp(disch:=omega) only[Tryz.f40,go_sem,↓reduceIte,hn,h0n,hRR]
      refine hK _ ?_
      refine aB (aR 3 rfl rfl ?_)
      refine bR (fun p:KIC=> {fr:=[(0,.sl n (jQ L)),(3,.op nx 0),(5,.os p.id 0 (inD F cf X R p.k).length 3 true),(7,.op (c+1+2) 0),(10,.sl n (jQ L)),(11,.i n),(12,.i k),(97,.sl R.length (jQ R)),(98,.i R.length),(99,.i p.k)],hp:=upd (upd (upd (fun _=>none) nx (.cells (cfC cf) true)) (c+1+2) (.cells (kyC X) true)) p.id (.cells (jL (inD F cf X R p.k)) true),nx:=0,cx:=p.c}) (fun p=>p.k≤R.length∧nx<p.id∧p.id<p.c∧c+3<p.c∧p.id≠c+1+2) (fun p=>R.length-p.k) rfl ⟨⟨0,id,_⟩,⟨Nat.zero_le _,by simp only;omega,by simp only;omega,by simp only;omega,by simp only;omega⟩,⟨fun x=> .inr (by rw[aOg];rfl),fun j o hj=>by {simp only[aOg,bJ]at hj⊢;by_cases e:j=id; · {rw[J4 e]at hj;rw[J3 (by omega),J4 e];exact hj}; · {rw[J3 e]at hj;by_cases e2:j=c+1+2; · {rw[J4 e2]at hj⊢;exact hj}; · {rw[J3 e2]at hj⊢;rw[J3 e];exact hj}}},U3 _⟩⟩ ?_
      rintro⟨q,id2,c2⟩ ⟨hq,hq1,hq2,hq3,hq4⟩ n0
      simp only at hq hq1 hq2 hq3 hq4⊢
      refine aA rfl (bA [100,0,3,5,7,10,11,12,97,98,99] rfl rfl rfl fun K hK=>?_)
      simp(disch:=omega) only[Tryz.f40,go_sem,↓reduceIte]
      refine hK _ ?_
      refine aB (aA rfl (aW (.tmp 100) rfl rfl rfl (fun h=>?_) (fun h=>?_)))
      ·refine aI rfl ?_
       have hqR:q<R.length:=by omega
       have hrow2:=lC R q hqR
       have hkl2:=iJ R
       have hdl2:15≤(List.drop (15*q) (jQ R)).length:=by rw[List.length_drop];omega
       have e152:q*15=15*q:=by omega
       have hfn3:=bMr F cf X R q hqR
       obtain⟨Y,hY⟩: ∃Y,kyA R q=Y:=⟨_,rfl⟩
       rw[hY]at hrow2 hfn3
       have hil:=bYu F cf X R q
       obtain⟨G,hG⟩: ∃G,inD F cf X R q=G:=⟨_,rfl⟩
       rw[hG]at hil hfn3⊢
       have hgl:G.length≤30000:=by omega
       have hgl2:=nP G
       refine aQ rfl (aB (aA rfl (aR 4 rfl rfl (aA rfl (bA [0,3,5,7,9,10,11,12,97,98,99] rfl rfl rfl fun K hK=>?_)))))
       simp(disch:=omega) only[Tryz.f40,go_sem,↓reduceIte,hrow2,hdl2,e152]
       refine hK _ ?_
       refine aB (aA rfl (bA [107,0,3,5,7,9,10,11,12,97,98,99] rfl rfl rfl fun K hK=>?_))
       simp(disch:=omega) only[Tryz.f40,go_sem,↓reduceIte,kyC,J8,J9]
       refine hK _ ?_
       refine aB (aW (.tmp 107) rfl rfl rfl (fun h=>?_) (fun h=>?_))
       ·refine aI rfl ?_
        rw[J4 h]at hfn3
        refine bB (Γ:=bC [(52,.pure true aPs)]) (fun k=>if k=12 then 4098 else 2) [0,3,5,7,10,11,12,97,98,99] bZ (aH aVy aO) rfl rfl rfl (by kernel_rfl) (fun K hK=>?_)
        simp(disch:=omega) only[Tryz.f40,go_sem,↓reduceIte,jI,hgl2,cK,List.nil_append,List.cons_append,J8,U0,U1,J7,J9,List.all_cons,List.all_nil,Option.isSome_some,Bool.and_self]
        refine hK _ ?_
        refine bU (aB (bA [0,3,5,7,10,11,12,97,98,99] rfl rfl rfl fun K hK=>?_))
        simp(disch:=omega) only[Tryz.f40,go_sem,↓reduceIte]
        refine hK _ ?_
        refine bT ?_
        refine⟨⟨q+1,c2+1+4+5+12,_⟩,⟨by simp only;omega,by simp only;omega,by simp only;omega,by simp only;omega,by simp only;omega⟩,by simp only;omega,⟨fun x=> .inr (by simp only[hfn3,List.length_append,List.length_cons,List.length_nil,Nat.zero_add,Int.natCast_add,Int.natCast_one]),fun j o hj=>?_,U3 _⟩⟩
        simp only[hfn3,bJ]at hj
        simp only[bJ,eV]
        by_cases e:j=c2+1+4+5+12
        ·rw[J4 e]at hj⊢;rw[←hj,wO,wN];rfl
        rw[J3 e]at hj⊢
        by_cases e2:j=c+1+2
        ·rw[J4 e2]at hj;rw[J3 (by omega),J3 (by omega),J3 (by omega),J3 (by omega),J4 e2];exact hj
        rw[J3 e2]at hj
        by_cases e3:j=nx
        ·rw[J4 e3]at hj;rw[J3 (by omega),J3 (by omega),J3 (by omega),J3 (by omega),J3 e2,J4 e3];exact hj
        rw[J3 e3]at hj;cases hj
       refine aI rfl ?_
       rw[J3 h,List.append_nil]at hfn3
       refine aQ rfl (bU (aB (bA [0,3,5,7,10,11,12,97,98,99] rfl rfl rfl fun K hK=>?_)))
       simp(disch:=omega) only[Tryz.f40,go_sem,↓reduceIte]
       refine hK _ ?_
       refine bT ?_
       refine⟨⟨q+1,id2,_⟩,⟨by simp only;omega,by simp only;omega,by simp only;omega,by simp only;omega,by simp only;omega⟩,by simp only;omega,⟨fun x=> .inr (by simp only[hfn3,Int.natCast_add,Int.natCast_one]),fun j o hj=>?_,U3 _⟩⟩
       simp only[hfn3,bJ]at hj
       simp only[bJ]
       by_cases e:j=id2
       ·rw[J4 e]at hj;rw[J3 (by omega),J4 e];exact hj
       rw[J3 e]at hj
       by_cases e2:j=c+1+2
       ·rw[J4 e2]at hj;rw[J3 (by omega),J3 e,J4 e2];exact hj
       rw[J3 e2]at hj
       by_cases e3:j=nx
       ·rw[J4 e3]at hj;rw[J3 (by omega),J3 e,J3 e2,J4 e3];exact hj
       rw[J3 e3]at hj;cases hj
      refine aI rfl (bF 3 rfl rfl (aY (aZ (bE (bU (bU (aB ?_)))))))
      obtain rfl:q=R.length:=by omega
      rw[←bYv]at hfn
      obtain⟨G,hG⟩: ∃G,inD F cf X R R.length=G:=⟨_,rfl⟩
      rw[hG]at hfn⊢
      refine bA [0,3,5,10,11,12] rfl rfl rfl fun K hK=>?_
      simp(disch:=omega) only[Tryz.f40,go_sem,↓reduceIte]
      refine hK _ ?_
      refine bT ?_
      refine⟨⟨k+1,id2,_⟩,⟨by simp only;omega,by simp only;omega,by simp only;omega⟩,by simp only;omega,⟨fun x=> .inr (by simp only[hfn,Int.natCast_add,Int.natCast_one]),fun j o hj=>?_,U3 _⟩⟩
      simp only[hfn,bJ]at hj
      simp only[bJ]
      by_cases e:j=id2
      ·rw[J4 e]at hj⊢;exact hj
      rw[J3 e]at hj⊢
      by_cases e2:j=nx
      ·rw[J4 e2]at hj;rw[J3 (by omega),J4 e2];exact hj
      rw[J3 e2]at hj;cases hj
     refine aI rfl ?_
     cases h
    have b2:decide (X.st=2)=false:=J6 s2
    have hdu:iS L cf X=[]:=by unfold iS;rw[J3 r0,J4 r1,J3 s1,J3 (fun e=>s2 e.1)]
    rw[hdu]at hfn
    refine aR 2 rfl rfl (aA rfl (bA [16,0,3,5,7,10,11,12] rfl rfl rfl fun K hK=>?_))
    simp(disch:=omega) only[Tryz.f40,go_sem,↓reduceIte,d0,kyC,J8,J7,J9]
    refine hK _ ?_
    refine aB (eC (.tmp 16) rfl rfl rfl (fun h=>?_) (fun h=>?_))
    ·refine aI rfl ?_
     cases h
    refine aI rfl (aA rfl (bA [38,0,3,5,7,10,11,12] rfl rfl rfl fun K hK=>?_))
    simp(disch:=omega) only[Tryz.f40,go_sem,↓reduceIte,d0,J8,J7,J9]
    refine hK _ ?_
    refine aB (eC (.tmp 38) rfl rfl rfl (fun h=>?_) (fun h=>?_))
    ·refine aI rfl ?_
     cases h
    refine aI rfl (aA rfl (bA [60,0,3,5,7,10,11,12] rfl rfl rfl fun K hK=>?_))
    simp(disch:=omega) only[Tryz.f40,go_sem,↓reduceIte,d1,b1,beq_self_eq_true,J8,J7,J9]
    refine hK _ ?_
    refine aB (eC (.tmp 60) rfl rfl rfl (fun h=>?_) (fun h=>?_))
    ·refine aI rfl ?_
     cases h
    refine aI rfl (aA rfl (bA [82,0,3,5,7,10,11,12] rfl rfl rfl fun K hK=>?_))
    simp(disch:=omega) only[Tryz.f40,go_sem,↓reduceIte,d1,b2,beq_self_eq_true,J8,J7,J9]
    refine hK _ ?_
    refine aB (eC (.tmp 82) rfl rfl rfl (fun h=>?_) (fun h=>?_))
    ·refine aI rfl ?_
     cases h
    refine aI rfl (aQ rfl (bU (bU (aB (bA [0,3,5,10,11,12] rfl rfl rfl fun K hK=>?_)))))
    simp(disch:=omega) only[Tryz.f40,go_sem,↓reduceIte]
    refine hK _ ?_
    refine bT ?_
    refine⟨⟨k+1,id,_⟩,⟨by simp only;omega,by simp only;omega,by simp only;omega⟩,by simp only;omega,⟨fun x=> .inr (by simp only[hfn,List.append_nil,Int.natCast_add,Int.natCast_one]),fun j o hj=>?_,U3 _⟩⟩
    simp only[hfn,List.append_nil,bJ]at hj
    simp only[bJ]
    by_cases e:j=id
    ·rw[J4 e]at hj;rw[J3 (by omega),J4 e];exact hj
    rw[J3 e]at hj
    by_cases e2:j=nx
    ·rw[J4 e2]at hj;rw[J3 (by omega),J3 e,J4 e2];exact hj
    rw[J3 e2]at hj;cases hj
   have d1:decide (X.role=1)=false:=J6 r1
   have hdu:iS L cf X=[]:=by unfold iS;rw[J3 r0,J3 r1]
   rw[hdu]at hfn
   refine aR 2 rfl rfl (aA rfl (bA [16,0,3,5,7,10,11,12] rfl rfl rfl fun K hK=>?_))
   simp(disch:=omega) only[Tryz.f40,go_sem,↓reduceIte,d0,kyC,J8,J7,J9]
   refine hK _ ?_
   refine aB (eC (.tmp 16) rfl rfl rfl (fun h=>?_) (fun h=>?_))
   ·refine aI rfl ?_
    cases h
   refine aI rfl (aA rfl (bA [38,0,3,5,7,10,11,12] rfl rfl rfl fun K hK=>?_))
   simp(disch:=omega) only[Tryz.f40,go_sem,↓reduceIte,d0,J8,J7,J9]
   refine hK _ ?_
   refine aB (eC (.tmp 38) rfl rfl rfl (fun h=>?_) (fun h=>?_))
   ·refine aI rfl ?_
    cases h
   refine aI rfl (aA rfl (bA [60,0,3,5,7,10,11,12] rfl rfl rfl fun K hK=>?_))
   simp(disch:=omega) only[Tryz.f40,go_sem,↓reduceIte,d1,J8,J7,J9]
   refine hK _ ?_
   refine aB (eC (.tmp 60) rfl rfl rfl (fun h=>?_) (fun h=>?_))
   ·refine aI rfl ?_
    cases h
   refine aI rfl (aA rfl (bA [82,0,3,5,7,10,11,12] rfl rfl rfl fun K hK=>?_))
   simp(disch:=omega) only[Tryz.f40,go_sem,↓reduceIte,d1,J8,J7,J9]
   refine hK _ ?_
   refine aB (eC (.tmp 82) rfl rfl rfl (fun h=>?_) (fun h=>?_))
   ·refine aI rfl ?_
    cases h
   refine aI rfl (aQ rfl (bU (bU (aB (bA [0,3,5,10,11,12] rfl rfl rfl fun K hK=>?_)))))
   simp(disch:=omega) only[Tryz.f40,go_sem,↓reduceIte]
   refine hK _ ?_
   refine bT ?_
   refine⟨⟨k+1,id,_⟩,⟨by simp only;omega,by simp only;omega,by simp only;omega⟩,by simp only;omega,⟨fun x=> .inr (by simp only[hfn,List.append_nil,Int.natCast_add,Int.natCast_one]),fun j o hj=>?_,U3 _⟩⟩
   simp only[hfn,List.append_nil,bJ]at hj
   simp only[bJ]
   by_cases e:j=id
   ·rw[J4 e]at hj;rw[J3 (by omega),J4 e];exact hj
   rw[J3 e]at hj
   by_cases e2:j=nx
   ·rw[J4 e2]at hj;rw[J3 (by omega),J3 e,J4 e2];exact hj
   rw[J3 e2]at hj;cases hj
  refine aI rfl (bF 0 rfl rfl (aY (aZ (bE (aB (aA rfl ?_))))))
  obtain rfl:k=n:=by omega
  subst hn
  rw[List.take_length]
  have hll:(jL (alD L cf L)).length=(alD L cf L).length*3:=by rw[nP];omega
  refine pS 5 id 0 _ 3 rfl (by rw[bJ,J4 rfl]) (by omega) ?_
  rw[J9,List.take_of_length_le (by omega)]
  refine bA [4] rfl rfl rfl fun K hK=>?_
  simp(disch:=omega) only[Tryz.f40,go_sem,↓reduceIte]
  refine hK _ ?_
  refine aB (aS rfl ?_)
  simp(disch:=omega) only[cN,bV,bK,bQ,Tryz.f40,go_sem,↓reduceIte]
 ·rename_i cs
  replace hg:=aJ hg;obtain⟨cf,hcf,hg⟩:=hg
  have:=lF hcf;subst this
  obtain rfl:=J0 hg
  refine⟨J1 rfl,fun nx=>?_⟩
  refine aA rfl (bA [0,3] rfl rfl rfl fun K hK=>?_)
  simp(disch:=omega) only[Tryz.f40,go_sem,↓reduceIte]
  refine hK _ ?_
  refine aB (aA rfl (bA [0,3,5] rfl rfl rfl fun K hK=>?_))
  simp(disch:=omega) only[Tryz.f40,go_sem,↓reduceIte]
  refine hK _ ?_
  refine aB (aA rfl (aA rfl (bA [0,3,5,10,11,12] rfl rfl rfl fun K hK=>?_)))
  simp(disch:=omega) only[Tryz.f40,go_sem,↓reduceIte]
  refine hK _ ?_
  refine aB (iE 5 3 rfl (fF [0,3,5,10,11,12] ?_))
  simp only[iB,fU,eB,↓reduceIte,Nat.reduceEqDiff]
  refine aR 0 rfl rfl ?_
  refine bR (fun u:Unit=> {fr:=[(0,.v (.slice none 0 0)),(3,.op nx 0),(5,.os (nx+4+2) 0 0 3 true),(10,.v (.slice none 0 0)),(11,.i 0),(12,.i 0)],hp:=upd (fun _=>none) (nx+4+2) (.cells [] true),nx:=0,cx:=nx+4+2+1}) (fun u=>True) (fun u=>0) rfl ⟨(),trivial,⟨fun _=> .inr rfl,fun j o hj=>by {simp only[bJ]at hj⊢;split at hj; · {rename_i e;rw[J4 e];exact hj}; · cases hj},U3 _⟩⟩ ?_
  rintro u hu n0
  simp only at hu⊢
  refine aA rfl (bA [13,0,3,5,10,11,12] rfl rfl rfl fun K hK=>?_)
  simp(disch:=omega) only[Tryz.f40,go_sem,↓reduceIte]
  refine hK _ ?_
  refine aB (aA rfl (eC (.tmp 13) rfl rfl rfl (fun h=>?_) (fun h=>?_)))
  ·refine aI rfl ?_
   cases h
  refine aI rfl (bF 0 rfl rfl (aY (aZ (bE (aB (aA rfl (pS 5 (nx+4+2) 0 0 3 rfl (by rw[bJ,J4 rfl]) (by simp) ?_)))))))
  simp only[J9,Nat.zero_mul,U1]
  refine bA [4] rfl rfl rfl fun K hK=>?_
  simp(disch:=omega) only[Tryz.f40,go_sem,↓reduceIte]
  refine hK _ ?_
  refine aB (aS rfl ?_)
  simp(disch:=omega) only[cN,bV,bK,bQ,Tryz.f40,go_sem,↓reduceIte]
 cases hg
theorem cFd:bX Tryz.prog GLh 40 (.pure false alG):=⟨⟨_,Tryz.func40,rfl,rfl⟩,dCz⟩
end Go.AX

namespace Go.AX
open Go Go.Proofs
set_option maxRecDepth 8000
def btr (b x:DU):DU:=if b.id=0#32∨x.w<b.w∨(x.w=b.w∧x.id<b.id)then x else b
def aDl (l:List DU):DU:=l.foldl btr du0
theorem aTo (D:List DU) (k:Nat) (hk:k<D.length):aDl (D.take (k+1))=btr (aDl (D.take k)) (duA D k):=by
 have e:D[k]=duA D k:=by simp[duA,List.getD_eq_getElem?_getD,hk]
 rw[aDl,List.take_add_one,List.getElem?_eq_getElem hk,List.foldl_append,e]
 rfl
def nxV (L:List KY) (c:CF):DU:=aDl (alD L c L)
theorem bTm (a b c x y z:AV):dV [a,b,c] 0 [x,y,z]=[x,y,z]:=(rfl)
attribute [go_sem] bTm
theorem bLy:nM []=some []:=sK []
attribute [go_sem] bLy
noncomputable def nxG:List AV→Option AV
 |[.sl n xs,.agg cs]=>aK (nM xs) fun L=>aK (oW cs) fun c=>aN (L.length=n∧n≤100) (some (.tup (duC (nxV L c))))
 |[.v (.slice none 0 0),.agg cs]=>aK (oW cs) fun _=>some (.tup (duC du0))
 |_=>none
theorem cLc (n:Nat) (xs cs:List AV):nxG [.sl n xs,.agg cs]=aK (nM xs) fun L=>aK (oW cs) fun c=>aN (L.length=n∧n≤100) (some (.tup (duC (nxV L c)))):=(rfl)
attribute [go_sem] cLc
set_option maxHeartbeats 1000000 in
theorem cXa:cL Tryz.prog GLh 17 nxG:=by
 refine cC Tryz.func17 (aT rfl) ?_
 intro args r hg
 unfold nxG at hg
 split at hg
 ·rename_i n xs cs
  replace hg:=aJ hg;obtain⟨L,hL,hg⟩:=hg
  have:=lS hL;subst this
  replace hg:=aJ hg;obtain⟨cf,hcf,hg⟩:=hg
  have:=lF hcf;subst this
  replace hg:=aP hg;obtain⟨⟨hn,hbig⟩,hg⟩:=hg
  obtain rfl:=J0 hg
  refine⟨J1 rfl,fun nx=>?_⟩
  obtain⟨D,hD⟩: ∃D,alD L cf L=D:=⟨_,rfl⟩
  have hb:nxV L cf=aDl D:=by rw[nxV,hD]
  rw[hb]
  have hll:D.length≤20000:=by
   have h1:=aLh L cf L
   have h2:L.length*(L.length+1)≤100*101:=Nat.mul_le_mul (by omega) (by omega)
   rw[hD]at h1;omega
  have hno:dB (cfC cf)=true:=rfl
  have hcl:13≤(cfC cf).length:=J1 rfl
  have hct:List.take 13 (cfC cf)=cfC cf:=rfl
  refine aA rfl (bA [0,3] rfl rfl rfl fun K hK=>?_)
  simp(disch:=omega) only[Tryz.f17,go_sem,↓reduceIte]
  refine hK _ ?_
  refine aB (aA rfl (bA [0,3,7] rfl rfl rfl fun K hK=>?_))
  simp(disch:=omega) only[Tryz.f17,go_sem,↓reduceIte]
  refine hK _ ?_
  refine aB (aA rfl (aA rfl (aC (Γ:=bC [(40,.pure false alG)]) [7,12,13,14] (aH cFd aO) rfl rfl rfl (fun K hK=>?_))))
  simp(disch:=omega) only[Tryz.f17,go_sem,↓reduceIte,hcl,hct,hcf,hn,hbig,hD]
  refine hK _ ?_
  refine aB (aR 0 rfl rfl ?_)
  refine bR (fun p:KC=> {fr:=[(7,.op (nx+4) 0),(12,.sl D.length (jL D)),(13,.i D.length),(14,.i p.k)],hp:=upd (fun _=>none) (nx+4) (.cells (duC (aDl (D.take p.k))) true),nx:=0,cx:=p.c}) (fun p=>p.k≤D.length∧nx+4<p.c) (fun p=>D.length-p.k) rfl ⟨⟨0,_⟩,⟨Nat.zero_le _,by simp only;omega⟩,⟨fun x=> .inr rfl,fun j o hj=>by {simp only[bJ]at hj⊢;split at hj; · {rename_i e;rw[J4 e];exact hj}; · cases hj},U3 _⟩⟩ ?_
  rintro⟨k,c⟩ ⟨hk,hc⟩ n0
  simp only at hk hc⊢
  refine aA rfl (bA [15,7,12,13,14] rfl rfl rfl fun K hK=>?_)
  simp(disch:=omega) only[Tryz.f17,go_sem,↓reduceIte]
  refine hK _ ?_
  refine aB (aA rfl (aW (.tmp 15) rfl rfl rfl (fun h=>?_) (fun h=>?_)))
  ·refine aI rfl ?_
   have hkD:k<D.length:=by omega
   have hrow:=cAr D k hkD
   have hkl:=nP D
   have hdl:3≤(List.drop (3*k) (jL D)).length:=by rw[List.length_drop];omega
   have e3:k*3=3*k:=by omega
   have hfn:=aTo D k hkD
   obtain⟨B,hB⟩: ∃B,aDl (D.take k)=B:=⟨_,rfl⟩
   obtain⟨X,hX⟩: ∃X,duA D k=X:=⟨_,rfl⟩
   rw[hX]at hrow hfn
   rw[hB]at hfn⊢
   refine aQ rfl (aB (aA rfl (aR 1 rfl rfl (aA rfl (bA [7,9,12,13,14] rfl rfl rfl fun K hK=>?_)))))
   simp(disch:=omega) only[Tryz.f17,go_sem,↓reduceIte,hrow,hdl,e3]
   refine hK _ ?_
   refine aB ?_
   by_cases h1:B.id=0#32
   ·have d1:decide (B.id=0#32)=true:=J5 h1
    have hbt:btr B X=X:=by unfold btr;exact J4 (.inl h1)
    rw[hbt]at hfn
    refine aA rfl (bA [41,7,9,12,13,14] rfl rfl rfl fun K hK=>?_)
    simp(disch:=omega) only[Tryz.f17,go_sem,↓reduceIte,d1,duC,J8,J9]
    refine hK _ ?_
    refine aB (eC (.tmp 41) rfl rfl rfl (fun h=>?_) (fun h=>?_))
    ·refine aI rfl (bA [7,12,13,14] rfl rfl rfl fun K hK=>?_)
     simp(disch:=omega) only[Tryz.f17,go_sem,↓reduceIte,U0,U1,J9]
     refine hK _ ?_
     refine bU (aB (bA [7,12,13,14] rfl rfl rfl fun K hK=>?_))
     simp(disch:=omega) only[Tryz.f17,go_sem,↓reduceIte]
     refine hK _ ?_
     refine bT ?_
     refine⟨⟨k+1,_⟩,⟨by simp only;omega,by simp only;omega⟩,by simp only;omega,⟨fun x=> .inr (by simp only[Int.natCast_add,Int.natCast_one]),fun j o hj=>?_,U3 _⟩⟩
     simp only[hfn,bJ]at hj
     simp only[bJ]
     by_cases e:j=nx+4
     ·rw[J4 e]at hj⊢;exact hj
     rw[J3 e]at hj;cases hj
    refine aI rfl ?_
    cases h
   have d1:decide (B.id=0#32)=false:=J6 h1
   by_cases h2:X.w<B.w
   ·have d2:decide (X.w<B.w)=true:=J5 h2
    have hbt:btr B X=X:=by unfold btr;exact J4 (.inr (.inl h2))
    rw[hbt]at hfn
    refine aA rfl (bA [41,7,9,12,13,14] rfl rfl rfl fun K hK=>?_)
    simp(disch:=omega) only[Tryz.f17,go_sem,↓reduceIte,d1,d2,duC,J8,J7,J9]
    refine hK _ ?_
    refine aB (eC (.tmp 41) rfl rfl rfl (fun h=>?_) (fun h=>?_))
    ·refine aI rfl (bA [7,12,13,14] rfl rfl rfl fun K hK=>?_)
     simp(disch:=omega) only[Tryz.f17,go_sem,↓reduceIte,U0,U1,J9]
     refine hK _ ?_
     refine bU (aB (bA [7,12,13,14] rfl rfl rfl fun K hK=>?_))
     simp(disch:=omega) only[Tryz.f17,go_sem,↓reduceIte]
     refine hK _ ?_
     refine bT ?_
     refine⟨⟨k+1,_⟩,⟨by simp only;omega,by simp only;omega⟩,by simp only;omega,⟨fun x=> .inr (by simp only[Int.natCast_add,Int.natCast_one]),fun j o hj=>?_,U3 _⟩⟩
     simp only[hfn,bJ]at hj
     simp only[bJ]
     by_cases e:j=nx+4
     ·rw[J4 e]at hj⊢;exact hj
     rw[J3 e]at hj;cases hj
    refine aI rfl ?_
    cases h
   have d2:decide (X.w<B.w)=false:=J6 h2
   by_cases h3:X.w=B.w
   ·have d3:decide (X.w=B.w)=true:=J5 h3
    by_cases h4:X.id<B.id
    ·have d4:decide (X.id<B.id)=true:=J5 h4
     have hbt:btr B X=X:=by unfold btr;exact J4 (.inr (.inr ⟨h3,h4⟩))
     rw[hbt]at hfn
     refine aA rfl (bA [41,7,9,12,13,14] rfl rfl rfl fun K hK=>?_)
     simp(disch:=omega) only[Tryz.f17,go_sem,↓reduceIte,d1,d2,d3,d4,duC,J8,J7,J9]
     refine hK _ ?_
     refine aB (eC (.tmp 41) rfl rfl rfl (fun h=>?_) (fun h=>?_))
     ·refine aI rfl (bA [7,12,13,14] rfl rfl rfl fun K hK=>?_)
      simp(disch:=omega) only[Tryz.f17,go_sem,↓reduceIte,U0,U1,J9]
      refine hK _ ?_
      refine bU (aB (bA [7,12,13,14] rfl rfl rfl fun K hK=>?_))
      simp(disch:=omega) only[Tryz.f17,go_sem,↓reduceIte]
      refine hK _ ?_
      refine bT ?_
      refine⟨⟨k+1,_⟩,⟨by simp only;omega,by simp only;omega⟩,by simp only;omega,⟨fun x=> .inr (by simp only[Int.natCast_add,Int.natCast_one]),fun j o hj=>?_,U3 _⟩⟩
      simp only[hfn,bJ]at hj
      simp only[bJ]
      by_cases e:j=nx+4
      ·rw[J4 e]at hj⊢;exact hj
      rw[J3 e]at hj;cases hj
     refine aI rfl ?_
     cases h
    have d4:decide (X.id<B.id)=false:=J6 h4
    have hbt:btr B X=B:=by unfold btr;exact J3 (fun e=>e.elim h1 (fun e=>e.elim h2 (fun e=>h4 e.2)))
    rw[hbt]at hfn
    refine aA rfl (bA [41,7,9,12,13,14] rfl rfl rfl fun K hK=>?_)
    simp(disch:=omega) only[Tryz.f17,go_sem,↓reduceIte,d1,d2,d3,d4,duC,J8,J7,J9]
    refine hK _ ?_
    refine aB (eC (.tmp 41) rfl rfl rfl (fun h=>?_) (fun h=>?_))
    ·refine aI rfl ?_
     cases h
    refine aI rfl (aQ rfl (bU (aB (bA [7,12,13,14] rfl rfl rfl fun K hK=>?_))))
    simp(disch:=omega) only[Tryz.f17,go_sem,↓reduceIte]
    refine hK _ ?_
    refine bT ?_
    refine⟨⟨k+1,_⟩,⟨by simp only;omega,by simp only;omega⟩,by simp only;omega,⟨fun x=> .inr (by simp only[Int.natCast_add,Int.natCast_one]),fun j o hj=>?_,U3 _⟩⟩
    simp only[hfn,bJ]at hj
    simp only[bJ]
    by_cases e:j=nx+4
    ·rw[J4 e]at hj;rw[J3 (by omega),J4 e];exact hj
    rw[J3 e]at hj;cases hj
   have d3:decide (X.w=B.w)=false:=J6 h3
   have hbt:btr B X=B:=by unfold btr;exact J3 (fun e=>e.elim h1 (fun e=>e.elim h2 (fun e=>h3 e.1)))
   rw[hbt]at hfn
   refine aA rfl (bA [41,7,9,12,13,14] rfl rfl rfl fun K hK=>?_)
   simp(disch:=omega) only[Tryz.f17,go_sem,↓reduceIte,d1,d2,d3,duC,J8,J7,J9]
   refine hK _ ?_
   refine aB (eC (.tmp 41) rfl rfl rfl (fun h=>?_) (fun h=>?_))
   ·refine aI rfl ?_
    cases h
   refine aI rfl (aQ rfl (bU (aB (bA [7,12,13,14] rfl rfl rfl fun K hK=>?_))))
   simp(disch:=omega) only[Tryz.f17,go_sem,↓reduceIte]
   refine hK _ ?_
   refine bT ?_
   refine⟨⟨k+1,_⟩,⟨by simp only;omega,by simp only;omega⟩,by simp only;omega,⟨fun x=> .inr (by simp only[Int.natCast_add,Int.natCast_one]),fun j o hj=>?_,U3 _⟩⟩
   simp only[hfn,bJ]at hj
   simp only[bJ]
   by_cases e:j=nx+4
   ·rw[J4 e]at hj;rw[J3 (by omega),J4 e];exact hj
   rw[J3 e]at hj;cases hj
  refine aI rfl (bF 0 rfl rfl (aY (aZ (bE (aB (aA rfl ?_))))))
  obtain rfl:k=D.length:=by omega
  rw[List.take_length]
  refine bB (Γ:=aL) (fun _=>2) [4,5,6] bZ (aD _ _) rfl rfl rfl (by kernel_rfl) (fun K hK=>?_)
  simp(disch:=omega) only[Tryz.f17,go_sem,↓reduceIte,duC,J8,J7,J9]
  refine hK _ ?_
  refine aB (aS rfl ?_)
  simp(disch:=omega) only[cN,bV,bK,bQ,Tryz.f17,go_sem,↓reduceIte]
  rfl
 ·rename_i cs
  replace hg:=aJ hg;obtain⟨cf,hcf,hg⟩:=hg
  have:=lF hcf;subst this
  obtain rfl:=J0 hg
  refine⟨J1 rfl,fun nx=>?_⟩
  have hno:dB (cfC cf)=true:=rfl
  have hcl:13≤(cfC cf).length:=J1 rfl
  have hct:List.take 13 (cfC cf)=cfC cf:=rfl
  refine aA rfl (bA [0,3] rfl rfl rfl fun K hK=>?_)
  simp(disch:=omega) only[Tryz.f17,go_sem,↓reduceIte]
  refine hK _ ?_
  refine aB (aA rfl (bA [0,3,7] rfl rfl rfl fun K hK=>?_))
  simp(disch:=omega) only[Tryz.f17,go_sem,↓reduceIte]
  refine hK _ ?_
  refine aB (aA rfl (aA rfl (aC (Γ:=bC [(40,.pure false alG)]) [7,12,13,14] (aH cFd aO) rfl rfl rfl (fun K hK=>?_))))
  simp(disch:=omega) only[Tryz.f17,go_sem,↓reduceIte,hcl,hct,hcf]
  refine hK _ ?_
  refine aB (aR 0 rfl rfl ?_)
  refine bR (fun u:Unit=> {fr:=[(7,.op (nx+4) 0),(12,.sl 0 []),(13,.i 0),(14,.i 0)],hp:=upd (fun _=>none) (nx+4) (.cells (duC du0) true),nx:=0,cx:=nx+4+20}) (fun u=>True) (fun u=>0) rfl ⟨(),trivial,⟨fun _=> .inr rfl,fun j o hj=>by {simp only[bJ]at hj⊢;split at hj; · {rename_i e;rw[J4 e];exact hj}; · cases hj},by simp only;omega⟩⟩ ?_
  rintro u hu n0
  simp only at hu⊢
  refine aA rfl (bA [15,7,12,13,14] rfl rfl rfl fun K hK=>?_)
  simp(disch:=omega) only[Tryz.f17,go_sem,↓reduceIte]
  refine hK _ ?_
  refine aB (aA rfl (eC (.tmp 15) rfl rfl rfl (fun h=>?_) (fun h=>?_)))
  ·refine aI rfl ?_
   cases h
  refine aI rfl (bF 0 rfl rfl (aY (aZ (bE (aB (aA rfl (bB (Γ:=aL) (fun _=>2) [4,5,6] bZ (aD _ _) rfl rfl rfl (by kernel_rfl) (fun K hK=>?_))))))))
  simp(disch:=omega) only[Tryz.f17,go_sem,↓reduceIte,duC,J8,J7,J9]
  refine hK _ ?_
  refine aB (aS rfl ?_)
  simp(disch:=omega) only[cN,bV,bK,bQ,Tryz.f17,go_sem,↓reduceIte]
  rfl
 cases hg
theorem bJe:bX Tryz.prog GLh 17 (.pure true nxG):=⟨⟨_,Tryz.func17,rfl,rfl⟩,cXa⟩
end Go.AX
