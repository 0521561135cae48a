/-
  Sort, part D: choosing a pivot, at numbers of 32 bits. Sort, part E: turning a range about, breaking patterns, at numbers of 32 bits. Sort, part F: parting a range, at numbers of 32 bits. Sort, part G: sorting a little, at numbers of 32 bits. Sort, part H: the sort itself, at numbers of 32 bits. Sort, part I: the sort of a slice, at numbers of 32 bits. Keys, part uK: a map's keys, collected, at numbers of 32 bits (the kit's own walk, for ranges over a function). Keys, part uL: contracts of a map's keys, sorted, at numbers of 32 bits. Keys, part I: all keys, in order. Keys, part J: keys turned, seen, told. Keys, part M: the document's ring in memory; found, made. Keys, part N: keys whose DS was seen. Keys, part O: the document's keys turned. Keys, part P: a ring's keys in order, and what its operations make of them; the document's ring beside it.
-/
import Derived.Test.YtkpgebeipmedeaaDoorBD
import Derived.RangeFuncBox
import Derived.RangeFuncLeaves
import Derived.RangeFuncStops
import Derived.Lib.SlKeysI
import Derived.Sort.MapsRangeIn
import Derived.Shelf.Abstract
import Derived.WalkKit
import Derived.OwnWalkIn
import Derived.TacticsInMore
import Derived.RegionIn
import Derived.LoopNIn
import Derived.LoopIn
import Derived.Maps.AppendAt
import Derived.Test.YtkpgebeipmedeaaDoorProg
import Derived.KernelRfl
namespace Go.AX
open Go Go.Proofs
def tY:AO→Option (List AV)
 | .cells xs mt=>aN (mt=true) (some xs)
 | .mapo _ _=>none
theorem cIh (xs:List AV) (mt:Bool):tY (.cells xs mt)=aN (mt=true) (some xs):=(rfl)
theorem oM {o:AO} {xs:List AV} (h:tY o=some xs):o=.cells xs true:=by
 obtain⟨ys,mt,rfl⟩: ∃ys mt,o=.cells ys mt:=by cases o with|cells ys mt=>exact⟨ys,mt,rfl⟩|mapo _ _=>cases h
 obtain⟨hm,h⟩:=aP h
 obtain rfl:=J0 h
 rw[hm]
def aJf:List AV→Option Int
 |[.i s]=>some s
 |_=>none
theorem bVw (s:Int):aJf [.i s]=some s:=(rfl)
theorem aCb {xs:List AV} {s:Int} (h:aJf xs=some s):xs=[.i s]:=by
 unfold aJf at h
 split at h
 ·obtain rfl:=J0 h;rfl
 cases h
attribute [go_sem] cIh bVw List.head?_cons List.set_cons_zero
theorem bBc {hp:H} {q:Nat} {a:AO} (h:hp q=some a): ∀j o,upd hp q a j=some o→hp j=some o:=by
 intro j o hj
 rw[bJ]at hj
 split at hj
 ·rename_i e;rw[e,h];exact hj
 exact hj
theorem aAd {hp t:H} {q:Nat} {a:AO} (h1:t q=some a) (h2: ∀j,j≠q→t j=hp j): ∀j o,upd hp q a j=some o→t j=some o:=by
 intro j o hj
 rw[bJ]at hj
 split at hj
 ·rename_i e;rw[e,h1];exact hj
 rename_i e;rw[h2 j e];exact hj
def aRo:List AV→H→Nat→Option (AV×H×Nat)
 |[.os id 0 n 1 _,.i a,.i b,.op q 0],hp,nx=>aK (hp id) fun o=>aK (tY o) fun xs=>aK (unA xs) fun l=>aK (hp q) fun o2=>aK (tY o2) fun ys=>aK (aJf ys) fun s=>aN (id≠q∧l.length=n∧0≤a∧a<n∧0≤b∧b<n∧n≤1000000∧0≤s∧s≤1000) (some (.tup [.i (Sort.order2 ltN l.toArray a.toNat b.toNat s.toNat).1,.i (Sort.order2 ltN l.toArray a.toNat b.toNat s.toNat).2.1],upd hp q (.cells [.i (Sort.order2 ltN l.toArray a.toNat b.toNat s.toNat).2.2] true),nx+60))
 |_,_,_=>none
theorem bVr (id n q:Nat) (gg:Bool) (a b:Int) (hp:H) (nx:Nat):aRo [.os id 0 n 1 gg,.i a,.i b,.op q 0] hp nx=aK (hp id) fun o=>aK (tY o) fun xs=>aK (unA xs) fun l=>aK (hp q) fun o2=>aK (tY o2) fun ys=>aK (aJf ys) fun s=>aN (id≠q∧l.length=n∧0≤a∧a<n∧0≤b∧b<n∧n≤1000000∧0≤s∧s≤1000) (some (.tup [.i (Sort.order2 ltN l.toArray a.toNat b.toNat s.toNat).1,.i (Sort.order2 ltN l.toArray a.toNat b.toNat s.toNat).2.1],upd hp q (.cells [.i (Sort.order2 ltN l.toArray a.toNat b.toNat s.toNat).2.2] true),nx+60)):=(rfl)
attribute [go_sem] bVr
set_option maxHeartbeats 1000000 in
theorem cKc:cQ Tryd.prog GLh 99 aRo:=by
 refine gF Tryd.func99 (aT rfl) ?_
 intro args hp nx r hp' nx' hg
 unfold aRo at hg
 split at hg
 ·rename_i hp0 nx0 id n gg a0 b0 q
  replace hg:=aJ hg;obtain⟨o,ho,hg⟩:=hg
  replace hg:=aJ hg;obtain⟨xs,hxs,hg⟩:=hg
  obtain rfl:=oM hxs
  replace hg:=aJ hg;obtain⟨l,hl,hg⟩:=hg
  replace hg:=aJ hg;obtain⟨o2,ho2,hg⟩:=hg
  replace hg:=aJ hg;obtain⟨ys,hys,hg⟩:=hg
  obtain rfl:=oM hys
  replace hg:=aJ hg;obtain⟨s0,hs0,hg⟩:=hg
  obtain rfl:=aCb hs0
  replace hg:=aP hg;obtain⟨⟨hne,hn,hal,hau,hbl,hbu,hbig,hsl,hsu⟩,hg⟩:=hg
  simp only[Option.some.injEq,Prod.mk.injEq]at hg;obtain⟨rfl,rfl,rfl⟩:=hg
  have:=dO hl;subst this
  obtain⟨a,rfl⟩:=Int.eq_ofNat_of_zero_le hal
  obtain⟨b,rfl⟩:=Int.eq_ofNat_of_zero_le hbl
  obtain⟨s,rfl⟩:=Int.eq_ofNat_of_zero_le hsl
  simp only[U2]at*
  obtain⟨d,hd⟩: ∃d,l.toArray=d:=⟨_,rfl⟩
  have hds:d.size=n:=by rw[←hd];simpa using hn
  rw[hd]at ho⊢
  have hqi:q≠id:=fun e=>hne e.symm
  refine⟨J1 rfl,by omega,fun hnone=>?_⟩
  have hidn:id<nx:=by
   apply Classical.byContradiction;intro hc;rw[hnone id (by omega)]at ho;cases ho
  have hqn:q<nx:=by
   apply Classical.byContradiction;intro hc;rw[hnone q (by omega)]at ho2;cases ho2
  obtain⟨v,hv⟩: ∃v,ltN d[b]! d[a]! =v:=⟨_,rfl⟩
  simp only[Sort.order2,hv]
  refine aA rfl (aW [0,1,2,3] rfl rfl rfl fun K hK=>?_)
  simp(disch:=omega) only[Tryd.f99,go_sem,↓reduceIte]
  refine hK _ ?_
  refine aB (aA rfl (aA rfl (bB (Γ:=bC [(84,.pure true dY)]) (fun k=>if k=8 then 0 else 2) [18,1,2,3] bZ (aH jC aO) rfl rfl rfl (by kernel_rfl) (fun K hK=>?_))))
  simp(disch:=omega) only[Tryd.f99,go_sem,↓reduceIte,ho,hv,U2]
  refine hK _ ?_
  refine aB ?_
  cases v
  ·refine eC (.tmp 18) rfl rfl rfl (fun h=>?_) (fun h=>?_)
   ·refine aI rfl ?_
    cases h
   refine aI rfl (aQ rfl (aB (aA rfl (aW [8,9] rfl rfl rfl fun K hK=>?_))))
   simp(disch:=omega) only[Tryd.f99,go_sem,↓reduceIte]
   refine hK _ ?_
   refine aB (aS rfl ?_)
   exact⟨rfl,bBc ho2,by simp only;omega⟩
  refine eC (.tmp 18) rfl rfl rfl (fun h=>?_) (fun h=>?_)
  ·refine aA rfl (aW [1,2] rfl rfl rfl fun K hK=>?_)
   simp(disch:=omega) only[Tryd.f99,go_sem,↓reduceIte,ho2]
   refine hK _ ?_
   refine aB (aA rfl (aW [8,9] rfl rfl rfl fun K hK=>?_))
   simp(disch:=omega) only[Tryd.f99,go_sem,↓reduceIte]
   refine hK _ ?_
   refine aB (aS rfl (bI ?_))
   refine⟨rfl,aAd (by simp only[aV,if_true,Int.natCast_add,Int.natCast_one];try rfl) (fun j hj=>by simp only[aV,J3 hj]),by simp only;omega⟩
  cases h
 cases hg
theorem aRr:bX Tryd.prog GLh 99 (.heap aRo):=⟨⟨_,Tryd.func99,rfl,rfl⟩,cKc⟩
theorem oF {d:Array T32} {a b s x y t:Nat} (h:Sort.order2 ltN d a b s=(x,y,t)):((x=a∧y=b)∨(x=b∧y=a))∧t≤s+1:=by
 unfold Sort.order2 at h
 split at h<;>(simp only[Prod.mk.injEq]at h;obtain⟨rfl,rfl,rfl⟩:=h;omega)
theorem bAn {d:Array T32} {a b c s x t:Nat} (h:Sort.median ltN d a b c s=(x,t)):(x=a∨x=b∨x=c)∧t≤s+3:=by
 obtain⟨⟨x1,y1,s1⟩,h1⟩: ∃r,Sort.order2 ltN d a b s=r:=⟨_,rfl⟩
 have f1:=oF h1
 obtain⟨⟨x2,y2,s2⟩,h2⟩: ∃r,Sort.order2 ltN d y1 c s1=r:=⟨_,rfl⟩
 have f2:=oF h2
 obtain⟨⟨x3,y3,s3⟩,h3⟩: ∃r,Sort.order2 ltN d x1 x2 s2=r:=⟨_,rfl⟩
 have f3:=oF h3
 simp only[Sort.median,h1,h2,h3,Prod.mk.injEq]at h
 omega
attribute [go_sem] Array.toArray_toList Array.length_toList
def aSb:List AV→H→Nat→Option (AV×H×Nat)
 |[.os id 0 n 1 _,.i a,.i b,.i c,.op q 0],hp,nx=>aK (hp id) fun o=>aK (tY o) fun xs=>aK (unA xs) fun l=>aK (hp q) fun o2=>aK (tY o2) fun ys=>aK (aJf ys) fun s=>aN (id≠q∧l.length=n∧0≤a∧a<n∧0≤b∧b<n∧0≤c∧c<n∧n≤1000000∧0≤s∧s≤900) (some (.i (Sort.median ltN l.toArray a.toNat b.toNat c.toNat s.toNat).1,upd hp q (.cells [.i (Sort.median ltN l.toArray a.toNat b.toNat c.toNat s.toNat).2] true),nx+300))
 |_,_,_=>none
theorem bXk (id n q:Nat) (gg:Bool) (a b c:Int) (hp:H) (nx:Nat):aSb [.os id 0 n 1 gg,.i a,.i b,.i c,.op q 0] hp nx=aK (hp id) fun o=>aK (tY o) fun xs=>aK (unA xs) fun l=>aK (hp q) fun o2=>aK (tY o2) fun ys=>aK (aJf ys) fun s=>aN (id≠q∧l.length=n∧0≤a∧a<n∧0≤b∧b<n∧0≤c∧c<n∧n≤1000000∧0≤s∧s≤900) (some (.i (Sort.median ltN l.toArray a.toNat b.toNat c.toNat s.toNat).1,upd hp q (.cells [.i (Sort.median ltN l.toArray a.toNat b.toNat c.toNat s.toNat).2] true),nx+300)):=(rfl)
attribute [go_sem] bXk
set_option maxHeartbeats 1000000 in
theorem cMf:cQ Tryd.prog GLh 95 aSb:=by
 refine gF Tryd.func95 (aT rfl) ?_
 intro args hp nx r hp' nx' hg
 unfold aSb at hg
 split at hg
 ·rename_i hp0 nx0 id n gg a0 b0 c0 q
  replace hg:=aJ hg;obtain⟨o,ho,hg⟩:=hg
  replace hg:=aJ hg;obtain⟨xs,hxs,hg⟩:=hg
  obtain rfl:=oM hxs
  replace hg:=aJ hg;obtain⟨l,hl,hg⟩:=hg
  replace hg:=aJ hg;obtain⟨o2,ho2,hg⟩:=hg
  replace hg:=aJ hg;obtain⟨ys,hys,hg⟩:=hg
  obtain rfl:=oM hys
  replace hg:=aJ hg;obtain⟨s0,hs0,hg⟩:=hg
  obtain rfl:=aCb hs0
  replace hg:=aP hg;obtain⟨⟨hne,hn,hal,hau,hbl,hbu,hcl,hcu,hbig,hsl,hsu⟩,hg⟩:=hg
  simp only[Option.some.injEq,Prod.mk.injEq]at hg;obtain⟨rfl,rfl,rfl⟩:=hg
  have:=dO hl;subst this
  obtain⟨a,rfl⟩:=Int.eq_ofNat_of_zero_le hal
  obtain⟨b,rfl⟩:=Int.eq_ofNat_of_zero_le hbl
  obtain⟨c,rfl⟩:=Int.eq_ofNat_of_zero_le hcl
  obtain⟨s,rfl⟩:=Int.eq_ofNat_of_zero_le hsl
  simp only[U2]at*
  obtain⟨d,hd⟩: ∃d,l.toArray=d:=⟨_,rfl⟩
  have hds:d.size=n:=by rw[←hd];simpa using hn
  rw[hd]at ho⊢
  have hqi:q≠id:=fun e=>hne e.symm
  refine⟨J1 rfl,by omega,fun hnone=>?_⟩
  have hidn:id<nx:=by
   apply Classical.byContradiction;intro hc;rw[hnone id (by omega)]at ho;cases ho
  have hqn:q<nx:=by
   apply Classical.byContradiction;intro hc;rw[hnone q (by omega)]at ho2;cases ho2
  obtain⟨⟨x1,y1,s1⟩,h1⟩: ∃r,Sort.order2 ltN d a b s=r:=⟨_,rfl⟩
  have f1:=oF h1
  obtain⟨⟨x2,y2,s2⟩,h2⟩: ∃r,Sort.order2 ltN d y1 c s1=r:=⟨_,rfl⟩
  have f2:=oF h2
  obtain⟨⟨x3,y3,s3⟩,h3⟩: ∃r,Sort.order2 ltN d x1 x2 s2=r:=⟨_,rfl⟩
  have f3:=oF h3
  have hx1:x1<n:=by omega
  have hy1:y1<n:=by omega
  have hx2:x2<n:=by omega
  simp only[Sort.median,h1,h2,h3]
  refine aA rfl (aW [0,1,2,3,4] rfl rfl rfl fun K hK=>?_)
  simp(disch:=omega) only[Tryd.f95,go_sem,↓reduceIte]
  refine hK _ ?_
  refine aB (aA rfl (aC (Γ:=bC [(99,.heap aRo)]) [0,1,2,3,4] (aH aRr aO) rfl rfl rfl (fun K hK=>?_)))
  simp(disch:=omega) only[Tryd.f95,go_sem,↓reduceIte,ho,ho2,hds,h1,U2,Int.natCast_nonneg]
  refine hK _ ?_
  refine aB (aA rfl (aC (Γ:=bC [(99,.heap aRo)]) [0,1,2,4] (aH aRr aO) rfl rfl rfl (fun K hK=>?_)))
  simp(disch:=omega) only[Tryd.f95,go_sem,↓reduceIte,ho,hds,h2,hne,U2]
  refine hK _ ?_
  refine aB (aA rfl (aC (Γ:=bC [(99,.heap aRo)]) [2] (aH aRr aO) rfl rfl rfl (fun K hK=>?_)))
  simp(disch:=omega) only[Tryd.f95,go_sem,↓reduceIte,ho,hds,h3,hne,U2]
  refine hK _ ?_
  refine aB (aA rfl (aW [10] rfl rfl rfl fun K hK=>?_))
  simp(disch:=omega) only[Tryd.f95,go_sem,↓reduceIte]
  refine hK _ ?_
  refine aB (aS rfl ?_)
  refine⟨rfl,aAd (by simp only[aV,if_true]) (fun j hj=>by simp only[aV,J3 hj]),by simp only;omega⟩
 cases hg
theorem aRs:bX Tryd.prog GLh 95 (.heap aSb):=⟨⟨_,Tryd.func95,rfl,rfl⟩,cMf⟩
theorem yL {d:Array T32} {a s x t:Nat} (h:Sort.medianAdjacent ltN d a s=(x,t)):(x=a-1∨x=a∨x=a+1)∧t≤s+3:=bAn h
def aUf:List AV→H→Nat→Option (AV×H×Nat)
 |[.os id 0 n 1 _,.i a,.op q 0],hp,nx=>aK (hp id) fun o=>aK (tY o) fun xs=>aK (unA xs) fun l=>aK (hp q) fun o2=>aK (tY o2) fun ys=>aK (aJf ys) fun s=>aN (id≠q∧l.length=n∧1≤a∧a+1<n∧n≤1000000∧0≤s∧s≤800) (some (.i (Sort.medianAdjacent ltN l.toArray a.toNat s.toNat).1,upd hp q (.cells [.i (Sort.medianAdjacent ltN l.toArray a.toNat s.toNat).2] true),nx+400))
 |_,_,_=>none
theorem cEg (id n q:Nat) (gg:Bool) (a:Int) (hp:H) (nx:Nat):aUf [.os id 0 n 1 gg,.i a,.op q 0] hp nx=aK (hp id) fun o=>aK (tY o) fun xs=>aK (unA xs) fun l=>aK (hp q) fun o2=>aK (tY o2) fun ys=>aK (aJf ys) fun s=>aN (id≠q∧l.length=n∧1≤a∧a+1<n∧n≤1000000∧0≤s∧s≤800) (some (.i (Sort.medianAdjacent ltN l.toArray a.toNat s.toNat).1,upd hp q (.cells [.i (Sort.medianAdjacent ltN l.toArray a.toNat s.toNat).2] true),nx+400)):=(rfl)
attribute [go_sem] cEg
set_option maxHeartbeats 1000000 in
theorem cRw:cQ Tryd.prog GLh 94 aUf:=by
 refine gF Tryd.func94 (aT rfl) ?_
 intro args hp nx r hp' nx' hg
 unfold aUf at hg
 split at hg
 ·rename_i hp0 nx0 id n gg a0 q
  replace hg:=aJ hg;obtain⟨o,ho,hg⟩:=hg
  replace hg:=aJ hg;obtain⟨xs,hxs,hg⟩:=hg
  obtain rfl:=oM hxs
  replace hg:=aJ hg;obtain⟨l,hl,hg⟩:=hg
  replace hg:=aJ hg;obtain⟨o2,ho2,hg⟩:=hg
  replace hg:=aJ hg;obtain⟨ys,hys,hg⟩:=hg
  obtain rfl:=oM hys
  replace hg:=aJ hg;obtain⟨s0,hs0,hg⟩:=hg
  obtain rfl:=aCb hs0
  replace hg:=aP hg;obtain⟨⟨hne,hn,hal1,hau,hbig,hsl,hsu⟩,hg⟩:=hg
  simp only[Option.some.injEq,Prod.mk.injEq]at hg;obtain⟨rfl,rfl,rfl⟩:=hg
  have:=dO hl;subst this
  have hal:0≤a0:=by omega
  obtain⟨a,rfl⟩:=Int.eq_ofNat_of_zero_le hal
  obtain⟨s,rfl⟩:=Int.eq_ofNat_of_zero_le hsl
  simp only[U2]at*
  obtain⟨d,hd⟩: ∃d,l.toArray=d:=⟨_,rfl⟩
  have hds:d.size=n:=by rw[←hd];simpa using hn
  rw[hd]at ho⊢
  have hqi:q≠id:=fun e=>hne e.symm
  refine⟨J1 rfl,by omega,fun hnone=>?_⟩
  have hidn:id<nx:=by
   apply Classical.byContradiction;intro hc;rw[hnone id (by omega)]at ho;cases ho
  have hqn:q<nx:=by
   apply Classical.byContradiction;intro hc;rw[hnone q (by omega)]at ho2;cases ho2
  obtain⟨⟨x1,s1⟩,h1⟩: ∃r,Sort.median ltN d (a-1) a (a+1) s=r:=⟨_,rfl⟩
  simp only[Sort.medianAdjacent,h1]
  have e1:(a:Int)-1=((a-1:Nat):Int):=by omega
  have e2:(a:Int)+1=((a+1:Nat):Int):=by omega
  refine aA rfl (aW [0,1,2] rfl rfl rfl fun K hK=>?_)
  simp(disch:=omega) only[Tryd.f94,go_sem,↓reduceIte]
  refine hK _ ?_
  refine aB (aA rfl (aC (Γ:=bC [(95,.heap aSb)]) [6] (aH aRs aO) rfl rfl rfl (fun K hK=>?_)))
  simp(disch:=omega) only[Tryd.f94,go_sem,↓reduceIte,ho,ho2,hds,h1,e1,e2,U2]
  refine hK _ ?_
  refine aB (aS rfl ?_)
  refine⟨rfl,aAd (by simp only[aV,if_true]) (fun j hj=>by simp only[aV,J3 hj]),by simp only;omega⟩
 cases hg
theorem aRt:bX Tryd.prog GLh 94 (.heap aUf):=⟨⟨_,Tryd.func94,rfl,rfl⟩,cRw⟩
def gM:Sort.Hint→Int
 | .unknown=>0
 | .increasing=>1
 | .decreasing=>2
def chG:List AV→List AV→Option (AV×List AV)
 |[.os _ 0 n 1 _,.i a,.i b],xs=>aK (unA xs) fun l=>aN (l.length=n∧0≤a∧a<b∧b≤n∧n≤1000000) (some (.tup [.i (Sort.choosePivot ltN l.toArray a.toNat b.toNat).1,.i (gM (Sort.choosePivot ltN l.toArray a.toNat b.toNat).2)],cA l.toArray))
 |_,_=>none
theorem cQh (id n:Nat) (gg:Bool) (a b:Int) (xs:List AV):chG [.os id 0 n 1 gg,.i a,.i b] xs=aK (unA xs) fun l=>aN (l.length=n∧0≤a∧a<b∧b≤n∧n≤1000000) (some (.tup [.i (Sort.choosePivot ltN l.toArray a.toNat b.toNat).1,.i (gM (Sort.choosePivot ltN l.toArray a.toNat b.toNat).2)],cA l.toArray)):=(rfl)
attribute [go_sem] cQh
set_option maxHeartbeats 2000000 in
theorem dBf:cQ Tryd.prog GLh 81 (dP chG):=by
 refine dN Tryd.func81 (aT rfl) ?_
 intro id off n e gg rest nx xs r ys hg
 unfold chG at hg
 split at hg
 ·rename_i id2 n2 gg2 a0 b0 heq
  simp only[List.cons.injEq,AV.os.injEq]at heq
  obtain⟨⟨rfl,rfl,rfl,rfl,rfl⟩,rfl⟩:=heq
  replace hg:=aJ hg;obtain⟨l,hl,hg⟩:=hg
  replace hg:=aP hg;obtain⟨⟨hn,ha,hab,hbn,hbig⟩,hg⟩:=hg
  simp only[Option.some.injEq,Prod.mk.injEq]at hg;obtain⟨rfl,rfl⟩:=hg
  have:=dO hl;subst this
  obtain⟨a,rfl⟩:=Int.eq_ofNat_of_zero_le ha
  obtain⟨b,rfl⟩:=Int.eq_ofNat_of_zero_le (show 0≤b0 by omega)
  simp only[U2]at*
  obtain⟨d,hd⟩: ∃d,l.toArray=d:=⟨_,rfl⟩
  have hds:d.size=n:=by rw[←hd];simpa using hn
  have hab2:a<b:=by omega
  have hbn2:b≤n:=by omega
  rw[hd]
  refine⟨J1 rfl,fun hid=>?_⟩
  clear hl hn ha hab hbn
  have eq4:(((b:Int)-(a:Int)).tdiv 4)=(((b-a)/4:Nat):Int):=by rw[Int.tdiv_eq_ediv_of_nonneg (by omega)];omega
  obtain⟨L,hL⟩: ∃L:Nat,b-a=L:=⟨_,rfl⟩
  obtain⟨Q,hQ⟩: ∃Q:Nat,(b-a)/4=Q:=⟨_,rfl⟩
  have ebL:(b:Int)-(a:Int)=(L:Int):=by omega
  rw[ebL,hQ]at eq4
  have ei:(a:Int)+(Q:Int)*1=((a+Q*1:Nat):Int):=by omega
  have ej:(a:Int)+(Q:Int)*2=((a+Q*2:Nat):Int):=by omega
  have ek:(a:Int)+(Q:Int)*3=((a+Q*3:Nat):Int):=by omega
  obtain⟨CP,hCP⟩: ∃CP,Sort.choosePivot ltN d a b=CP:=⟨_,rfl⟩
  rw[hCP]
  refine aA rfl (aW [0,1,2] rfl rfl rfl fun K hK=>?_)
  simp(disch:=omega) only[Tryd.f81,go_sem,↓reduceIte]
  refine hK _ ?_
  refine aB (aA rfl (aW [0,1,8] rfl rfl rfl fun K hK=>?_))
  simp(disch:=omega) only[Tryd.f81,go_sem,↓reduceIte,ebL]
  refine hK _ ?_
  refine aB (aA rfl (aW [0,1,8,9] rfl rfl rfl fun K hK=>?_))
  simp(disch:=omega) only[Tryd.f81,go_sem,↓reduceIte]
  refine hK _ ?_
  refine aB (aA rfl (aW [0,1,8,9,10] rfl rfl rfl fun K hK=>?_))
  simp(disch:=omega) only[Tryd.f81,go_sem,↓reduceIte,eq4,ei]
  refine hK _ ?_
  refine aB (aA rfl (aW [0,1,8,9,10,11] rfl rfl rfl fun K hK=>?_))
  simp(disch:=omega) only[Tryd.f81,go_sem,↓reduceIte,eq4,ej]
  refine hK _ ?_
  refine aB (aA rfl (aW [0,8,9,10,11,12] rfl rfl rfl fun K hK=>?_))
  simp(disch:=omega) only[Tryd.f81,go_sem,↓reduceIte,eq4,ek]
  refine hK _ ?_
  refine aB (aA rfl (aA rfl (aW [32,0,8,9,10,11,12] rfl rfl rfl fun K hK=>?_)))
  simp(disch:=omega) only[Tryd.f81,go_sem,↓reduceIte]
  refine hK _ ?_
  refine aB ?_
  have hne:id≠nx+6:=by omega
  have hQL:Q=L/4:=by omega
  refine gP (.tmp 32) rfl rfl rfl (fun h=>?_) (fun h=>?_)
  ·refine aI rfl ?_
   have hL8:8≤L:=by omega
   refine aA rfl (aA rfl (aW [34,0,9,10,11,12] rfl rfl rfl fun K hK=>?_))
   simp(disch:=omega) only[Tryd.f81,go_sem,↓reduceIte]
   refine hK _ ?_
   refine aB (gP (.tmp 34) rfl rfl rfl (fun h=>?_) (fun h=>?_))
   ·refine aI rfl ?_
    have hL50:50≤L:=by omega
    obtain⟨⟨x1,s1⟩,h1⟩: ∃r,Sort.medianAdjacent ltN d (a+Q) 0=r:=⟨_,rfl⟩
    have f1:=yL h1
    obtain⟨⟨x2,s2⟩,h2⟩: ∃r,Sort.medianAdjacent ltN d (a+Q*2) s1=r:=⟨_,rfl⟩
    have f2:=yL h2
    obtain⟨⟨x3,s3⟩,h3⟩: ∃r,Sort.medianAdjacent ltN d (a+Q*3) s2=r:=⟨_,rfl⟩
    have f3:=yL h3
    obtain⟨⟨p,sw⟩,h4⟩: ∃r,Sort.median ltN d x1 x2 x3 s3=r:=⟨_,rfl⟩
    obtain rfl:CP=(p,if sw=0 then .increasing else if sw=12 then .decreasing else .unknown):=by
     rw[←hCP];unfold Sort.choosePivot
     simp only[hL,←hQL,ge_iff_le,hL8,hL50,if_true,Nat.mul_one,h1,h2,h3,h4]
    have hx1:x1<n:=by omega
    have hx2:x2<n:=by omega
    have hx3:x3<n:=by omega
    have g1:a+Q+1<n:=by omega
    have g2:a+Q*2+1<n:=by omega
    have g3:a+Q*3+1<n:=by omega
    refine aA rfl (aC (Γ:=bC [(94,.heap aUf)]) [0,9,10,11,12] (aH aRt aO) rfl rfl rfl (fun K hK=>?_))
    simp(disch:=omega) only[Tryd.f81,go_sem,↓reduceIte,hds,h1,hne,U2,Int.toNat_zero]
    refine hK _ ?_
    refine aB (aA rfl (aC (Γ:=bC [(94,.heap aUf)]) [0,9,10,11,12] (aH aRt aO) rfl rfl rfl (fun K hK=>?_)))
    simp(disch:=omega) only[Tryd.f81,go_sem,↓reduceIte,hds,h2,hne,U2]
    refine hK _ ?_
    refine aB (aC (Γ:=bC [(94,.heap aUf)]) [0,9,10,11,12] (aH aRt aO) rfl rfl rfl (fun K hK=>?_))
    simp(disch:=omega) only[Tryd.f81,go_sem,↓reduceIte,hds,h3,hne,U2]
    refine hK _ ?_
    refine aB (aC (Γ:=bC [(95,.heap aSb)]) [9,11] (aH aRs aO) rfl rfl rfl (fun K hK=>?_))
    simp(disch:=omega) only[Tryd.f81,go_sem,↓reduceIte,hds,h4,hne,U2]
    refine hK _ ?_
    refine aB (aA rfl (aW [11,49] rfl rfl rfl fun K hK=>?_))
    simp(disch:=omega) only[Tryd.f81,go_sem,↓reduceIte]
    refine hK _ ?_
    refine aB (aR 0 rfl rfl (aA rfl (aW [51,11,49] rfl rfl rfl fun K hK=>?_)))
    simp(disch:=omega) only[Tryd.f81,go_sem,↓reduceIte]
    refine hK _ ?_
    refine aB (gP (.tmp 51) rfl rfl rfl (fun h=>?_) (fun h=>?_))
    ·refine aI rfl ?_
     have h0:sw=0:=by omega
     refine aA rfl (aW [6,7] rfl rfl rfl fun K hK=>?_)
     simp(disch:=omega) only[Tryd.f81,go_sem,↓reduceIte]
     refine hK _ ?_
     refine aB (aS rfl (bN ?_))
     exact⟨by simp only[h0,if_true,gM,bV];rfl,by simp(disch:=omega) only[aV,bY,if_true,if_false],rfl,dZ _⟩
    refine aI rfl (aA rfl (aW [54,11] rfl rfl rfl fun K hK=>?_))
    simp(disch:=omega) only[Tryd.f81,go_sem,↓reduceIte]
    refine hK _ ?_
    refine aB (gP (.tmp 54) rfl rfl rfl (fun h=>?_) (fun h=>?_))
    ·refine aI rfl ?_
     have h0:sw=12:=by omega
     refine aA rfl (aW [6,7] rfl rfl rfl fun K hK=>?_)
     simp(disch:=omega) only[Tryd.f81,go_sem,↓reduceIte]
     refine hK _ ?_
     refine aB (aS rfl (bN ?_))
     exact⟨by simp only[h0,if_true,gM,bV];rfl,by simp(disch:=omega) only[aV,bY,if_true,if_false],rfl,dZ _⟩
    refine aI rfl ?_
    have h0:sw≠0:=by omega
    have h1:sw≠12:=by omega
    refine aA rfl (aW [6,7] rfl rfl rfl fun K hK=>?_)
    simp(disch:=omega) only[Tryd.f81,go_sem,↓reduceIte]
    refine hK _ ?_
    refine aB (aS rfl (bN ?_))
    exact⟨by simp only[h0,h1,if_false,gM,bV];rfl,by simp(disch:=omega) only[aV,bY,if_true,if_false],rfl,dZ _⟩
   refine aI rfl ?_
   have hL50: ¬50≤L:=by omega
   obtain⟨⟨p,sw⟩,h4⟩: ∃r,Sort.median ltN d (a+Q) (a+Q*2) (a+Q*3) 0=r:=⟨_,rfl⟩
   obtain rfl:CP=(p,if sw=0 then .increasing else if sw=12 then .decreasing else .unknown):=by
    rw[←hCP];unfold Sort.choosePivot
    simp only[hL,←hQL,ge_iff_le,hL8,hL50,if_true,if_false,Nat.mul_one,h4]
   have g1:a+Q<n:=by omega
   have g2:a+Q*2<n:=by omega
   have g3:a+Q*3<n:=by omega
   refine aQ rfl (aB (aC (Γ:=bC [(95,.heap aSb)]) [9,11] (aH aRs aO) rfl rfl rfl (fun K hK=>?_)))
   simp(disch:=omega) only[Tryd.f81,go_sem,↓reduceIte,hds,h4,hne,U2,Int.toNat_zero]
   refine hK _ ?_
   refine aB (aA rfl (aW [11,49] rfl rfl rfl fun K hK=>?_))
   simp(disch:=omega) only[Tryd.f81,go_sem,↓reduceIte]
   refine hK _ ?_
   refine aB (aR 0 rfl rfl (aA rfl (aW [51,11,49] rfl rfl rfl fun K hK=>?_)))
   simp(disch:=omega) only[Tryd.f81,go_sem,↓reduceIte]
   refine hK _ ?_
   refine aB (gP (.tmp 51) rfl rfl rfl (fun h=>?_) (fun h=>?_))
   ·refine aI rfl ?_
    have h0:sw=0:=by omega
    refine aA rfl (aW [6,7] rfl rfl rfl fun K hK=>?_)
    simp(disch:=omega) only[Tryd.f81,go_sem,↓reduceIte]
    refine hK _ ?_
    refine aB (aS rfl (bN ?_))
    exact⟨by simp only[h0,if_true,gM,bV];rfl,by simp(disch:=omega) only[aV,bY,if_true,if_false],rfl,dZ _⟩
   refine aI rfl (aA rfl (aW [54,11] rfl rfl rfl fun K hK=>?_))
   simp(disch:=omega) only[Tryd.f81,go_sem,↓reduceIte]
   refine hK _ ?_
   refine aB (gP (.tmp 54) rfl rfl rfl (fun h=>?_) (fun h=>?_))
   ·refine aI rfl ?_
    have h0:sw=12:=by omega
    refine aA rfl (aW [6,7] rfl rfl rfl fun K hK=>?_)
    simp(disch:=omega) only[Tryd.f81,go_sem,↓reduceIte]
    refine hK _ ?_
    refine aB (aS rfl (bN ?_))
    exact⟨by simp only[h0,if_true,gM,bV];rfl,by simp(disch:=omega) only[aV,bY,if_true,if_false],rfl,dZ _⟩
   refine aI rfl ?_
   have h0:sw≠0:=by omega
   have h1:sw≠12:=by omega
   refine aA rfl (aW [6,7] rfl rfl rfl fun K hK=>?_)
   simp(disch:=omega) only[Tryd.f81,go_sem,↓reduceIte]
   refine hK _ ?_
   refine aB (aS rfl (bN ?_))
   exact⟨by simp only[h0,h1,if_false,gM,bV];rfl,by simp(disch:=omega) only[aV,bY,if_true,if_false],rfl,dZ _⟩
  refine aI rfl ?_
  have hL8: ¬8≤L:=by omega
  obtain rfl:CP=(a+Q*2,.increasing):=by
   rw[←hCP];unfold Sort.choosePivot
   simp only[hL,←hQL,ge_iff_le,hL8,if_true,if_false]
  refine aQ rfl (aB (aA rfl (aW [11,49] rfl rfl rfl fun K hK=>?_)))
  simp(disch:=omega) only[Tryd.f81,go_sem,↓reduceIte]
  refine hK _ ?_
  refine aB (aR 0 rfl rfl (aA rfl (aW [51,11,49] rfl rfl rfl fun K hK=>?_)))
  simp(disch:=omega) only[Tryd.f81,go_sem,↓reduceIte]
  refine hK _ ?_
  refine aB (eC (.tmp 51) rfl rfl rfl (fun h=>?_) (fun h=>?_))
  ·refine aI rfl (aA rfl (aW [6,7] rfl rfl rfl fun K hK=>?_))
   simp(disch:=omega) only[Tryd.f81,go_sem,↓reduceIte]
   refine hK _ ?_
   exact aB (aS rfl (bN (⟨rfl,by simp(disch:=omega) only[aV,bY,if_true,if_false],rfl,dZ _⟩)))
  refine aI rfl ?_
  cases h
 cases hg
theorem cVq:bX Tryd.prog GLh 81 (.heap (dP chG)):=⟨⟨_,Tryd.func81,rfl,rfl⟩,dBf⟩
end Go.AX

namespace Go.AX
open Go Go.Proofs
structure SDJ where
 k:Nat
 j:Nat
 d:Array T32
 c:Nat
def bHw:List AV→List AV→Option (AV×List AV)
 |[.os _ 0 n 1 _,.i a,.i b],xs=>aK (unA xs) fun l=>aN (l.length=n∧0≤a∧a<b∧b≤n∧n≤1000000) (some (.tup [],cA (Sort.reverseRange l.toArray a.toNat b.toNat)))
 |_,_=>none
theorem bUq (id n:Nat) (gg:Bool) (a b:Int) (xs:List AV):bHw [.os id 0 n 1 gg,.i a,.i b] xs=aK (unA xs) fun l=>aN (l.length=n∧0≤a∧a<b∧b≤n∧n≤1000000) (some (.tup [],cA (Sort.reverseRange l.toArray a.toNat b.toNat))):=(rfl)
attribute [go_sem] bUq
set_option maxHeartbeats 2000000 in
theorem cIm:cQ Tryd.prog GLh 82 (dP bHw):=by
 refine dN Tryd.func82 (aT rfl) ?_
 intro id off n e gg rest nx xs r ys hg
 unfold bHw at hg
 split at hg
 ·rename_i id2 n2 gg2 a0 b0 heq
  simp only[List.cons.injEq,AV.os.injEq]at heq
  obtain⟨⟨rfl,rfl,rfl,rfl,rfl⟩,rfl⟩:=heq
  replace hg:=aJ hg;obtain⟨l,hl,hg⟩:=hg
  replace hg:=aP hg;obtain⟨⟨hn,ha,hab,hbn,hbig⟩,hg⟩:=hg
  simp only[Option.some.injEq,Prod.mk.injEq]at hg;obtain⟨rfl,rfl⟩:=hg
  have:=dO hl;subst this
  obtain⟨a,rfl⟩:=Int.eq_ofNat_of_zero_le ha
  obtain⟨b,rfl⟩:=Int.eq_ofNat_of_zero_le (show 0≤b0 by omega)
  simp only[U2]at*
  obtain⟨d,hd⟩: ∃d,l.toArray=d:=⟨_,rfl⟩
  have hds:d.size=n:=by rw[←hd];simpa using hn
  have hab2:a<b:=by omega
  have hbn2:b≤n:=by omega
  rw[hd]
  refine⟨J1 rfl,fun hid=>?_⟩
  clear hl hn ha hab hbn
  obtain⟨R,hR⟩: ∃R,Sort.reverseRange d a b=R:=⟨_,rfl⟩
  have hR0:Sort.reverseLoop a (b-1) d=R:=hR
  rw[hR]
  clear hR
  have eb:(b:Int)-1=((b-1:Nat):Int):=by omega
  refine aA rfl (aW [0,2,6] rfl rfl rfl fun K hK=>?_)
  simp(disch:=omega) only[Tryd.f82,go_sem,↓reduceIte]
  refine hK _ ?_
  refine aB (aA rfl (aW [0,6,7] rfl rfl rfl fun K hK=>?_))
  simp(disch:=omega) only[Tryd.f82,go_sem,↓reduceIte,eb]
  refine hK _ ?_
  refine aB (aR 0 rfl rfl ?_)
  refine bR (fun p:SDJ=> {fr:=[(0,.os id 0 n 1 gg),(6,.i p.k),(7,.i p.j)],hp:=upd (fun _=>none) id (.cells (cA p.d) true),nx:=0,cx:=p.c}) (fun p=>Sort.reverseLoop p.k p.j p.d=R∧p.d.size=n∧p.j<n∧id<p.c) (fun p=>p.j-p.k) rfl ⟨⟨a,b-1,d,_⟩,⟨hR0,hds,by simp only;omega,by simp only;omega⟩,bD rfl rfl (U3 _)⟩ ?_
  rintro⟨k,j,d1,c⟩ ⟨hr1,hs1,hj,hc⟩ n0
  simp only at hr1 hs1 hj hc⊢
  refine aA rfl (aA rfl (aW [13,0,6,7] rfl rfl rfl fun K hK=>?_))
  simp(disch:=omega) only[Tryd.f82,go_sem,↓reduceIte]
  refine hK _ ?_
  refine aB (gP (.tmp 13) rfl rfl rfl (fun h=>?_) (fun h=>?_))
  ·refine aI rfl ?_
   have hkj:k<j:=by omega
   rw[Sort.reverseLoop,J4 hkj]at hr1
   have hkn:k<n:=by omega
   have hsw:(d1.setIfInBounds k d1[j]!).setIfInBounds j d1[k]! =Sort.swp d1 k j:=rfl
   have ej:(j:Int)-1=((j-1:Nat):Int):=by omega
   refine aQ rfl (aB (aR 1 rfl rfl (aA rfl (bB (Γ:=aL) (fun _=>2) [0,6,7] bZ (aD _ _) rfl rfl rfl (by kernel_rfl) (fun K hK=>?_)))))
   simp(disch:=omega) only[Tryd.f82,go_sem,↓reduceIte,hsw,U2]
   refine hK _ ?_
   refine aB (aA rfl (aW [0,6,7] rfl rfl rfl fun K hK=>?_))
   simp(disch:=omega) only[Tryd.f82,go_sem,↓reduceIte]
   refine hK _ ?_
   refine aB (aW [0,6,7] rfl rfl rfl fun K hK=>?_)
   simp(disch:=omega) only[Tryd.f82,go_sem,↓reduceIte,ej]
   refine hK _ ?_
   refine bU (bT ?_)
   refine⟨⟨k+1,j-1,Sort.swp d1 k j,_⟩,⟨hr1,by simp only[cW];exact hs1,by simp only;omega,by simp only;omega⟩,by simp only;omega,⟨fun _=> .inr (by simp only[Int.natCast_add,Int.natCast_one]),bS (by simp(disch:=omega) only[aV,↓reduceIte,eq_self]) cB,U3 _⟩⟩
  refine aI rfl (bF 0 rfl rfl (aY (aZ (bE ?_))))
  have hkj: ¬k<j:=by omega
  rw[Sort.reverseLoop,J3 hkj]at hr1
  subst hr1
  exact⟨rfl,by simp only[aV,if_true],rfl,dZ _⟩
 cases hg
theorem cVp:bX Tryd.prog GLh 82 (.heap (dP bHw)):=⟨⟨_,Tryd.func82,rfl,rfl⟩,cIm⟩
def aMz:List AV→Option (BitVec 64)
 |[.w64 s]=>some s
 |_=>none
theorem bIz (s:BitVec 64):aMz [.w64 s]=some s:=(rfl)
theorem aZv {xs:List AV} {s:BitVec 64} (h:aMz xs=some s):xs=[.w64 s]:=by
 unfold aMz at h
 split at h
 ·obtain rfl:=J0 h;rfl
 cases h
def aDu (x:BitVec 64):BitVec 64:=(Sort.xorNext (.ofBitVec x)).toBitVec
def bJo:List AV→H→Nat→Option (AV×H×Nat)
 |[.op q 0],hp,nx=>aK (hp q) fun o2=>aK (tY o2) fun ys=>aK (aMz ys) fun s=>some (.w64 (aDu s),upd hp q (.cells [.w64 (aDu s)] true),nx+60)
 |_,_,_=>none
theorem bWn (q:Nat) (hp:H) (nx:Nat):bJo [.op q 0] hp nx=aK (hp q) fun o2=>aK (tY o2) fun ys=>aK (aMz ys) fun s=>some (.w64 (aDu s),upd hp q (.cells [.w64 (aDu s)] true),nx+60):=(rfl)
attribute [go_sem] bWn bIz
set_option maxHeartbeats 1000000 in
theorem cLa:cQ Tryd.prog GLh 93 bJo:=by
 refine gF Tryd.func93 (aT rfl) ?_
 intro args hp nx r hp' nx' hg
 unfold bJo at hg
 split at hg
 ·rename_i hp0 nx0 q
  replace hg:=aJ hg;obtain⟨o2,ho2,hg⟩:=hg
  replace hg:=aJ hg;obtain⟨ys,hys,hg⟩:=hg
  obtain rfl:=oM hys
  replace hg:=aJ hg;obtain⟨s0,hs0,hg⟩:=hg
  obtain rfl:=aZv hs0
  simp only[Option.some.injEq,Prod.mk.injEq]at hg;obtain⟨rfl,rfl,rfl⟩:=hg
  refine⟨J1 rfl,by omega,fun hnone=>?_⟩
  have hqn:q<nx:=by
   apply Classical.byContradiction;intro hc;rw[hnone q (by omega)]at ho2;cases ho2
  refine aA rfl (aW [0] rfl rfl rfl fun K hK=>?_)
  simp(disch:=omega) only[Tryd.f93,go_sem,↓reduceIte]
  refine hK _ ?_
  refine aB (aA rfl (bB (Γ:=aL) (fun _=>2) [0] bZ (aD _ _) rfl rfl rfl (by kernel_rfl) (fun K hK=>?_)))
  simp(disch:=omega) only[Tryd.f93,go_sem,↓reduceIte,ho2]
  refine hK _ ?_
  refine aB (aA rfl (bB (Γ:=aL) (fun _=>2) [0] bZ (aD _ _) rfl rfl rfl (by kernel_rfl) (fun K hK=>?_)))
  simp(disch:=omega) only[Tryd.f93,go_sem,↓reduceIte]
  refine hK _ ?_
  refine aB (aA rfl (bB (Γ:=aL) (fun _=>2) [0] bZ (aD _ _) rfl rfl rfl (by kernel_rfl) (fun K hK=>?_)))
  simp(disch:=omega) only[Tryd.f93,go_sem,↓reduceIte]
  refine hK _ ?_
  refine aB (aA rfl (aW [2] rfl rfl rfl fun K hK=>?_))
  simp(disch:=omega) only[Tryd.f93,go_sem,↓reduceIte]
  refine hK _ ?_
  refine aB (aS rfl ?_)
  refine⟨rfl,aAd (by simp only[aV,if_true];rfl) (fun j hj=>by simp only[aV,J3 hj]),by simp only;omega⟩
 cases hg
theorem cKh:bX Tryd.prog GLh 93 (.heap bJo):=⟨⟨_,Tryd.func93,rfl,rfl⟩,cLa⟩
def L8:List B8:=[0#8,1#8,2#8,2#8,3#8,3#8,3#8,3#8,4#8,4#8,4#8,4#8,4#8,4#8,4#8,4#8,5#8,5#8,5#8,5#8,5#8,5#8,5#8,5#8,5#8,5#8,5#8,5#8,5#8,5#8,5#8,5#8,6#8,6#8,6#8,6#8,6#8,6#8,6#8,6#8,6#8,6#8,6#8,6#8,6#8,6#8,6#8,6#8,6#8,6#8,6#8,6#8,6#8,6#8,6#8,6#8,6#8,6#8,6#8,6#8,6#8,6#8,6#8,6#8,7#8,7#8,7#8,7#8,7#8,7#8,7#8,7#8,7#8,7#8,7#8,7#8,7#8,7#8,7#8,7#8,7#8,7#8,7#8,7#8,7#8,7#8,7#8,7#8,7#8,7#8,7#8,7#8,7#8,7#8,7#8,7#8,7#8,7#8,7#8,7#8,7#8,7#8,7#8,7#8,7#8,7#8,7#8,7#8,7#8,7#8,7#8,7#8,7#8,7#8,7#8,7#8,7#8,7#8,7#8,7#8,7#8,7#8,7#8,7#8,7#8,7#8,7#8,7#8,8#8,8#8,8#8,8#8,8#8,8#8,8#8,8#8,8#8,8#8,8#8,8#8,8#8,8#8,8#8,8#8,8#8,8#8,8#8,8#8,8#8,8#8,8#8,8#8,8#8,8#8,8#8,8#8,8#8,8#8,8#8,8#8,8#8,8#8,8#8,8#8,8#8,8#8,8#8,8#8,8#8,8#8,8#8,8#8,8#8,8#8,8#8,8#8,8#8,8#8,8#8,8#8,8#8,8#8,8#8,8#8,8#8,8#8,8#8,8#8,8#8,8#8,8#8,8#8,8#8,8#8,8#8,8#8,8#8,8#8,8#8,8#8,8#8,8#8,8#8,8#8,8#8,8#8,8#8,8#8,8#8,8#8,8#8,8#8,8#8,8#8,8#8,8#8,8#8,8#8,8#8,8#8,8#8,8#8,8#8,8#8,8#8,8#8,8#8,8#8,8#8,8#8,8#8,8#8,8#8,8#8,8#8,8#8,8#8,8#8,8#8,8#8,8#8,8#8,8#8,8#8,8#8,8#8,8#8,8#8,8#8,8#8,8#8,8#8,8#8,8#8,8#8,8#8]
set_option maxRecDepth 10000 in
theorem aQo:ofV (Value.string ⟨((([0,1,2,2,3,3,3,3,4,4,4,4,4,4,4,4,5,5,5,5,5,5,5,5,5,5,5,5,5,5,5,5,6,6,6,6,6,6,6,6,6,6,6,6,6,6,6,6,6,6,6,6,6,6,6,6,6,6,6,6,6,6,6,6]:List UInt8).append [7,7,7,7,7,7,7,7,7,7,7,7,7,7,7,7,7,7,7,7,7,7,7,7,7,7,7,7,7,7,7,7,7,7,7,7,7,7,7,7,7,7,7,7,7,7,7,7,7,7,7,7,7,7,7,7,7,7,7,7,7,7,7,7]).append (([8,8,8,8,8,8,8,8,8,8,8,8,8,8,8,8,8,8,8,8,8,8,8,8,8,8,8,8,8,8,8,8,8,8,8,8,8,8,8,8,8,8,8,8,8,8,8,8,8,8,8,8,8,8,8,8,8,8,8,8,8,8,8,8]:List UInt8).append [8,8,8,8,8,8,8,8,8,8,8,8,8,8,8,8,8,8,8,8,8,8,8,8,8,8,8,8,8,8,8,8,8,8,8,8,8,8,8,8,8,8,8,8,8,8,8,8,8,8,8,8,8,8,8,8,8,8,8,8,8,8,8,8])).toArray⟩)=.s L8:=by rfl
theorem cSb: ∀k,k<256→L8[k]? =some (BitVec.ofNat 8 (Sort.bitsLen k)):=by decide+kernel
theorem zL (x:BitVec 64) (h:x.toNat<256):L8[(x.setWidth 8).toNat]? =some (BitVec.ofNat 8 (Sort.bitsLen x.toNat)):=by
 rw[BitVec.toNat_setWidth,Nat.mod_eq_of_lt (by omega)];exact cSb _ h
theorem dCd {n:Nat} (h:n<256):Sort.bitsLen n≤8:=(Sort.bitsLen_le_iff n 8).2 h
theorem sT {n:Nat} (h:n<256):(BitVec.ofNat 8 (Sort.bitsLen n)).toNat=Sort.bitsLen n:=by have:=dCd h;rw[BitVec.toNat_ofNat];exact Nat.mod_eq_of_lt (by omega)
theorem gB (n k:Nat) (h:2^k≤n):Sort.bitsLen n=k+Sort.bitsLen (n>>>k):=by
 have e1: ∀j,Sort.bitsLen n≤k+j↔Sort.bitsLen (n>>>k)≤j:=fun j=>by
  rw[Sort.bitsLen_le_iff,Sort.bitsLen_le_iff,Nat.shiftRight_eq_div_pow,Nat.div_lt_iff_lt_mul (Nat.two_pow_pos k),Nat.pow_add,Nat.mul_comm]
 have h1:k<Sort.bitsLen n:=Nat.lt_of_not_le fun hc=>absurd ((Sort.bitsLen_le_iff n k).1 hc) (by omega)
 have h2:=(e1 (Sort.bitsLen n-k)).1 (by omega)
 have h3:=(e1 (Sort.bitsLen (n>>>k))).2 (U3 _)
 omega
def uJ:List AV→Option AV
 |[.w64 x]=>some (.i (Sort.bitsLen x.toNat))
 |_=>none
theorem bPp (x:BitVec 64):uJ [.w64 x]=some (.i (Sort.bitsLen x.toNat)):=(rfl)
attribute [go_sem] bPp
set_option maxHeartbeats 1000000 in
theorem cMn:cL Tryd.prog GLh 88 uJ:=by
 refine cC Tryd.func88 (aT rfl) ?_
 intro args r hg
 unfold uJ at hg
 split at hg
 ·rename_i x
  obtain rfl:=J0 hg
  refine⟨J1 rfl,fun nx=>?_⟩
  clear hg
  refine aA rfl (aW [0,2] rfl rfl rfl fun K hK=>?_)
  simp(disch:=omega) only[Tryd.f88,go_sem,↓reduceIte]
  refine hK _ ?_
  refine aB (aA rfl (aA rfl (aW [4,0,2] rfl rfl rfl fun K hK=>?_)))
  simp(disch:=omega) only[Tryd.f88,go_sem,↓reduceIte]
  refine hK _ ?_
  refine aB (gP (.tmp 4) rfl rfl rfl (fun h=>?_) (fun h=>?_))
  ·refine aI rfl ?_
   have hk0:=gB (x).toNat 32 (by have:=BitVec.le_def.1 h;exact this)
   rw[←BitVec.toNat_ushiftRight]at hk0
   refine aA rfl (aW [0] rfl rfl rfl fun K hK=>?_)
   simp(disch:=omega) only[Tryd.f88,go_sem,↓reduceIte]
   refine hK _ ?_
   refine aB (aW [0,2] rfl rfl rfl fun K hK=>?_)
   simp(disch:=omega) only[Tryd.f88,go_sem,↓reduceIte]
   refine hK _ ?_
   refine aB (aA rfl (aA rfl (aW [8,0,2] rfl rfl rfl fun K hK=>?_)))
   simp(disch:=omega) only[Tryd.f88,go_sem,↓reduceIte]
   refine hK _ ?_
   refine aB (gP (.tmp 8) rfl rfl rfl (fun h=>?_) (fun h=>?_))
   ·refine aI rfl ?_
    have hk1:=gB (x>>>32).toNat 16 (by have:=BitVec.le_def.1 h;exact this)
    rw[←BitVec.toNat_ushiftRight]at hk1
    refine aA rfl (aW [0,2] rfl rfl rfl fun K hK=>?_)
    simp(disch:=omega) only[Tryd.f88,go_sem,↓reduceIte]
    refine hK _ ?_
    refine aB (aW [0,2] rfl rfl rfl fun K hK=>?_)
    simp(disch:=omega) only[Tryd.f88,go_sem,↓reduceIte]
    refine hK _ ?_
    refine aB (aA rfl (aA rfl (aW [14,0,2] rfl rfl rfl fun K hK=>?_)))
    simp(disch:=omega) only[Tryd.f88,go_sem,↓reduceIte]
    refine hK _ ?_
    refine aB (gP (.tmp 14) rfl rfl rfl (fun h=>?_) (fun h=>?_))
    ·refine aI rfl ?_
     have hk2:=gB (x>>>32>>>16).toNat 8 (by have:=BitVec.le_def.1 h;exact this)
     rw[←BitVec.toNat_ushiftRight]at hk2
     refine aA rfl (aW [0,2] rfl rfl rfl fun K hK=>?_)
     simp(disch:=omega) only[Tryd.f88,go_sem,↓reduceIte]
     refine hK _ ?_
     refine aB (aW [0,2] rfl rfl rfl fun K hK=>?_)
     simp(disch:=omega) only[Tryd.f88,go_sem,↓reduceIte]
     refine hK _ ?_
     refine aB ?_
     have hx256:(x>>>32>>>16>>>8).toNat<256:=by bv_omega
     have e1:=zL (x>>>32>>>16>>>8) hx256
     refine aA rfl (aW [2] rfl rfl rfl fun K hK=>?_)
     simp(disch:=omega) only[Tryd.f88,go_sem,↓reduceIte,aQo,e1]
     refine hK _ ?_
     refine aB (aS rfl ?_)
     simp(disch:=omega) only[cN,bV,bK,bQ,Tryd.f88,go_sem,↓reduceIte]
     have e2:=sT hx256
     refine congrArg some (congrArg AV.i ?_)
     omega
    refine aI rfl (aQ rfl (aB (aA rfl ?_)))
    have hx256:(x>>>32>>>16).toNat<256:=by bv_omega
    have e1:=zL (x>>>32>>>16) hx256
    refine aW [2] rfl rfl rfl fun K hK=>?_
    simp(disch:=omega) only[Tryd.f88,go_sem,↓reduceIte,aQo,e1]
    refine hK _ ?_
    refine aB (aS rfl ?_)
    simp(disch:=omega) only[cN,bV,bK,bQ,Tryd.f88,go_sem,↓reduceIte]
    have e2:=sT hx256
    refine congrArg some (congrArg AV.i ?_)
    omega
   refine aI rfl (aQ rfl (aB (aA rfl (aA rfl (aW [14,0,2] rfl rfl rfl fun K hK=>?_)))))
   simp(disch:=omega) only[Tryd.f88,go_sem,↓reduceIte]
   refine hK _ ?_
   refine aB (gP (.tmp 14) rfl rfl rfl (fun h=>?_) (fun h=>?_))
   ·refine aI rfl ?_
    have hk2:=gB (x>>>32).toNat 8 (by have:=BitVec.le_def.1 h;exact this)
    rw[←BitVec.toNat_ushiftRight]at hk2
    refine aA rfl (aW [0,2] rfl rfl rfl fun K hK=>?_)
    simp(disch:=omega) only[Tryd.f88,go_sem,↓reduceIte]
    refine hK _ ?_
    refine aB (aW [0,2] rfl rfl rfl fun K hK=>?_)
    simp(disch:=omega) only[Tryd.f88,go_sem,↓reduceIte]
    refine hK _ ?_
    refine aB ?_
    have hx256:(x>>>32>>>8).toNat<256:=by bv_omega
    have e1:=zL (x>>>32>>>8) hx256
    refine aA rfl (aW [2] rfl rfl rfl fun K hK=>?_)
    simp(disch:=omega) only[Tryd.f88,go_sem,↓reduceIte,aQo,e1]
    refine hK _ ?_
    refine aB (aS rfl ?_)
    simp(disch:=omega) only[cN,bV,bK,bQ,Tryd.f88,go_sem,↓reduceIte]
    have e2:=sT hx256
    refine congrArg some (congrArg AV.i ?_)
    omega
   refine aI rfl (aQ rfl (aB (aA rfl ?_)))
   have hx256:(x>>>32).toNat<256:=by bv_omega
   have e1:=zL (x>>>32) hx256
   refine aW [2] rfl rfl rfl fun K hK=>?_
   simp(disch:=omega) only[Tryd.f88,go_sem,↓reduceIte,aQo,e1]
   refine hK _ ?_
   refine aB (aS rfl ?_)
   simp(disch:=omega) only[cN,bV,bK,bQ,Tryd.f88,go_sem,↓reduceIte]
   have e2:=sT hx256
   refine congrArg some (congrArg AV.i ?_)
   omega
  refine aI rfl (aQ rfl (aB (aA rfl (aA rfl (aW [8,0,2] rfl rfl rfl fun K hK=>?_)))))
  simp(disch:=omega) only[Tryd.f88,go_sem,↓reduceIte]
  refine hK _ ?_
  refine aB (gP (.tmp 8) rfl rfl rfl (fun h=>?_) (fun h=>?_))
  ·refine aI rfl ?_
   have hk1:=gB (x).toNat 16 (by have:=BitVec.le_def.1 h;exact this)
   rw[←BitVec.toNat_ushiftRight]at hk1
   refine aA rfl (aW [0,2] rfl rfl rfl fun K hK=>?_)
   simp(disch:=omega) only[Tryd.f88,go_sem,↓reduceIte]
   refine hK _ ?_
   refine aB (aW [0,2] rfl rfl rfl fun K hK=>?_)
   simp(disch:=omega) only[Tryd.f88,go_sem,↓reduceIte]
   refine hK _ ?_
   refine aB (aA rfl (aA rfl (aW [14,0,2] rfl rfl rfl fun K hK=>?_)))
   simp(disch:=omega) only[Tryd.f88,go_sem,↓reduceIte]
   refine hK _ ?_
   refine aB (gP (.tmp 14) rfl rfl rfl (fun h=>?_) (fun h=>?_))
   ·refine aI rfl ?_
    have hk2:=gB (x>>>16).toNat 8 (by have:=BitVec.le_def.1 h;exact this)
    rw[←BitVec.toNat_ushiftRight]at hk2
    refine aA rfl (aW [0,2] rfl rfl rfl fun K hK=>?_)
    simp(disch:=omega) only[Tryd.f88,go_sem,↓reduceIte]
    refine hK _ ?_
    refine aB (aW [0,2] rfl rfl rfl fun K hK=>?_)
    simp(disch:=omega) only[Tryd.f88,go_sem,↓reduceIte]
    refine hK _ ?_
    refine aB ?_
    have hx256:(x>>>16>>>8).toNat<256:=by bv_omega
    have e1:=zL (x>>>16>>>8) hx256
    refine aA rfl (aW [2] rfl rfl rfl fun K hK=>?_)
    simp(disch:=omega) only[Tryd.f88,go_sem,↓reduceIte,aQo,e1]
    refine hK _ ?_
    refine aB (aS rfl ?_)
    simp(disch:=omega) only[cN,bV,bK,bQ,Tryd.f88,go_sem,↓reduceIte]
    have e2:=sT hx256
    refine congrArg some (congrArg AV.i ?_)
    omega
   refine aI rfl (aQ rfl (aB (aA rfl ?_)))
   have hx256:(x>>>16).toNat<256:=by bv_omega
   have e1:=zL (x>>>16) hx256
   refine aW [2] rfl rfl rfl fun K hK=>?_
   simp(disch:=omega) only[Tryd.f88,go_sem,↓reduceIte,aQo,e1]
   refine hK _ ?_
   refine aB (aS rfl ?_)
   simp(disch:=omega) only[cN,bV,bK,bQ,Tryd.f88,go_sem,↓reduceIte]
   have e2:=sT hx256
   refine congrArg some (congrArg AV.i ?_)
   omega
  refine aI rfl (aQ rfl (aB (aA rfl (aA rfl (aW [14,0,2] rfl rfl rfl fun K hK=>?_)))))
  simp(disch:=omega) only[Tryd.f88,go_sem,↓reduceIte]
  refine hK _ ?_
  refine aB (gP (.tmp 14) rfl rfl rfl (fun h=>?_) (fun h=>?_))
  ·refine aI rfl ?_
   have hk2:=gB (x).toNat 8 (by have:=BitVec.le_def.1 h;exact this)
   rw[←BitVec.toNat_ushiftRight]at hk2
   refine aA rfl (aW [0,2] rfl rfl rfl fun K hK=>?_)
   simp(disch:=omega) only[Tryd.f88,go_sem,↓reduceIte]
   refine hK _ ?_
   refine aB (aW [0,2] rfl rfl rfl fun K hK=>?_)
   simp(disch:=omega) only[Tryd.f88,go_sem,↓reduceIte]
   refine hK _ ?_
   refine aB ?_
   have hx256:(x>>>8).toNat<256:=by bv_omega
   have e1:=zL (x>>>8) hx256
   refine aA rfl (aW [2] rfl rfl rfl fun K hK=>?_)
   simp(disch:=omega) only[Tryd.f88,go_sem,↓reduceIte,aQo,e1]
   refine hK _ ?_
   refine aB (aS rfl ?_)
   simp(disch:=omega) only[cN,bV,bK,bQ,Tryd.f88,go_sem,↓reduceIte]
   have e2:=sT hx256
   refine congrArg some (congrArg AV.i ?_)
   omega
  refine aI rfl (aQ rfl (aB (aA rfl ?_)))
  have hx256:(x).toNat<256:=by bv_omega
  have e1:=zL (x) hx256
  refine aW [2] rfl rfl rfl fun K hK=>?_
  simp(disch:=omega) only[Tryd.f88,go_sem,↓reduceIte,aQo,e1]
  refine hK _ ?_
  refine aB (aS rfl ?_)
  simp(disch:=omega) only[cN,bV,bK,bQ,Tryd.f88,go_sem,↓reduceIte]
  have e2:=sT hx256
  refine congrArg some (congrArg AV.i ?_)
  omega
 cases hg
theorem cKj:bX Tryd.prog GLh 88 (.pure true uJ):=⟨⟨_,Tryd.func88,rfl,rfl⟩,cMn⟩
set_option maxHeartbeats 1000000 in
theorem cCi:cL Tryd.prog GLh 70 uJ:=by
 refine cC Tryd.func70 (aT rfl) ?_
 intro args r hg
 unfold uJ at hg
 split at hg
 ·rename_i x
  obtain rfl:=J0 hg
  refine⟨J1 rfl,fun nx=>?_⟩
  refine aA rfl (aW [0] rfl rfl rfl fun K hK=>?_)
  simp(disch:=omega) only[Tryd.f70,go_sem,↓reduceIte]
  refine hK _ ?_
  refine aB (aA rfl (eC _ rfl rfl rfl (fun h=>?_) (fun h=>?_)))
  ·cases h
  refine aQ rfl (aB (aA rfl (aC (Γ:=bC [(88,.pure true uJ)]) [2] (aH cKj aO) rfl rfl rfl (fun K hK=>?_))))
  simp(disch:=omega) only[Tryd.f70,go_sem,↓reduceIte]
  refine hK _ ?_
  refine aB (aS rfl ?_)
  simp(disch:=omega) only[cN,bV,bK,bQ,Tryd.f70,go_sem,↓reduceIte]
 cases hg
theorem cFa:bX Tryd.prog GLh 70 (.pure true uJ):=⟨⟨_,Tryd.func70,rfl,rfl⟩,cCi⟩
def npG:List AV→Option AV
 |[.i n]=>aN (0≤n∧n≤1000000) (some (.w64 (1#64 <<<Sort.bitsLen n.toNat)))
 |_=>none
theorem cLd (n:Int):npG [.i n]=aN (0≤n∧n≤1000000) (some (.w64 (1#64 <<<Sort.bitsLen n.toNat))):=(rfl)
attribute [go_sem] cLd
theorem aTm {n:Nat} (h:n≤1000000):Sort.bitsLen n≤20:=(Sort.bitsLen_le_iff n 20).2 (by omega)
theorem aWd {n:Nat} (h:n≤1000000):(BitVec.ofInt 64 (n:Int)).toNat=n:=by
 rw[BitVec.toNat_ofInt];omega
set_option maxHeartbeats 1000000 in
theorem cXc:cL Tryd.prog GLh 92 npG:=by
 refine cC Tryd.func92 (aT rfl) ?_
 intro args r hg
 unfold npG at hg
 split at hg
 ·rename_i n0
  replace hg:=aP hg;obtain⟨⟨hn,hbig⟩,hg⟩:=hg
  obtain rfl:=J0 hg
  obtain⟨n,rfl⟩:=Int.eq_ofNat_of_zero_le hn
  simp only[U2]at*
  have hbn:n≤1000000:=by omega
  have h20:=aTm hbn
  have e1:=aWd hbn
  refine⟨J1 rfl,fun nx=>?_⟩
  refine aA rfl (aW [0] rfl rfl rfl fun K hK=>?_)
  simp(disch:=omega) only[Tryd.f92,go_sem,↓reduceIte]
  refine hK _ ?_
  refine aB (aA rfl (aC (Γ:=bC [(70,.pure true uJ)]) [2] (aH cFa aO) rfl rfl rfl (fun K hK=>?_)))
  simp(disch:=omega) only[Tryd.f92,go_sem,↓reduceIte,e1,U2]
  refine hK _ ?_
  refine aB (aS rfl ?_)
  simp(disch:=omega) only[cN,bV,bK,bQ,Tryd.f92,go_sem,↓reduceIte]
 cases hg
theorem cKi:bX Tryd.prog GLh 92 (.pure true npG):=⟨⟨_,Tryd.func92,rfl,rfl⟩,cXc⟩
def bPm (a len modulus:Nat):Nat→Nat→UInt64×Array T32→Array T32
 |0,_,st=>st.2
 |m+1,idx,st=>bPm a len modulus m (idx+1) (Sort.breakStep a len modulus st idx)
theorem cCg (x:BitVec 64) (k:Nat) (h:k≤20):(x&&&((1#64 <<<k)-1#64)).toNat=x.toNat&&&((1 <<<k)-1):=by
 have hp:2^k≤2^20:=Nat.pow_le_pow_right (by decide) h
 have h0:=Nat.two_pow_pos k
 rw[BitVec.toNat_and]
 congr 1
 rw[BitVec.toNat_sub,BitVec.toNat_shiftLeft,Nat.shiftLeft_eq,Nat.shiftLeft_eq]
 simp only[BitVec.toNat_ofNat,Nat.reduceMod,Nat.reducePow,Nat.one_mul]at hp⊢
 omega
theorem cRa (x k n:Nat) (h:0<n) (hk:k=Sort.bitsLen n):x&&&((1 <<<k)-1)<2*n:=by
 have h1:=Nat.and_le_right (n:=x) (m:=(1 <<<k)-1)
 have h2:=Sort.two_pow_bitsLen_le h
 have h0:=Nat.two_pow_pos k
 rw[Nat.shiftLeft_eq,Nat.one_mul]at h1⊢
 rw[hk]at*
 omega
structure SDR where
 m:Nat
 i:Nat
 r:BitVec 64
 d:Array T32
 c:Nat
def bPn:List AV→List AV→Option (AV×List AV)
 |[.os _ 0 n 1 _,.i a,.i b],xs=>aK (unA xs) fun l=>aN (l.length=n∧0≤a∧a<b∧b≤n∧n≤1000000) (some (.tup [],cA (Sort.breakPatterns l.toArray a.toNat b.toNat)))
 |_,_=>none
theorem cCh (id n:Nat) (gg:Bool) (a b:Int) (xs:List AV):bPn [.os id 0 n 1 gg,.i a,.i b] xs=aK (unA xs) fun l=>aN (l.length=n∧0≤a∧a<b∧b≤n∧n≤1000000) (some (.tup [],cA (Sort.breakPatterns l.toArray a.toNat b.toNat))):=(rfl)
attribute [go_sem] cCh
set_option maxHeartbeats 2000000 in
theorem cQz:cQ Tryd.prog GLh 80 (dP bPn):=by
 refine dN Tryd.func80 (aT rfl) ?_
 intro id off n e gg rest nx xs r ys hg
 unfold bPn at hg
 split at hg
 ·rename_i id2 n2 gg2 a0 b0 heq
  simp only[List.cons.injEq,AV.os.injEq]at heq
  obtain⟨⟨rfl,rfl,rfl,rfl,rfl⟩,rfl⟩:=heq
  replace hg:=aJ hg;obtain⟨l,hl,hg⟩:=hg
  replace hg:=aP hg;obtain⟨⟨hn,ha,hab,hbn,hbig⟩,hg⟩:=hg
  simp only[Option.some.injEq,Prod.mk.injEq]at hg;obtain⟨rfl,rfl⟩:=hg
  have:=dO hl;subst this
  obtain⟨a,rfl⟩:=Int.eq_ofNat_of_zero_le ha
  obtain⟨b,rfl⟩:=Int.eq_ofNat_of_zero_le (show 0≤b0 by omega)
  simp only[U2]at*
  obtain⟨d,hd⟩: ∃d,l.toArray=d:=⟨_,rfl⟩
  have hds:d.size=n:=by rw[←hd];simpa using hn
  have hab2:a<b:=by omega
  have hbn2:b≤n:=by omega
  rw[hd]
  refine⟨J1 rfl,fun hid=>?_⟩
  clear hl hn ha hab hbn
  have eq4:(((b:Int)-(a:Int)).tdiv 4)=(((b-a)/4:Nat):Int):=by rw[Int.tdiv_eq_ediv_of_nonneg (by omega)];omega
  obtain⟨L,hL⟩: ∃L:Nat,b-a=L:=⟨_,rfl⟩
  obtain⟨Q,hQ⟩: ∃Q:Nat,(b-a)/4=Q:=⟨_,rfl⟩
  have ebL:(b:Int)-(a:Int)=(L:Int):=by omega
  rw[ebL,hQ]at eq4
  have hQL:L/4=Q:=by omega
  have hLb:L≤1000000:=by omega
  have h20:=aTm hLb
  obtain⟨R,hR⟩: ∃R,Sort.breakPatterns d a b=R:=⟨_,rfl⟩
  rw[hR]
  refine aA rfl (aW [0,1,6] rfl rfl rfl fun K hK=>?_)
  simp(disch:=omega) only[Tryd.f80,go_sem,↓reduceIte,ebL]
  refine hK _ ?_
  refine aB (aA rfl (aW [15,0,1,6] rfl rfl rfl fun K hK=>?_))
  simp(disch:=omega) only[Tryd.f80,go_sem,↓reduceIte]
  refine hK _ ?_
  refine aB (gP (.tmp 15) rfl rfl rfl (fun h=>?_) (fun h=>?_))
  ·refine aI rfl ?_
   have hL8:L≥8:=by omega
   have hR2:bPm a L (1 <<<Sort.bitsLen L) 3 (a+Q*2-1) (UInt64.ofNat L,d)=R:=by
    rw[←hR];unfold Sort.breakPatterns;simp only[hL,hQL,J4 hL8];rfl
   have ei:(a:Int)+(Q:Int)*2-1=((a+Q*2-1:Nat):Int):=by omega
   obtain⟨i0,hi0⟩: ∃i0,a+Q*2-1=i0:=⟨_,rfl⟩
   rw[hi0]at hR2 ei
   have ej:(a:Int)+(Q:Int)*2+1=((i0+2:Nat):Int):=by omega
   refine aA rfl (aW [0,1,6,7] rfl rfl rfl fun K hK=>?_)
   simp(disch:=omega) only[Tryd.f80,go_sem,↓reduceIte]
   refine hK _ ?_
   refine aB (aA rfl (aC (Γ:=bC [(92,.pure true npG)]) [0,1,6,7,8] (aH cKi aO) rfl rfl rfl (fun K hK=>?_)))
   simp(disch:=omega) only[Tryd.f80,go_sem,↓reduceIte,U2]
   refine hK _ ?_
   refine aB (aA rfl (aW [0,1,6,7,8,9] rfl rfl rfl fun K hK=>?_))
   simp(disch:=omega) only[Tryd.f80,go_sem,↓reduceIte,eq4,ei]
   refine hK _ ?_
   refine aB ?_
   obtain⟨q,hq⟩: ∃q,nx+4+2+2=q:=⟨_,rfl⟩
   have hqid:id<q:=by omega
   rw[hq]
   refine aR 0 rfl rfl ?_
   refine bR (fun p:SDR=> {fr:=[(0,.os id 0 n 1 gg),(1,.i a),(6,.i L),(7,.op q 0),(8,.w64 (1#64 <<<Sort.bitsLen L)),(9,.i p.i)],hp:=upd (upd (fun _=>none) id (.cells (cA p.d) true)) q (.cells [.w64 p.r] true),nx:=0,cx:=p.c}) (fun p=>bPm a L (1 <<<Sort.bitsLen L) p.m p.i (.ofBitVec p.r,p.d)=R∧p.d.size=n∧p.m+p.i=i0+3∧i0≤p.i∧q<p.c) (fun p=>p.m) rfl ⟨⟨3,i0,BitVec.ofInt 64 (L:Int),d,_⟩,⟨by rw[←hR2];simp only;rw[BitVec.ofInt_natCast];rfl,hds,by simp only;omega,by simp only;omega,by simp only;omega⟩,bD rfl rfl (U3 _)⟩ ?_
   rintro⟨m,i,r,d1,c⟩ ⟨hr1,hs1,hm,hi,hc⟩ n0
   simp only at hr1 hs1 hm hi hc⊢
   have eqq:(a:Int)+((L:Int).tdiv 4)*2+1=((i0+2:Nat):Int):=by rw[eq4];exact ej
   refine aA rfl (aA rfl (aW [33,0,1,6,7,8,9] rfl rfl rfl fun K hK=>?_))
   simp(disch:=omega) only[Tryd.f80,go_sem,↓reduceIte,eq4,ej]
   refine hK _ ?_
   refine aB (gP (.tmp 33) rfl rfl rfl (fun h=>?_) (fun h=>?_))
   ·refine aI rfl ?_
    obtain⟨m,rfl⟩: ∃m',m=m'+1:=⟨m-1,by omega⟩
    rw[bPm]at hr1
    obtain⟨o,ho⟩: ∃o,(aDu r).toNat&&&((1 <<<Sort.bitsLen L)-1)=o:=⟨_,rfl⟩
    have ho2:o<2*L:=by rw[←ho];exact cRa _ _ _ (by omega) rfl
    have hst:Sort.breakStep a L (1 <<<Sort.bitsLen L) (UInt64.ofBitVec r,d1) i=(.ofBitVec (aDu r),Sort.swp d1 i (a+if o≥L then o-L else o)):=by
     rw[←ho];rfl
    rw[hst]at hr1
    have hin:i<n:=by omega
    have eand:(aDu r&&&(1#64 <<<Sort.bitsLen L-1#64)).toNat=o:=by rw[cCg _ _ h20];exact ho
    refine aQ rfl (aB (aA rfl (aR 1 rfl rfl (aA rfl (aC (Γ:=bC [(93,.heap bJo)]) [0,1,6,7,8,9,10] (aH cKh aO) rfl rfl rfl (fun K hK=>?_))))))
    simp(disch:=omega) only[Tryd.f80,go_sem,↓reduceIte,eand]
    refine hK _ ?_
    refine aB (aA rfl (aA rfl (aW [43,0,1,6,7,8,9,10] rfl rfl rfl fun K hK=>?_)))
    simp(disch:=omega) only[Tryd.f80,go_sem,↓reduceIte]
    refine hK _ ?_
    refine aB (gP (.tmp 43) rfl rfl rfl (fun h=>?_) (fun h=>?_))
    ·refine aI rfl ?_
     have hoL:o≥L:=by omega
     rw[J4 hoL]at hr1
     have eo:(o:Int)-(L:Int)=((o-L:Nat):Int):=by omega
     refine aW [0,1,6,7,8,9,10] rfl rfl rfl fun K hK=>?_
     simp(disch:=omega) only[Tryd.f80,go_sem,↓reduceIte,eo]
     refine hK _ ?_
     refine aB ?_
     obtain⟨w,hw⟩: ∃w,a+(o-L)=w:=⟨_,rfl⟩
     have ew:(a:Int)+((o-L:Nat):Int)=(w:Int):=by omega
     have hwn:w<n:=by omega
     rw[hw]at hr1
     have hsw:(d1.setIfInBounds i d1[w]!).setIfInBounds w d1[i]! =Sort.swp d1 i w:=rfl
     refine bB (Γ:=aL) (fun _=>2) [0,1,6,7,8,9] bZ (aD _ _) rfl rfl rfl (by kernel_rfl) (fun K hK=>?_)
     simp(disch:=omega) only[Tryd.f80,go_sem,↓reduceIte,ew,hsw,U2]
     refine hK _ ?_
     refine bU (aB (aW [0,1,6,7,8,9] rfl rfl rfl fun K hK=>?_))
     simp(disch:=omega) only[Tryd.f80,go_sem,↓reduceIte]
     refine hK _ ?_
     refine bT ?_
     refine⟨⟨m,i+1,aDu r,Sort.swp d1 i w,_⟩,⟨hr1,by simp only[cW];exact hs1,by simp only;omega,by simp only;omega,by simp only;omega⟩,by simp only;omega,⟨fun _=> .inr (by simp only[Int.natCast_add,Int.natCast_one]),bS (by simp(disch:=omega) only[aV,bY,↓reduceIte,eq_self]) (bS (by simp(disch:=omega) only[aV,↓reduceIte,eq_self]) cB),U3 _⟩⟩
    refine aI rfl ?_
    have hoL: ¬o≥L:=by omega
    rw[J3 hoL]at hr1
    refine aQ rfl (aB ?_)
    obtain⟨w,hw⟩: ∃w,a+o=w:=⟨_,rfl⟩
    have ew:(a:Int)+(o:Int)=(w:Int):=by omega
    have hwn:w<n:=by omega
    rw[hw]at hr1
    have hsw:(d1.setIfInBounds i d1[w]!).setIfInBounds w d1[i]! =Sort.swp d1 i w:=rfl
    refine bB (Γ:=aL) (fun _=>2) [0,1,6,7,8,9] bZ (aD _ _) rfl rfl rfl (by kernel_rfl) (fun K hK=>?_)
    simp(disch:=omega) only[Tryd.f80,go_sem,↓reduceIte,ew,hsw,U2]
    refine hK _ ?_
    refine bU (aB (aW [0,1,6,7,8,9] rfl rfl rfl fun K hK=>?_))
    simp(disch:=omega) only[Tryd.f80,go_sem,↓reduceIte]
    refine hK _ ?_
    refine bT ?_
    refine⟨⟨m,i+1,aDu r,Sort.swp d1 i w,_⟩,⟨hr1,by simp only[cW];exact hs1,by simp only;omega,by simp only;omega,by simp only;omega⟩,by simp only;omega,⟨fun _=> .inr (by simp only[Int.natCast_add,Int.natCast_one]),bS (by simp(disch:=omega) only[aV,bY,↓reduceIte,eq_self]) (bS (by simp(disch:=omega) only[aV,↓reduceIte,eq_self]) cB),U3 _⟩⟩
   refine aI rfl (bF 0 rfl rfl (aY (aZ (bE ?_))))
   obtain rfl:m=0:=by omega
   rw[bPm]at hr1
   simp only at hr1
   subst hr1
   exact⟨rfl,by simp(disch:=omega) only[aV,bY,if_true,if_false],rfl,dZ _⟩
  refine aI rfl ?_
  have hL8: ¬L≥8:=by omega
  refine aQ rfl ?_
  have hR2:d=R:=by rw[←hR];unfold Sort.breakPatterns;simp only[hL,J3 hL8]
  subst hR2
  exact⟨rfl,by simp only[aV,if_true],rfl,dZ _⟩
 cases hg
theorem cVr:bX Tryd.prog GLh 80 (.heap (dP bPn)):=⟨⟨_,Tryd.func80,rfl,rfl⟩,cQz⟩
end Go.AX

namespace Go.AX
open Go Go.Proofs
structure SKC where
 k:Nat
 c:Nat
set_option maxHeartbeats 1000000 in
theorem cJg {id n a I J I2 nx0 cx0:Nat} {gg:Bool} {D:Array T32} {Q:Exit→S→Prop} (hI:Sort.scanUp (fun x=>ltN x D[a]!) D J I=I2) (hs:D.size=n) (hJ:J<n) (ha:a<n) (hbig:n≤1000000) (hid:id<cx0)
  (hQ: ∀n1 c1,id<c1→Q .normal {fr:=[(0,.os id 0 n 1 gg),(1,.i (a:Int)),(10,.i (I2:Int)),(11,.i (J:Int))],hp:=upd (fun _=>none) id (.cells (cA D) true),nx:=n1,cx:=c1}):
  Awp Tryd.prog GLh Tryd.f86.ntmps (cl (cr (cr (cr (aE Tryd.f86))))) {fr:=[(0,.os id 0 n 1 gg),(1,.i (a:Int)),(10,.i (I:Int)),(11,.i (J:Int))],hp:=upd (fun _=>none) id (.cells (cA D) true),nx:=nx0,cx:=cx0} Q:=by
  refine aR 0 rfl rfl (bR (fun q:SKC=> {fr:=[(0,.os id 0 n 1 gg),(1,.i a),(10,.i q.k),(11,.i J)],hp:=upd (fun _=>none) id (.cells (cA D) true),nx:=0,cx:=q.c}) (fun q=>Sort.scanUp (fun x=>ltN x D[a]!) D J q.k=I2∧id<q.c) (fun q=>J+1-q.k) rfl ⟨⟨I,_⟩,⟨hI,hid⟩,bD rfl rfl (U3 _)⟩ ?_)
  rintro⟨i,c⟩ ⟨hr,hc⟩ n0
  simp only at hr hc⊢
  by_cases hij:i≤J
  ·have hd1:decide ((i:Int)≤(J:Int))=true:=J5 (by omega)
   have hin:i<n:=by omega
   obtain⟨v,hv⟩: ∃v,ltN D[i]! D[a]! =v:=⟨_,rfl⟩
   rw[Sort.scanUp,J5 hij,Bool.true_and]at hr
   simp only[hv]at hr
   refine aA rfl (aA rfl (bB (Γ:=bC [(84,.pure true dY)]) (fun k=>if k=12 then 0 else 2) [43,0,1,10,11] bZ (aH jC aO) rfl rfl rfl (by kernel_rfl) (fun K hK=>?_)))
   simp(disch:=omega) only[Tryd.f86,go_sem,↓reduceIte,hd1,hv,U2]
   refine hK _ ?_
   refine aB ?_
   cases v
   ·simp only[Bool.false_eq_true,if_false]at hr
    subst hr
    refine eC (.tmp 43) rfl rfl rfl (fun h=>?_) (fun h=>?_)
    ·refine aI rfl ?_
     cases h
    exact aI rfl (bF 0 rfl rfl (aY (aZ (bE (hQ _ _ (by omega))))))
   simp only[if_true]at hr
   refine eC (.tmp 43) rfl rfl rfl (fun h=>?_) (fun h=>?_)
   ·refine aI rfl (aQ rfl (aB (aR 1 rfl rfl (aW [0,1,10,11] rfl rfl rfl fun K hK=>?_))))
    simp(disch:=omega) only[Tryd.f86,go_sem,↓reduceIte]
    refine hK _ ?_
    refine bU (bT ?_)
    refine⟨⟨i+1,_⟩,⟨hr,by simp only;omega⟩,by simp only;omega,bD (by simp only[Int.natCast_add,Int.natCast_one]) rfl (U3 _)⟩
   refine aI rfl ?_
   cases h
  have hd1:decide ((i:Int)≤(J:Int))=false:=J6 (by omega)
  rw[Sort.scanUp,J6 hij,Bool.false_and]at hr
  simp only[Bool.false_eq_true,if_false]at hr
  subst hr
  refine aA rfl (aA rfl (bB (Γ:=bC [(84,.pure true dY)]) (fun k=>if k=12 then 0 else 2) [43,0,1,10,11] bZ (aH jC aO) rfl rfl rfl (by kernel_rfl) (fun K hK=>?_)))
  simp(disch:=omega) only[Tryd.f86,go_sem,↓reduceIte,hd1]
  refine hK _ ?_
  refine aB (eC (.tmp 43) rfl rfl rfl (fun h=>?_) (fun h=>?_))
  ·refine aI rfl ?_
   cases h
  exact aI rfl (bF 0 rfl rfl (aY (aZ (bE (hQ _ _ (by omega))))))
set_option maxHeartbeats 1000000 in
theorem cJi {id n a I J J2 nx0 cx0:Nat} {gg:Bool} {D:Array T32} {Q:Exit→S→Prop} (hJ2:Sort.scanDown (fun x=> !ltN x D[a]!) D I J=J2) (hs:D.size=n) (hJ:J<n) (hI1:0<I) (ha:a<n) (hbig:n≤1000000) (hid:id<cx0)
  (hQ: ∀n1 c1,id<c1→Q .normal {fr:=[(0,.os id 0 n 1 gg),(1,.i (a:Int)),(10,.i (I:Int)),(11,.i (J2:Int))],hp:=upd (fun _=>none) id (.cells (cA D) true),nx:=n1,cx:=c1}):
  Awp Tryd.prog GLh Tryd.f86.ntmps (cl (cr (cr (cr (cr (aE Tryd.f86)))))) {fr:=[(0,.os id 0 n 1 gg),(1,.i (a:Int)),(10,.i (I:Int)),(11,.i (J:Int))],hp:=upd (fun _=>none) id (.cells (cA D) true),nx:=nx0,cx:=cx0} Q:=by
  refine aR 2 rfl rfl (bR (fun q:SKC=> {fr:=[(0,.os id 0 n 1 gg),(1,.i a),(10,.i I),(11,.i q.k)],hp:=upd (fun _=>none) id (.cells (cA D) true),nx:=0,cx:=q.c}) (fun q=>Sort.scanDown (fun x=> !ltN x D[a]!) D I q.k=J2∧q.k<n∧id<q.c) (fun q=>q.k) rfl ⟨⟨J,_⟩,⟨hJ2,hJ,hid⟩,bD rfl rfl (U3 _)⟩ ?_)
  rintro⟨j,c⟩ ⟨hr,hjn,hc⟩ n0
  simp only at hr hjn hc⊢
  by_cases hij:I≤j
  ·have hd1:decide ((I:Int)≤(j:Int))=true:=J5 (by omega)
   obtain⟨j,rfl⟩: ∃j',j=j'+1:=⟨j-1,by omega⟩
   have ej1:((j+1:Nat):Int)-1=(j:Int):=by omega
   obtain⟨v,hv⟩: ∃v,ltN D[j+1]! D[a]! =v:=⟨_,rfl⟩
   rw[Sort.scanDown,J5 hij,Bool.true_and]at hr
   simp only[hv]at hr
   refine aA rfl (aA rfl (bB (Γ:=bC [(84,.pure true dY)]) (fun k=>if k=12 then 0 else 2) [60,0,1,10,11] bZ (aH jC aO) rfl rfl rfl (by kernel_rfl) (fun K hK=>?_)))
   simp(disch:=omega) only[Tryd.f86,go_sem,↓reduceIte,hd1,hv,U2]
   refine hK _ ?_
   refine aB ?_
   cases v
   ·simp only[Bool.not_false,if_true]at hr
    refine eC (.tmp 60) rfl rfl rfl (fun h=>?_) (fun h=>?_)
    ·refine aI rfl (aQ rfl (aB (aR 3 rfl rfl (aW [0,1,10,11] rfl rfl rfl fun K hK=>?_))))
     simp(disch:=omega) only[Tryd.f86,go_sem,↓reduceIte,ej1]
     refine hK _ ?_
     refine bU (bT ?_)
     refine⟨⟨j,_⟩,⟨hr,by simp only;omega,by simp only;omega⟩,by simp only;omega,bD rfl rfl (U3 _)⟩
    refine aI rfl ?_
    cases h
   simp only[Bool.not_true,Bool.false_eq_true,if_false]at hr
   subst hr
   refine eC (.tmp 60) rfl rfl rfl (fun h=>?_) (fun h=>?_)
   ·refine aI rfl ?_
    cases h
   exact aI rfl (bF 2 rfl rfl (aY (aZ (bE (hQ _ _ (by omega))))))
  have hd1:decide ((I:Int)≤(j:Int))=false:=J6 (by omega)
  have hr2:j=J2:=by
   rw[←hr]
   cases j with
   |zero=>rfl
   |succ k=>rw[Sort.scanDown,J6 hij,Bool.false_and];rfl
  subst hr2
  refine aA rfl (aA rfl (bB (Γ:=bC [(84,.pure true dY)]) (fun k=>if k=12 then 0 else 2) [60,0,1,10,11] bZ (aH jC aO) rfl rfl rfl (by kernel_rfl) (fun K hK=>?_)))
  simp(disch:=omega) only[Tryd.f86,go_sem,↓reduceIte,hd1]
  refine hK _ ?_
  refine aB (eC (.tmp 60) rfl rfl rfl (fun h=>?_) (fun h=>?_))
  ·refine aI rfl ?_
   cases h
  exact aI rfl (bF 2 rfl rfl (aY (aZ (bE (hQ _ _ (by omega))))))
set_option maxHeartbeats 1000000 in
theorem cJf {id n a I J I2 nx0 cx0:Nat} {gg:Bool} {D:Array T32} {Q:Exit→S→Prop} (hI:Sort.scanUp (fun x=>ltN x D[a]!) D J I=I2) (hs:D.size=n) (hJ:J<n) (ha:a<n) (hbig:n≤1000000) (hid:id<cx0)
  (hQ: ∀n1 c1,id<c1→Q .normal {fr:=[(0,.os id 0 n 1 gg),(1,.i (a:Int)),(10,.i (I2:Int)),(11,.i (J:Int))],hp:=upd (fun _=>none) id (.cells (cA D) true),nx:=n1,cx:=c1}):
  Awp Tryd.prog GLh Tryd.f86.ntmps (cl (cl (cl (cl (cl (cr (cr (cr (cr (cr (cr (cr (cr (cr (aE Tryd.f86))))))))))))))) {fr:=[(0,.os id 0 n 1 gg),(1,.i (a:Int)),(10,.i (I:Int)),(11,.i (J:Int))],hp:=upd (fun _=>none) id (.cells (cA D) true),nx:=nx0,cx:=cx0} Q:=by
  refine aR 6 rfl rfl (bR (fun q:SKC=> {fr:=[(0,.os id 0 n 1 gg),(1,.i a),(10,.i q.k),(11,.i J)],hp:=upd (fun _=>none) id (.cells (cA D) true),nx:=0,cx:=q.c}) (fun q=>Sort.scanUp (fun x=>ltN x D[a]!) D J q.k=I2∧id<q.c) (fun q=>J+1-q.k) rfl ⟨⟨I,_⟩,⟨hI,hid⟩,bD rfl rfl (U3 _)⟩ ?_)
  rintro⟨i,c⟩ ⟨hr,hc⟩ n0
  simp only at hr hc⊢
  by_cases hij:i≤J
  ·have hd1:decide ((i:Int)≤(J:Int))=true:=J5 (by omega)
   have hin:i<n:=by omega
   obtain⟨v,hv⟩: ∃v,ltN D[i]! D[a]! =v:=⟨_,rfl⟩
   rw[Sort.scanUp,J5 hij,Bool.true_and]at hr
   simp only[hv]at hr
   refine aA rfl (aA rfl (bB (Γ:=bC [(84,.pure true dY)]) (fun k=>if k=12 then 0 else 2) [112,0,1,10,11] bZ (aH jC aO) rfl rfl rfl (by kernel_rfl) (fun K hK=>?_)))
   simp(disch:=omega) only[Tryd.f86,go_sem,↓reduceIte,hd1,hv,U2]
   refine hK _ ?_
   refine aB ?_
   cases v
   ·simp only[Bool.false_eq_true,if_false]at hr
    subst hr
    refine eC (.tmp 112) rfl rfl rfl (fun h=>?_) (fun h=>?_)
    ·refine aI rfl ?_
     cases h
    exact aI rfl (bF 6 rfl rfl (aY (aZ (bE (hQ _ _ (by omega))))))
   simp only[if_true]at hr
   refine eC (.tmp 112) rfl rfl rfl (fun h=>?_) (fun h=>?_)
   ·refine aI rfl (aQ rfl (aB (aR 7 rfl rfl (aW [0,1,10,11] rfl rfl rfl fun K hK=>?_))))
    simp(disch:=omega) only[Tryd.f86,go_sem,↓reduceIte]
    refine hK _ ?_
    refine bU (bT ?_)
    refine⟨⟨i+1,_⟩,⟨hr,by simp only;omega⟩,by simp only;omega,bD (by simp only[Int.natCast_add,Int.natCast_one]) rfl (U3 _)⟩
   refine aI rfl ?_
   cases h
  have hd1:decide ((i:Int)≤(J:Int))=false:=J6 (by omega)
  rw[Sort.scanUp,J6 hij,Bool.false_and]at hr
  simp only[Bool.false_eq_true,if_false]at hr
  subst hr
  refine aA rfl (aA rfl (bB (Γ:=bC [(84,.pure true dY)]) (fun k=>if k=12 then 0 else 2) [112,0,1,10,11] bZ (aH jC aO) rfl rfl rfl (by kernel_rfl) (fun K hK=>?_)))
  simp(disch:=omega) only[Tryd.f86,go_sem,↓reduceIte,hd1]
  refine hK _ ?_
  refine aB (eC (.tmp 112) rfl rfl rfl (fun h=>?_) (fun h=>?_))
  ·refine aI rfl ?_
   cases h
  exact aI rfl (bF 6 rfl rfl (aY (aZ (bE (hQ _ _ (by omega))))))
set_option maxHeartbeats 1000000 in
theorem cJh {id n a I J J2 nx0 cx0:Nat} {gg:Bool} {D:Array T32} {Q:Exit→S→Prop} (hJ2:Sort.scanDown (fun x=> !ltN x D[a]!) D I J=J2) (hs:D.size=n) (hJ:J<n) (hI1:0<I) (ha:a<n) (hbig:n≤1000000) (hid:id<cx0)
  (hQ: ∀n1 c1,id<c1→Q .normal {fr:=[(0,.os id 0 n 1 gg),(1,.i (a:Int)),(10,.i (I:Int)),(11,.i (J2:Int))],hp:=upd (fun _=>none) id (.cells (cA D) true),nx:=n1,cx:=c1}):
  Awp Tryd.prog GLh Tryd.f86.ntmps (cl (cr (cl (cl (cl (cl (cr (cr (cr (cr (cr (cr (cr (cr (cr (aE Tryd.f86)))))))))))))))) {fr:=[(0,.os id 0 n 1 gg),(1,.i (a:Int)),(10,.i (I:Int)),(11,.i (J:Int))],hp:=upd (fun _=>none) id (.cells (cA D) true),nx:=nx0,cx:=cx0} Q:=by
  refine aR 8 rfl rfl (bR (fun q:SKC=> {fr:=[(0,.os id 0 n 1 gg),(1,.i a),(10,.i I),(11,.i q.k)],hp:=upd (fun _=>none) id (.cells (cA D) true),nx:=0,cx:=q.c}) (fun q=>Sort.scanDown (fun x=> !ltN x D[a]!) D I q.k=J2∧q.k<n∧id<q.c) (fun q=>q.k) rfl ⟨⟨J,_⟩,⟨hJ2,hJ,hid⟩,bD rfl rfl (U3 _)⟩ ?_)
  rintro⟨j,c⟩ ⟨hr,hjn,hc⟩ n0
  simp only at hr hjn hc⊢
  by_cases hij:I≤j
  ·have hd1:decide ((I:Int)≤(j:Int))=true:=J5 (by omega)
   obtain⟨j,rfl⟩: ∃j',j=j'+1:=⟨j-1,by omega⟩
   have ej1:((j+1:Nat):Int)-1=(j:Int):=by omega
   obtain⟨v,hv⟩: ∃v,ltN D[j+1]! D[a]! =v:=⟨_,rfl⟩
   rw[Sort.scanDown,J5 hij,Bool.true_and]at hr
   simp only[hv]at hr
   refine aA rfl (aA rfl (bB (Γ:=bC [(84,.pure true dY)]) (fun k=>if k=12 then 0 else 2) [129,0,1,10,11] bZ (aH jC aO) rfl rfl rfl (by kernel_rfl) (fun K hK=>?_)))
   simp(disch:=omega) only[Tryd.f86,go_sem,↓reduceIte,hd1,hv,U2]
   refine hK _ ?_
   refine aB ?_
   cases v
   ·simp only[Bool.not_false,if_true]at hr
    refine eC (.tmp 129) rfl rfl rfl (fun h=>?_) (fun h=>?_)
    ·refine aI rfl (aQ rfl (aB (aR 9 rfl rfl (aW [0,1,10,11] rfl rfl rfl fun K hK=>?_))))
     simp(disch:=omega) only[Tryd.f86,go_sem,↓reduceIte,ej1]
     refine hK _ ?_
     refine bU (bT ?_)
     refine⟨⟨j,_⟩,⟨hr,by simp only;omega,by simp only;omega⟩,by simp only;omega,bD rfl rfl (U3 _)⟩
    refine aI rfl ?_
    cases h
   simp only[Bool.not_true,Bool.false_eq_true,if_false]at hr
   subst hr
   refine eC (.tmp 129) rfl rfl rfl (fun h=>?_) (fun h=>?_)
   ·refine aI rfl ?_
    cases h
   exact aI rfl (bF 8 rfl rfl (aY (aZ (bE (hQ _ _ (by omega))))))
  have hd1:decide ((I:Int)≤(j:Int))=false:=J6 (by omega)
  have hr2:j=J2:=by
   rw[←hr]
   cases j with
   |zero=>rfl
   |succ k=>rw[Sort.scanDown,J6 hij,Bool.false_and];rfl
  subst hr2
  refine aA rfl (aA rfl (bB (Γ:=bC [(84,.pure true dY)]) (fun k=>if k=12 then 0 else 2) [129,0,1,10,11] bZ (aH jC aO) rfl rfl rfl (by kernel_rfl) (fun K hK=>?_)))
  simp(disch:=omega) only[Tryd.f86,go_sem,↓reduceIte,hd1]
  refine hK _ ?_
  refine aB (eC (.tmp 129) rfl rfl rfl (fun h=>?_) (fun h=>?_))
  ·refine aI rfl ?_
   cases h
  exact aI rfl (bF 8 rfl rfl (aY (aZ (bE (hQ _ _ (by omega))))))
set_option maxHeartbeats 1000000 in
theorem cVf {id n a I J I2 nx0 cx0:Nat} {gg:Bool} {D:Array T32} {Q:Exit→S→Prop} (hI:Sort.scanUp (fun x=> !ltN D[a]! x) D J I=I2) (hs:D.size=n) (hJ:J<n) (ha:a<n) (hbig:n≤1000000) (hid:id<cx0)
  (hQ: ∀n1 c1,id<c1→Q .normal {fr:=[(0,.os id 0 n 1 gg),(1,.i (a:Int)),(9,.i (I2:Int)),(10,.i (J:Int))],hp:=upd (fun _=>none) id (.cells (cA D) true),nx:=n1,cx:=c1}):
  Awp Tryd.prog GLh Tryd.f85.ntmps (cl (cl (cl (cl (cl (cr (cr (cr (aE Tryd.f85))))))))) {fr:=[(0,.os id 0 n 1 gg),(1,.i (a:Int)),(9,.i (I:Int)),(10,.i (J:Int))],hp:=upd (fun _=>none) id (.cells (cA D) true),nx:=nx0,cx:=cx0} Q:=by
  refine aR 2 rfl rfl (bR (fun q:SKC=> {fr:=[(0,.os id 0 n 1 gg),(1,.i a),(9,.i q.k),(10,.i J)],hp:=upd (fun _=>none) id (.cells (cA D) true),nx:=0,cx:=q.c}) (fun q=>Sort.scanUp (fun x=> !ltN D[a]! x) D J q.k=I2∧id<q.c) (fun q=>J+1-q.k) rfl ⟨⟨I,_⟩,⟨hI,hid⟩,bD rfl rfl (U3 _)⟩ ?_)
  rintro⟨i,c⟩ ⟨hr,hc⟩ n0
  simp only at hr hc⊢
  by_cases hij:i≤J
  ·have hd1:decide ((i:Int)≤(J:Int))=true:=J5 (by omega)
   have hin:i<n:=by omega
   obtain⟨v,hv⟩: ∃v,ltN D[a]! D[i]! =v:=⟨_,rfl⟩
   rw[Sort.scanUp,J5 hij,Bool.true_and]at hr
   simp only[hv]at hr
   refine aA rfl (aA rfl (bB (Γ:=bC [(84,.pure true dY)]) (fun k=>if k=12 then 0 else 2) [43,0,1,9,10] bZ (aH jC aO) rfl rfl rfl (by kernel_rfl) (fun K hK=>?_)))
   simp(disch:=omega) only[Tryd.f85,go_sem,↓reduceIte,hd1,hv,U2]
   refine hK _ ?_
   refine aB ?_
   cases v
   ·simp only[Bool.not_false,if_true]at hr
    refine eC (.tmp 43) rfl rfl rfl (fun h=>?_) (fun h=>?_)
    ·refine aI rfl (aQ rfl (aB (aR 3 rfl rfl (aW [0,1,9,10] rfl rfl rfl fun K hK=>?_))))
     simp(disch:=omega) only[Tryd.f85,go_sem,↓reduceIte]
     refine hK _ ?_
     refine bU (bT ?_)
     refine⟨⟨i+1,_⟩,⟨hr,by simp only;omega⟩,by simp only;omega,bD (by simp only[Int.natCast_add,Int.natCast_one]) rfl (U3 _)⟩
    refine aI rfl ?_
    cases h
   simp only[Bool.not_true,Bool.false_eq_true,if_false]at hr
   subst hr
   refine eC (.tmp 43) rfl rfl rfl (fun h=>?_) (fun h=>?_)
   ·refine aI rfl ?_
    cases h
   exact aI rfl (bF 2 rfl rfl (aY (aZ (bE (hQ _ _ (by omega))))))
  have hd1:decide ((i:Int)≤(J:Int))=false:=J6 (by omega)
  rw[Sort.scanUp,J6 hij,Bool.false_and]at hr
  simp only[Bool.false_eq_true,if_false]at hr
  subst hr
  refine aA rfl (aA rfl (bB (Γ:=bC [(84,.pure true dY)]) (fun k=>if k=12 then 0 else 2) [43,0,1,9,10] bZ (aH jC aO) rfl rfl rfl (by kernel_rfl) (fun K hK=>?_)))
  simp(disch:=omega) only[Tryd.f85,go_sem,↓reduceIte,hd1]
  refine hK _ ?_
  refine aB (eC (.tmp 43) rfl rfl rfl (fun h=>?_) (fun h=>?_))
  ·refine aI rfl ?_
   cases h
  exact aI rfl (bF 2 rfl rfl (aY (aZ (bE (hQ _ _ (by omega))))))
set_option maxHeartbeats 1000000 in
theorem cVh {id n a I J J2 nx0 cx0:Nat} {gg:Bool} {D:Array T32} {Q:Exit→S→Prop} (hJ2:Sort.scanDown (fun x=>ltN D[a]! x) D I J=J2) (hs:D.size=n) (hJ:J<n) (hI1:0<I) (ha:a<n) (hbig:n≤1000000) (hid:id<cx0)
  (hQ: ∀n1 c1,id<c1→Q .normal {fr:=[(0,.os id 0 n 1 gg),(1,.i (a:Int)),(9,.i (I:Int)),(10,.i (J2:Int))],hp:=upd (fun _=>none) id (.cells (cA D) true),nx:=n1,cx:=c1}):
  Awp Tryd.prog GLh Tryd.f85.ntmps (cl (cr (cl (cl (cl (cl (cr (cr (cr (aE Tryd.f85)))))))))) {fr:=[(0,.os id 0 n 1 gg),(1,.i (a:Int)),(9,.i (I:Int)),(10,.i (J:Int))],hp:=upd (fun _=>none) id (.cells (cA D) true),nx:=nx0,cx:=cx0} Q:=by
  refine aR 4 rfl rfl (bR (fun q:SKC=> {fr:=[(0,.os id 0 n 1 gg),(1,.i a),(9,.i I),(10,.i q.k)],hp:=upd (fun _=>none) id (.cells (cA D) true),nx:=0,cx:=q.c}) (fun q=>Sort.scanDown (fun x=>ltN D[a]! x) D I q.k=J2∧q.k<n∧id<q.c) (fun q=>q.k) rfl ⟨⟨J,_⟩,⟨hJ2,hJ,hid⟩,bD rfl rfl (U3 _)⟩ ?_)
  rintro⟨j,c⟩ ⟨hr,hjn,hc⟩ n0
  simp only at hr hjn hc⊢
  by_cases hij:I≤j
  ·have hd1:decide ((I:Int)≤(j:Int))=true:=J5 (by omega)
   obtain⟨j,rfl⟩: ∃j',j=j'+1:=⟨j-1,by omega⟩
   have ej1:((j+1:Nat):Int)-1=(j:Int):=by omega
   obtain⟨v,hv⟩: ∃v,ltN D[a]! D[j+1]! =v:=⟨_,rfl⟩
   rw[Sort.scanDown,J5 hij,Bool.true_and]at hr
   simp only[hv]at hr
   refine aA rfl (aA rfl (bB (Γ:=bC [(84,.pure true dY)]) (fun k=>if k=12 then 0 else 2) [59,0,1,9,10] bZ (aH jC aO) rfl rfl rfl (by kernel_rfl) (fun K hK=>?_)))
   simp(disch:=omega) only[Tryd.f85,go_sem,↓reduceIte,hd1,hv,U2]
   refine hK _ ?_
   refine aB ?_
   cases v
   ·simp only[Bool.false_eq_true,if_false]at hr
    subst hr
    refine eC (.tmp 59) rfl rfl rfl (fun h=>?_) (fun h=>?_)
    ·refine aI rfl ?_
     cases h
    exact aI rfl (bF 4 rfl rfl (aY (aZ (bE (hQ _ _ (by omega))))))
   simp only[if_true]at hr
   refine eC (.tmp 59) rfl rfl rfl (fun h=>?_) (fun h=>?_)
   ·refine aI rfl (aQ rfl (aB (aR 5 rfl rfl (aW [0,1,9,10] rfl rfl rfl fun K hK=>?_))))
    simp(disch:=omega) only[Tryd.f85,go_sem,↓reduceIte,ej1]
    refine hK _ ?_
    refine bU (bT ?_)
    refine⟨⟨j,_⟩,⟨hr,by simp only;omega,by simp only;omega⟩,by simp only;omega,bD rfl rfl (U3 _)⟩
   refine aI rfl ?_
   cases h
  have hd1:decide ((I:Int)≤(j:Int))=false:=J6 (by omega)
  have hr2:j=J2:=by
   rw[←hr]
   cases j with
   |zero=>rfl
   |succ k=>rw[Sort.scanDown,J6 hij,Bool.false_and];rfl
  subst hr2
  refine aA rfl (aA rfl (bB (Γ:=bC [(84,.pure true dY)]) (fun k=>if k=12 then 0 else 2) [59,0,1,9,10] bZ (aH jC aO) rfl rfl rfl (by kernel_rfl) (fun K hK=>?_)))
  simp(disch:=omega) only[Tryd.f85,go_sem,↓reduceIte,hd1]
  refine hK _ ?_
  refine aB (eC (.tmp 59) rfl rfl rfl (fun h=>?_) (fun h=>?_))
  ·refine aI rfl ?_
   cases h
  exact aI rfl (bF 4 rfl rfl (aY (aZ (bE (hQ _ _ (by omega))))))
def ptG:List AV→List AV→Option (AV×List AV)
 |[.os _ 0 n 1 _,.i a,.i b,.i p],xs=>aK (unA xs) fun l=>aN (l.length=n∧0≤a∧a<b∧b≤n∧0≤p∧p<n∧n≤1000000) (some (.tup [.i (Sort.partition ltN l.toArray a.toNat b.toNat p.toNat).1,.b (Sort.partition ltN l.toArray a.toNat b.toNat p.toNat).2.1],cA (Sort.partition ltN l.toArray a.toNat b.toNat p.toNat).2.2))
 |_,_=>none
theorem cJj (id n:Nat) (gg:Bool) (a b p:Int) (xs:List AV):ptG [.os id 0 n 1 gg,.i a,.i b,.i p] xs=aK (unA xs) fun l=>aN (l.length=n∧0≤a∧a<b∧b≤n∧0≤p∧p<n∧n≤1000000) (some (.tup [.i (Sort.partition ltN l.toArray a.toNat b.toNat p.toNat).1,.b (Sort.partition ltN l.toArray a.toNat b.toNat p.toNat).2.1],cA (Sort.partition ltN l.toArray a.toNat b.toNat p.toNat).2.2)):=(rfl)
attribute [go_sem] cJj
set_option maxHeartbeats 2000000 in
theorem cUz:cQ Tryd.prog GLh 86 (dP ptG):=by
 refine dN Tryd.func86 (aT rfl) ?_
 intro id off n e gg rest nx xs r ys hg
 unfold ptG at hg
 split at hg
 ·rename_i id2 n2 gg2 a0 b0 p0 heq
  simp only[List.cons.injEq,AV.os.injEq]at heq
  obtain⟨⟨rfl,rfl,rfl,rfl,rfl⟩,rfl⟩:=heq
  replace hg:=aJ hg;obtain⟨l,hl,hg⟩:=hg
  replace hg:=aP hg;obtain⟨⟨hn,ha,hab,hbn,hp0,hpn,hbig⟩,hg⟩:=hg
  simp only[Option.some.injEq,Prod.mk.injEq]at hg;obtain⟨rfl,rfl⟩:=hg
  have:=dO hl;subst this
  obtain⟨a,rfl⟩:=Int.eq_ofNat_of_zero_le ha
  obtain⟨b,rfl⟩:=Int.eq_ofNat_of_zero_le (show 0≤b0 by omega)
  obtain⟨p,rfl⟩:=Int.eq_ofNat_of_zero_le hp0
  simp only[U2]at*
  obtain⟨d,hd⟩: ∃d,l.toArray=d:=⟨_,rfl⟩
  have hds:d.size=n:=by rw[←hd];simpa using hn
  have hab2:a<b:=by omega
  have hbn2:b≤n:=by omega
  have hpn2:p<n:=by omega
  rw[hd]
  refine⟨J1 rfl,fun hid=>?_⟩
  clear hl hn ha hab hbn hp0 hpn
  obtain⟨R,hR⟩: ∃R,Sort.partition ltN d a b p=R:=⟨_,rfl⟩
  rw[hR]
  unfold Sort.partition at hR
  obtain⟨D,hD⟩: ∃D,Sort.swp d a p=D:=⟨_,rfl⟩
  have hDs:D.size=n:=by rw[←hD,cW];exact hds
  have hsw:(d.setIfInBounds a d[p]!).setIfInBounds p d[a]! =D:=hD
  have ea:(a:Int)+1=((a+1:Nat):Int):=by omega
  have eb:(b:Int)-1=((b-1:Nat):Int):=by omega
  obtain⟨i2,hi2⟩: ∃i2,Sort.scanUp (fun x=>ltN x D[a]!) D (b-1) (a+1)=i2:=⟨_,rfl⟩
  have gi2:=Sort.scanUp_ge (fun x=>ltN x D[a]!) D (b-1) (a+1)
  rw[hi2]at gi2
  obtain⟨j2,hj2⟩: ∃j2,Sort.scanDown (fun x=> !ltN x D[a]!) D i2 (b-1)=j2:=⟨_,rfl⟩
  have gj2:=Sort.scanDown_le (fun x=> !ltN x D[a]!) D i2 (b-1)
  rw[hj2]at gj2
  simp only[hD,hi2,hj2]at hR
  have han:a<n:=by omega
  have hj2n:j2<n:=by omega
  refine aA rfl (aW [0,1,2,3] rfl rfl rfl fun K hK=>?_)
  simp(disch:=omega) only[Tryd.f86,go_sem,↓reduceIte]
  refine hK _ ?_
  refine aB (aA rfl (bB (Γ:=aL) (fun _=>2) [0,1,2] bZ (aD _ _) rfl rfl rfl (by kernel_rfl) (fun K hK=>?_)))
  simp(disch:=omega) only[Tryd.f86,go_sem,↓reduceIte,hsw,hds,U2]
  refine hK _ ?_
  refine aB (aA rfl (aW [0,1,10,11] rfl rfl rfl fun K hK=>?_))
  simp(disch:=omega) only[Tryd.f86,go_sem,↓reduceIte,ea,eb]
  refine hK _ ?_
  refine aB (aA rfl (cJg hi2 hDs (by omega) han hbig (by omega) (fun n1 c1 hc1=>?_)))
  refine aB (aA rfl (cJi hj2 hDs (by omega) (by omega) han hbig hc1 (fun n2 c2 hc2=>?_)))
  refine aB (aA rfl (aA rfl (aW [65,0,1,10,11] rfl rfl rfl fun K hK=>?_)))
  simp(disch:=omega) only[Tryd.f86,go_sem,↓reduceIte]
  refine hK _ ?_
  refine aB (gP (.tmp 65) rfl rfl rfl (fun h=>?_) (fun h=>?_))
  ·refine aI rfl ?_
   have hij:i2>j2:=by omega
   rw[J4 hij]at hR
   subst hR
   have hsw2:(D.setIfInBounds j2 D[a]!).setIfInBounds a D[j2]! =Sort.swp D j2 a:=rfl
   refine aA rfl (bB (Γ:=aL) (fun _=>2) [11] bZ (aD _ _) rfl rfl rfl (by kernel_rfl) (fun K hK=>?_))
   simp(disch:=omega) only[Tryd.f86,go_sem,↓reduceIte,hsw2,hDs,U2]
   refine hK _ ?_
   refine aB (aA rfl (aW [8,9] rfl rfl rfl fun K hK=>?_))
   simp(disch:=omega) only[Tryd.f86,go_sem,↓reduceIte]
   refine hK _ ?_
   exact aB (aS rfl (bI (⟨rfl,by simp only[aV,if_true],rfl,dZ _⟩)))
  refine aI rfl ?_
  have hij: ¬i2>j2:=by omega
  rw[J3 hij]at hR
  have hi2n:i2<n:=by omega
  have hsw2:(D.setIfInBounds i2 D[j2]!).setIfInBounds j2 D[i2]! =Sort.swp D i2 j2:=rfl
  have ei:(i2:Int)+1=((i2+1:Nat):Int):=by omega
  have ej:(j2:Int)-1=((j2-1:Nat):Int):=by omega
  obtain⟨⟨M,E⟩,hME⟩: ∃r,Sort.partLoop ltN a (i2+1) (j2-1) (Sort.swp D i2 j2)=r:=⟨_,rfl⟩
  simp only[hME]at hR
  subst hR
  refine aQ rfl (aB (aA rfl (bB (Γ:=aL) (fun _=>2) [0,1,10,11] bZ (aD _ _) rfl rfl rfl (by kernel_rfl) (fun K hK=>?_))))
  simp(disch:=omega) only[Tryd.f86,go_sem,↓reduceIte,hsw2,hDs,U2]
  refine hK _ ?_
  refine aB (aA rfl (aW [0,1,10,11] rfl rfl rfl fun K hK=>?_))
  simp(disch:=omega) only[Tryd.f86,go_sem,↓reduceIte,ei]
  refine hK _ ?_
  refine aB (aA rfl (aW [0,1,10,11] rfl rfl rfl fun K hK=>?_))
  simp(disch:=omega) only[Tryd.f86,go_sem,↓reduceIte,ej]
  refine hK _ ?_
  refine aB (aA rfl (aR 4 rfl rfl ?_))
  refine bR (fun p:SDJ=> {fr:=[(0,.os id 0 n 1 gg),(1,.i a),(10,.i p.k),(11,.i p.j)],hp:=upd (fun _=>none) id (.cells (cA p.d) true),nx:=0,cx:=p.c}) (fun p=>Sort.partLoop ltN a p.k p.j p.d=(M,E)∧p.d.size=n∧a<p.k∧p.j<n∧id<p.c) (fun p=>p.j+1-p.k) rfl ⟨⟨i2+1,j2-1,Sort.swp D i2 j2,_⟩,⟨hME,by simp only[cW];exact hDs,by simp only;omega,by simp only;omega,by simp only;omega⟩,bD rfl rfl (U3 _)⟩ ?_
  rintro⟨i,j,d1,c⟩ ⟨hr,hs1,hai,hjn,hc⟩ n0
  simp only at hr hs1 hai hjn hc⊢
  clear hsw hsw2 ei ej
  obtain⟨i3,hi3⟩: ∃i3,Sort.scanUp (fun x=>ltN x d1[a]!) d1 j i=i3:=⟨_,rfl⟩
  have gi3:=Sort.scanUp_ge (fun x=>ltN x d1[a]!) d1 j i
  rw[hi3]at gi3
  obtain⟨j3,hj3⟩: ∃j3,Sort.scanDown (fun x=> !ltN x d1[a]!) d1 i3 j=j3:=⟨_,rfl⟩
  have gj3:=Sort.scanDown_le (fun x=> !ltN x d1[a]!) d1 i3 j
  rw[hj3]at gj3
  rw[Sort.partLoop_eq,hi3,hj3]at hr
  have hj3n:j3<n:=by omega
  refine aR 5 rfl rfl (aA rfl (cJf hi3 hs1 hjn han hbig hc (fun n3 c3 hc3=>?_)))
  refine aB (aA rfl (cJh hj3 hs1 hjn (by omega) han hbig hc3 (fun n4 c4 hc4=>?_)))
  refine aB (aA rfl (aA rfl (aW [134,0,1,10,11] rfl rfl rfl fun K hK=>?_)))
  simp(disch:=omega) only[Tryd.f86,go_sem,↓reduceIte]
  refine hK _ ?_
  refine aB (gP (.tmp 134) rfl rfl rfl (fun h=>?_) (fun h=>?_))
  ·refine aI rfl ?_
   have hij3:i3>j3:=by omega
   rw[J4 hij3]at hr
   simp only[Prod.mk.injEq]at hr
   obtain⟨rfl,rfl⟩:=hr
   have hsw3:(d1.setIfInBounds j3 d1[a]!).setIfInBounds a d1[j3]! =Sort.swp d1 j3 a:=rfl
   refine bF 4 rfl rfl (aY (mW (aZ (bE ?_)) rfl))
   refine aB (aA rfl (bB (Γ:=aL) (fun _=>2) [11] bZ (aD _ _) rfl rfl rfl (by kernel_rfl) (fun K hK=>?_)))
   simp(disch:=omega) only[Tryd.f86,go_sem,↓reduceIte,hsw3,hs1,U2]
   refine hK _ ?_
   refine aB (aA rfl (aW [8,9] rfl rfl rfl fun K hK=>?_))
   simp(disch:=omega) only[Tryd.f86,go_sem,↓reduceIte]
   refine hK _ ?_
   exact aB (aS rfl (⟨rfl,by simp only[aV,if_true],rfl,dZ _⟩))
  refine aI rfl ?_
  have hij3: ¬i3>j3:=by omega
  rw[J3 hij3]at hr
  have hi3n:i3<n:=by omega
  have hsw3:(d1.setIfInBounds i3 d1[j3]!).setIfInBounds j3 d1[i3]! =Sort.swp d1 i3 j3:=rfl
  have ej3:(j3:Int)-1=((j3-1:Nat):Int):=by omega
  refine aQ rfl (aB (aA rfl (bB (Γ:=aL) (fun _=>2) [0,1,10,11] bZ (aD _ _) rfl rfl rfl (by kernel_rfl) (fun K hK=>?_))))
  simp(disch:=omega) only[Tryd.f86,go_sem,↓reduceIte,hsw3,hs1,U2]
  refine hK _ ?_
  refine aB (aA rfl (aW [0,1,10,11] rfl rfl rfl fun K hK=>?_))
  simp(disch:=omega) only[Tryd.f86,go_sem,↓reduceIte]
  refine hK _ ?_
  refine aB (aW [0,1,10,11] rfl rfl rfl fun K hK=>?_)
  simp(disch:=omega) only[Tryd.f86,go_sem,↓reduceIte,ej3]
  refine hK _ ?_
  refine bU (bT ?_)
  refine⟨⟨i3+1,j3-1,Sort.swp d1 i3 j3,_⟩,⟨hr,by simp only[cW];exact hs1,by simp only;omega,by simp only;omega,by simp only;omega⟩,by simp only;omega,⟨fun _=> .inr (by simp only[Int.natCast_add,Int.natCast_one]),bS (by simp(disch:=omega) only[aV,↓reduceIte,eq_self]) cB,U3 _⟩⟩
 cases hg
theorem cKk:bX Tryd.prog GLh 86 (.heap (dP ptG)):=⟨⟨_,Tryd.func86,rfl,rfl⟩,cUz⟩
def peG:List AV→List AV→Option (AV×List AV)
 |[.os _ 0 n 1 _,.i a,.i b,.i p],xs=>aK (unA xs) fun l=>aN (l.length=n∧0≤a∧a<b∧b≤n∧0≤p∧p<n∧n≤1000000) (some (.i (Sort.partitionEqual ltN l.toArray a.toNat b.toNat p.toNat).1,cA (Sort.partitionEqual ltN l.toArray a.toNat b.toNat p.toNat).2))
 |_,_=>none
theorem cJn (id n:Nat) (gg:Bool) (a b p:Int) (xs:List AV):peG [.os id 0 n 1 gg,.i a,.i b,.i p] xs=aK (unA xs) fun l=>aN (l.length=n∧0≤a∧a<b∧b≤n∧0≤p∧p<n∧n≤1000000) (some (.i (Sort.partitionEqual ltN l.toArray a.toNat b.toNat p.toNat).1,cA (Sort.partitionEqual ltN l.toArray a.toNat b.toNat p.toNat).2)):=(rfl)
attribute [go_sem] cJn
set_option maxHeartbeats 2000000 in
theorem cVg:cQ Tryd.prog GLh 85 (dP peG):=by
 refine dN Tryd.func85 (aT rfl) ?_
 intro id off n e gg rest nx xs r ys hg
 unfold peG at hg
 split at hg
 ·rename_i id2 n2 gg2 a0 b0 p0 heq
  simp only[List.cons.injEq,AV.os.injEq]at heq
  obtain⟨⟨rfl,rfl,rfl,rfl,rfl⟩,rfl⟩:=heq
  replace hg:=aJ hg;obtain⟨l,hl,hg⟩:=hg
  replace hg:=aP hg;obtain⟨⟨hn,ha,hab,hbn,hp0,hpn,hbig⟩,hg⟩:=hg
  simp only[Option.some.injEq,Prod.mk.injEq]at hg;obtain⟨rfl,rfl⟩:=hg
  have:=dO hl;subst this
  obtain⟨a,rfl⟩:=Int.eq_ofNat_of_zero_le ha
  obtain⟨b,rfl⟩:=Int.eq_ofNat_of_zero_le (show 0≤b0 by omega)
  obtain⟨p,rfl⟩:=Int.eq_ofNat_of_zero_le hp0
  simp only[U2]at*
  obtain⟨d,hd⟩: ∃d,l.toArray=d:=⟨_,rfl⟩
  have hds:d.size=n:=by rw[←hd];simpa using hn
  have hab2:a<b:=by omega
  have hbn2:b≤n:=by omega
  have hpn2:p<n:=by omega
  rw[hd]
  refine⟨J1 rfl,fun hid=>?_⟩
  clear hl hn ha hab hbn hp0 hpn
  obtain⟨⟨M,E⟩,hR⟩: ∃R,Sort.partitionEqual ltN d a b p=R:=⟨_,rfl⟩
  rw[hR]
  obtain⟨D,hD⟩: ∃D,Sort.swp d a p=D:=⟨_,rfl⟩
  have hDs:D.size=n:=by rw[←hD,cW];exact hds
  have hsw:(d.setIfInBounds a d[p]!).setIfInBounds p d[a]! =D:=hD
  have ea:(a:Int)+1=((a+1:Nat):Int):=by omega
  have eb:(b:Int)-1=((b-1:Nat):Int):=by omega
  have hME:Sort.partEqLoop ltN a (a+1) (b-1) D=(M,E):=by rw[←hD];exact hR
  have han:a<n:=by omega
  clear hR
  refine aA rfl (aW [0,1,2,3] rfl rfl rfl fun K hK=>?_)
  simp(disch:=omega) only[Tryd.f85,go_sem,↓reduceIte]
  refine hK _ ?_
  refine aB (aA rfl (bB (Γ:=aL) (fun _=>2) [0,1,2] bZ (aD _ _) rfl rfl rfl (by kernel_rfl) (fun K hK=>?_)))
  simp(disch:=omega) only[Tryd.f85,go_sem,↓reduceIte,hsw,hds,U2]
  refine hK _ ?_
  refine aB (aA rfl (aW [0,1,9,10] rfl rfl rfl fun K hK=>?_))
  simp(disch:=omega) only[Tryd.f85,go_sem,↓reduceIte,ea,eb]
  refine hK _ ?_
  refine aB (aA rfl (aR 0 rfl rfl ?_))
  refine bR (fun p:SDJ=> {fr:=[(0,.os id 0 n 1 gg),(1,.i a),(9,.i p.k),(10,.i p.j)],hp:=upd (fun _=>none) id (.cells (cA p.d) true),nx:=0,cx:=p.c}) (fun p=>Sort.partEqLoop ltN a p.k p.j p.d=(M,E)∧p.d.size=n∧a<p.k∧p.j<n∧id<p.c) (fun p=>p.j+1-p.k) rfl ⟨⟨a+1,b-1,D,_⟩,⟨hME,hDs,by simp only;omega,by simp only;omega,by simp only;omega⟩,bD rfl rfl (U3 _)⟩ ?_
  rintro⟨i,j,d1,c⟩ ⟨hr,hs1,hai,hjn,hc⟩ n0
  simp only at hr hs1 hai hjn hc⊢
  clear hsw ea eb
  obtain⟨i3,hi3⟩: ∃i3,Sort.scanUp (fun x=> !ltN d1[a]! x) d1 j i=i3:=⟨_,rfl⟩
  have gi3:=Sort.scanUp_ge (fun x=> !ltN d1[a]! x) d1 j i
  rw[hi3]at gi3
  obtain⟨j3,hj3⟩: ∃j3,Sort.scanDown (fun x=>ltN d1[a]! x) d1 i3 j=j3:=⟨_,rfl⟩
  have gj3:=Sort.scanDown_le (fun x=>ltN d1[a]! x) d1 i3 j
  rw[hj3]at gj3
  rw[Sort.partEqLoop_eq,hi3,hj3]at hr
  have hj3n:j3<n:=by omega
  refine aR 1 rfl rfl (aA rfl (cVf hi3 hs1 hjn han hbig hc (fun n3 c3 hc3=>?_)))
  refine aB (aA rfl (cVh hj3 hs1 hjn (by omega) han hbig hc3 (fun n4 c4 hc4=>?_)))
  refine aB (aA rfl (aA rfl (aW [64,0,1,9,10] rfl rfl rfl fun K hK=>?_)))
  simp(disch:=omega) only[Tryd.f85,go_sem,↓reduceIte]
  refine hK _ ?_
  refine aB (gP (.tmp 64) rfl rfl rfl (fun h=>?_) (fun h=>?_))
  ·refine aI rfl ?_
   have hij3:i3>j3:=by omega
   rw[J4 hij3]at hr
   simp only[Prod.mk.injEq]at hr
   obtain⟨rfl,rfl⟩:=hr
   refine bF 0 rfl rfl (aY (mW (aZ (bE ?_)) rfl))
   refine aB (aA rfl (aW [8] rfl rfl rfl fun K hK=>?_))
   simp(disch:=omega) only[Tryd.f85,go_sem,↓reduceIte]
   refine hK _ ?_
   exact aB (aS rfl (⟨rfl,by simp only[aV,if_true],rfl,dZ _⟩))
  refine aI rfl ?_
  have hij3: ¬i3>j3:=by omega
  rw[J3 hij3]at hr
  have hi3n:i3<n:=by omega
  have hsw3:(d1.setIfInBounds i3 d1[j3]!).setIfInBounds j3 d1[i3]! =Sort.swp d1 i3 j3:=rfl
  have ej3:(j3:Int)-1=((j3-1:Nat):Int):=by omega
  refine aQ rfl (aB (aA rfl (bB (Γ:=aL) (fun _=>2) [0,1,9,10] bZ (aD _ _) rfl rfl rfl (by kernel_rfl) (fun K hK=>?_))))
  simp(disch:=omega) only[Tryd.f85,go_sem,↓reduceIte,hsw3,hs1,U2]
  refine hK _ ?_
  refine aB (aA rfl (aW [0,1,9,10] rfl rfl rfl fun K hK=>?_))
  simp(disch:=omega) only[Tryd.f85,go_sem,↓reduceIte]
  refine hK _ ?_
  refine aB (aW [0,1,9,10] rfl rfl rfl fun K hK=>?_)
  simp(disch:=omega) only[Tryd.f85,go_sem,↓reduceIte,ej3]
  refine hK _ ?_
  refine bU (bT ?_)
  refine⟨⟨i3+1,j3-1,Sort.swp d1 i3 j3,_⟩,⟨hr,by simp only[cW];exact hs1,by simp only;omega,by simp only;omega,by simp only;omega⟩,by simp only;omega,⟨fun _=> .inr (by simp only[Int.natCast_add,Int.natCast_one]),bS (by simp(disch:=omega) only[aV,↓reduceIte,eq_self]) cB,U3 _⟩⟩
 cases hg
theorem cKl:bX Tryd.prog GLh 85 (.heap (dP peG)):=⟨⟨_,Tryd.func85,rfl,rfl⟩,cVg⟩
end Go.AX

namespace Go.AX
open Go Go.Proofs
theorem aVe: ∀(j:Nat) (d:Array T32),(Sort.shiftDown ltN j d).size=d.size
 |0,d=>rfl
 |j+1,d=>by
  rw[Sort.shiftDown]
  split
  ·rfl
  rw[aVe j,cW]
theorem aUu (b:Nat): ∀(m j:Nat) (d:Array T32),b-j≤m→(Sort.shiftUp ltN b j d).size=d.size:=by
 intro m
 induction m with
 |zero=>intro j d h;rw[Sort.shiftUp,J3 (by omega)]
 |succ m ih=>
  intro j d h
  rw[Sort.shiftUp]
  split
  ·split
   ·rfl
   rw[ih _ _ (by omega),cW]
  rfl
theorem cTm (b:Nat) (d:Array T32): ∀(m i:Nat),b-i≤m→i≤b→i≤Sort.scanSorted ltN d b i∧Sort.scanSorted ltN d b i≤b:=by
 intro m
 induction m with
 |zero=>intro i h hi;rw[Sort.scanSorted,J6 (by omega: ¬i<b),Bool.false_and];simp only[Bool.false_eq_true,if_false];omega
 |succ m ih=>
  intro i h hi
  rw[Sort.scanSorted]
  by_cases hib:i<b
  ·split
   ·have:=ih (i+1) (by omega) (by omega);omega
   omega
  rw[J6 hib,Bool.false_and];simp only[Bool.false_eq_true,if_false];omega
set_option maxHeartbeats 1000000 in
theorem cVd {id n a b I I2 nx0 cx0:Nat} {s:Int} {gg:Bool} {D:Array T32} {Q:Exit→S→Prop} (hI:Sort.scanSorted ltN D b I=I2) (hs:D.size=n) (hI1:0<I) (hb:b≤n) (hbig:n≤1000000) (hid:id<cx0)
  (hQ: ∀n1 c1,id<c1→Q .normal {fr:=[(0,.os id 0 n 1 gg),(1,.i (a:Int)),(2,.i (b:Int)),(7,.i (I2:Int)),(8,.i s)],hp:=upd (fun _=>none) id (.cells (cA D) true),nx:=n1,cx:=c1}):
  Awp Tryd.prog GLh Tryd.f83.ntmps (cl (cl (cl (cr (cl (cl (cr (cl (cr (cr (aE Tryd.f83))))))))))) {fr:=[(0,.os id 0 n 1 gg),(1,.i (a:Int)),(2,.i (b:Int)),(7,.i (I:Int)),(8,.i s)],hp:=upd (fun _=>none) id (.cells (cA D) true),nx:=nx0,cx:=cx0} Q:=by
  refine aR 2 rfl rfl (bR (fun q:SKC=> {fr:=[(0,.os id 0 n 1 gg),(1,.i a),(2,.i b),(7,.i q.k),(8,.i s)],hp:=upd (fun _=>none) id (.cells (cA D) true),nx:=0,cx:=q.c}) (fun q=>Sort.scanSorted ltN D b q.k=I2∧0<q.k∧id<q.c) (fun q=>b-q.k) rfl ⟨⟨I,_⟩,⟨hI,hI1,hid⟩,bD rfl rfl (U3 _)⟩ ?_)
  rintro⟨i,c⟩ ⟨hr,hi,hc⟩ n0
  simp only at hr hi hc⊢
  by_cases hij:i<b
  ·have hd1:decide ((i:Int)<(b:Int))=true:=J5 (by omega)
   have hin:i<n:=by omega
   have ei:(i:Int)-1=((i-1:Nat):Int):=by omega
   obtain⟨v,hv⟩: ∃v,ltN D[i]! D[i-1]! =v:=⟨_,rfl⟩
   rw[Sort.scanSorted,J5 hij,Bool.true_and,hv]at hr
   refine aA rfl (aA rfl (bB (Γ:=bC [(84,.pure true dY)]) (fun k=>if k=13 then 0 else 2) [32,0,1,2,7,8] bZ (aH jC aO) rfl rfl rfl (by kernel_rfl) (fun K hK=>?_)))
   simp(disch:=omega) only[Tryd.f83,go_sem,↓reduceIte,hd1,ei,hv,U2]
   refine hK _ ?_
   refine aB ?_
   cases v
   ·simp only[Bool.not_false,if_true]at hr
    refine eC (.tmp 32) rfl rfl rfl (fun h=>?_) (fun h=>?_)
    ·refine aI rfl (aQ rfl (aB (aR 3 rfl rfl (aW [0,1,2,7,8] rfl rfl rfl fun K hK=>?_))))
     simp(disch:=omega) only[Tryd.f83,go_sem,↓reduceIte]
     refine hK _ ?_
     refine bU (bT ?_)
     refine⟨⟨i+1,_⟩,⟨hr,by simp only;omega,by simp only;omega⟩,by simp only;omega,bD (by simp only[Int.natCast_add,Int.natCast_one]) rfl (U3 _)⟩
    refine aI rfl ?_
    cases h
   simp only[Bool.not_true,Bool.false_eq_true,if_false]at hr
   subst hr
   refine eC (.tmp 32) rfl rfl rfl (fun h=>?_) (fun h=>?_)
   ·refine aI rfl ?_
    cases h
   exact aI rfl (bF 2 rfl rfl (aY (aZ (bE (hQ _ _ (by omega))))))
  have hd1:decide ((i:Int)<(b:Int))=false:=J6 (by omega)
  rw[Sort.scanSorted,J6 hij,Bool.false_and]at hr
  simp only[Bool.false_eq_true,if_false]at hr
  subst hr
  refine aA rfl (aA rfl (bB (Γ:=bC [(84,.pure true dY)]) (fun k=>if k=13 then 0 else 2) [32,0,1,2,7,8] bZ (aH jC aO) rfl rfl rfl (by kernel_rfl) (fun K hK=>?_)))
  simp(disch:=omega) only[Tryd.f83,go_sem,↓reduceIte,hd1]
  refine hK _ ?_
  refine aB (eC (.tmp 32) rfl rfl rfl (fun h=>?_) (fun h=>?_))
  ·refine aI rfl ?_
   cases h
  exact aI rfl (bF 2 rfl rfl (aY (aZ (bE (hQ _ _ (by omega))))))
set_option maxHeartbeats 1000000 in
theorem cVc {id n a b i J nx0 cx0:Nat} {s:Int} {gg:Bool} {D E:Array T32} {Q:Exit→S→Prop} (hE:Sort.shiftDown ltN J D=E) (hs:D.size=n) (hJ:J<n) (hbig:n≤1000000) (hid:id<cx0)
  (hQ: ∀jj n1 c1,id<c1→Q .normal {fr:=[(0,.os id 0 n 1 gg),(1,.i (a:Int)),(2,.i (b:Int)),(7,.i (i:Int)),(8,.i s),(9,.i jj)],hp:=upd (fun _=>none) id (.cells (cA E) true),nx:=n1,cx:=c1}):
  Awp Tryd.prog GLh Tryd.f83.ntmps (cr (cl (cr (cl (cr (cr (cr (cr (cl (cl (cr (cl (cl (cr (cl (cr (cr (aE Tryd.f83)))))))))))))))))) {fr:=[(0,.os id 0 n 1 gg),(1,.i (a:Int)),(2,.i (b:Int)),(7,.i (i:Int)),(8,.i s),(9,.i (J:Int))],hp:=upd (fun _=>none) id (.cells (cA D) true),nx:=nx0,cx:=cx0} Q:=by
  refine aR 4 rfl rfl (bR (fun q:SDC=> {fr:=[(0,.os id 0 n 1 gg),(1,.i a),(2,.i b),(7,.i i),(8,.i s),(9,.i q.k)],hp:=upd (fun _=>none) id (.cells (cA q.d) true),nx:=0,cx:=q.c}) (fun q=>Sort.shiftDown ltN q.k q.d=E∧q.d.size=n∧q.k<n∧id<q.c) (fun q=>q.k) rfl ⟨⟨J,D,_⟩,⟨hE,hs,hJ,hid⟩,bD rfl rfl (U3 _)⟩ ?_)
  rintro⟨j,d1,c⟩ ⟨hr,hs1,hj,hc⟩ n0
  simp only at hr hs1 hj hc⊢
  refine aA rfl (aA rfl (aW [65,0,1,2,7,8,9] rfl rfl rfl fun K hK=>?_))
  simp(disch:=omega) only[Tryd.f83,go_sem,↓reduceIte]
  refine hK _ ?_
  refine aB (gP (.tmp 65) rfl rfl rfl (fun h=>?_) (fun h=>?_))
  ·refine aI rfl ?_
   obtain⟨j,rfl⟩: ∃j',j=j'+1:=⟨j-1,by omega⟩
   have ej1:((j+1:Nat):Int)-1=(j:Int):=by omega
   obtain⟨v,hv⟩: ∃v,ltN d1[j+1]! d1[j]! =v:=⟨_,rfl⟩
   rw[Sort.shiftDown,hv]at hr
   refine aQ rfl (aB (aA rfl (aR 5 rfl rfl (aA rfl (aA rfl (bB (Γ:=bC [(84,.pure true dY)]) (fun k=>if k=9 then 0 else 2) [78,0,1,2,7,8,9] bZ (aH jC aO) rfl rfl rfl (by kernel_rfl) (fun K hK=>?_)))))))
   simp(disch:=omega) only[Tryd.f83,go_sem,↓reduceIte,ej1,hv,U2]
   refine hK _ ?_
   refine aB ?_
   cases v
   ·simp only[Bool.not_false,if_true]at hr
    subst hr
    refine eC (.tmp 78) rfl rfl rfl (fun h=>?_) (fun h=>?_)
    ·refine aI rfl (bF 4 rfl rfl (aY (mW (aY (aZ (bE ?_))) rfl)))
     exact hQ _ _ _ (by omega)
    refine aI rfl ?_
    cases h
   simp only[Bool.not_true,Bool.false_eq_true,if_false]at hr
   refine eC (.tmp 78) rfl rfl rfl (fun h=>?_) (fun h=>?_)
   ·refine aI rfl ?_
    cases h
   refine aI rfl (aQ rfl (aB ?_))
   have hsw:(d1.setIfInBounds (j+1) d1[j]!).setIfInBounds j d1[j+1]! =Sort.swp d1 (j+1) j:=rfl
   refine bB (Γ:=aL) (fun _=>2) [0,1,2,7,8,9] bZ (aD _ _) rfl rfl rfl (by kernel_rfl) (fun K hK=>?_)
   simp(disch:=omega) only[Tryd.f83,go_sem,↓reduceIte,ej1,hsw,U2]
   refine hK _ ?_
   refine bU (aB (aW [0,1,2,7,8,9] rfl rfl rfl fun K hK=>?_))
   simp(disch:=omega) only[Tryd.f83,go_sem,↓reduceIte,ej1]
   refine hK _ ?_
   refine bT ?_
   refine⟨⟨j,Sort.swp d1 (j+1) j,_⟩,⟨hr,by simp only[cW];exact hs1,by simp only;omega,by simp only;omega⟩,by simp only;omega,⟨fun _=> .inr rfl,bS (by simp(disch:=omega) only[aV,↓reduceIte,eq_self]) cB,U3 _⟩⟩
  refine aI rfl ?_
  obtain rfl:j=0:=by omega
  rw[Sort.shiftDown]at hr
  subst hr
  exact bF 4 rfl rfl (aY (aZ (bE (hQ _ _ _ (by omega)))))
set_option maxHeartbeats 1000000 in
theorem cEw {id n a b i J nx0 cx0:Nat} {s:Int} {gg:Bool} {D E:Array T32} {Q:Exit→S→Prop} (hE:Sort.shiftUp ltN b J D=E) (hs:D.size=n) (hJ:0<J) (hb:b≤n) (hbig:n≤1000000) (hid:id<cx0)
  (hQ: ∀jj n1 c1,id<c1→Q .normal {fr:=[(0,.os id 0 n 1 gg),(1,.i (a:Int)),(2,.i (b:Int)),(7,.i (i:Int)),(8,.i s),(10,.i jj)],hp:=upd (fun _=>none) id (.cells (cA E) true),nx:=n1,cx:=c1}):
  Awp Tryd.prog GLh Tryd.f83.ntmps (cr (cl (cr (cr (cr (cr (cr (cr (cl (cl (cr (cl (cl (cr (cl (cr (cr (aE Tryd.f83)))))))))))))))))) {fr:=[(0,.os id 0 n 1 gg),(1,.i (a:Int)),(2,.i (b:Int)),(7,.i (i:Int)),(8,.i s),(10,.i (J:Int))],hp:=upd (fun _=>none) id (.cells (cA D) true),nx:=nx0,cx:=cx0} Q:=by
  refine aR 6 rfl rfl (bR (fun q:SDC=> {fr:=[(0,.os id 0 n 1 gg),(1,.i a),(2,.i b),(7,.i i),(8,.i s),(10,.i q.k)],hp:=upd (fun _=>none) id (.cells (cA q.d) true),nx:=0,cx:=q.c}) (fun q=>Sort.shiftUp ltN b q.k q.d=E∧q.d.size=n∧0<q.k∧id<q.c) (fun q=>b-q.k) rfl ⟨⟨J,D,_⟩,⟨hE,hs,hJ,hid⟩,bD rfl rfl (U3 _)⟩ ?_)
  rintro⟨j,d1,c⟩ ⟨hr,hs1,hj,hc⟩ n0
  simp only at hr hs1 hj hc⊢
  refine aA rfl (aA rfl (aW [103,0,1,2,7,8,10] rfl rfl rfl fun K hK=>?_))
  simp(disch:=omega) only[Tryd.f83,go_sem,↓reduceIte]
  refine hK _ ?_
  refine aB (gP (.tmp 103) rfl rfl rfl (fun h=>?_) (fun h=>?_))
  ·refine aI rfl ?_
   have hjb:j<b:=by omega
   have hjn:j<n:=by omega
   have ej1:(j:Int)-1=((j-1:Nat):Int):=by omega
   obtain⟨v,hv⟩: ∃v,ltN d1[j]! d1[j-1]! =v:=⟨_,rfl⟩
   rw[Sort.shiftUp,J4 hjb,hv]at hr
   refine aQ rfl (aB (aA rfl (aR 7 rfl rfl (aA rfl (aA rfl (bB (Γ:=bC [(84,.pure true dY)]) (fun k=>if k=9 then 0 else 2) [116,0,1,2,7,8,10] bZ (aH jC aO) rfl rfl rfl (by kernel_rfl) (fun K hK=>?_)))))))
   simp(disch:=omega) only[Tryd.f83,go_sem,↓reduceIte,ej1,hv,U2]
   refine hK _ ?_
   refine aB ?_
   cases v
   ·simp only[Bool.not_false,if_true]at hr
    subst hr
    refine eC (.tmp 116) rfl rfl rfl (fun h=>?_) (fun h=>?_)
    ·refine aI rfl (bF 6 rfl rfl (aY (mW (aY (aZ (bE ?_))) rfl)))
     exact hQ _ _ _ (by omega)
    refine aI rfl ?_
    cases h
   simp only[Bool.not_true,Bool.false_eq_true,if_false]at hr
   refine eC (.tmp 116) rfl rfl rfl (fun h=>?_) (fun h=>?_)
   ·refine aI rfl ?_
    cases h
   refine aI rfl (aQ rfl (aB ?_))
   have hsw:(d1.setIfInBounds j d1[j-1]!).setIfInBounds (j-1) d1[j]! =Sort.swp d1 j (j-1):=rfl
   refine bB (Γ:=aL) (fun _=>2) [0,1,2,7,8,10] bZ (aD _ _) rfl rfl rfl (by kernel_rfl) (fun K hK=>?_)
   simp(disch:=omega) only[Tryd.f83,go_sem,↓reduceIte,ej1,hsw,U2]
   refine hK _ ?_
   refine bU (aB (aW [0,1,2,7,8,10] rfl rfl rfl fun K hK=>?_))
   simp(disch:=omega) only[Tryd.f83,go_sem,↓reduceIte]
   refine hK _ ?_
   refine bT ?_
   refine⟨⟨j+1,Sort.swp d1 j (j-1),_⟩,⟨hr,by simp only[cW];exact hs1,by simp only;omega,by simp only;omega⟩,by simp only;omega,⟨fun _=> .inr (by simp only[Int.natCast_add,Int.natCast_one]),bS (by simp(disch:=omega) only[aV,↓reduceIte,eq_self]) cB,U3 _⟩⟩
  refine aI rfl ?_
  have hjb: ¬j<b:=by omega
  rw[Sort.shiftUp,J3 hjb]at hr
  subst hr
  exact bF 6 rfl rfl (aY (aZ (bE (hQ _ _ _ (by omega)))))
structure SPI where
 s:Nat
 i:Nat
 d:Array T32
 c:Nat
def piG:List AV→List AV→Option (AV×List AV)
 |[.os _ 0 n 1 _,.i a,.i b],xs=>aK (unA xs) fun l=>aN (l.length=n∧0≤a∧a<b∧b≤n∧n≤1000000) (some (.b (Sort.partialInsertionSort ltN l.toArray a.toNat b.toNat).2,cA (Sort.partialInsertionSort ltN l.toArray a.toNat b.toNat).1))
 |_,_=>none
theorem cJm (id n:Nat) (gg:Bool) (a b:Int) (xs:List AV):piG [.os id 0 n 1 gg,.i a,.i b] xs=aK (unA xs) fun l=>aN (l.length=n∧0≤a∧a<b∧b≤n∧n≤1000000) (some (.b (Sort.partialInsertionSort ltN l.toArray a.toNat b.toNat).2,cA (Sort.partialInsertionSort ltN l.toArray a.toNat b.toNat).1)):=(rfl)
attribute [go_sem] cJm
set_option maxHeartbeats 2000000 in
theorem cVe:cQ Tryd.prog GLh 83 (dP piG):=by
 refine dN Tryd.func83 (aT rfl) ?_
 intro id off n e gg rest nx xs r ys hg
 unfold piG at hg
 split at hg
 ·rename_i id2 n2 gg2 a0 b0 heq
  simp only[List.cons.injEq,AV.os.injEq]at heq
  obtain⟨⟨rfl,rfl,rfl,rfl,rfl⟩,rfl⟩:=heq
  replace hg:=aJ hg;obtain⟨l,hl,hg⟩:=hg
  replace hg:=aP hg;obtain⟨⟨hn,ha,hab,hbn,hbig⟩,hg⟩:=hg
  simp only[Option.some.injEq,Prod.mk.injEq]at hg;obtain⟨rfl,rfl⟩:=hg
  have:=dO hl;subst this
  obtain⟨a,rfl⟩:=Int.eq_ofNat_of_zero_le ha
  obtain⟨b,rfl⟩:=Int.eq_ofNat_of_zero_le (show 0≤b0 by omega)
  simp only[U2]at*
  obtain⟨d,hd⟩: ∃d,l.toArray=d:=⟨_,rfl⟩
  have hds:d.size=n:=by rw[←hd];simpa using hn
  have hab2:a<b:=by omega
  have hbn2:b≤n:=by omega
  rw[hd]
  refine⟨J1 rfl,fun hid=>?_⟩
  clear hl hn ha hab hbn
  obtain⟨⟨E,F⟩,hR⟩: ∃R,Sort.partialInsertionSort ltN d a b=R:=⟨_,rfl⟩
  rw[hR]
  have hR0:Sort.partialIns ltN a b 5 (a+1) d=(E,F):=hR
  clear hR
  have ebL:(b:Int)-(a:Int)=((b-a:Nat):Int):=by omega
  refine aA rfl (aW [0,1,2] rfl rfl rfl fun K hK=>?_)
  simp(disch:=omega) only[Tryd.f83,go_sem,↓reduceIte]
  refine hK _ ?_
  refine aB (aA rfl (aW [0,1,2,7] rfl rfl rfl fun K hK=>?_))
  simp(disch:=omega) only[Tryd.f83,go_sem,↓reduceIte]
  refine hK _ ?_
  refine aB (aA rfl (aA rfl (aW [0,1,2,7,8] rfl rfl rfl fun K hK=>?_)))
  simp(disch:=omega) only[Tryd.f83,go_sem,↓reduceIte]
  refine hK _ ?_
  refine aB (aR 0 rfl rfl ?_)
  refine bR (fun p:SPI=> {fr:=[(0,.os id 0 n 1 gg),(1,.i a),(2,.i b),(7,.i p.i),(8,.i (5-(p.s:Int)))],hp:=upd (fun _=>none) id (.cells (cA p.d) true),nx:=0,cx:=p.c}) (fun p=>Sort.partialIns ltN a b p.s p.i p.d=(E,F)∧p.d.size=n∧a<p.i∧p.i≤b∧p.s≤5∧id<p.c) (fun p=>p.s) rfl ⟨⟨5,a+1,d,_⟩,⟨hR0,hds,by simp only;omega,by simp only;omega,by simp only;omega,by simp only;omega⟩,bD (by simp only[Int.natCast_add,Int.cast_ofNat_Int,Int.sub_self]) rfl (U3 _)⟩ ?_
  rintro⟨s,i,d1,c⟩ ⟨hr,hs1,hai,hib,hs5,hc⟩ n0
  simp only at hr hs1 hai hib hs5 hc⊢
  refine aA rfl (aA rfl (aW [14,0,1,2,7,8] rfl rfl rfl fun K hK=>?_))
  simp(disch:=omega) only[Tryd.f83,go_sem,↓reduceIte]
  refine hK _ ?_
  refine aB (gP (.tmp 14) rfl rfl rfl (fun h=>?_) (fun h=>?_))
  ·refine aI rfl ?_
   obtain⟨s,rfl⟩: ∃s',s=s'+1:=⟨s-1,by omega⟩
   obtain⟨i2,hi2⟩: ∃i2,Sort.scanSorted ltN d1 b i=i2:=⟨_,rfl⟩
   have gi2:=cTm b d1 _ i (U3 _) hib
   rw[hi2]at gi2
   rw[Sort.partialIns,hi2]at hr
   refine aQ rfl (aB (aA rfl (aR 1 rfl rfl (aA rfl (cVd hi2 hs1 (by omega) hbn2 hbig (by omega) (fun n1 c1 hc1=>?_))))))
   refine aB (aA rfl (aA rfl (aW [37,0,1,2,7,8] rfl rfl rfl fun K hK=>?_)))
   simp(disch:=omega) only[Tryd.f83,go_sem,↓reduceIte]
   refine hK _ ?_
   refine aB (gP (.tmp 37) rfl rfl rfl (fun h=>?_) (fun h=>?_))
   ·refine aI rfl ?_
    have hib2:i2=b:=by omega
    rw[J4 hib2]at hr
    simp only[Prod.mk.injEq]at hr
    obtain⟨rfl,rfl⟩:=hr
    refine aA rfl (aW [6] rfl rfl rfl fun K hK=>?_)
    simp(disch:=omega) only[Tryd.f83,go_sem,↓reduceIte]
    refine hK _ ?_
    exact aB (aS rfl (bI (bN (bI (dF (bN (bI (⟨rfl,by simp only[aV,if_true],rfl,dZ _⟩))))))))
   refine aI rfl ?_
   have hib2: ¬i2=b:=by omega
   rw[J3 hib2]at hr
   refine aQ rfl (aB (aA rfl (aA rfl (aW [41,0,1,2,7,8] rfl rfl rfl fun K hK=>?_))))
   simp(disch:=omega) only[Tryd.f83,go_sem,↓reduceIte]
   refine hK _ ?_
   refine aB (gP (.tmp 41) rfl rfl rfl (fun h=>?_) (fun h=>?_))
   ·refine aI rfl ?_
    have hab50:b-a<50:=by omega
    rw[J4 hab50]at hr
    simp only[Prod.mk.injEq]at hr
    obtain⟨rfl,rfl⟩:=hr
    refine aA rfl (aW [6] rfl rfl rfl fun K hK=>?_)
    simp(disch:=omega) only[Tryd.f83,go_sem,↓reduceIte]
    refine hK _ ?_
    exact aB (aS rfl (bI (bN (bI (dF (bN (bI (⟨rfl,by simp only[aV,if_true],rfl,dZ _⟩))))))))
   refine aI rfl ?_
   have hab50: ¬b-a<50:=by omega
   rw[J3 hab50]at hr
   refine aQ rfl (aB (aA rfl ?_))
   have hin:i2<n:=by omega
   have ei2:(i2:Int)-1=((i2-1:Nat):Int):=by omega
   have hsw:(d1.setIfInBounds i2 d1[i2-1]!).setIfInBounds (i2-1) d1[i2]! =Sort.swp d1 i2 (i2-1):=rfl
   refine bB (Γ:=aL) (fun _=>2) [0,1,2,7,8] bZ (aD _ _) rfl rfl rfl (by kernel_rfl) (fun K hK=>?_)
   simp(disch:=omega) only[Tryd.f83,go_sem,↓reduceIte,ei2,hsw,U2]
   refine hK _ ?_
   refine aB ?_
   obtain⟨d2,hd2⟩: ∃d2,Sort.swp d1 i2 (i2-1)=d2:=⟨_,rfl⟩
   have hs2:d2.size=n:=by rw[←hd2,cW];exact hs1
   rw[hd2]
   simp only[hd2]at hr
   have e5:5-((s+1:Nat):Int)+1=5-(s:Int):=by omega
   have ei3:(i2:Int)+1=((i2+1:Nat):Int):=by omega
   clear hsw
   refine aA rfl (aA rfl (aW [61,0,1,2,7,8] rfl rfl rfl fun K hK=>?_))
   simp(disch:=omega) only[Tryd.f83,go_sem,↓reduceIte]
   refine hK _ ?_
   refine aB (gP (.tmp 61) rfl rfl rfl (fun h=>?_) (fun h=>?_))
   ·refine aI rfl ?_
    have hia:i2-a≥2:=by omega
    simp only[J4 hia]at hr
    obtain⟨d3,hd3⟩: ∃d3,Sort.shiftDown ltN (i2-1) d2=d3:=⟨_,rfl⟩
    have hs3:d3.size=n:=by rw[←hd3,aVe];exact hs2
    rw[hd3]at hr
    refine aA rfl (aW [0,1,2,7,8,9] rfl rfl rfl fun K hK=>?_)
    simp(disch:=omega) only[Tryd.f83,go_sem,↓reduceIte,ei2]
    refine hK _ ?_
    refine aB (cVc hd3 hs2 (by omega) hbig (by omega) (fun jj n2 c2 hc2=>?_))
    refine aB (aA rfl (aW [98,0,1,2,7,8] rfl rfl rfl fun K hK=>?_))
    simp(disch:=omega) only[Tryd.f83,go_sem,↓reduceIte]
    refine hK _ ?_
    refine aB (gP (.tmp 98) rfl rfl rfl (fun h=>?_) (fun h=>?_))
    ·refine aI rfl ?_
     have hbi:b-i2≥2:=by omega
     simp only[J4 hbi]at hr
     obtain⟨d4,hd4⟩: ∃d4,Sort.shiftUp ltN b (i2+1) d3=d4:=⟨_,rfl⟩
     have hs4:d4.size=n:=by rw[←hd4,aUu b _ _ _ (U3 _)];exact hs3
     rw[hd4]at hr
     refine aA rfl (aW [0,1,2,7,8,10] rfl rfl rfl fun K hK=>?_)
     simp(disch:=omega) only[Tryd.f83,go_sem,↓reduceIte,ei3]
     refine hK _ ?_
     refine aB (cEw hd4 hs3 (by omega) hbn2 hbig (by omega) (fun jj n3 c3 hc3=>?_))
     refine bU (aB (aW [0,1,2,7,8] rfl rfl rfl fun K hK=>?_))
     simp(disch:=omega) only[Tryd.f83,go_sem,↓reduceIte]
     refine hK _ ?_
     refine bT ?_
     refine⟨⟨s,i2,d4,_⟩,⟨hr,hs4,by simp only;omega,by simp only;omega,by simp only;omega,by simp only;omega⟩,by simp only;omega,bD (by simp only[e5]) rfl (U3 _)⟩
    refine aI rfl ?_
    have hbi: ¬b-i2≥2:=by omega
    simp only[J3 hbi]at hr
    refine aQ rfl (bU (aB (aW [0,1,2,7,8] rfl rfl rfl fun K hK=>?_)))
    simp(disch:=omega) only[Tryd.f83,go_sem,↓reduceIte]
    refine hK _ ?_
    refine bT ?_
    refine⟨⟨s,i2,d3,_⟩,⟨hr,hs3,by simp only;omega,by simp only;omega,by simp only;omega,by simp only;omega⟩,by simp only;omega,bD (by simp only[e5]) rfl (U3 _)⟩
   refine aI rfl ?_
   have hia: ¬i2-a≥2:=by omega
   simp only[J3 hia]at hr
   refine aQ rfl (aB (aA rfl (aW [98,0,1,2,7,8] rfl rfl rfl fun K hK=>?_)))
   simp(disch:=omega) only[Tryd.f83,go_sem,↓reduceIte]
   refine hK _ ?_
   refine aB (gP (.tmp 98) rfl rfl rfl (fun h=>?_) (fun h=>?_))
   ·refine aI rfl ?_
    have hbi:b-i2≥2:=by omega
    simp only[J4 hbi]at hr
    obtain⟨d4,hd4⟩: ∃d4,Sort.shiftUp ltN b (i2+1) d2=d4:=⟨_,rfl⟩
    have hs4:d4.size=n:=by rw[←hd4,aUu b _ _ _ (U3 _)];exact hs2
    rw[hd4]at hr
    refine aA rfl (aW [0,1,2,7,8,10] rfl rfl rfl fun K hK=>?_)
    simp(disch:=omega) only[Tryd.f83,go_sem,↓reduceIte,ei3]
    refine hK _ ?_
    refine aB (cEw hd4 hs2 (by omega) hbn2 hbig (by omega) (fun jj n3 c3 hc3=>?_))
    refine bU (aB (aW [0,1,2,7,8] rfl rfl rfl fun K hK=>?_))
    simp(disch:=omega) only[Tryd.f83,go_sem,↓reduceIte]
    refine hK _ ?_
    refine bT ?_
    refine⟨⟨s,i2,d4,_⟩,⟨hr,hs4,by simp only;omega,by simp only;omega,by simp only;omega,by simp only;omega⟩,by simp only;omega,bD (by simp only[e5]) rfl (U3 _)⟩
   refine aI rfl ?_
   have hbi: ¬b-i2≥2:=by omega
   simp only[J3 hbi]at hr
   refine aQ rfl (bU (aB (aW [0,1,2,7,8] rfl rfl rfl fun K hK=>?_)))
   simp(disch:=omega) only[Tryd.f83,go_sem,↓reduceIte]
   refine hK _ ?_
   refine bT ?_
   refine⟨⟨s,i2,d2,_⟩,⟨hr,hs2,by simp only;omega,by simp only;omega,by simp only;omega,by simp only;omega⟩,by simp only;omega,bD (by simp only[e5]) rfl (U3 _)⟩
  refine aI rfl ?_
  obtain rfl:s=0:=by omega
  rw[Sort.partialIns]at hr
  simp only[Prod.mk.injEq]at hr
  obtain⟨rfl,rfl⟩:=hr
  refine bF 0 rfl rfl (aY (aZ (bE (aB (aA rfl (aW [6] rfl rfl rfl fun K hK=>?_))))))
  simp(disch:=omega) only[Tryd.f83,go_sem,↓reduceIte]
  refine hK _ ?_
  exact aB (aS rfl (⟨rfl,by simp only[aV,if_true],rfl,dZ _⟩))
 cases hg
theorem cVo:bX Tryd.prog GLh 83 (.heap (dP piG)):=⟨⟨_,Tryd.func83,rfl,rfl⟩,cVe⟩
end Go.AX

namespace Go.AX
open Go Go.Proofs
noncomputable def aJp {α:Type} (p:Prop) (x:Option α):Option α:=@aN _ p (Classical.propDecidable p) x
theorem aSo {α:Type} {p:Prop} {x:Option α} {y:α} (h:aJp p x=some y):p∧x=some y:=@aP _ p (Classical.propDecidable p) x y h
theorem bMz {α:Type} (x:Option α):aJp True x=x:=@cU _ True (Classical.propDecidable True) x trivial
attribute [go_sem] bMz
noncomputable def zR (N:Nat):List AV→List AV→Option (AV×List AV)
 |[.os _ 0 n 1 _,.i a,.i b,.i k],xs=>aK (unA xs) fun l=>aN (l.length=n∧0≤a∧a≤b∧b≤n∧0≤k∧k≤1000∧n≤1000000∧b-a<N) (aJp (Sort.Below ltN a.toNat b.toNat l.toArray) (some (.tup [],cA (Sort.pdq ltN l.toArray a.toNat b.toNat k.toNat true true))))
 |_,_=>none
theorem bVl (N id n:Nat) (gg:Bool) (a b k:Int) (xs:List AV):zR N [.os id 0 n 1 gg,.i a,.i b,.i k] xs=aK (unA xs) fun l=>aN (l.length=n∧0≤a∧a≤b∧b≤n∧0≤k∧k≤1000∧n≤1000000∧b-a<N) (aJp (Sort.Below ltN a.toNat b.toNat l.toArray) (some (.tup [],cA (Sort.pdq ltN l.toArray a.toNat b.toNat k.toNat true true)))):=(rfl)
attribute [go_sem] bVl
structure SPQ where
 a:Nat
 b:Nat
 l:Nat
 wb:Bool
 wp:Bool
 d:Array T32
 c:Nat
theorem bVk:cQ Tryd.prog GLh 69 (dP (zR 0)):=by
 refine dN Tryd.func69 (aT rfl) ?_
 intro id off n e gg rest nx xs r ys hg
 exfalso
 unfold zR at hg
 split at hg
 ·replace hg:=aJ hg;obtain⟨l,hl,hg⟩:=hg
  replace hg:=aP hg;obtain⟨⟨hn,ha,hab,hbn,hk,hk2,hbig,hN⟩,hg⟩:=hg
  omega
 cases hg
theorem aVs {a b:Nat} {d x:Array T32} (c:Prop) [Decidable c] (h:Sort.PermIn a b d x):Sort.PermIn a b d (if c then x else d):=by
 split
 ·exact h
 exact Sort.permIn_refl _ _ _
set_option maxHeartbeats 1000000 in
theorem cJr {id n a b k L nx0 cx0:Nat} {gg wb wp:Bool} {d:Array T32} {Q:Exit→S→Prop} {k1:Nat} {d1:Array T32} (hd1:(if(!wb)=true then Sort.breakPatterns d a b else d)=d1) (hk1:(if(!wb)=true then k-1 else k)=k1) (hk:0<k) (hk2:k≤1000) (hds:d.size=n) (hab:a<b) (hbn:b≤n) (hbig:n≤1000000) (hid:id<cx0)
  (hQ: ∀n1 c1,id<c1→Q .normal {fr:=[(0,.os id 0 n 1 gg),(1,.i (a:Int)),(2,.i (b:Int)),(3,.i (k1:Int)),(8,.b wb),(9,.b wp),(10,.i (L:Int))],hp:=upd (fun _=>none) id (.cells (cA d1) true),nx:=n1,cx:=c1}):
  Awp Tryd.prog GLh Tryd.f69.ntmps (cl (cr (cr (cr (cl (cl (cl (cr (cr (aE Tryd.f69)))))))))) {fr:=[(0,.os id 0 n 1 gg),(1,.i (a:Int)),(2,.i (b:Int)),(3,.i (k:Int)),(8,.b wb),(9,.b wp),(10,.i (L:Int))],hp:=upd (fun _=>none) id (.cells (cA d) true),nx:=nx0,cx:=cx0} Q:=by
  cases wb
  ·simp only[Bool.not_false,if_true]at hd1 hk1
   have ek:(k:Int)-1=(k1:Int):=by omega
   refine aA rfl (aW [35,0,1,2,3,8,9,10] rfl rfl rfl fun K hK=>?_)
   simp(disch:=omega) only[Tryd.f69,go_sem,↓reduceIte]
   refine hK _ ?_
   refine aB (eC (.tmp 35) rfl rfl rfl (fun h=>?_) (fun h=>?_))
   ·refine aI rfl (aA rfl (aC (Γ:=bC [(80,.heap (dP bPn))]) [0,1,2,3,8,9,10] (aH cVr aO) rfl rfl rfl (fun K hK=>?_)))
    simp(disch:=omega) only[Tryd.f69,go_sem,↓reduceIte,hds,hd1,U2]
    refine hK _ ?_
    refine aB (aW [0,1,2,3,8,9,10] rfl rfl rfl fun K hK=>?_)
    simp(disch:=omega) only[Tryd.f69,go_sem,↓reduceIte,ek]
    refine hK _ ?_
    exact hQ _ _ (by omega)
   refine aI rfl ?_
   cases h
  simp only[Bool.not_true,Bool.false_eq_true,if_false]at hd1 hk1
  subst hd1;subst hk1
  refine aA rfl (aW [35,0,1,2,3,8,9,10] rfl rfl rfl fun K hK=>?_)
  simp(disch:=omega) only[Tryd.f69,go_sem,↓reduceIte]
  refine hK _ ?_
  refine aB (eC (.tmp 35) rfl rfl rfl (fun h=>?_) (fun h=>?_))
  ·refine aI rfl ?_
   cases h
  exact aI rfl (aQ rfl (hQ _ _ (by omega)))
set_option maxHeartbeats 1000000 in
theorem cJo {id n a b k L nx0 cx0:Nat} {gg wb wp:Bool} {d:Array T32} {Q:Exit→S→Prop} {pv pv2:Nat} {ht ht2:Sort.Hint} {d2:Array T32} (hd2:(if ht=Sort.Hint.decreasing then Sort.reverseRange d a b else d)=d2) (hpv2:(if ht=Sort.Hint.decreasing then(b-1)-(pv-a)else pv)=pv2) (hht2:(if ht=Sort.Hint.decreasing then Sort.Hint.increasing else ht)=ht2) (hpa:a≤pv) (hpb:pv<b) (hds:d.size=n) (hab:a<b) (hbn:b≤n) (hbig:n≤1000000) (hid:id<cx0)
  (hQ: ∀n1 c1,id<c1→Q .normal {fr:=[(0,.os id 0 n 1 gg),(1,.i (a:Int)),(2,.i (b:Int)),(3,.i (k:Int)),(8,.b wb),(9,.b wp),(10,.i (L:Int)),(11,.i (pv2:Int)),(12,.i (gM ht2))],hp:=upd (fun _=>none) id (.cells (cA d2) true),nx:=n1,cx:=c1}):
  Awp Tryd.prog GLh Tryd.f69.ntmps (cl (cr (cr (cr (cr (cr (cl (cl (cl (cr (cr (aE Tryd.f69)))))))))))) {fr:=[(0,.os id 0 n 1 gg),(1,.i (a:Int)),(2,.i (b:Int)),(3,.i (k:Int)),(8,.b wb),(9,.b wp),(10,.i (L:Int)),(11,.i (pv:Int)),(12,.i (gM ht))],hp:=upd (fun _=>none) id (.cells (cA d) true),nx:=nx0,cx:=cx0} Q:=by
  cases ht
  ·simp only[reduceCtorEq,if_false]at hd2 hpv2 hht2
   subst hd2;subst hpv2;subst hht2
   refine aA rfl (aW [50,0,1,2,3,8,9,10,11,12] rfl rfl rfl fun K hK=>?_)
   simp(disch:=omega) only[Tryd.f69,go_sem,↓reduceIte,gM,decide_false]
   refine hK _ ?_
   refine aB (eC (.tmp 50) rfl rfl rfl (fun h=>?_) (fun h=>?_))
   ·refine aI rfl ?_
    cases h
   exact aI rfl (aQ rfl (hQ _ _ (by omega)))
  ·simp only[reduceCtorEq,if_false]at hd2 hpv2 hht2
   subst hd2;subst hpv2;subst hht2
   refine aA rfl (aW [50,0,1,2,3,8,9,10,11,12] rfl rfl rfl fun K hK=>?_)
   simp(disch:=omega) only[Tryd.f69,go_sem,↓reduceIte,gM,decide_false]
   refine hK _ ?_
   refine aB (eC (.tmp 50) rfl rfl rfl (fun h=>?_) (fun h=>?_))
   ·refine aI rfl ?_
    cases h
   exact aI rfl (aQ rfl (hQ _ _ (by omega)))
  simp only[if_true]at hd2 hpv2 hht2
  subst hht2
  have ep:(b:Int)-1-((pv:Int)-(a:Int))=(pv2:Int):=by omega
  refine aA rfl (aW [50,0,1,2,3,8,9,10,11,12] rfl rfl rfl fun K hK=>?_)
  simp(disch:=omega) only[Tryd.f69,go_sem,↓reduceIte,gM,decide_true]
  refine hK _ ?_
  refine aB (eC (.tmp 50) rfl rfl rfl (fun h=>?_) (fun h=>?_))
  ·refine aI rfl (aA rfl (aC (Γ:=bC [(82,.heap (dP bHw))]) [0,1,2,3,8,9,10,11] (aH cVp aO) rfl rfl rfl (fun K hK=>?_)))
   simp(disch:=omega) only[Tryd.f69,go_sem,↓reduceIte,hds,hd2,U2]
   refine hK _ ?_
   refine aB (aA rfl (aW [0,1,2,3,8,9,10,11] rfl rfl rfl fun K hK=>?_))
   simp(disch:=omega) only[Tryd.f69,go_sem,↓reduceIte,ep]
   refine hK _ ?_
   refine aB (aW [0,1,2,3,8,9,10,11,12] rfl rfl rfl fun K hK=>?_)
   simp(disch:=omega) only[Tryd.f69,go_sem,↓reduceIte]
   refine hK _ ?_
   exact hQ _ _ (by omega)
  refine aI rfl ?_
  cases h
set_option maxHeartbeats 1000000 in
theorem cJp {id n a b k L nx0 cx0:Nat} {gg wb wp:Bool} {d:Array T32} {Q:Exit→S→Prop} {pv:Nat} {ht:Sort.Hint} {d3:Array T32} {ok:Bool} (hpi:(if(wb&&wp&&decide (ht=Sort.Hint.increasing))=true then Sort.partialInsertionSort ltN d a b else(d,false))=(d3,ok)) (hds:d.size=n) (hab:a<b) (hbn:b≤n) (hbig:n≤1000000) (hid:id<cx0)
  (hQ: ∀n1 c1,id<c1→ok=false→Q .normal {fr:=[(0,.os id 0 n 1 gg),(1,.i (a:Int)),(2,.i (b:Int)),(3,.i (k:Int)),(8,.b wb),(9,.b wp),(10,.i (L:Int)),(11,.i (pv:Int))],hp:=upd (fun _=>none) id (.cells (cA d3) true),nx:=n1,cx:=c1})
  (hQr: ∀fr n1 c1,id<c1→ok=true→Q .ret {fr:=fr,hp:=upd (fun _=>none) id (.cells (cA d3) true),nx:=n1,cx:=c1}):
  Awp Tryd.prog GLh Tryd.f69.ntmps (cl (cr (cr (cr (cr (cr (cr (cl (cl (cl (cr (cr (aE Tryd.f69))))))))))))) {fr:=[(0,.os id 0 n 1 gg),(1,.i (a:Int)),(2,.i (b:Int)),(3,.i (k:Int)),(8,.b wb),(9,.b wp),(10,.i (L:Int)),(11,.i (pv:Int)),(12,.i (gM ht))],hp:=upd (fun _=>none) id (.cells (cA d) true),nx:=nx0,cx:=cx0} Q:=by
  cases wb
  ·simp only[Bool.false_and,Bool.false_eq_true,if_false,Prod.mk.injEq]at hpi
   obtain⟨rfl,rfl⟩:=hpi
   refine aA rfl (aW [68,0,1,2,3,8,9,10,11] rfl rfl rfl fun K hK=>?_)
   simp(disch:=omega) only[Tryd.f69,go_sem,↓reduceIte,gM]
   refine hK _ ?_
   refine aB (eC (.tmp 68) rfl rfl rfl (fun h=>?_) (fun h=>?_))
   ·refine aI rfl ?_
    cases h
   exact aI rfl (aQ rfl (hQ _ _ (by omega) rfl))
  cases wp
  ·simp only[Bool.and_false,Bool.false_and,Bool.false_eq_true,if_false,Prod.mk.injEq]at hpi
   obtain⟨rfl,rfl⟩:=hpi
   refine aA rfl (aW [68,0,1,2,3,8,9,10,11] rfl rfl rfl fun K hK=>?_)
   simp(disch:=omega) only[Tryd.f69,go_sem,↓reduceIte,gM]
   refine hK _ ?_
   refine aB (eC (.tmp 68) rfl rfl rfl (fun h=>?_) (fun h=>?_))
   ·refine aI rfl ?_
    cases h
   exact aI rfl (aQ rfl (hQ _ _ (by omega) rfl))
  cases ht
  ·simp only[Bool.and_true,Bool.and_false,reduceCtorEq,decide_false,Bool.false_eq_true,if_false,Prod.mk.injEq]at hpi
   obtain⟨rfl,rfl⟩:=hpi
   refine aA rfl (aW [68,0,1,2,3,8,9,10,11] rfl rfl rfl fun K hK=>?_)
   simp(disch:=omega) only[Tryd.f69,go_sem,↓reduceIte,gM,decide_false]
   refine hK _ ?_
   refine aB (eC (.tmp 68) rfl rfl rfl (fun h=>?_) (fun h=>?_))
   ·refine aI rfl ?_
    cases h
   exact aI rfl (aQ rfl (hQ _ _ (by omega) rfl))
  ·simp only[Bool.and_true,decide_true,if_true]at hpi
   refine aA rfl (aW [68,0,1,2,3,8,9,10,11] rfl rfl rfl fun K hK=>?_)
   simp(disch:=omega) only[Tryd.f69,go_sem,↓reduceIte,gM,decide_true]
   refine hK _ ?_
   refine aB (eC (.tmp 68) rfl rfl rfl (fun h=>?_) (fun h=>?_))
   ·refine aI rfl (aA rfl (aC (Γ:=bC [(83,.heap (dP piG))]) [72,0,1,2,3,8,9,10,11] (aH cVo aO) rfl rfl rfl (fun K hK=>?_)))
    simp(disch:=omega) only[Tryd.f69,go_sem,↓reduceIte,hds,hpi,U2]
    refine hK _ ?_
    refine aB (eC (.tmp 72) rfl rfl rfl (fun h=>?_) (fun h=>?_))
    ·exact aI rfl (aS rfl (hQr _ _ _ (by omega) h))
    exact aI rfl (aQ rfl (hQ _ _ (by omega) (by simpa using h)))
   refine aI rfl ?_
   cases h
  simp only[Bool.and_true,Bool.and_false,reduceCtorEq,decide_false,Bool.false_eq_true,if_false,Prod.mk.injEq]at hpi
  obtain⟨rfl,rfl⟩:=hpi
  refine aA rfl (aW [68,0,1,2,3,8,9,10,11] rfl rfl rfl fun K hK=>?_)
  simp(disch:=omega) only[Tryd.f69,go_sem,↓reduceIte,gM,decide_false]
  refine hK _ ?_
  refine aB (eC (.tmp 68) rfl rfl rfl (fun h=>?_) (fun h=>?_))
  ·refine aI rfl ?_
   cases h
  exact aI rfl (aQ rfl (hQ _ _ (by omega) rfl))
set_option maxHeartbeats 1000000 in
theorem cJq {id n a b k L nx0 cx0:Nat} {gg wb wp:Bool} {d:Array T32} {Q:Exit→S→Prop} {pv:Nat} {u:Bool} (hu:(decide (a>0)&& !ltN d[a-1]! d[pv]!)=u) (hpb:pv<b) (hds:d.size=n) (hab:a<b) (hbn:b≤n) (hbig:n≤1000000) (hid:id<cx0)
  (hQ: ∀n1 c1,id<c1→Q .normal {fr:=[(87,.b u),(0,.os id 0 n 1 gg),(1,.i (a:Int)),(2,.i (b:Int)),(3,.i (k:Int)),(8,.b wb),(9,.b wp),(10,.i (L:Int)),(11,.i (pv:Int))],hp:=upd (fun _=>none) id (.cells (cA d) true),nx:=n1,cx:=c1}):
  Awp Tryd.prog GLh Tryd.f69.ntmps (cl (cl (cr (cr (cr (cr (cr (cr (cr (cl (cl (cl (cr (cr (aE Tryd.f69))))))))))))))) {fr:=[(0,.os id 0 n 1 gg),(1,.i (a:Int)),(2,.i (b:Int)),(3,.i (k:Int)),(8,.b wb),(9,.b wp),(10,.i (L:Int)),(11,.i (pv:Int))],hp:=upd (fun _=>none) id (.cells (cA d) true),nx:=nx0,cx:=cx0} Q:=by
  by_cases ha:a>0
  ·have hd1:decide (0<(a:Int))=true:=J5 (by omega)
   have ea:(a:Int)-1=((a-1:Nat):Int):=by omega
   have han:a<n:=by omega
   have hpn:pv<n:=by omega
   obtain⟨v,hv⟩: ∃v,ltN d[a-1]! d[pv]! =v:=⟨_,rfl⟩
   rw[J5 ha,hv,Bool.true_and]at hu
   subst hu
   refine bB (Γ:=bC [(84,.pure true dY)]) (fun k=>if k=12 then 0 else 2) [87,0,1,2,3,8,9,10,11] bZ (aH jC aO) rfl rfl rfl (by kernel_rfl) (fun K hK=>?_)
   simp(disch:=omega) only[Tryd.f69,go_sem,↓reduceIte,hd1,ea,hv,U2]
   refine hK _ ?_
   exact hQ _ _ (by omega)
  have hd1:decide (0<(a:Int))=false:=J6 (by omega)
  rw[J6 ha,Bool.false_and]at hu
  subst hu
  refine bB (Γ:=bC [(84,.pure true dY)]) (fun k=>if k=12 then 0 else 2) [87,0,1,2,3,8,9,10,11] bZ (aH jC aO) rfl rfl rfl (by kernel_rfl) (fun K hK=>?_)
  simp(disch:=omega) only[Tryd.f69,go_sem,↓reduceIte,hd1]
  refine hK _ ?_
  exact hQ _ _ (by omega)
set_option maxHeartbeats 4000000 in
theorem bVj (N:Nat) (ih:cQ Tryd.prog GLh 69 (dP (zR N))):cQ Tryd.prog GLh 69 (dP (zR (N+1))):=by
 have oku91:bX Tryd.prog GLh 69 (.heap (dP (zR N))):=⟨⟨_,Tryd.func69,rfl,rfl⟩,ih⟩
 refine dN Tryd.func69 (aT rfl) ?_
 intro id off n e gg rest nx xs r ys hg
 unfold zR at hg
 split at hg
 ·rename_i id2 n2 gg2 a0 b0 k0 heq
  simp only[List.cons.injEq,AV.os.injEq]at heq
  obtain⟨⟨rfl,rfl,rfl,rfl,rfl⟩,rfl⟩:=heq
  replace hg:=aJ hg;obtain⟨l,hl,hg⟩:=hg
  replace hg:=aP hg;obtain⟨⟨hn,ha,hab,hbn,hk0,hk1,hbig,hN⟩,hg⟩:=hg
  replace hg:=aSo hg;obtain⟨hB,hg⟩:=hg
  simp only[Option.some.injEq,Prod.mk.injEq]at hg;obtain⟨rfl,rfl⟩:=hg
  have:=dO hl;subst this
  obtain⟨a,rfl⟩:=Int.eq_ofNat_of_zero_le ha
  obtain⟨b,rfl⟩:=Int.eq_ofNat_of_zero_le (show 0≤b0 by omega)
  obtain⟨k,rfl⟩:=Int.eq_ofNat_of_zero_le hk0
  simp only[U2]at*
  obtain⟨d,hd⟩: ∃d,l.toArray=d:=⟨_,rfl⟩
  have hds:d.size=n:=by rw[←hd];simpa using hn
  have hab2:a≤b:=by omega
  have hbn2:b≤n:=by omega
  have hk2:k≤1000:=by omega
  have hN2:b-a<N+1:=by omega
  rw[hd]at hB⊢
  refine⟨J1 rfl,fun hid=>?_⟩
  obtain⟨R,hR⟩: ∃R,Sort.pdq ltN d a b k true true=R:=⟨_,rfl⟩
  rw[hR]
  clear hl hn ha hab hbn hk0 hk1 hN
  refine aA rfl (aW [0,1,2,3,8] rfl rfl rfl fun K hK=>?_)
  simp(disch:=omega) only[Tryd.f69,go_sem,↓reduceIte]
  refine hK _ ?_
  refine aB (aA rfl (aW [0,1,2,3,8,9] rfl rfl rfl fun K hK=>?_))
  simp(disch:=omega) only[Tryd.f69,go_sem,↓reduceIte]
  refine hK _ ?_
  refine aB (aR 0 rfl rfl ?_)
  refine bR (fun p:SPQ=> {fr:=[(0,.os id 0 n 1 gg),(1,.i p.a),(2,.i p.b),(3,.i p.l),(8,.b p.wb),(9,.b p.wp)],hp:=upd (fun _=>none) id (.cells (cA p.d) true),nx:=0,cx:=p.c}) (fun p=>Sort.pdq ltN p.d p.a p.b p.l p.wb p.wp=R∧p.d.size=n∧p.a≤p.b∧p.b≤n∧p.l≤1000∧p.b-p.a<N+1∧Sort.Below ltN p.a p.b p.d∧id<p.c) (fun p=>p.b-p.a) rfl ⟨⟨a,b,k,true,true,d,_⟩,⟨hR,hds,hab2,hbn2,hk2,hN2,hB,by simp only;omega⟩,bD rfl rfl (U3 _)⟩ ?_
  rintro⟨a,b,k,wb,wp,d,c⟩ ⟨hr,hds,hab,hbn,hk,hN,hB,hc⟩ n0
  simp only at hr hds hab hbn hk hN hB hc⊢
  have ebL:(b:Int)-(a:Int)=((b-a:Nat):Int):=by omega
  refine aR 1 rfl rfl (aA rfl (aW [0,1,2,3,8,9,10] rfl rfl rfl fun K hK=>?_))
  simp(disch:=omega) only[Tryd.f69,go_sem,↓reduceIte,ebL]
  refine hK _ ?_
  refine aB (aA rfl (aA rfl (aW [23,0,1,2,3,8,9,10] rfl rfl rfl fun K hK=>?_)))
  simp(disch:=omega) only[Tryd.f69,go_sem,↓reduceIte]
  refine hK _ ?_
  refine aB (gP (.tmp 23) rfl rfl rfl (fun h=>?_) (fun h=>?_))
  ·refine aI rfl ?_
   have h12:b-a≤12:=by omega
   rw[Sort.pdq,J4 h12]at hr
   refine aA rfl (aC (Γ:=bC [(78,.heap (dP bMq))]) [] (aH cVt aO) rfl rfl rfl (fun K hK=>?_))
   simp(disch:=omega) only[Tryd.f69,go_sem,↓reduceIte,hds,U2]
   refine hK _ ?_
   exact aB (aS rfl (bI (bN (dF (bN (⟨rfl,by simp only[aV,if_true,hr],rfl,dZ _⟩))))))
  refine aI rfl ?_
  have h12: ¬b-a≤12:=by omega
  rw[Sort.pdq,J3 h12]at hr
  refine aQ rfl (aB (aA rfl (aA rfl (aW [29,0,1,2,3,8,9,10] rfl rfl rfl fun K hK=>?_))))
  simp(disch:=omega) only[Tryd.f69,go_sem,↓reduceIte]
  refine hK _ ?_
  refine aB (gP (.tmp 29) rfl rfl rfl (fun h=>?_) (fun h=>?_))
  ·refine aI rfl ?_
   have hk0:k=0:=by omega
   rw[J4 hk0]at hr
   refine aA rfl (aC (Γ:=bC [(79,.heap (dP bMx))]) [] (aH cVs aO) rfl rfl rfl (fun K hK=>?_))
   simp(disch:=omega) only[Tryd.f69,go_sem,↓reduceIte,hds,U2]
   refine hK _ ?_
   exact aB (aS rfl (bI (bN (dF (bN (⟨rfl,by simp only[aV,if_true,hr],rfl,dZ _⟩))))))
  refine aI rfl ?_
  have hk0: ¬k=0:=by omega
  rw[J3 hk0]at hr
  obtain⟨d1,hd1⟩: ∃x,(if(!wb)=true then Sort.breakPatterns d a b else d)=x:=⟨_,rfl⟩
  obtain⟨k1,hk1⟩: ∃x,(if(!wb)=true then k-1 else k)=x:=⟨_,rfl⟩
  obtain⟨⟨pv,ht⟩,hch⟩: ∃x,Sort.choosePivot ltN d1 a b=x:=⟨_,rfl⟩
  obtain⟨d2,hd2⟩: ∃x,(if ht=Sort.Hint.decreasing then Sort.reverseRange d1 a b else d1)=x:=⟨_,rfl⟩
  obtain⟨pv2,hpv2⟩: ∃x,(if ht=Sort.Hint.decreasing then(b-1)-(pv-a)else pv)=x:=⟨_,rfl⟩
  obtain⟨ht2,hht2⟩: ∃x,(if ht=Sort.Hint.decreasing then Sort.Hint.increasing else ht)=x:=⟨_,rfl⟩
  obtain⟨⟨d3,ok⟩,hpi⟩: ∃x,(if(wb&&wp&&decide (ht2=Sort.Hint.increasing))=true then Sort.partialInsertionSort ltN d2 a b else(d2,false))=x:=⟨_,rfl⟩
  simp only[hd1,hk1,hch,hd2,hpv2,hht2,hpi]at hr
  have hk1b:k1≤1000:=by rw[←hk1];split<;>omega
  have hab3:a<b:=by omega
  have p1:Sort.PermIn a b d d1:=by rw[←hd1];exact aVs _ (Sort.breakPatterns_holds d a b hab (by omega))
  have s1:d1.size=n:=by rw[p1.1];exact hds
  refine aQ rfl (aB (aA rfl (cJr hd1 hk1 (by omega) hk hds hab3 hbn hbig (by omega) (fun n1 c1 hc1=>?_))))
  refine aB (aA rfl (aC (Γ:=bC [(81,.heap (dP chG))]) [0,1,2,3,8,9,10,11,12] (aH cVq aO) rfl rfl rfl (fun K hK=>?_)))
  simp(disch:=omega) only[Tryd.f69,go_sem,↓reduceIte,s1,hch,U2]
  refine hK _ ?_
  refine aB ?_
  have hcr:=Sort.choosePivot_holds ltN d1 a b hab3
  rw[hch]at hcr
  simp only at hcr
  have p2:Sort.PermIn a b d1 d2:=by rw[←hd2];exact aVs _ (Sort.reverseRange_holds d1 a b hab (by omega))
  have s2:d2.size=n:=by rw[p2.1];exact s1
  refine aA rfl (cJo hd2 hpv2 hht2 hcr.1 hcr.2 s1 hab3 hbn hbig (by omega) (fun n2 c2 hc2=>?_))
  refine aB ?_
  have hb2:Sort.Below ltN a b d2:=(hB.perm (by omega) p1).perm (by omega) p2
  have hps:=Sort.step_partial Sort.partialInsertionSort_holds qW d2 hab3 (by omega) hb2 ((wb&&wp&&decide (ht2=Sort.Hint.increasing))=true)
  have hpi2:(if _h:(wb&&wp&&decide (ht2=Sort.Hint.increasing))=true then Sort.partialInsertionSort ltN d2 a b else(d2,false))=(d3,ok):=by rw[←hpi];split<;>simp_all
  rw[hpi2]at hps
  have p3:Sort.PermIn a b d2 d3:=hps.1
  have s3:d3.size=n:=by rw[p3.1];exact s2
  have hb3:Sort.Below ltN a b d3:=hb2.perm (by omega) p3
  have hpv:a≤pv2∧pv2<b:=by rw[←hpv2];split<;>omega
  refine aA rfl ?_
  refine cJp hpi s2 hab3 hbn hbig hc2 (fun n3 c3 hc3 hok=>?_) (fun fr n3 c3 hc3 hok=>by subst hok;rw[J4 rfl]at hr;subst hr;exact(show aLl Tryd.prog Tryd.f69.results.toList (.tup []) id (cA d3) _ from⟨rfl,by simp only[aV,if_true],rfl,dZ _⟩))
  refine aB ?_
  subst hok
  simp only[Bool.false_eq_true,if_false]at hr
  obtain⟨u,hu⟩: ∃u,(decide (a>0)&& !ltN d3[a-1]! d3[pv2]!)=u:=⟨_,rfl⟩
  rw[hu]at hr
  refine aA rfl (aA rfl (cJq hu hpv.2 s3 hab3 hbn hbig hc3 (fun n4 c4 hc4=>?_)))
  refine aB ?_
  cases u
  ·obtain⟨⟨mid,ap,d4⟩,hx⟩: ∃x,Sort.partition ltN d3 a b pv2=x:=⟨_,rfl⟩
   obtain⟨g1,g2,hs4,hBa,hBr,hleft,hright⟩:=Sort.round_part qW (Sort.partition_holds ltN) hpv.1 hpv.2 (by omega) hb3 hx
   have s4:d4.size=n:=by rw[hs4];exact s3
   have hpn:pv2<n:=by omega
   simp only[Bool.false_eq_true,if_false,hx,dif_pos (And.intro g1 g2)]at hr
   have eL:(mid:Int)-(a:Int)=((mid-a:Nat):Int):=by omega
   have eR:(b:Int)-(mid:Int)=((b-mid:Nat):Int):=by omega
   have e8:((b-a:Nat):Int).tdiv 8=(((b-a)/8:Nat):Int):=by rw[Int.tdiv_eq_ediv_of_nonneg (by omega)];omega
   have em:(mid:Int)+1=((mid+1:Nat):Int):=by omega
   have hd1:decide ((((b-a)/8:Nat):Int)≤((mid-a:Nat):Int))=decide (mid-a≥(b-a)/8):=decide_eq_decide.2 (by omega)
   have hd2:decide ((((b-a)/8:Nat):Int)≤((b-mid:Nat):Int))=decide (b-mid≥(b-a)/8):=decide_eq_decide.2 (by omega)
   refine eC (.tmp 87) rfl rfl rfl (fun h=>?_) (fun h=>?_)
   ·cases h
   refine aQ rfl (aB (aA rfl (aC (Γ:=bC [(86,.heap (dP ptG))]) [0,1,2,3,10,14,15] (aH cKk aO) rfl rfl rfl (fun K hK=>?_))))
   simp(disch:=omega) only[Tryd.f69,go_sem,↓reduceIte,s3,hx,U2]
   refine hK _ ?_
   refine aB (aA rfl (aW [0,1,2,3,9,10,14] rfl rfl rfl fun K hK=>?_))
   simp(disch:=omega) only[Tryd.f69,go_sem,↓reduceIte]
   refine hK _ ?_
   refine aB (aA rfl (aW [0,1,2,3,9,10,14,16,17] rfl rfl rfl fun K hK=>?_))
   simp(disch:=omega) only[Tryd.f69,go_sem,↓reduceIte,eL,eR]
   refine hK _ ?_
   refine aB (aA rfl (aW [0,1,2,3,9,14,16,17,18] rfl rfl rfl fun K hK=>?_))
   simp(disch:=omega) only[Tryd.f69,go_sem,↓reduceIte,e8]
   refine hK _ ?_
   refine aB (aA rfl (aW [113,0,1,2,3,9,14,16,17,18] rfl rfl rfl fun K hK=>?_))
   simp(disch:=omega) only[Tryd.f69,go_sem,↓reduceIte]
   refine hK _ ?_
   refine aB (gP (.tmp 113) rfl rfl rfl (fun h=>?_) (fun h=>?_))
   ·refine aI rfl ?_
    have hlr:mid-a<b-mid:=by omega
    rw[J4 hlr]at hr
    obtain⟨q1,q2⟩:=Sort.pdq_sorts ltN qW d4 a mid k1 true true g1 (by omega) hBa
    obtain⟨d5,hd5⟩: ∃x,Sort.pdq ltN d4 a mid k1 true true=x:=⟨_,rfl⟩
    rw[hd5]at hr q1 q2
    have s5:d5.size=n:=by rw[q1.1];exact s4
    have hB5:=(hleft d5 q1 q2).1
    refine aA rfl (aW [0,1,2,3,8,9,14] rfl rfl rfl fun K hK=>?_)
    simp(disch:=omega) only[Tryd.f69,go_sem,↓reduceIte,hd1]
    refine hK _ ?_
    refine aB (aA rfl (aC (Γ:=bC [(69,.heap (dP (zR N)))]) [0,2,3,8,9,14] (aH oku91 aO) rfl rfl rfl (fun K hK=>?_)))
    simp(disch:=omega) only[Tryd.f69,go_sem,↓reduceIte,s4,hBa,hd5,U2]
    refine hK _ ?_
    refine aB (aW [0,1,2,3,8,9] rfl rfl rfl fun K hK=>?_)
    simp(disch:=omega) only[Tryd.f69,go_sem,↓reduceIte,em]
    refine hK _ ?_
    refine bU (bT ?_)
    refine⟨⟨mid+1,b,k1,decide (mid-a≥(b-a)/8),ap,d5,_⟩,⟨hr,s5,by simp only;omega,by simp only;omega,by simp only;omega,by simp only;omega,hB5,by simp only;omega⟩,by simp only;omega,⟨fun _=> .inr rfl,bS (by simp(disch:=omega) only[aV,↓reduceIte,eq_self]) cB,U3 _⟩⟩
   refine aI rfl ?_
   have hlr: ¬mid-a<b-mid:=by omega
   rw[J3 hlr]at hr
   obtain⟨q1,q2⟩:=Sort.pdq_sorts ltN qW d4 (mid+1) b k1 true true (by omega) (by omega) hBr
   obtain⟨d5,hd5⟩: ∃x,Sort.pdq ltN d4 (mid+1) b k1 true true=x:=⟨_,rfl⟩
   rw[hd5]at hr q1 q2
   have s5:d5.size=n:=by rw[q1.1];exact s4
   have hB5:=(hright d5 q1 q2).1
   refine aA rfl (aW [0,1,2,3,8,9,14] rfl rfl rfl fun K hK=>?_)
   simp(disch:=omega) only[Tryd.f69,go_sem,↓reduceIte,hd2]
   refine hK _ ?_
   refine aB (aA rfl (aC (Γ:=bC [(69,.heap (dP (zR N)))]) [0,1,3,8,9,14] (aH oku91 aO) rfl rfl rfl (fun K hK=>?_)))
   simp(disch:=omega) only[Tryd.f69,go_sem,↓reduceIte,em,s4,hBr,hd5,U2]
   refine hK _ ?_
   refine aB (aW [0,1,2,3,8,9] rfl rfl rfl fun K hK=>?_)
   simp(disch:=omega) only[Tryd.f69,go_sem,↓reduceIte]
   refine hK _ ?_
   refine bU (bT ?_)
   refine⟨⟨a,mid,k1,decide (b-mid≥(b-a)/8),ap,d5,_⟩,⟨hr,s5,by simp only;omega,by simp only;omega,by simp only;omega,by simp only;omega,hB5,by simp only;omega⟩,by simp only;omega,⟨fun _=> .inr rfl,bS (by simp(disch:=omega) only[aV,↓reduceIte,eq_self]) cB,U3 _⟩⟩
  obtain⟨⟨mid,d4⟩,hx⟩: ∃x,Sort.partitionEqual ltN d3 a b pv2=x:=⟨_,rfl⟩
  simp only[Bool.and_eq_true,decide_eq_true_eq,Bool.not_eq_true']at hu
  obtain⟨g1,g2,hs4,hB4,_⟩:=Sort.round_eq qW (Sort.partitionEqual_holds ltN) hu.1 hpv.1 hpv.2 (by omega) hb3 hu.2 hx
  have s4:d4.size=n:=by rw[hs4];exact s3
  have hpn:pv2<n:=by omega
  simp only[if_true,hx,dif_pos (And.intro g1 g2)]at hr
  refine eC (.tmp 87) rfl rfl rfl (fun h=>?_) (fun h=>?_)
  ·refine aA rfl (aC (Γ:=bC [(85,.heap (dP peG))]) [0,2,3,8,9,13] (aH cKl aO) rfl rfl rfl (fun K hK=>?_))
   simp(disch:=omega) only[Tryd.f69,go_sem,↓reduceIte,s3,hx,U2]
   refine hK _ ?_
   refine aB (aA rfl (aW [0,1,2,3,8,9] rfl rfl rfl fun K hK=>?_))
   simp(disch:=omega) only[Tryd.f69,go_sem,↓reduceIte]
   refine hK _ ?_
   refine aB (bF 1 rfl rfl (aY (bE (bT ?_))))
   refine⟨⟨mid,b,k1,wb,wp,d4,_⟩,⟨hr,s4,by simp only;omega,by simp only;omega,by simp only;omega,by simp only;omega,hB4,by simp only;omega⟩,by simp only;omega,⟨fun _=> .inr rfl,bS (by simp(disch:=omega) only[aV,↓reduceIte,eq_self]) cB,U3 _⟩⟩
  cases h
 cases hg
end Go.AX

namespace Go.AX
open Go Go.Proofs
theorem aVt: ∀N:Nat,cQ Tryd.prog GLh 69 (dP (zR N))
 |0=>bVk
 |N+1=>bVj N (aVt N)
theorem oku91:bX Tryd.prog GLh 69 (.heap (dP (zR 1000001))):=⟨⟨_,Tryd.func69,rfl,rfl⟩,aVt 1000001⟩
def bGg:List AV→List AV→Option (AV×List AV)
 |[.os _ 0 n 1 _],xs=>aK (unA xs) fun l=>aN (l.length=n∧n≤1000000) (some (.tup [],cA (iU l).toArray))
 |_,_=>none
theorem aUw (id n:Nat) (gg:Bool) (xs:List AV):bGg [.os id 0 n 1 gg] xs=aK (unA xs) fun l=>aN (l.length=n∧n≤1000000) (some (.tup [],cA (iU l).toArray)):=(rfl)
attribute [go_sem] aUw
set_option maxHeartbeats 1000000 in
theorem bGf:cQ Tryd.prog GLh 55 (dP bGg):=by
 refine dN Tryd.func55 (aT rfl) ?_
 intro id off n e gg rest nx xs r ys hg
 unfold bGg at hg
 split at hg
 ·rename_i id2 n2 gg2 heq
  simp only[List.cons.injEq,AV.os.injEq]at heq
  obtain⟨⟨rfl,rfl,rfl,rfl,rfl⟩,rfl⟩:=heq
  replace hg:=aJ hg;obtain⟨l,hl,hg⟩:=hg
  replace hg:=aP hg;obtain⟨⟨hn,hbig⟩,hg⟩:=hg
  simp only[Option.some.injEq,Prod.mk.injEq]at hg;obtain⟨rfl,rfl⟩:=hg
  have:=dO hl;subst this
  obtain⟨R,hR⟩: ∃R,(iU l).toArray=R:=⟨_,rfl⟩
  obtain⟨d,hd⟩: ∃d,l.toArray=d:=⟨_,rfl⟩
  have hds:d.size=n:=by rw[←hd];simpa using hn
  have hR2:Sort.pdq ltN d 0 n (Sort.bitsLen n) true true=R:=by
   rw[←hR,←hd];unfold iU Sort.sort;simp[←hds,←hd]
  rw[hR,hd]
  have h20:=aTm hbig
  have e1:=aWd hbig
  have hB:Sort.Below ltN 0 n d:=.inl rfl
  refine⟨J1 rfl,fun hid=>?_⟩
  clear hl hn
  refine aA rfl (aW [0,2] rfl rfl rfl fun K hK=>?_)
  simp(disch:=omega) only[Tryd.f55,go_sem,↓reduceIte]
  refine hK _ ?_
  refine aB (aC (Γ:=bC [(70,.pure true uJ),(69,.heap (dP (zR 1000001)))]) [] (aH cFa (aH oku91 aO)) rfl rfl rfl (fun K hK=>?_))
  simp(disch:=omega) only[Tryd.f55,go_sem,↓reduceIte,e1,hds,hB,hR2,U2,Int.toNat_zero]
  refine hK _ ?_
  exact⟨rfl,by simp only[aV,if_true],rfl,dZ _⟩
 cases hg
end Go.AX

namespace Go.AX
open Go Go.Proofs Go.RowKit Go.Shelf Go.Maps Go.Sort
abbrev wM:Int→Value:=Value.int .u32
theorem bNo {x y:Int} (h:wM x=wM y):x=y:=by simpa [wM]using h
theorem xU {P:Program} {k:TypeId} (hk:P.underlying k=some (.int .u32)) {key:Value} {kl:Lit} (h:keyOf P k key=some kl): ∃x:Int,key=wM x∧kl=.int .u32 x∧(Lit.int .u32 x).wf=true:=by
 cases key<;>simp[keyOf,hk,mapKey]at h
 rename_i q a
 obtain⟨⟨rfl,hw⟩,rfl⟩:=h
 exact⟨a,rfl,rfl,hw⟩
theorem aRn {H:Type} {es:List (Lit×DataW H)} (hp:es.Pairwise (fun p q=>p.1≠q.1)) (hk: ∀p∈es,∃x,p.1=.int .u32 x) {ss:List Int} (hnd:ss.Nodup) (hm: ∀x,x∈ss↔has (.map es) (.int .u32 x)=true):
  ss.Perm (intKeys (.map es)):=by
 refine(List.perm_ext_iff_of_nodup hnd ?_).2 fun x=>?_
 ·show(es.map fun p=>intOf p.1).Nodup
  refine List.pairwise_map.2 (hp.imp_of_mem fun {p q} hp' hq' hne e=>hne ?_)
  obtain⟨a,ha⟩:=hk p hp'
  obtain⟨b,hb⟩:=hk q hq'
  rw[ha,hb]at e⊢
  exact congrArg _ e
 ·rw[hm x,has_eq,List.any_eq_true]
  show _↔x∈es.map fun p=>intOf p.1
  rw[List.mem_map]
  constructor
  ·rintro⟨p,hp',hs⟩
   obtain⟨a,ha⟩:=hk p hp'
   rw[ha]at hs
   exact⟨p,hp',by rw[ha];simpa [Lit.sameKey,intOf]using hs⟩
  ·rintro⟨p,hp',rfl⟩
   obtain⟨a,ha⟩:=hk p hp'
   exact⟨p,hp',by rw[ha];simp[Lit.sameKey,intOf]⟩
def xA {H:Type} (D0:DataW H) (left:Lit→Bool) (ss:List Int):Prop:=ss.Nodup∧∀x,x∈ss↔(has D0 (.int .u32 x)=true∧left (.int .u32 x)=false)
section
variable {H : Type} {D0 : DataW H} {left : Lit → Bool} {ss : List Int}
theorem xA.start (D0:DataW H):xA D0 (has D0) []:=⟨List.nodup_nil,fun x=>by cases has D0 (.int .u32 x)<;>simp⟩
theorem xA.step (h:xA D0 left ss) {x:Int} {y:DataW H} (hlk:left (.int .u32 x)=true) (hat: ∀zd,D0.atKey (.int .u32 x) zd=y):xA D0 (fun z=>left z&& !z.sameKey (.int .u32 x)) (ss++[x]):=by
 have hhas:has D0 (.int .u32 x)=true:=has_true_of_atKey hat
 have hnew:x∉ss:=fun hx=>by have:=((h.2 x).1 hx).2;rw[hlk]at this;cases this
 refine⟨List.nodup_append.2 ⟨h.1,by simp,fun a ha b hb=>by simp at hb;subst hb;exact fun e=>hnew (e▸ha)⟩,fun y=>?_⟩
 by_cases hy:y=x
 ·subst hy;simp[hhas,Lit.sameKey]
 simp[h.2 y,hy,Lit.sameKey]
variable {P : Program} {k : TypeId} {R : Value → Option (DataW H × List MemPlace)} {w : World} {b n : Nat}
theorem xA.perm (h:xA D0 left ss) (hown:w.ownsMap P k R b n D0) (K:Keyed P k) (hk:P.underlying k=some (.int .u32)) (hl: ∀kl,left kl=false):ss.Perm (intKeys D0):=by
 obtain⟨es,hD,hpw,_⟩:=hown.entries K
 obtain⟨es',hD',hko⟩:=hown.keysOf
 obtain rfl:es=es':=by rw[hD]at hD';simpa using hD'
 subst hD
 exact aRn hpw (fun p hp=>by obtain⟨v,hv⟩:=hko p hp;obtain⟨x,_,hx,_⟩:=xU hk hv;exact⟨x,hx⟩) h.1 (fun x=>by rw[h.2 x,hl];simp)
end
attribute [local go_sem] Oper.semAt_some
set_option maxRecDepth 100000 in
set_option maxHeartbeats 2000000 in
theorem bMe {H:Type} (F:Fence) (n:Nat) (h10:F.fn 56) (hro:F.round=none) (hn:1≤n) (l Bm ob b nn:Nat) (D0:DataW H) {R:Value→Option (DataW H×List MemPlace)} (J Jx:List Int→World→Prop)
  (hY: ∀pre x W,J pre W→pre.length<Maps.size D0→YieldAt F (n-1) Tryd.prog l #[wM x] W fun e W'=>
   (e=.returned (.bool true)∧J (pre++[x]) W'∧KeepsWalks W W')∨(e=.returned (.bool false)∧Jx (pre++[x]) W'))
  (W:World) (hJ:AbidesFrom W.heap.size J) (hm:W.cell? ⟨Bm,ob,none⟩=some (.map (some b))) (hown:W.ownsMap Tryd.prog 29 R b nn D0) (h0:J [] W):
  CallsIn F n Tryd.prog 56 #[.func (.yield l) #[] #[],.pointer (some ⟨Bm,ob,none⟩)] W fun e W'=>(∃v,e=.returned v)∧
   ((∃ss:List Int,ss.Perm (intKeys D0)∧J ss W')∨(∃pre:List Int,True∧Jx pre W')):=by
 refine callsIn_of_wp Tryd.func56 rfl h10 ?_ hro
 simp only[Tryd.ntmps56,List.size_toArray,List.length_cons,List.length_nil,Nat.reduceAdd,Nat.reduceSub,Array.replicate_succ,Array.replicate_zero,List.push_toArray,List.append_toArray,List.nil_append,List.cons_append]
 gi_wp2_with (first
  |(gi_at_range;refine wpListIn_range_own _ rfl _ 73 rfl 29 49 (int_keyed Tryd.underlying29) Tryd.underlying73 _ b nn _ rfl hown ?_;intro w0 hrg0 hg0 hs0)
  |gi_in)
 go_frame
 gi_loopw [3] (fun _ wr=> ∃(left:Lit→Bool) (cnt:Nat) (ss:List Int),wr.ranges Tryd.prog 29 R b W.heap.size nn D0 left cnt∧ss.length+cnt≤Maps.size D0∧xA D0 left ss∧J ss wr)
  (fun _ wr=>wr.rangeLeft b W.heap.size)
 case atStart=>
  exact⟨_,_,[],hrg0,by simp,xA.start D0,hJ [] W w0 none h0 hg0 (fun r e=>by cases e)⟩
 case round=>
  obtain⟨left,cnt,ss,hrg,hcs,hC,hJs⟩:=hrel
  gi_wp2_with (first
   |(gi_at_next;refine wpListIn_next_ranges _ rfl _ rfl 29 (int_keyed Tryd.underlying29) R wM id (fun key kl hk=>by obtain⟨x,hx,_⟩:=xU Tryd.underlying29 hk;exact⟨x,hx⟩) (fun v _ _=>⟨v,rfl⟩) b W.heap.size nn _ _ _ rfl hrg ?_ ?_)
   |gi_in)
  ·intro hc0 hl0
   gi_wp2
   go_end0
   exact⟨⟨_,rfl⟩,.inl ⟨ss,hC.perm hown (int_keyed Tryd.underlying29) Tryd.underlying29 hl0,hJs⟩⟩
  ·intro x c kl yd yp w2 cnt2 hkey hlk hv hat hrg2 hlt hg2 hs2 hen
   obtain⟨x',ex,rfl,_⟩:=xU Tryd.underlying29 hkey
   obtain rfl:x=x':=bNo ex
   have hJ2:J ss w2:=hJ ss wr w2 (some W.heap.size) hJs hg2 (fun r e=>by cases e;exact⟨Nat.le_refl _,hrg.iter_walk⟩)
   obtain⟨fn,tmps,assign,body,hy,hR⟩:=hY ss x w2 hJ2 (by omega)
   clear hs2
   gi_wp2
   refine hR.mono ?_
   have hC2:=hC.step hlk hat
   rintro e W3 (⟨rfl,hJ3,hk3⟩|⟨rfl,hJx3⟩)
   ·gi_wp2
    have hrg3:=hrg2.of_walks hk3
    go_roundw
    case rel=>exact⟨_,cnt2,ss++[x],hrg3,by simp;omega,hC2,hJ3⟩
    case measure=>rw[hrg3.left_eq,hrg.left_eq];exact hlt
   ·gi_wp2
    refine bodyPost_ret (results_none rfl _ _ _) rfl ?_
    exact⟨⟨_,rfl⟩,.inr ⟨ss++[x],trivial,hJx3⟩⟩
theorem aOc {H:Type} (F:Fence) (n:Nat) (h10:F.fn 56) (hro:F.round=none) (hn:1≤n) (Bm ob b nn:Nat) (D0:DataW H) {R:Value→Option (DataW H×List MemPlace)} (w:World) (hBm:Bm<w.heap.size)
  (hm:w.cell? ⟨Bm,ob,none⟩=some (.map (some b))) (hown:w.ownsMap Tryd.prog 29 R b nn D0):
  SeqStopsK F n Tryd.prog 56 #[.pointer (some ⟨Bm,ob,none⟩)] (fun x:Int=> #[wM x]) KeepsWalks (fun ss=>ss.Perm (intKeys D0)) (fun _=>True) (Maps.size D0) w:=fun l J Jx W hW hJ _ hY h0=>by
 have hown':W.ownsMap Tryd.prog 29 R b nn D0:=by
  have hbl:=hown.lt
  obtain⟨es,clock,hb,Ft,hs,hD⟩:=hown
  exact⟨es,clock,(hW.block b hbl).trans hb,Ft,hs,hD⟩
 exact bMe F n h10 hro hn l Bm ob b nn D0 J Jx hY W hJ ((hW.cell (p:=⟨Bm,ob,none⟩) hBm).trans hm) hown' h0
theorem cYm:(Tryd.prog.info? 29).map (fun i=>(i.zero,i.size,i.bytes))=some (some (.int .u32 0),1,4):=by kernel_rfl
theorem aIl {W:World} {base:Nat} {e:TypeId} {size:Nat} {v:Value} {k:Nat} {xs:List Value} (h:W.ownsRow base e size v k xs): ∀(j:Nat) (o:Obj),v.ownBlock=some j→W.heap[j]? =some o→o.isWalk=false:=by
 intro j o hj ho
 rcases h.2 with⟨rfl,_⟩|⟨g,cap,cur,rfl,_,hgb,_⟩
 ·simp[Value.ownBlock]at hj
 have:g=j:=by simpa [Value.ownBlock]using hj
 subst this;rw[hgb]at ho;cases ho;rfl
set_option maxRecDepth 100000 in
set_option maxHeartbeats 2000000 in
theorem cDz {H:Type} (F:Fence) (n:Nat) (h3:F.fn 68) (h5:F.fn 56) (hro:F.round=none) (hn:3≤n) (Bm ob b nn:Nat) (D0:DataW H) (R:Value→Option (DataW H×List MemPlace)) (hlen:Maps.size D0≤1000000) (w:World) (hBm:Bm<w.heap.size)
  (hm:w.cell? ⟨Bm,ob,none⟩=some (.map (some b))) (hown:w.ownsMap Tryd.prog 29 R b nn D0):
  CallsIn F n Tryd.prog 68 #[.slice none 0 0,.func (.func 56) #[] #[.pointer (some ⟨Bm,ob,none⟩)]] w fun e W'=> ∃(v:Value) (ss:List Int),e=.returned v∧ss.Perm (intKeys D0)∧W'.ownsRow w.heap.size 29 1 v ss.length (ss.map wM)∧(v=.slice none 0 0↔ss=[])∧Below w.heap.size w W':=by
 have h1:1≤n:=by omega
 obtain⟨i0,hi,hz0,hz1,hz2⟩:=info_parts cYm
 refine callsIn_of_wp_marks Tryd.func68 rfl h3 ?_ hro
 simp only[Tryd.ntmps68,List.size_toArray,List.length_cons,List.length_nil,Nat.reduceAdd,Nat.reduceSub,Array.replicate_succ,Array.replicate_zero,List.push_toArray,List.append_toArray,List.nil_append,List.cons_append]
 gi_wp2
 have bO:=Boxed.new w 89 (.slice none 0 0)
 have hB0:Below w.heap.size w (w.alloc (.cells #[.slice none 0 0] 89)):=(Below.refl _ w).alloc (Nat.le_refl _) _
 have hown0:(w.alloc (.cells #[.slice none 0 0] 89)).ownsMap Tryd.prog 29 R b nn D0:=by
  have hbl:=hown.lt
  obtain⟨es,clock,hb,Ft,hs,hD⟩:=hown
  exact⟨es,clock,(hB0.block b hbl).trans hb,Ft,hs,hD⟩
 refine wpIn_rangeFunc_ownG hro h1 (gf:=56) (lb:= #[.pointer (some ⟨Bm,ob,none⟩)]) rfl h5 (enters_of Tryd.func56 (by kernel_rfl) rfl)
  (aOc F (n-1) h5 hro (by omega) Bm ob b nn D0 _ (by simp;omega) ((hB0.cell (p:=⟨Bm,ob,none⟩) hBm).trans hm) hown0) walksK_t walksK_b (Below.refl _ _) (fun _=>rfl)
  (fun pre W=>(∃v,Boxed W w.heap.size 89 v∧W.ownsRow w.heap.size 29 1 v pre.length (pre.map wM)∧(v=.slice none 0 0↔pre=[]))∧Below w.heap.size w W)
  (fun _ _ _=>False)
  (OwnFrom.and (Own.from (holdsRow_own w.heap.size w.heap.size 89 29 1 (fun pre=>pre.length) (fun pre=>pre.map wM) (fun pre v=>v=.slice none 0 0↔pre=[])) _) (ownFrom_below (Nat.le_refl _) (by simp)))
  (fun _ _ _ _ _ hs _ _=>hs)
  ⟨⟨_,bO,World.ownsRow_nil _ _ _ _,by simp⟩,hB0⟩
  (fun x=> {tmps:= #[.slice none 0 0,.func (.func 56) #[] #[.pointer (some ⟨Bm,ob,none⟩)],.pointer (some ⟨w.heap.size,0,none⟩),undef,.slice none 0 0,.int .u32 x,.func (.func 56) #[] #[.pointer (some ⟨Bm,ob,none⟩)],.int .u32 x,undef,undef,undef,undef,undef],defers:=[]}) ?assign ?body ?done ?stop
 case assign=>
  intro l x W K hK
  gi_wp2
  exact hK
 case body=>
  rintro l pre x W ⟨⟨v,hv,hrow,hnil⟩,hB⟩ hlt
  have hc:=hv.cell
  gi_wp2_with (gi_at_builtin;refine wpListIn_append_own _ rfl _ _ 89 rfl w.heap.size 29 i0 (.int .u32 0) 1 4 Tryd.underlying89 hi hz0 hz1 hz2 rfl (by decide) _ _ _ rfl (hrow.alloc _) ⟨W.heap.size,0,none⟩ 1 1 [.int .u32 x] rfl rfl (cell_one_new _ _ _) (by simp[Value.oneCell']) (by simp[maxLen];omega) (by omega) (by have:=hB.size;simp;omega) ?_;intro v' w1 hown' hgrow _;obtain⟨g',cap',rfl⟩:=ownsRow_succ hown';obtain⟨hv1,hv2,hr2,hk2,hb2⟩:=hv.appended (by decide) hrow hB.size (Nat.le_refl _) hown' hgrow;have hc1:=hv1.cell;have hf1:=hv1.frozen)
  exact⟨hk2.from _,((KeepsWalks.alloc _ _).trans (KeepsWalks.of_grownBy hgrow (aIl (hrow.alloc _)))).trans (KeepsWalks.setCell _ _ _),⟨_,hv2,by simpa using hr2,by simp⟩,hB.trans hb2⟩
 case done=>
  rintro D ys W hD hp ⟨⟨v,hv,hrow,hnil⟩,hB⟩ hK
  have hc:=hv.cell
  gi_wp2
  refine⟨by simp,.inl ⟨_,_,rfl,run_takeDeferred hK,?_⟩⟩
  exact⟨_,results_tmp rfl _ _ _,v,ys,rfl,hp,ownsRow_putObj hrow _ hK rfl,hnil,hB.trans (belowK_b (w:=w) (Nat.le_refl _) W D _ _ (by simp at hD;omega) hK rfl rfl)⟩
 case stop=>
  rintro D c pre W _ _ h _
  exact h.elim
set_option maxHeartbeats 1000000 in
theorem aPg {H:Type} (F:Fence) (n:Nat) (h8:F.fn 54) (h3:F.fn 68) (h5:F.fn 56) (hro:F.round=none) (hn:4≤n) (Bm ob b nn:Nat) (D0:DataW H) (R:Value→Option (DataW H×List MemPlace)) (hlen:Maps.size D0≤1000000) (w:World) (hBm:Bm<w.heap.size)
  (hm:w.cell? ⟨Bm,ob,none⟩=some (.map (some b))) (hown:w.ownsMap Tryd.prog 29 R b nn D0):
  CallsIn F n Tryd.prog 54 #[.func (.func 56) #[] #[.pointer (some ⟨Bm,ob,none⟩)]] w fun e W'=> ∃(v:Value) (ss:List Int),e=.returned v∧ss.Perm (intKeys D0)∧W'.ownsRow w.heap.size 29 1 v ss.length (ss.map wM)∧(v=.slice none 0 0↔ss=[])∧Below w.heap.size w W':=by
 have h1:1≤n:=by omega
 refine callsIn_of_wp Tryd.func54 rfl h8 ?_ hro
 simp only[Tryd.ntmps54,List.size_toArray,List.length_cons,List.length_nil,Nat.reduceAdd,Nat.reduceSub,Array.replicate_succ,Array.replicate_zero,List.push_toArray,List.append_toArray,List.nil_append,List.cons_append]
 gi_wp2_with (gi_at_call 68;refine(cDz F (n-1) h3 h5 hro (by omega) Bm ob b nn D0 R hlen _ hBm hm hown).mono ?_;rintro e w' ⟨v,ss,rfl,hp,hrow,hnil,hb⟩)
 go_ret
 exact⟨v,ss,rfl,hp,hrow,hnil,hb⟩
end Go.AX

namespace Go.AX
open Go Go.Proofs
open Go.WideElems (Fit rd rg)
theorem aDy {l l':List T32} (h:l.Perm l'):iU l=iU l':=by
 refine List.Perm.eq_of_pairwise (le:=fun a b=>a.toNat≤b.toNat) (fun a b _ _ h1 h2=>BitVec.eq_of_toNat_eq (Nat.le_antisymm h1 h2)) (nY l) (nY l') (((kC l).trans h).trans (kC l').symm)
def aOd:List AV→H→Nat→Option (AV×H×Nat)
 |[.mp m],hp,nx=>some (.fn 56 [.op nx 0],upd hp nx (.cells [.mp m] true),nx+10)
 |_,_,_=>none
theorem bMf (m:Nat) (hp:H) (nx:Nat):aOd [.mp m] hp nx=some (.fn 56 [.op nx 0],upd hp nx (.cells [.mp m] true),nx+10):=(rfl)
attribute [go_sem] bMf
theorem bYk:cQ Tryd.prog GLh 36 aOd:=by
 refine gF Tryd.func36 (aT rfl) ?_
 intro args hp nx r hp' nx' hg
 unfold aOd at hg
 split at hg
 ·rename_i m
  simp only[Option.some.injEq,Prod.mk.injEq]at hg;obtain⟨rfl,rfl,rfl⟩:=hg
  refine⟨J1 rfl,by omega,fun hnone=>?_⟩
  refine aA rfl (aW [1] rfl rfl rfl fun K hK=>?_)
  simp(disch:=omega) only[Tryd.f36,go_sem,↓reduceIte]
  refine hK _ ?_
  refine aB (aA rfl (aW [2] rfl rfl rfl fun K hK=>?_))
  simp(disch:=omega) only[Tryd.f36,go_sem,↓reduceIte]
  refine hK _ ?_
  refine aB (aS rfl ?_)
  exact⟨rfl,fun j o h=>h,by simp only;omega⟩
 cases hg
theorem cWa:bX Tryd.prog GLh 36 (.heap aOd):=⟨⟨_,Tryd.func36,rfl,rfl⟩,bYk⟩
def zG:List (AV×AV)→Option (List T32)
 |[]=>some []
 |p::r=>match p.1 with
  | .w32 k=>aK (zG r) fun l=>some (k::l)
  |_=>none
theorem bYl (l:List (W32×KY)):zG (eDs l)=some (l.map (·.1)):=by
 induction l with
 |nil=>rfl
 |cons p r ih=>simp only[eDs,List.map_cons,zG]at ih⊢;rw[ih];rfl
theorem aGy: ∀ {es:List (AV×AV)} {ks:List T32},zG es=some ks→ks.length=es.length∧∀i (h:i<es.length),es[i].1=.w32 (ks.getD i 0#32)
 |[],ks,h=>by obtain rfl:=J0 h;exact⟨rfl,fun i h=>by simp at h⟩
 |p::r,ks,h=>by
  simp only[zG]at h
  split at h
  ·rename_i k e
   replace h:=aJ h;obtain⟨l,hl,h⟩:=h
   obtain rfl:=J0 h
   obtain⟨i1,i2⟩:=aGy hl
   refine⟨by simp[i1],fun i hi=>?_⟩
   cases i with
   |zero=>exact e
   |succ i=>simpa using i2 i (by simpa using hi)
  cases h
def sdO (nx:Nat) (hp:H):AO→Option (AV×H×Nat)
 | .mapo es _=>aK (zG es) fun ks=>aN (ks.length≤1000000) (some (.os nx 0 ks.length 1 true,upd hp nx (.cells (c32 (iU ks)) true),nx+1))
 |_=>none
def sdP (nx:Nat) (hp:H):AO→Option (AV×H×Nat)
 | .cells [.mp m] _=>aK (hp m) (sdO nx hp)
 |_=>none
def sdG:List AV→H→Nat→Option (AV×H×Nat)
 |[.fn 56 [.op b 0]],hp,nx=>aK (hp b) (sdP nx hp)
 |_,_,_=>none
theorem cHy (b:Nat) (hp:H) (nx:Nat):sdG [.fn 56 [.op b 0]] hp nx=aK (hp b) (sdP nx hp):=(rfl)
theorem cHx (m nx:Nat) (hp:H) (mt:Bool):sdP nx hp (.cells [.mp m] mt)=aK (hp m) (sdO nx hp):=(rfl)
theorem bHf (nx:Nat) (hp:H) (es:List (AV×AV)) (mt:Bool):sdO nx hp (.mapo es mt)=aK (zG es) fun ks=>aN (ks.length≤1000000) (some (.os nx 0 ks.length 1 true,upd hp nx (.cells (c32 (iU ks)) true),nx+1)):=(rfl)
attribute [go_sem] cHy cHx bHf bYl
def aGg:Value→Option (DataW Unit×List MemPlace):=fun _=>some (.lit (.bool true),[])
theorem aGz (x:Lit×DataW Unit): ∀l,(DataW.insert x l).Perm (x::l)
 |[]=>List.Perm.refl _
 |y::r=>by
  simp only[DataW.insert]
  split
  ·exact List.Perm.refl _
  exact((aGz x r).cons y).trans (List.Perm.swap x y r)
theorem sQ: ∀l:List (Lit×DataW Unit),(l.foldr DataW.insert []).Perm l
 |[]=>List.Perm.refl _
 |x::r=>(aGz x _).trans ((sQ r).cons x)
theorem bHg {σ:Nat→Loc} {I:Nat→Prop} {w:World} {n:W32} {v:Value} (h:Rel σ I w (.w32 n) v):v=.int .u32 (n.toNat:Int):=by cases h;rfl
theorem cGh (k:W32):(Lit.int .u32 (k.toNat:Int)).wf=true:=by
 have:=k.isLt
 simp[Lit.wf,IntKind.min,IntKind.max,IntKind.signed,IntKind.bits]
 omega
theorem aJc {σ:Nat→Loc} {I:Nat→Prop} {w:World} {es:List (AV×AV)} {blk:Nat} {ks:List T32} (h:yQ σ I w es blk) (hk:zG es=some ks) (hlen:ks.length≤1000000):
  ∃D:DataW Unit,w.ownsMap Tryd.prog 29 aGg blk ks.length D∧(intKeys D).Perm (ks.map fun k=>(k.toNat:Int))∧Maps.size D=ks.length:=by
 obtain⟨⟨ents,cl,h1,h2,h3,h4⟩⟩:=h
 obtain⟨k1,k2⟩:=aGy hk
 have hkey: ∀i (hi:i<ents.size),ents[i].key=.int .u32 ((ks.getD i 0#32).toNat:Int):=by
  intro i hi
  have:=(h4 i (by omega)).2.1
  rw[k2 i (by omega)]at this
  have e:ents.getD i default=ents[i]:=by rw[Array.getD_eq_getD_getElem?,Array.getElem?_eq_getElem hi];rfl
  rw[e]at this
  exact bHg this
 have hrd: ∀i (hi:i<ents.size),rd Tryd.prog 29 aGg ents[i]=some (.int .u32 ((ks.getD i 0#32).toNat:Int),.lit (.bool true)):=by
  intro i hi
  have hw:=cGh (ks.getD i 0#32)
  have hk:=hkey i hi
  generalize ks.getD i 0#32=k at hw hk⊢
  simp[rd,hk,keyOf,mapKey,Tryd.underlying29,hw,aGg]
 have hmap:ents.toList.map (rg Tryd.prog 29 aGg)=ks.map fun k=>(.int .u32 (k.toNat:Int),.lit (.bool true)):=by
  apply List.ext_getElem
  ·simp[h2,k1]
  ·intro i hi1 hi2
   simp at hi1 hi2
   simp only[List.getElem_map,Array.getElem_toList,rg,hrd i hi1,Option.getD_some]
   rw[List.getD_eq_getElem?_getD,List.getElem?_eq_getElem hi2];rfl
 refine⟨.map ((ents.toList.map (rg Tryd.prog 29 aGg)).foldr DataW.insert []),⟨ents,cl,h1,⟨by simp only[maxLen];omega,h3,fun x hx=>?_⟩,by omega,rfl⟩,?_,?_⟩
 ·obtain⟨i,hi,rfl⟩:=List.getElem_of_mem hx
  exact⟨_,hrd i (by simpa using hi)⟩
 ·rw[hmap]
  simp only[intKeys]
  refine((sQ _).map _).trans (List.Perm.of_eq ?_)
  rw[List.map_map]
  rfl
 ·rw[hmap,Maps.size_eq,(sQ _).length_eq,List.length_map]
attribute [local go_sem] Oper.semAt_some
set_option maxRecDepth 100000 in
set_option maxHeartbeats 2000000 in
theorem aQx {H:Type} (F:Fence) (n:Nat) (h6:F.fn 35) (h8:F.fn 54) (h9:F.fn 55) (h3:F.fn 68) (h5:F.fn 56) (hro:F.round=none) (hn:5≤n) (Bm ob b nn:Nat) (D0:DataW H) (R:Value→Option (DataW H×List MemPlace)) (hlen:Maps.size D0≤1000000) (w:World) (hBm:Bm<w.heap.size)
  (hm:w.cell? ⟨Bm,ob,none⟩=some (.map (some b))) (hown:w.ownsMap Tryd.prog 29 R b nn D0) (Post:Value→World→Prop)
  (hsort: ∀(v:Value) (ss:List Int) (w1:World),ss.Perm (intKeys D0)→w1.ownsRow w.heap.size 29 1 v ss.length (ss.map wM)→(v=.slice none 0 0↔ss=[])→RowKit.Below w.heap.size w w1→CallsIn F (n-1) Tryd.prog 55 #[v] w1 fun e w2=>e=.returned (.tuple #[])∧Post v w2):
  CallsIn F n Tryd.prog 35 #[.func (.func 56) #[] #[.pointer (some ⟨Bm,ob,none⟩)]] w fun e w'=> ∃v,e=.returned v∧Post v w':=by
 have h1:1≤n:=by omega
 refine callsIn_of_wp Tryd.func35 rfl h6 ?_ hro
 simp only[Tryd.ntmps35,List.size_toArray,List.length_cons,List.length_nil,Nat.reduceAdd,Nat.reduceSub,Array.replicate_succ,Array.replicate_zero,List.push_toArray,List.append_toArray,List.nil_append,List.cons_append]
 gi_wp2_with (gi_at_call 54;refine(aPg F (n-1) h8 h3 h5 hro (by omega) Bm ob b nn D0 R hlen _ hBm hm hown).mono ?_;rintro e w1 ⟨v,ss,rfl,hp,hrow,hnil,hb⟩)
 gi_wp2_with (gi_at_call 55;refine(hsort v ss w1 hp hrow hnil hb).mono ?_;rintro e w2 ⟨rfl,hpost⟩)
 go_ret
 exact⟨v,rfl,hpost⟩
theorem aDx {H:Type} (Bm ob b nn:Nat) (D0:DataW H) (R:Value→Option (DataW H×List MemPlace)) (hlen:Maps.size D0≤1000000) (w:World) (hBm:Bm<w.heap.size)
  (hm:w.cell? ⟨Bm,ob,none⟩=some (.map (some b))) (hown:w.ownsMap Tryd.prog 29 R b nn D0) (Post:Value→World→Prop)
  (hsort: ∀(v:Value) (ss:List Int) (w1:World),ss.Perm (intKeys D0)→w1.ownsRow w.heap.size 29 1 v ss.length (ss.map wM)→(v=.slice none 0 0↔ss=[])→RowKit.Below w.heap.size w w1→Calls Tryd.prog 55 #[v] w1 fun e w2=>e=.returned (.tuple #[])∧Post v w2):
  Calls Tryd.prog 35 #[.func (.func 56) #[] #[.pointer (some ⟨Bm,ob,none⟩)]] w fun e w'=> ∃v,e=.returned v∧Post v w':=
 callsIn_wide.1 (aQx Fence.wide 6 trivial trivial trivial trivial trivial rfl (by omega) Bm ob b nn D0 R hlen w hBm hm hown Post (fun v ss w1 a b c d=>callsIn_wide.2 (hsort v ss w1 a b c d)))
set_option maxHeartbeats 1000000 in
theorem cUc:cQ Tryd.prog GLh 35 sdG:=by
 intro c σ I w hp nx args vals r hp' nx' hGL hi hs hr hg
 unfold sdG at hg
 split at hg
 ·rename_i b
  replace hg:=aJ hg;obtain⟨o,ho,hg⟩:=hg
  unfold sdP at hg
  split at hg
  ·rename_i m mt
   replace hg:=aJ hg;obtain⟨o2,ho2,hg⟩:=hg
   cases o2 with
   |cells xs mt2=>cases hg
   |mapo es mt2=>
   rw[bHf]at hg
   replace hg:=aJ hg;obtain⟨ks,hks,hg⟩:=hg
   replace hg:=aP hg;obtain⟨hlen,hg⟩:=hg
   simp only[Option.some.injEq,Prod.mk.injEq]at hg;obtain⟨rfl,rfl,rfl⟩:=hg
   refine⟨by omega,?_⟩
   have hr0:=hr 0 (by simp)
   simp only[List.getElem_cons_zero]at hr0
   generalize hv0:vals.getD 0 undef=v0 at hr0
   cases hr0 with
   |fn f xs vs hvs hrel=>
   have hrp:=hrel 0 (by simp)
   simp only[List.getElem_cons_zero]at hrp
   obtain⟨blk,base,sz,hl,hp0⟩:=dZc hrp
   have hvs1:vs= #[.pointer (some ⟨blk,base+0,none⟩)]:=by
    apply Array.ext
    ·rw[hvs];rfl
    intro i h1 h2
    obtain rfl:i=0:=by simp at h2;omega
    have:vs.getD 0 undef=vs[0]:=by simp[Array.getD,h1]
    rw[←this];simpa using hp0
   have hvals:vals= #[.func (.func 56) #[] #[.pointer (some ⟨blk,base+0,none⟩)]]:=by
    apply Array.ext
    ·rw[hs];rfl
    intro i h1 h2
    obtain rfl:i=0:=by simp at h2;omega
    have:vals.getD 0 undef=vals[0]:=by simp[Array.getD,h1]
    rw[←this,hv0,hvs1];rfl
   have hob:=hi.own b _ ho
   have hrow:=fH hob hl
   obtain⟨v1,hc1,_,hr1⟩:=hrow.get 0 (by simp)
   simp only[List.getElem_cons_zero]at hr1
   obtain⟨mb,e1,hmr,_⟩:=hi.own m _ ho2
   obtain rfl:=aWp hr1 e1
   have hlt:blk<w.heap.size:=hob.lt hl
   obtain⟨D,d1,d2,d3⟩:=aJc hmr hks hlen
   rw[hvals]
   refine(aDx blk (base+0) mb ks.length D aGg (by omega) w hlt hc1 d1 (fun v w2=> ∃σ' I',Inv c σ' I' w2 (upd hp nx (.cells (c32 (iU ks)) true)) (fun id=>nx+1≤id)∧Rel σ' I' w2 (.os nx 0 ks.length 1 true) v∧iO σ I w σ' I' w2∧(∀id,id<nx→σ id=.unset→σ' id=.unset)) ?_).mono ?_
   ·intro v ss w' hperm hrow2 hnil hb
    have hp2:=hperm.trans d2
    have hsl:ss.length=ks.length:=by rw[hp2.length_eq,List.length_map]
    have hinr: ∀x∈ss,(((BitVec.ofInt 32 x).toNat:Nat):Int)=x:=by
     intro x hx
     obtain⟨k,_,rfl⟩:=List.mem_map.1 (hp2.mem_iff.1 hx)
     have:=k.isLt
     rw[BitVec.toNat_ofInt]
     omega
    obtain⟨l,hl2⟩: ∃l,l=ss.map (BitVec.ofInt 32):=⟨_,rfl⟩
    have hss:ss=l.map fun k=>(k.toNat:Int):=by
     rw[hl2,List.map_map]
     exact(List.map_id' ss).symm.trans (List.map_congr_left fun x hx=>(hinr x hx).symm)
    have hlp:l.Perm ks:=by
     rw[hl2]
     refine(hp2.map _).trans (List.Perm.of_eq ?_)
     rw[List.map_map]
     refine(List.map_congr_left fun k _=>?_).trans (List.map_id' ks)
     apply BitVec.eq_of_toNat_eq
     have:=k.isLt
     simp only[Function.comp,BitVec.toNat_ofInt]
     omega
    have hll:l.length=ks.length:=hlp.length_eq
    rw[hss,List.length_map,List.map_map,hll]at hrow2
    have hext:=hi.extend hb.os hb.tape hb.output hb.size (fun k hk=>hb.block k hk) I (fun _ h=>h) (fun k hk=> .inl hk)
    have hun: ∀id,(nx+1≤id∨(id=nx∨(id<nx∧σ id=.unset)))→σ id=.unset:=by
     intro id h
     rcases h with h|h|h
     ·exact hi.un id (by omega)
     ·exact hi.un id (by omega)
     exact h.2
    have hext2:Inv c σ I w' hp (fun k=>nx+1≤k∨(k=nx∨(k<nx∧σ k=.unset))):= {hext with un:=hun}
    obtain⟨v2,σ2,I2,a1,a2,a3,a4⟩:=aCy (I:=I) (Iw:=I) (w:=w) (cx:=nx+1) (un:=fun k=>k=nx∨(k<nx∧σ k=.unset)) (id:=nx) (nn:=ks.length) (ee:=1) (xs:=c32 l) (v:=v) (I1:=I) hext2 (.inl rfl) hi.size (fun k hk=>hi.ilt k hk)
     (fun k o blk base sz h1 h2=>(hi.own k o h1).lt h2) ⟨fun _ _=>rfl,fun _ h=>h,fun k hk=>hb.block k (hi.ilt k hk)⟩ (by
      rcases hrow2.2 with⟨rfl,h0⟩|⟨g,cap,cur,rfl,hbg,hgb,hcap,hmax,hsz,htake⟩
      ·left
       refine⟨.inl rfl,h0,?_⟩
       rw[h0]at hll
       rw[List.eq_nil_of_length_eq_zero hll];rfl
      right
      refine⟨g,0,cap,cap,rfl,hcap,by omega,hbg,fun hI5=>absurd (hi.ilt g hI5) (by omega),⟨cur,29,0,0,hgb,by omega,by rw[iY];omega,⟨U3 _,fun _ _=>by omega⟩,fun i hi5=>?_⟩,fun i hi5=>?_⟩
      ·have hil:i<l.length:=by rw[iY]at hi5;exact hi5
       have e5:(c32 l)[i]'hi5=.w32 l[i]:=by simp[c32]
       rw[e5]
       have h6:(cur.toList.take (ks.length*1))[i]? =some (.int .u32 (l[i].toNat:Int)):=by rw[htake];simp[hil]
       rw[List.getElem?_take_of_lt (by omega)]at h6
       have e6:cur.getD (0+i) undef=.int .u32 (l[i].toNat:Int):=by
        rw[Nat.zero_add,Array.getD_eq_getD_getElem?,←Array.getElem?_toList,h6];rfl
       rw[e6];exact .w32 _
      have hil:i<l.length:=by rw[iY]at hi5;exact hi5
      have e5:(c32 l)[i]'hi5=.w32 l[i]:=by simp[c32]
      rw[e5];rfl) (fun k h=>by omega)
    cases a1
    have hca:c32 l=cA l.toArray:=by simp[cA,c32]
    have hmut:dP bGg [.os nx 0 ks.length 1 true] (upd hp nx (.cells (c32 l) true)) (nx+1)=some (.tup [],upd hp nx (.cells (c32 (iU ks)) true),nx+1):=by
     rw[aWn,bJ,J4 rfl,aX,bKi,cU _ rfl,aUw,hca,bFk,aX,cU _ ⟨by simpa using hll,hlen⟩,aX]
     have e7:iU l=iU ks:=aDy hlp
     have e8:cA (iU ks).toArray=c32 (iU ks):=by simp[cA,c32]
     simp only[Option.some.injEq,Prod.mk.injEq,true_and,and_true]
     rw[e7,e8]
     funext k
     simp only[bJ]
     split<;>rfl
    obtain⟨_,hcall⟩:=bGf c σ2 I2 w' (upd hp nx (.cells (c32 l) true)) (nx+1) [.os nx 0 ks.length 1 true] #[v] _ _ _ hGL (a2.mono_un (fun k hk=> .inl hk)) rfl (fun i hi6=>by
     obtain rfl:i=0:=by simp at hi6;omega
     exact a3) hmut
    refine hcall.mono ?_
    rintro e w2 ⟨v3,σ3,I3,rfl,b2,b3,b4,b5⟩
    have hv3:v3=.tuple #[]:=by
     cases b3 with
     |tup xs vs h1 h2=>
      have:vs= #[]:=Array.eq_empty_of_size_eq_zero h1
      rw[this]
    rw[hv3]
    exact⟨rfl,σ3,I3,b2,a3.grow b4,a4.trans b4,fun id hid hun2=>b5 id (by omega) (a2.un id (.inr ⟨.inr ⟨hid,hun2⟩,by omega⟩))⟩
   rintro e w2 ⟨v,rfl,σ',I',b2,b3,b4,b5⟩
   exact⟨v,σ',I',rfl,b2,b3,b4,b5⟩
  cases hg
 cases hg
theorem cWb:bX Tryd.prog GLh 35 (.heap sdG):=⟨⟨_,Tryd.func35,rfl,rfl⟩,cUc⟩
end Go.AX

namespace Go.AX
open Go Go.Proofs
set_option maxRecDepth 8000
def ky0:KY:=⟨0#32,0,0,⟨0#8,0#8,0#8,0#8,0#8,0#8,0#8,0#8⟩,0,0#32,0#32,0#32⟩
def jQ:List KY→List AV
 |[]=>[]
 |k::r=>kyC k++jQ r
theorem iJ (l:List KY):(jQ l).length=15*l.length:=by
 induction l with
 |nil=>rfl
 |cons k r ih=>rw[jQ,List.length_append,ih,List.length_cons];show 15+_=_;omega
theorem lD (l m:List KY):jQ (l++m)=jQ l++jQ m:=by
 induction l with
 |nil=>rfl
 |cons k r ih=>rw[List.cons_append,jQ,ih,jQ,List.append_assoc]
theorem sL (k:KY):jQ [k]=kyC k:=by rw[jQ,jQ,List.append_nil]
def idsL (C:RC):List W32:=iU (C.by'.map (·.1))
def iP (C:RC):List KY:=(idsL C).map fun id=>(iK id C.by').getD ky0
theorem aOh (C:RC):(idsL C).length=C.by'.length:=by rw[idsL,aFo,List.length_map]
theorem qL (C:RC):(iP C).length=C.by'.length:=by rw[iP,List.length_map,aOh]
theorem wH {β:Type} (id:W32): ∀l:List (W32×β),id∈l.map (·.1)→∃v,iK id l=some v
 |[],h=>by cases h
 |p::r,h=>by
  simp only[iK]
  by_cases e:id=p.1
  ·exact⟨p.2,by rw[J4 e]⟩
  rw[J3 e]
  rw[List.map_cons,List.mem_cons]at h
  exact wH id r (h.resolve_left e)
theorem bMv (C:RC) (k:Nat) (hk:k<(idsL C).length):iK ((idsL C).getD k 0#32) C.by'=some ((iP C).getD k ky0):=by
 have hm:(idsL C).getD k 0#32∈C.by'.map (·.1):=by
  rw[List.getD_eq_getElem?_getD,List.getElem?_eq_getElem hk]
  exact(kC _).mem_iff.1 (List.getElem_mem hk)
 obtain⟨v,hv⟩:=wH _ _ hm
 rw[hv]
 have e:(iP C).getD k ky0=((iK ((idsL C).getD k 0#32) C.by').getD ky0):=by
  simp[iP,List.getD_eq_getElem?_getD,List.getElem?_eq_getElem hk]
 rw[e,hv];rfl
theorem bEy (C:RC) (k:Nat) (hk:k<(iP C).length):(iP C).take (k+1)=(iP C).take k++[(iP C).getD k ky0]:=by
 rw[List.take_add_one,List.getElem?_eq_getElem hk,List.getD_eq_getElem?_getD,List.getElem?_eq_getElem hk];rfl
noncomputable def rU:List AV→H→Nat→Option (AV×H×Nat)
 |[.op d 0],hp,nx=>aK (iN hp d) fun t=>aN (t.C.by'.length≤1000) (some (.sl t.C.by'.length (jQ (iP t.C)),hp,nx+200+100*t.C.by'.length))
 |_,_,_=>none
theorem cEe (d:Nat) (hp:H) (nx:Nat):rU [.op d 0] hp nx=aK (iN hp d) fun t=>aN (t.C.by'.length≤1000) (some (.sl t.C.by'.length (jQ (iP t.C)),hp,nx+200+100*t.C.by'.length)):=(rfl)
attribute [go_sem] cEe
set_option maxHeartbeats 1000000 in
theorem cRu:cQ Tryd.prog GLh 15 rU:=by
 refine gF Tryd.func15 (aT rfl) ?_
 intro args hp nx r hp' nx' hg
 unfold rU at hg
 split at hg
 ·rename_i d
  replace hg:=aJ hg;obtain⟨⟨s,m,C⟩,hD0,hg⟩:=hg
  have hD:=iV hD0
  replace hg:=aP hg;obtain⟨hlen,hg⟩:=hg
  simp only[Option.some.injEq,Prod.mk.injEq]at hg hD hlen;obtain⟨rfl,rfl,rfl⟩:=hg
  refine⟨J1 rfl,by omega,fun hnone=>?_⟩
  have h1:=hD.hd;have h2:=hD.hs;have h3:=hD.hm
  obtain⟨n1,n2,n3,n4,n5,n6⟩:=hD.ne
  have hlt: ∀k o,hp k=some o→k<nx:=fun k o hk=>lI hnone hk
  have hd:=hlt _ _ h1
  have hs:=hlt _ _ h2
  have hm:=hlt _ _ h3
  have hil:=aOh C
  have hal:=qL C
  have hid:iU (C.by'.map (·.1))=idsL C:=rfl
  obtain⟨N,hN⟩: ∃N,C.by'.length=N:=⟨_,rfl⟩
  rw[hN]at hlen hil hal⊢
  refine aA rfl (aW [0] rfl rfl rfl fun K hK=>?_)
  simp(disch:=omega) only[Tryd.f15,go_sem,↓reduceIte]
  refine hK _ ?_
  refine aB (aA rfl (aW [0,3] rfl rfl rfl fun K hK=>?_))
  simp(disch:=omega) only[Tryd.f15,go_sem,↓reduceIte]
  refine hK _ ?_
  refine aB (aA rfl (aA rfl (aC (Γ:=bC [(36,.heap aOd),(35,.heap sdG)]) [0,3,11,12,13] (aH cWa (aH cWb aO)) rfl rfl rfl (fun K hK=>?_))))
  simp(disch:=omega) only[Tryd.f15,go_sem,↓reduceIte,h1,h2,jA,hid,hN,List.length_map,J8,J7,J9]
  refine hK _ ?_
  refine aB (iE 3 15 rfl (fF [0,3,11,12,13] ?_))
  simp only[iB,fU,eB,↓reduceIte,Nat.reduceEqDiff]
  refine aR 0 rfl rfl ?_
  refine bR (fun p:KIC=> {fr:=[(0,.op d 0),(3,.os p.id 0 p.k 15 true),(11,.os (nx+1+1+8+10) 0 N 1 true),(12,.i N),(13,.i p.k)],hp:=upd (upd (upd hp (nx+1+1+8) (.cells [.mp s] true)) (nx+1+1+8+10) (.cells (c32 (idsL C)) true)) p.id (.cells (jQ ((iP C).take p.k)) true),nx:=0,cx:=p.c}) (fun p=>p.k≤N∧nx+20<p.id∧p.id<p.c∧p.c≤nx+60+60*p.k) (fun p=>N-p.k) rfl ⟨⟨0,_,_⟩,⟨Nat.zero_le _,by simp only;omega,by simp only;omega,by simp only;omega⟩,bD rfl rfl (U3 _)⟩ ?_
  rintro⟨k,id,c⟩ ⟨hk,hid1,hid2,hcc⟩ n0
  simp only at hk hid1 hid2 hcc⊢
  refine aA rfl (aW [14,0,3,11,12,13] rfl rfl rfl fun K hK=>?_)
  simp(disch:=omega) only[Tryd.f15,go_sem,↓reduceIte]
  refine hK _ ?_
  refine aB (aA rfl (gP (.tmp 14) rfl rfl rfl (fun h=>?_) (fun h=>?_)))
  ·refine aI rfl ?_
   have hkN:k<N:=by omega
   have hgk:=bMv C k (by omega)
   have hta:=bEy C k (by omega)
   have htl:((iP C).take k).length=k:=by rw[List.length_take];omega
   refine aQ rfl (aB (aA rfl (aR 1 rfl rfl (aA rfl (aW [0,3,5,11,12,13] rfl rfl rfl fun K hK=>?_)))))
   simp(disch:=omega) only[Tryd.f15,go_sem,↓reduceIte]
   refine hK _ ?_
   refine aB ?_
   have hkt:=iJ ((iP C).take k)
   rw[htl]at hkt
   have htA:jQ ((iP C).take (k+1))=jQ ((iP C).take k)++kyC ((iP C).getD k ky0):=by rw[hta,lD,sL]
   generalize (iP C).getD k ky0=X at hgk htA
   refine aW [0,3,11,12,13] rfl rfl rfl fun K hK=>?_
   simp(disch:=omega) only[Tryd.f15,go_sem,↓reduceIte,h1,h2,hgk,jA,lV,cK,List.nil_append,List.cons_append,J8,U0,U1,J7,J9,List.length_cons,List.length_nil,hkt]
   refine hK _ ?_
   refine bU (aB (aW [0,3,11,12,13] rfl rfl rfl fun K hK=>?_))
   simp(disch:=omega) only[Tryd.f15,go_sem,↓reduceIte]
   refine hK _ ?_
   refine bT ?_
   refine⟨⟨k+1,c+1+3+8,_⟩,⟨by simp only;omega,by simp only;omega,by simp only;omega,by simp only;omega⟩,by simp only;omega,⟨fun _=> .inr ?_,fun j o h=>?_,U3 _⟩⟩
   ·simp only[Int.natCast_add,Int.natCast_one]
   simp only at h
   refine bS ?_ (bS ?_ (bS ?_ (fun j o h=>?_))) j o h
   ·simp(disch:=omega) only[aV,↓reduceIte,eq_self,htA]<;>rfl
   ·simp(disch:=omega) only[aV,kE,bY,↓reduceIte,eq_self]
   ·simp(disch:=omega) only[aV,kE,bY,↓reduceIte,eq_self]
   have:=hlt j o h
   simp(disch:=omega) only[aV,kE,bY,↓reduceIte]
   exact h
  refine aI rfl (bF 0 rfl rfl (aY (aZ (bE (aB (aA rfl ?_))))))
  obtain rfl:k=N:=by omega
  rw[List.take_of_length_le (by omega)]
  have hkl:=iJ (iP C)
  refine pS 3 id 0 k 15 rfl (by rw[bJ,J4 rfl]) (by omega) ?_
  rw[J9,List.take_of_length_le (by omega)]
  refine aW [2] rfl rfl rfl fun K hK=>?_
  simp(disch:=omega) only[Tryd.f15,go_sem,↓reduceIte]
  refine hK _ ?_
  refine aB (aS rfl ?_)
  refine⟨rfl,fun j o h=>?_,by simp only;omega⟩
  have:=hlt j o h
  simp(disch:=omega) only[aV,bY,↓reduceIte]
  exact h
 cases hg
theorem pA:bX Tryd.prog GLh 15 (.heap rU):=⟨⟨_,Tryd.func15,rfl,rfl⟩,cRu⟩
end Go.AX

namespace Go.AX
open Go Go.Proofs
set_option maxRecDepth 8000
def tnC (C:RC) (id:W32) (k:KY) (st:Int) (now:W32):RC:= {C with by':=kT id {k with st:=st,since:=now} C.by'}
def goC (C:RC) (id:W32):RC:= {C with by':=eEt id C.by',tr:=eEt id C.tr}
def tnV (C:RC) (id:W32) (st:Int) (now:W32):Int×RC:=match iK id C.by' with
 |none=>(130,C)
 |some k=>if st≤k.st∨4<st then(131,C)else if st=4 then(0,goC C id)else(0,tnC C id k st now)
theorem aUp {C:RC} {id:W32} {st:Int} {now:W32} (h:iK id C.by'=none):tnV C id st now=(130,C):=by rw[tnV,h]
theorem aUo {C:RC} {id:W32} {st:Int} {now:W32} {k:KY} (h:iK id C.by'=some k):tnV C id st now=if st≤k.st∨4<st then(131,C)else if st=4 then(0,goC C id)else(0,tnC C id k st now):=by rw[tnV,h]
theorem ROk.upd {C:RC} (h:ROk C) {id:W32} {k k':KY} (hk:iK id C.by'=some k) (e1:k'.id=k.id) (e2:k'.h=k.h) (e3:k'.next=k.next) (e4:k'.seed=k.seed):ROk {C with by':=kT id k' C.by'}:=by
 obtain⟨b1,b2,b3,b4⟩:=h.key _ _ hk
 refine⟨fun i k2 hk2=>?_,fun i t ht=>?_,tF _ _ _ h.nb,h.nt⟩
 ·simp only[jK]at hk2
  split at hk2
  ·rename_i e
   obtain rfl:=J0 hk2
   subst e
   exact⟨e1.trans b1,by rw[e2];exact b2,by rw[e2,e3];exact b3,b4⟩
  exact h.key _ _ hk2
 obtain⟨k2,a1,a2⟩:=h.tree _ _ ht
 by_cases e:i=id
 ·subst e
  obtain rfl:=J0 (hk.symm.trans a1)
  exact⟨k',by simp only[jK,if_true],by rw[e2,e4];exact a2⟩
 exact⟨k2,by simp only[jK];rw[J3 e];exact a1,a2⟩
theorem ROk.goC {C:RC} (h:ROk C) (id:W32):ROk (goC C id):=by
 refine⟨fun i k2 hk2=>?_,fun i t ht=>?_,yA _ _ h.nb,yA _ _ h.nt⟩
 ·simp only[AX.goC]at hk2
  rw[sP _ _ _ h.nb]at hk2
  split at hk2
  ·cases hk2
  exact h.key _ _ hk2
 simp only[AX.goC]at ht⊢
 rw[sP _ _ _ h.nt]at ht
 split at ht
 ·cases ht
 rename_i e
 obtain⟨k2,a1,a2⟩:=h.tree _ _ ht
 exact⟨k2,by rw[sP _ _ _ h.nb,J3 e];exact a1,a2⟩
theorem ROk.tnV {C:RC} (h:ROk C) (id:W32) (st:Int) (now:W32):ROk (tnV C id st now).2:=by
 rcases hk:iK id C.by' with _|k
 ·rw[aUp hk];exact h
 rw[aUo hk]
 split
 ·exact h
 split
 ·exact h.goC id
 exact h.upd hk rfl rfl rfl rfl
noncomputable def vD:List AV→H→Nat→Option (AV×H×Nat)
 |[.op d 0,.w32 id,.i st,.w32 now],hp,nx=>aK (iN hp d) fun t=>some (.i (tnV t.C id st now).1,setR d t.s t.m (tnV t.C id st now).2 hp,nx+90)
 |_,_,_=>none
theorem aQs (d:Nat) (id now:W32) (st:Int) (hp:H) (nx:Nat):vD [.op d 0,.w32 id,.i st,.w32 now] hp nx=aK (iN hp d) fun t=>some (.i (tnV t.C id st now).1,setR d t.s t.m (tnV t.C id st now).2 hp,nx+90):=(rfl)
attribute [go_sem] aQs
set_option maxHeartbeats 1000000 in
theorem aYl:cQ Tryd.prog GLh 16 vD:=by
 refine gF Tryd.func16 (aT rfl) ?_
 intro args hp nx r hp' nx' hg
 unfold vD at hg
 split at hg
 ·rename_i d id st now
  replace hg:=aJ hg;obtain⟨⟨s,m,C⟩,hD0,hg⟩:=hg
  have hD:=iV hD0
  simp only[Option.some.injEq,Prod.mk.injEq]at hg hD;obtain⟨rfl,rfl,rfl⟩:=hg
  refine⟨J1 rfl,by omega,fun hnone=>?_⟩
  have h1:=hD.hd;have h2:=hD.hs;have h3:=hD.hm
  obtain⟨n1,n2,n3,n4,n5,n6⟩:=hD.ne
  have hlt: ∀k o,hp k=some o→k<nx:=fun k o hk=>lI hnone hk
  have hd:=hlt _ _ h1
  have hs:=hlt _ _ h2
  have hm:=hlt _ _ h3
  refine aA rfl (aW [0,1,2,3] rfl rfl rfl fun K hK=>?_)
  simp(disch:=omega) only[Tryd.f16,go_sem,↓reduceIte]
  refine hK _ ?_
  refine aB ?_
  rcases hk:iK id C.by' with _|k
  ·rw[aUp hk]
   refine aA rfl (aW [0,1,2,3,9,10] rfl rfl rfl fun K hK=>?_)
   simp(disch:=omega) only[Tryd.f16,go_sem,↓reduceIte,h1,h2,hk,jA,J8,J7,J9]
   refine hK _ ?_
   refine aB (aA rfl (aR 0 rfl rfl (aA rfl (aW [20,0,1,2,3,9] rfl rfl rfl fun K hK=>?_))))
   simp(disch:=omega) only[Tryd.f16,go_sem,↓reduceIte]
   refine hK _ ?_
   refine aB (eC (.tmp 20) rfl rfl rfl (fun h=>?_) (fun h=>?_))
   ·refine aI rfl (aA rfl (aW [8] rfl rfl rfl fun K hK=>?_))
    simp(disch:=omega) only[Tryd.f16,go_sem,↓reduceIte]
    refine hK _ ?_
    refine aB (aS rfl (bN (bI ?_)))
    rw[iQ hD]
    exact⟨rfl,fun j o h=>jB hnone (by omega) j o h,by simp only;omega⟩
   refine aI rfl ?_
   cases h
  have ek:=aUo (st:=st) (now:=now) hk
  refine aA rfl (aW [0,1,2,3,9,10] rfl rfl rfl fun K hK=>?_)
  simp(disch:=omega) only[Tryd.f16,go_sem,↓reduceIte,h1,h2,hk,jA,lV,J8,J7,J9]
  refine hK _ ?_
  refine aB (aA rfl (aR 0 rfl rfl (aA rfl (aW [20,0,1,2,3,9] rfl rfl rfl fun K hK=>?_))))
  simp(disch:=omega) only[Tryd.f16,go_sem,↓reduceIte]
  refine hK _ ?_
  refine aB (eC (.tmp 20) rfl rfl rfl (fun h=>?_) (fun h=>?_))
  ·refine aI rfl ?_
   cases h
  refine aI rfl ?_
  clear h
  by_cases hb:st≤k.st
  ·have db:decide (st≤k.st)=true:=J5 hb
   rw[J4 (.inl hb)]at ek
   rw[ek]
   refine aA rfl (aW [23,0,1,2,3,9] rfl rfl rfl fun K hK=>?_)
   simp(disch:=omega) only[Tryd.f16,go_sem,↓reduceIte,db,J8,J7,J9]
   refine hK _ ?_
   refine aB (eC (.tmp 23) rfl rfl rfl (fun h=>?_) (fun h=>?_))
   ·refine aI rfl (aA rfl (aW [8] rfl rfl rfl fun K hK=>?_))
    simp(disch:=omega) only[Tryd.f16,go_sem,↓reduceIte]
    refine hK _ ?_
    refine aB (aS rfl (bN (bI ?_)))
    rw[iQ hD]
    exact⟨rfl,fun j o h=>jB hnone (by omega) j o h,by simp only;omega⟩
   refine aI rfl ?_
   cases h
  have db:decide (st≤k.st)=false:=J6 hb
  refine aA rfl (aW [23,0,1,2,3,9] rfl rfl rfl fun K hK=>?_)
  simp(disch:=omega) only[Tryd.f16,go_sem,↓reduceIte,db,J8,J7,J9]
  refine hK _ ?_
  refine aB (gP (.tmp 23) rfl rfl rfl (fun h=>?_) (fun h=>?_))
  ·refine aI rfl ?_
   rw[J4 (.inr h)]at ek
   rw[ek]
   refine aA rfl (aW [8] rfl rfl rfl fun K hK=>?_)
   simp(disch:=omega) only[Tryd.f16,go_sem,↓reduceIte]
   refine hK _ ?_
   refine aB (aS rfl (bN (bI ?_)))
   rw[iQ hD]
   exact⟨rfl,fun j o h=>jB hnone (by omega) j o h,by simp only;omega⟩
  refine aI rfl ?_
  rw[J3 (fun e=>e.elim hb h)]at ek
  clear h
  refine aA rfl (aW [32,0,1,2,3,9] rfl rfl rfl fun K hK=>?_)
  simp(disch:=omega) only[Tryd.f16,go_sem,↓reduceIte]
  refine hK _ ?_
  refine aB (gP (.tmp 32) rfl rfl rfl (fun h=>?_) (fun h=>?_))
  ·refine aI rfl ?_
   rw[J4 h]at ek
   rw[ek]
   refine aA rfl (aW [0,1] rfl rfl rfl fun K hK=>?_)
   simp(disch:=omega) only[Tryd.f16,go_sem,↓reduceIte,h1,h2,jA,J8,J7,J9]
   refine hK _ ?_
   refine aB (aA rfl (aW [] rfl rfl rfl fun K hK=>?_))
   simp(disch:=omega) only[Tryd.f16,go_sem,↓reduceIte,h1,h3,jA,J8,J7,J9]
   refine hK _ ?_
   refine aB (aA rfl (aW [8] rfl rfl rfl fun K hK=>?_))
   simp(disch:=omega) only[Tryd.f16,go_sem,↓reduceIte]
   refine hK _ ?_
   refine aB (aS rfl (bN (bI ?_)))
   refine⟨rfl,fun j o hj=>oK (C:=goC C id) ?_ ?_ ?_ ?_ j o hj,by simp only;omega⟩
   ·simp(disch:=omega) only[aV,bY,↓reduceIte]<;>first|exact h1|rfl
   ·simp(disch:=omega) only[aV,bY,↓reduceIte,eq_self]<;>first|exact h2|rfl
   ·simp(disch:=omega) only[aV,↓reduceIte,eq_self]<;>first|exact h3|rfl
   intro k o k1 k2 k3 hk
   have:=hlt k o hk
   simp(disch:=omega) only[aV,bY,↓reduceIte]
   exact hk
  refine aI rfl ?_
  rw[J3 h]at ek
  rw[ek]
  refine aQ rfl (bU (aB (aA rfl (aW [0,1,9] rfl rfl rfl fun K hK=>?_))))
  simp(disch:=omega) only[Tryd.f16,go_sem,↓reduceIte,List.set_cons_succ,List.set_cons_zero]
  refine hK _ ?_
  refine aB (aA rfl (bB (Γ:=aL) (fun _=>2) [] bZ (aD _ _) rfl rfl rfl (by kernel_rfl) (fun K hK=>?_)))
  simp(disch:=omega) only[Tryd.f16,go_sem,↓reduceIte,h1,h2,jA,J8,U0,U1,J7,J9]
  refine hK _ ?_
  refine aB (aA rfl (aW [8] rfl rfl rfl fun K hK=>?_))
  simp(disch:=omega) only[Tryd.f16,go_sem,↓reduceIte]
  refine hK _ ?_
  refine aB (aS rfl ?_)
  refine⟨rfl,fun j o hj=>oK (C:=tnC C id k st now) ?_ ?_ ?_ ?_ j o hj,by simp only;omega⟩
  ·simp(disch:=omega) only[aV,bY,↓reduceIte]<;>first|exact h1|rfl
  ·simp(disch:=omega) only[aV,↓reduceIte,eq_self]<;>first|exact h2|rfl
  ·simp(disch:=omega) only[aV,bY,↓reduceIte]<;>first|exact h3|rfl
  intro k o k1 k2 k3 hk
  have:=hlt k o hk
  simp(disch:=omega) only[aV,bY,↓reduceIte]
  exact hk
 cases hg
theorem cWd:bX Tryd.prog GLh 16 (.heap vD):=⟨⟨_,Tryd.func16,rfl,rfl⟩,aYl⟩
def kyR:Option KY→AV
 |none=> .tup [uV ky0,.b false]
 |some k=> .tup [uV k,.b true]
noncomputable def uT:List AV→H→Nat→Option (AV×H×Nat)
 |[.op d 0,.w32 id],hp,nx=>aK (iN hp d) fun t=>some (kyR (iK id t.C.by'),hp,nx+60)
 |_,_,_=>none
theorem bAz (d:Nat) (id:W32) (hp:H) (nx:Nat):uT [.op d 0,.w32 id] hp nx=aK (iN hp d) fun t=>some (kyR (iK id t.C.by'),hp,nx+60):=(rfl)
theorem cYc:kyR none=.tup [uV ky0,.b false]:=rfl
theorem aXa (k:KY):kyR (some k)=.tup [uV k,.b true]:=rfl
attribute [go_sem] bAz
set_option maxHeartbeats 1000000 in
theorem bMh:cQ Tryd.prog GLh 17 uT:=by
 refine gF Tryd.func17 (aT rfl) ?_
 intro args hp nx r hp' nx' hg
 unfold uT at hg
 split at hg
 ·rename_i d id
  replace hg:=aJ hg;obtain⟨⟨s,m,C⟩,hD0,hg⟩:=hg
  have hD:=iV hD0
  simp only[Option.some.injEq,Prod.mk.injEq]at hg hD;obtain⟨rfl,rfl,rfl⟩:=hg
  refine⟨J1 rfl,by omega,fun hnone=>?_⟩
  have h1:=hD.hd;have h2:=hD.hs;have h3:=hD.hm
  obtain⟨n1,n2,n3,n4,n5,n6⟩:=hD.ne
  have hlt: ∀k o,hp k=some o→k<nx:=fun k o hk=>lI hnone hk
  have hd:=hlt _ _ h1
  have hs:=hlt _ _ h2
  have hm:=hlt _ _ h3
  refine aA rfl (aW [0,1,4] rfl rfl rfl fun K hK=>?_)
  simp(disch:=omega) only[Tryd.f17,go_sem,↓reduceIte]
  refine hK _ ?_
  refine aB ?_
  rcases hk:iK id C.by' with _|k
  ·refine aA rfl (aW [4,6,7] rfl rfl rfl fun K hK=>?_)
   simp(disch:=omega) only[Tryd.f17,go_sem,↓reduceIte,h1,h2,hk,jA,J8,J7,J9]
   refine hK _ ?_
   refine aB (aA rfl (aW [4,5] rfl rfl rfl fun K hK=>?_))
   simp(disch:=omega) only[Tryd.f17,go_sem,↓reduceIte,U0,U1,J9]
   refine hK _ ?_
   refine aB (aS rfl ?_)
   refine⟨by simp(disch:=omega) only[bV,bK,bQ,Tryd.f17,go_sem,aV,ldV,lV,U0,U1,J9,cYc]<;>rfl,fun j o h=>?_,by simp only;omega⟩
   have:=hlt j o h
   simp(disch:=omega) only[aV,bY,↓reduceIte]
   exact h
  refine aA rfl (aW [4,6,7] rfl rfl rfl fun K hK=>?_)
  simp(disch:=omega) only[Tryd.f17,go_sem,↓reduceIte,h1,h2,hk,jA,lV,J8,J7,J9]
  refine hK _ ?_
  refine aB (aA rfl (aW [4,5] rfl rfl rfl fun K hK=>?_))
  simp(disch:=omega) only[Tryd.f17,go_sem,↓reduceIte,U0,U1,J9]
  refine hK _ ?_
  refine aB (aS rfl ?_)
  refine⟨by simp(disch:=omega) only[bV,bK,bQ,Tryd.f17,go_sem,aV,ldV,lV,U0,U1,J9,aXa]<;>rfl,fun j o h=>?_,by simp only;omega⟩
  have:=hlt j o h
  simp(disch:=omega) only[aV,bY,↓reduceIte]
  exact h
 cases hg
theorem bJg:bX Tryd.prog GLh 17 (.heap uT):=⟨⟨_,Tryd.func17,rfl,rfl⟩,bMh⟩
end Go.AX

namespace Go.AX
open Go Go.Proofs
set_option maxRecDepth 8000
theorem aCq: ∀ {a b:List KY},jQ a=jQ b→a=b
 |[],[],_=>rfl
 |[],y::s,h=>by have:=congrArg List.length h;rw[iJ,iJ]at this;simp at this
 |x::r,[],h=>by have:=congrArg List.length h;rw[iJ,iJ]at this;simp at this
 |x::r,y::s,h=>by
  rw[jQ,jQ]at h
  obtain⟨h1,h2⟩:=List.append_inj h rfl
  rw[aJn h1,aCq h2]
structure MC where
 c:CF
 q:Nat
 L:List KY
 last:W32
def mgC (l:Nat) (M:MC):List AV:=[.sl M.c.apx.length (cS M.c.apx),.w32 M.c.kt,.w32 M.c.pr,.w32 M.c.dt,.w32 M.c.dp,.w32 M.c.va,.w32 M.c.le,.w32 M.c.ga,.w32 M.c.mx,.sl M.c.salt.length (c8 M.c.salt),.w16 M.c.iter,.i M.c.h,.w16 M.c.size,.op M.q 0,.os l 0 M.L.length 15 true,.w32 M.last]
theorem jR (l:Nat) (M:MC):mgC l M=[.sl M.c.apx.length (cS M.c.apx),.w32 M.c.kt,.w32 M.c.pr,.w32 M.c.dt,.w32 M.c.dp,.w32 M.c.va,.w32 M.c.le,.w32 M.c.ga,.w32 M.c.mx,.sl M.c.salt.length (c8 M.c.salt),.w16 M.c.iter,.i M.c.h,.w16 M.c.size,.op M.q 0,.os l 0 M.L.length 15 true,.w32 M.last]:=rfl
theorem bXj {l l':Nat} {M M':MC} (h:mgC l M=mgC l' M'):l=l'∧M.c=M'.c∧M.q=M'.q∧M.last=M'.last:=by
 have e:mgC l M=cfC M.c++[.op M.q 0,.os l 0 M.L.length 15 true,.w32 M.last]:=rfl
 have e':mgC l' M'=cfC M'.c++[.op M'.q 0,.os l' 0 M'.L.length 15 true,.w32 M'.last]:=rfl
 rw[e,e']at h
 obtain⟨h1,h2⟩:=List.append_inj h rfl
 simp only[List.cons.injEq,AV.op.injEq,AV.os.injEq,AV.w32.injEq,and_true,true_and]at h2
 exact⟨h2.2.1.1,aKb h1,h2.1,h2.2.2⟩
structure aFj (hp:H) (d l:Nat) (M:MC):Prop where
 hd:hp d=some (.cells (mgC l M) true)
 hl:hp l=some (.cells (jQ M.L) true)
 ne:d≠l∧l≠d
def setM (d l:Nat) (M:MC) (hp:H):H:=upd (upd hp l (.cells (jQ M.L) true)) d (.cells (mgC l M) true)
theorem aFj.uniq {hp:H} {d l l':Nat} {M M':MC} (h:aFj hp d l M) (h':aFj hp d l' M'):l=l'∧M=M':=by
 have e:=h.hd.symm.trans h'.hd
 obtain⟨rfl,ec,eq,el⟩:=bXj (AO.cells.inj (J0 e)).1
 have eb:=aCq (AO.cells.inj (J0 (h.hl.symm.trans h'.hl))).1
 obtain⟨c1,q1,b1,l1⟩:=M
 obtain⟨c2,q2,b2,l2⟩:=M'
 simp only at ec eq el eb
 subst ec;subst eq;subst el;subst eb
 exact⟨rfl,rfl⟩
structure MT where
 l:Nat
 M:MC
open Classical in
noncomputable def kH (hp:H) (d:Nat):Option MT:=if h: ∃t:MT,aFj hp d t.l t.M then some (Classical.choose h)else none
theorem xR {hp:H} {d l:Nat} {M:MC} (h:aFj hp d l M):kH hp d=some ⟨l,M⟩:=by
 have hx: ∃t:MT,aFj hp d t.l t.M:=⟨⟨l,M⟩,h⟩
 unfold kH
 rw[dif_pos hx]
 have h2:=Classical.choose_spec hx
 obtain⟨e1,e2⟩:=h2.uniq h
 congr 1
 generalize Classical.choose hx=t at e1 e2
 cases t;simp only at e1 e2;rw[e1,e2]
theorem kW {hp:H} {d:Nat} {t:MT} (h:kH hp d=some t):aFj hp d t.l t.M:=by
 unfold kH at h
 split at h
 ·rename_i hx
  obtain rfl:=J0 h
  exact Classical.choose_spec hx
 cases h
theorem aBh {hp:H} {d l:Nat} {M:MC} (h1:d≠l):aFj (setM d l M hp) d l M:=
 ⟨by simp[setM,bJ],by simp[setM,bJ,Ne.symm h1],⟨h1,Ne.symm h1⟩⟩
theorem qA (hp:H) (d l:Nat) (M:MC) (k:Nat) (h1:k≠d) (h2:k≠l):setM d l M hp k=hp k:=by simp[setM,bJ,h1,h2]
theorem oE {hp:H} {d l:Nat} {M:MC} (h:aFj hp d l M):setM d l M hp=hp:=by
 funext k
 simp only[setM,bJ]
 by_cases h1:k=d
 ·subst h1;rw[J4 rfl,h.hd]
 rw[J3 h1]
 by_cases h2:k=l
 ·subst h2;rw[J4 rfl,h.hl]
 rw[J3 h2]
theorem vL {hp t:H} {d l:Nat} {M:MC} (h1:t d=some (.cells (mgC l M) true)) (h2:t l=some (.cells (jQ M.L) true))
  (h: ∀k o,k≠d→k≠l→hp k=some o→t k=some o) (k:Nat) (o:AO) (hk:setM d l M hp k=some o):t k=some o:=by
 simp only[setM,bJ]at hk
 by_cases e1:k=d
 ·subst e1;rw[J4 rfl]at hk;rw[h1];exact hk
 ·rw[J3 e1]at hk
  by_cases e2:k=l
  ·subst e2;rw[J4 rfl]at hk;rw[h2];exact hk
  ·rw[J3 e2]at hk;exact h k o e1 e2 hk
attribute [go_sem] qA
def kyA (L:List KY) (k:Nat):KY:=L.getD k ky0
theorem wE: ∀(L:List KY) (k j:Nat),k<L.length→List.drop (15*k+j) (jQ L)=List.drop j (kyC (kyA L k)++jQ (L.drop (k+1)))
 |[],k,j,h=>by simp at h
 |x::r,0,j,_=>by simp[jQ,kyA]
 |x::r,k+1,j,h=>by
  have e:15*(k+1)+j=15+(15*k+j):=by omega
  have h15:(kyC x).length=15:=rfl
  rw[jQ,e,←List.drop_drop,List.drop_left' h15,wE r k j (by simpa using h)]
  simp[kyA]
theorem jW (L:List KY) (k j:Nat) (hk:k<L.length) (hj:j<15):(List.drop (15*k+j) (jQ L)).head? =(List.drop j (kyC (kyA L k))).head?:=by
 rw[wE L k j hk,List.drop_append_of_le_length (by show j≤15;omega)]
 have:(List.drop j (kyC (kyA L k)))≠[]:=by
  intro e
  have:=congrArg List.length e
  rw[List.length_drop]at this
  have h15:(kyC (kyA L k)).length=15:=rfl
  rw[h15]at this
  simp at this;omega
 rw[List.head?_append]
 cases hx:List.drop j (kyC (kyA L k))with
 |nil=>exact absurd hx this
 |cons a r=>rfl
def fdN (id:W32):List KY→Nat→Int
 |[],_=> -1
 |k::r,n=>if k.id=id then n else fdN id r (n+1)
def kB (L:List KY) (id:W32):Int:=fdN id L 0
theorem bNi (id:W32) (L:List KY) (k:Nat) (hk:k<L.length):fdN id (L.drop k) k=if(kyA L k).id=id then(k:Int)else fdN id (L.drop (k+1)) (k+1):=by
 rw[List.drop_eq_getElem_cons hk]
 have e:kyA L k=L[k]:=by simp[kyA,List.getD_eq_getElem?_getD,hk]
 rw[e,fdN]
noncomputable def zJ:List AV→H→Nat→Option (AV×H×Nat)
 |[.op d 0,.w32 id],hp,nx=>aK (kH hp d) fun t=>aN (t.M.L.length≤1000) (some (.i (kB t.M.L id),hp,nx+50+60*t.M.L.length))
 |_,_,_=>none
theorem bNh (d:Nat) (id:W32) (hp:H) (nx:Nat):zJ [.op d 0,.w32 id] hp nx=aK (kH hp d) fun t=>aN (t.M.L.length≤1000) (some (.i (kB t.M.L id),hp,nx+50+60*t.M.L.length)):=(rfl)
attribute [go_sem] bNh
set_option maxHeartbeats 1000000 in
theorem cAd:cQ Tryd.prog GLh 37 zJ:=by
 refine gF Tryd.func37 (aT rfl) ?_
 intro args hp nx r hp' nx' hg
 unfold zJ at hg
 split at hg
 ·rename_i d id
  replace hg:=aJ hg;obtain⟨⟨l,M⟩,hD0,hg⟩:=hg
  have hD:=kW hD0
  replace hg:=aP hg;obtain⟨hlen,hg⟩:=hg
  simp only[Option.some.injEq,Prod.mk.injEq]at hg hD hlen;obtain⟨rfl,rfl,rfl⟩:=hg
  refine⟨J1 rfl,by omega,fun hnone=>?_⟩
  have h1:=hD.hd;have h2:=hD.hl
  obtain⟨n1,n2⟩:=hD.ne
  have hd:=lI hnone h1
  have hl:=lI hnone h2
  have hkl:=iJ M.L
  refine aA rfl (aW [0,1] rfl rfl rfl fun K hK=>?_)
  simp(disch:=omega) only[Tryd.f37,go_sem,↓reduceIte]
  refine hK _ ?_
  refine aB (aA rfl (aA rfl (aW [0,1,5] rfl rfl rfl fun K hK=>?_)))
  simp(disch:=omega) only[Tryd.f37,go_sem,↓reduceIte]
  refine hK _ ?_
  refine aB (aR 0 rfl rfl ?_)
  refine bR (fun g:Nat=> {fr:=[(0,.op d 0),(1,.w32 id),(5,.i g)],hp:=hp,nx:=0,cx:=nx+40+50*g}) (fun g=>g≤M.L.length∧kB M.L id=fdN id (M.L.drop g) g) (fun g=>M.L.length-g) rfl ⟨0,⟨Nat.zero_le _,rfl⟩,⟨fun _=> .inr rfl,fun j o h=>h,by simp only;omega⟩⟩ ?_
  rintro g ⟨hg1,hg2⟩ n0
  simp only at hg1 hg2⊢
  refine aA rfl (aA rfl (aW [12,0,1,5] rfl rfl rfl fun K hK=>?_))
  simp(disch:=omega) only[Tryd.f37,go_sem,↓reduceIte,h1,jR,J8,J7,J9]
  refine hK _ ?_
  refine aB (gP (.tmp 12) rfl rfl rfl (fun h=>?_) (fun h=>?_))
  ·refine aI rfl ?_
   have hgl:g<M.L.length:=by omega
   have hst:=bNi id M.L g hgl
   have hka:=jW M.L g 0 hgl (by omega)
   rw[Nat.add_zero]at hka
   have e15:g*15=15*g:=by omega
   refine aQ rfl (aB (aA rfl (aR 1 rfl rfl (aA rfl (aW [24,0,1,5] rfl rfl rfl fun K hK=>?_)))))
   simp(disch:=omega) only[Tryd.f37,go_sem,↓reduceIte,h1,h2,jR,hka,e15,kyC,J8,J7,J9]
   refine hK _ ?_
   refine aB (gP (.tmp 24) rfl rfl rfl (fun h=>?_) (fun h=>?_))
   ·refine aI rfl ?_
    rw[J4 h]at hst
    refine aA rfl (aW [4] rfl rfl rfl fun K hK=>?_)
    simp(disch:=omega) only[Tryd.f37,go_sem,↓reduceIte]
    refine hK _ ?_
    refine aB (aS rfl (bN (bI (dF (bN (bI ?_))))))
    exact⟨by rw[hg2,hst];rfl,fun j o h=>h,by simp only;omega⟩
   refine aI rfl ?_
   rw[J3 h]at hst
   refine aQ rfl (bU (aB (aW [0,1,5] rfl rfl rfl fun K hK=>?_)))
   simp(disch:=omega) only[Tryd.f37,go_sem,↓reduceIte]
   refine hK _ ?_
   refine bT ?_
   exact⟨g+1,⟨by omega,by rw[hg2,hst]⟩,by omega,⟨fun _=> .inr (by simp only[Int.natCast_add,Int.natCast_one]),fun j o h=>h,by simp only;omega⟩⟩
  refine aI rfl (bF 0 rfl rfl (aY (aZ (bE (aB (aA rfl ?_))))))
  obtain rfl:g=M.L.length:=by omega
  rw[List.drop_length]at hg2
  refine aW [4] rfl rfl rfl fun K hK=>?_
  simp(disch:=omega) only[Tryd.f37,go_sem,↓reduceIte]
  refine hK _ ?_
  refine aB (aS rfl ?_)
  exact⟨by rw[hg2];rfl,fun j o h=>h,by simp only;omega⟩
 cases hg
theorem aWa:bX Tryd.prog GLh 37 (.heap zJ):=⟨⟨_,Tryd.func37,rfl,rfl⟩,cAd⟩
def aEj (M:MC) (k:KY):MC:= {M with last:=M.last+1#32,L:=M.L++[k]}
def wA (M:MC) (role:Int) (seed:S8) (st:Int) (now:W32):KY:=⟨M.last+1#32,role,st,seed,M.c.h,0#32,now,0#32⟩
def nK (M:MC) (role:Int) (seed:S8) (st:Int) (now:W32):W32×Int×Option MC:=
 if(role≠0∧role≠1)∨st<0∨3<st then(0#32,131,none)
 else if 16≤M.L.length then(0#32,133,none)
 else(M.last+1#32,0,some (aEj M (wA M role seed st now)))
noncomputable def bAl (d l:Nat) (_:MC) (hp:H) (nx:Nat):Option MC→H
 |none=>hp
 |some M'=>setM d (nx+51) M' (del hp l)
noncomputable def sG:List AV→H→Nat→Option (AV×H×Nat)
 |[.op d 0,.i role,.agg xs,.i st,.w32 now],hp,nx=>aK (kH hp d) fun t=>aK (un8 xs) fun l=>aK (s8L l) fun sd=>
   some (.tup [.w32 (nK t.M role sd st now).1,.i (nK t.M role sd st now).2.1],bAl d t.l t.M hp nx (nK t.M role sd st now).2.2,nx+100)
 |_,_,_=>none
theorem bAm (d:Nat) (role st:Int) (now:W32) (xs:List AV) (hp:H) (nx:Nat):sG [.op d 0,.i role,.agg xs,.i st,.w32 now] hp nx=aK (kH hp d) fun t=>aK (un8 xs) fun l=>aK (s8L l) fun sd=>
   some (.tup [.w32 (nK t.M role sd st now).1,.i (nK t.M role sd st now).2.1],bAl d t.l t.M hp nx (nK t.M role sd st now).2.2,nx+100):=(rfl)
attribute [go_sem] bAm
theorem bKr {Q:Exit→S→Prop} {fr0:AV} {role st:Int} {now:W32} {x7:AV} {hp:H} {nx cx:Nat} (hQ:Q .normal {fr:=[(25,.b (decide ((role≠0∧role≠1)∨st<0∨3<st))),(0,fr0),(1,.i role),(3,.i st),(4,.w32 now),(7,x7)],hp:=hp,nx:=cx,cx:=cx+14}):
  Awp Tryd.prog GLh Tryd.f19.ntmps (cl (cl (cr (aE Tryd.f19)))) {fr:=[(0,fr0),(1,.i role),(3,.i st),(4,.w32 now),(7,x7)],hp:=hp,nx:=nx,cx:=cx} Q:=by
 by_cases h0:role=0
 ·have d0:decide (role=0)=true:=J5 h0
  by_cases h2:st<0
  ·have d2:decide (st<0)=true:=J5 h2
   rw[J5 (by omega)]at hQ
   refine aW [25,0,1,3,4,7] rfl rfl rfl fun K hK=>?_
   simp(disch:=omega) only[Tryd.f19,go_sem,↓reduceIte,d0,d2,Bool.not_true,beq_self_eq_true]
   refine hK _ ?_
   exact hQ
  ·have d2:decide (st<0)=false:=J6 h2
   by_cases h3:3<st
   ·have d3:decide (3<st)=true:=J5 h3
    rw[J5 (by omega)]at hQ
    refine aW [25,0,1,3,4,7] rfl rfl rfl fun K hK=>?_
    simp(disch:=omega) only[Tryd.f19,go_sem,↓reduceIte,d0,d2,d3,Bool.not_true,beq_self_eq_true]
    refine hK _ ?_
    exact hQ
   ·have d3:decide (3<st)=false:=J6 h3
    rw[J6 (by omega)]at hQ
    refine aW [25,0,1,3,4,7] rfl rfl rfl fun K hK=>?_
    simp(disch:=omega) only[Tryd.f19,go_sem,↓reduceIte,d0,d2,d3,Bool.not_true,beq_self_eq_true]
    refine hK _ ?_
    exact hQ
 ·have d0:decide (role=0)=false:=J6 h0
  by_cases h1:role=1
  ·have d1:decide (role=1)=true:=J5 h1
   by_cases h2:st<0
   ·have d2:decide (st<0)=true:=J5 h2
    rw[J5 (by omega)]at hQ
    refine aW [25,0,1,3,4,7] rfl rfl rfl fun K hK=>?_
    simp(disch:=omega) only[Tryd.f19,go_sem,↓reduceIte,d0,d1,d2,Bool.not_true,Bool.not_false,beq_self_eq_true]
    refine hK _ ?_
    exact hQ
   ·have d2:decide (st<0)=false:=J6 h2
    by_cases h3:3<st
    ·have d3:decide (3<st)=true:=J5 h3
     rw[J5 (by omega)]at hQ
     refine aW [25,0,1,3,4,7] rfl rfl rfl fun K hK=>?_
     simp(disch:=omega) only[Tryd.f19,go_sem,↓reduceIte,d0,d1,d2,d3,Bool.not_true,Bool.not_false,beq_self_eq_true]
     refine hK _ ?_
     exact hQ
    ·have d3:decide (3<st)=false:=J6 h3
     rw[J6 (by omega)]at hQ
     refine aW [25,0,1,3,4,7] rfl rfl rfl fun K hK=>?_
     simp(disch:=omega) only[Tryd.f19,go_sem,↓reduceIte,d0,d1,d2,d3,Bool.not_true,Bool.not_false,beq_self_eq_true]
     refine hK _ ?_
     exact hQ
  ·have d1:decide (role=1)=false:=J6 h1
   rw[J5 (by omega)]at hQ
   refine aW [25,0,1,3,4,7] rfl rfl rfl fun K hK=>?_
   simp(disch:=omega) only[Tryd.f19,go_sem,↓reduceIte,d0,d1,Bool.not_false,beq_self_eq_true]
   refine hK _ ?_
   exact hQ
set_option maxHeartbeats 1000000 in
theorem bKs:cQ Tryd.prog GLh 19 sG:=by
 refine gF Tryd.func19 (aT rfl) ?_
 intro args hp nx r hp' nx' hg
 unfold sG at hg
 split at hg
 ·rename_i d role xs st now
  replace hg:=aJ hg;obtain⟨⟨l,M⟩,hD0,hg⟩:=hg
  have hD:=kW hD0
  replace hg:=aJ hg;obtain⟨l8,hl8,hg⟩:=hg
  have:=iX _ hl8;subst this
  replace hg:=aJ hg;obtain⟨S,hS8,hg⟩:=hg
  have:=vN hS8;subst this
  have e0:c8 S.l=[.w8 S.a,.w8 S.b,.w8 S.c,.w8 S.d,.w8 S.e,.w8 S.f,.w8 S.g,.w8 S.h]:=rfl
  rw[e0]
  simp only[Option.some.injEq,Prod.mk.injEq]at hg hD;obtain⟨rfl,rfl,rfl⟩:=hg
  refine⟨J1 rfl,by omega,fun hnone=>?_⟩
  have h1:=hD.hd;have h2:=hD.hl
  obtain⟨n1,n2⟩:=hD.ne
  have hlt: ∀k o,hp k=some o→k<nx:=fun k o hk=>lI hnone hk
  have hd:=hlt _ _ h1
  have hl:=hlt _ _ h2
  have hkl:=iJ M.L
  refine aA rfl (aW [0,1,3,4,7] rfl rfl rfl fun K hK=>?_)
  simp(disch:=omega) only[Tryd.f19,go_sem,↓reduceIte]
  refine hK _ ?_
  refine aB (aA rfl (aA rfl (bKr (aB (gP (.tmp 25) rfl rfl rfl (fun h=>?_) (fun h=>?_))))))
  ·have e:nK M role S st now=(0#32,131,none):=J4 h
   rw[e]
   refine aA rfl (aW [10,11] rfl rfl rfl fun K hK=>?_)
   simp(disch:=omega) only[Tryd.f19,go_sem,↓reduceIte]
   refine hK _ ?_
   refine aB (aS rfl (bI ?_))
   exact⟨rfl,fun j o h=>jB hnone (by omega) j o h,by simp only;omega⟩
  have hbad:=h
  clear h
  refine aQ rfl (aB (aA rfl (aA rfl (aW [31,0,1,3,4,7] rfl rfl rfl fun K hK=>?_))))
  simp(disch:=omega) only[Tryd.f19,go_sem,↓reduceIte,h1,jR,J8,J7,J9]
  refine hK _ ?_
  refine aB (gP (.tmp 31) rfl rfl rfl (fun h=>?_) (fun h=>?_))
  ·refine aI rfl ?_
   have e:nK M role S st now=(0#32,133,none):=by unfold nK;rw[J3 hbad,J4 (by omega)]
   rw[e]
   refine aA rfl (aW [10,11] rfl rfl rfl fun K hK=>?_)
   simp(disch:=omega) only[Tryd.f19,go_sem,↓reduceIte]
   refine hK _ ?_
   refine aB (aS rfl (bI ?_))
   exact⟨rfl,fun j o h=>jB hnone (by omega) j o h,by simp only;omega⟩
  refine aI rfl ?_
  have e:nK M role S st now=(M.last+1#32,0,some (aEj M (wA M role S st now))):=by unfold nK;rw[J3 hbad,J3 (by omega)]
  rw[e]
  refine aQ rfl (aB (aA rfl (aW [0,1,3,4,7] rfl rfl rfl fun K hK=>?_)))
  simp(disch:=omega) only[Tryd.f19,go_sem,↓reduceIte,h1,jR,J8,List.set_cons_succ,List.set_cons_zero,J7,J9]
  refine hK _ ?_
  refine aB (aA rfl (bB (Γ:=aL) (fun k=>if k=20 then 1048578 else 2) [0] bZ (aD _ _) rfl rfl rfl (by kernel_rfl) (fun K hK=>?_)))
  simp(disch:=omega) only[Tryd.f19,go_sem,↓reduceIte,h2,hkl,cK,List.nil_append,List.cons_append,J8,List.set_cons_succ,List.set_cons_zero,U0,U1,J7,J9,List.all_cons,List.all_nil,Option.isSome_some,Bool.and_self,List.length_cons,List.length_nil]
  refine hK _ ?_
  refine aB (aA rfl (aW [10,11] rfl rfl rfl fun K hK=>?_))
  simp(disch:=omega) only[Tryd.f19,go_sem,↓reduceIte,J8,J7,J9]
  refine hK _ ?_
  refine aB (aS rfl ?_)
  refine⟨rfl,fun j o hj=>vL (M:=aEj M (wA M role S st now)) (l:=nx+51) ?_ ?_ ?_ j o hj,by simp only;omega⟩
  ·have e2:(aEj M (wA M role S st now)).L.length=M.L.length+1:=by simp[aEj]
   rw[jR,e2]
   simp only[Nat.add_assoc,Nat.reduceAdd]
   simp(disch:=omega) only[aV,↓reduceIte,eq_self]<;>rfl
  ·have e2:jQ (aEj M (wA M role S st now)).L=jQ M.L++kyC (wA M role S st now):=by
    show jQ (M.L++[_])=_
    rw[lD,sL]
   rw[e2]
   simp only[Nat.add_assoc,Nat.reduceAdd]
   simp(disch:=omega) only[aV,bY,↓reduceIte,eq_self]<;>rfl
  intro k o k1 k2 hk
  have hkl2:k≠l∧hp k=some o:=by
   rw[eV]at hk
   split at hk
   ·cases hk
   rename_i e3;exact⟨e3,hk⟩
  obtain⟨k3,hk3⟩:=hkl2
  have:=hlt k o hk3
  simp only[Nat.add_assoc,Nat.reduceAdd]
  simp(disch:=omega) only[aV,kE,bY,↓reduceIte]
  exact hk3
 cases hg
theorem aWb:bX Tryd.prog GLh 19 (.heap sG):=⟨⟨_,Tryd.func19,rfl,rfl⟩,bKs⟩
end Go.AX

namespace Go.AX
open Go Go.Proofs
set_option maxRecDepth 8000
theorem bXm (a b:W32):aGr (.w32 a) (.w32 b)=some (.w32 (if a<b then b else a)):=(rfl)
attribute [go_sem] bXm
def mx1 (x:W32):W32:=if x<1#32 then 1#32 else x
def snC (C:RC) (id:W32) (k:KY) (now:W32):RC:= {C with by':=kT id {k with seen:=mx1 now} C.by'}
def snV (C:RC) (id now:W32):Int×RC:=match iK id C.by' with
 |none=>(130,C)
 |some k=>if k.role≠1∨k.st≠2∨k.seen≠0#32 then(131,C)else(0,snC C id k now)
theorem bGn {C:RC} {id now:W32} (h:iK id C.by'=none):snV C id now=(130,C):=by rw[snV,h]
theorem aMa {C:RC} {id now:W32} {k:KY} (h:iK id C.by'=some k):snV C id now=if k.role≠1∨k.st≠2∨k.seen≠0#32 then(131,C)else(0,snC C id k now):=by rw[snV,h]
theorem ROk.snV {C:RC} (h:ROk C) (id now:W32):ROk (snV C id now).2:=by
 rcases hk:iK id C.by' with _|k
 ·rw[bGn hk];exact h
 rw[aMa hk]
 split
 ·exact h
 exact h.upd hk rfl rfl rfl rfl
noncomputable def aBj:List AV→H→Nat→Option (AV×H×Nat)
 |[.op d 0,.w32 id,.w32 now],hp,nx=>aK (iN hp d) fun t=>some (.i (snV t.C id now).1,setR d t.s t.m (snV t.C id now).2 hp,nx+90)
 |_,_,_=>none
theorem bHd (d:Nat) (id now:W32) (hp:H) (nx:Nat):aBj [.op d 0,.w32 id,.w32 now] hp nx=aK (iN hp d) fun t=>some (.i (snV t.C id now).1,setR d t.s t.m (snV t.C id now).2 hp,nx+90):=(rfl)
attribute [go_sem] bHd
set_option maxHeartbeats 1000000 in
theorem bUg:cQ Tryd.prog GLh 21 aBj:=by
 refine gF Tryd.func21 (aT rfl) ?_
 intro args hp nx r hp' nx' hg
 unfold aBj at hg
 split at hg
 ·rename_i d id now
  replace hg:=aJ hg;obtain⟨⟨s,m,C⟩,hD0,hg⟩:=hg
  have hD:=iV hD0
  simp only[Option.some.injEq,Prod.mk.injEq]at hg hD;obtain⟨rfl,rfl,rfl⟩:=hg
  refine⟨J1 rfl,by omega,fun hnone=>?_⟩
  have h1:=hD.hd;have h2:=hD.hs;have h3:=hD.hm
  obtain⟨n1,n2,n3,n4,n5,n6⟩:=hD.ne
  have hlt: ∀k o,hp k=some o→k<nx:=fun k o hk=>lI hnone hk
  have hd:=hlt _ _ h1
  have hs:=hlt _ _ h2
  have hm:=hlt _ _ h3
  refine aA rfl (aW [0,1,2] rfl rfl rfl fun K hK=>?_)
  simp(disch:=omega) only[Tryd.f21,go_sem,↓reduceIte]
  refine hK _ ?_
  refine aB ?_
  rcases hk:iK id C.by' with _|k
  ·rw[bGn hk]
   refine aA rfl (aW [0,1,2,7,8] rfl rfl rfl fun K hK=>?_)
   simp(disch:=omega) only[Tryd.f21,go_sem,↓reduceIte,h1,h2,hk,jA,J8,J7,J9]
   refine hK _ ?_
   refine aB (aA rfl (aR 0 rfl rfl (aA rfl (aW [18,0,1,2,7] rfl rfl rfl fun K hK=>?_))))
   simp(disch:=omega) only[Tryd.f21,go_sem,↓reduceIte]
   refine hK _ ?_
   refine aB (eC (.tmp 18) rfl rfl rfl (fun h=>?_) (fun h=>?_))
   ·refine aI rfl (aA rfl (aW [6] rfl rfl rfl fun K hK=>?_))
    simp(disch:=omega) only[Tryd.f21,go_sem,↓reduceIte]
    refine hK _ ?_
    refine aB (aS rfl (bN (bI ?_)))
    rw[iQ hD]
    exact⟨rfl,fun j o h=>jB hnone (by omega) j o h,by simp only;omega⟩
   refine aI rfl ?_
   cases h
  have ek:=aMa (now:=now) hk
  refine aA rfl (aW [0,1,2,7,8] rfl rfl rfl fun K hK=>?_)
  simp(disch:=omega) only[Tryd.f21,go_sem,↓reduceIte,h1,h2,hk,jA,lV,J8,J7,J9]
  refine hK _ ?_
  refine aB (aA rfl (aR 0 rfl rfl (aA rfl (aW [18,0,1,2,7] rfl rfl rfl fun K hK=>?_))))
  simp(disch:=omega) only[Tryd.f21,go_sem,↓reduceIte]
  refine hK _ ?_
  refine aB (eC (.tmp 18) rfl rfl rfl (fun h=>?_) (fun h=>?_))
  ·refine aI rfl ?_
   cases h
  refine aI rfl ?_
  clear h
  have hmx:(if now<1#32 then(1#32:W32)else now)=mx1 now:=rfl
  by_cases hb1:k.role=1
  ·have d1:decide (k.role=1)=true:=J5 hb1
   by_cases hb2:k.st=2
   ·have d2:decide (k.st=2)=true:=J5 hb2
    by_cases hb3:k.seen=0#32
    ·have d3:decide (k.seen=0#32)=true:=J5 hb3
     rw[J3 (fun e=>e.elim (fun e=>e hb1) (fun e=>e.elim (fun e=>e hb2) (fun e=>e hb3)))]at ek
     rw[ek]
     refine aA rfl (aW [21,0,1,2,7] rfl rfl rfl fun K hK=>?_)
     simp(disch:=omega) only[Tryd.f21,go_sem,↓reduceIte,d1,d2,d3,Bool.not_true,J8,J7,J9]
     refine hK _ ?_
     refine aB (eC (.tmp 21) rfl rfl rfl (fun h=>?_) (fun h=>?_))
     ·refine aI rfl ?_
      cases h
     refine aI rfl ?_
     clear h
     refine aQ rfl (bU (aB (aA rfl (aW [0,1,7] rfl rfl rfl fun K hK=>?_))))
     simp(disch:=omega) only[Tryd.f21,go_sem,↓reduceIte,hmx,List.set_cons_succ,List.set_cons_zero]
     refine hK _ ?_
     refine aB (aA rfl (bB (Γ:=aL) (fun _=>2) [] bZ (aD _ _) rfl rfl rfl (by kernel_rfl) (fun K hK=>?_)))
     simp(disch:=omega) only[Tryd.f21,go_sem,↓reduceIte,h1,h2,jA,J8,U0,U1,J7,J9]
     refine hK _ ?_
     refine aB (aA rfl (aW [6] rfl rfl rfl fun K hK=>?_))
     simp(disch:=omega) only[Tryd.f21,go_sem,↓reduceIte]
     refine hK _ ?_
     refine aB (aS rfl ?_)
     refine⟨rfl,fun j o hj=>oK (C:=snC C id k now) ?_ ?_ ?_ ?_ j o hj,by simp only;omega⟩
     ·simp(disch:=omega) only[aV,bY,↓reduceIte]<;>first|exact h1|rfl
     ·simp(disch:=omega) only[aV,↓reduceIte,eq_self]<;>first|exact h2|rfl
     ·simp(disch:=omega) only[aV,bY,↓reduceIte]<;>first|exact h3|rfl
     intro k o k1 k2 k3 hk
     have:=hlt k o hk
     simp(disch:=omega) only[aV,bY,↓reduceIte]
     exact hk
    have d3:decide (k.seen=0#32)=false:=J6 hb3
    refine aA rfl (aW [21,0,1,2,7] rfl rfl rfl fun K hK=>?_)
    simp(disch:=omega) only[Tryd.f21,go_sem,↓reduceIte,d1,d2,d3,Bool.not_true,Bool.not_false,J8,J7,J9]
    refine hK _ ?_
    refine aB (eC (.tmp 21) rfl rfl rfl (fun h=>?_) (fun h=>?_))
    ·refine aI rfl ?_
     rw[J4 (.inr (.inr hb3))]at ek
     rw[ek]
     refine aA rfl (aW [6] rfl rfl rfl fun K hK=>?_)
     simp(disch:=omega) only[Tryd.f21,go_sem,↓reduceIte]
     refine hK _ ?_
     refine aB (aS rfl (bN (bI ?_)))
     rw[iQ hD]
     exact⟨rfl,fun j o h=>jB hnone (by omega) j o h,by simp only;omega⟩
    refine aI rfl ?_
    cases h
   have d2:decide (k.st=2)=false:=J6 hb2
   refine aA rfl (aW [21,0,1,2,7] rfl rfl rfl fun K hK=>?_)
   simp(disch:=omega) only[Tryd.f21,go_sem,↓reduceIte,d1,d2,Bool.not_true,Bool.not_false,J8,J7,J9]
   refine hK _ ?_
   refine aB (eC (.tmp 21) rfl rfl rfl (fun h=>?_) (fun h=>?_))
   ·refine aI rfl ?_
    rw[J4 (.inr (.inl hb2))]at ek
    rw[ek]
    refine aA rfl (aW [6] rfl rfl rfl fun K hK=>?_)
    simp(disch:=omega) only[Tryd.f21,go_sem,↓reduceIte]
    refine hK _ ?_
    refine aB (aS rfl (bN (bI ?_)))
    rw[iQ hD]
    exact⟨rfl,fun j o h=>jB hnone (by omega) j o h,by simp only;omega⟩
   refine aI rfl ?_
   cases h
  have d1:decide (k.role=1)=false:=J6 hb1
  refine aA rfl (aW [21,0,1,2,7] rfl rfl rfl fun K hK=>?_)
  simp(disch:=omega) only[Tryd.f21,go_sem,↓reduceIte,d1,Bool.not_false,J8,J7,J9]
  refine hK _ ?_
  refine aB (eC (.tmp 21) rfl rfl rfl (fun h=>?_) (fun h=>?_))
  ·refine aI rfl ?_
   rw[J4 (.inl hb1)]at ek
   rw[ek]
   refine aA rfl (aW [6] rfl rfl rfl fun K hK=>?_)
   simp(disch:=omega) only[Tryd.f21,go_sem,↓reduceIte]
   refine hK _ ?_
   refine aB (aS rfl (bN (bI ?_)))
   rw[iQ hD]
   exact⟨rfl,fun j o h=>jB hnone (by omega) j o h,by simp only;omega⟩
  refine aI rfl ?_
  cases h
 cases hg
theorem bJf:bX Tryd.prog GLh 21 (.heap aBj):=⟨⟨_,Tryd.func21,rfl,rfl⟩,bUg⟩
theorem bNj (id:W32): ∀(L:List KY) (n:Nat),(fdN id L n= -1∧∀k,k<L.length→(kyA L k).id≠id)∨∃i,i<L.length∧fdN id L n=((n+i:Nat):Int)∧(kyA L i).id=id
 |[],n=> .inl ⟨rfl,fun k h=>by simp at h⟩
 |x::r,n=>by
  rw[fdN]
  by_cases e:x.id=id
  ·rw[J4 e];exact .inr ⟨0,by simp,by simp,by simpa [kyA]using e⟩
  rw[J3 e]
  rcases bNj id r (n+1)with⟨h1,h2⟩|⟨i,h1,h2,h3⟩
  ·refine .inl ⟨h1,fun k hk=>?_⟩
   cases k with
   |zero=>simpa [kyA]using e
   |succ k=>have:=h2 k (by simpa using hk);simpa [kyA]using this
  exact .inr ⟨i+1,by simpa using h1,by rw[h2];congr 1;omega,by simpa [kyA]using h3⟩
theorem aCz (L:List KY) (id:W32):kB L id= -1∨∃i,i<L.length∧kB L id=(i:Int)∧(kyA L i).id=id:=by
 rcases bNj id L 0 with⟨h,_⟩|⟨i,h1,h2,h3⟩
 ·exact .inl h
 exact .inr ⟨i,h1,by rw[kB,h2];simp,h3⟩
theorem aJm (L:List KY) (k j:Nat) (x:AV) (k':KY) (hk:k<L.length) (hj:j<15) (hx:(kyC (kyA L k)).set j x=kyC k'):(jQ L).set (15*k+j) x=jQ (L.set k k'):=by
 induction L generalizing k with
 |nil=>simp at hk
 |cons y r ih=>
  cases k with
  |zero=>
   have e:kyA (y::r) 0=y:=rfl
   rw[e]at hx
   rw[List.set_cons_zero,jQ,jQ,List.set_append_left _ _ (by show _<15;omega),←hx,Nat.mul_zero,Nat.zero_add]
  |succ k=>
   have e:15*(k+1)+j=(kyC y).length+(15*k+j):=by show _=15+_;omega
   rw[List.set_cons_succ,jQ,jQ,e,List.set_append_right _ _ (by omega),Nat.add_sub_cancel_left]
   rw[ih k (by simpa using hk) (by simpa [kyA]using hx)]
def aNk (M:MC) (i:Nat) (now:W32):MC:= {M with L:=M.L.set i {kyA M.L i with seen:=mx1 now}}
def mX (M:MC) (id now:W32):Int×MC:=
 if kB M.L id<0 then(130,M)
 else if(kyA M.L (kB M.L id).toNat).role≠1∨(kyA M.L (kB M.L id).toNat).st≠2∨(kyA M.L (kB M.L id).toNat).seen≠0#32 then(131,M)
 else(0,aNk M (kB M.L id).toNat now)
noncomputable def xQ:List AV→H→Nat→Option (AV×H×Nat)
 |[.op d 0,.w32 id,.w32 now],hp,nx=>aK (kH hp d) fun t=>aN (t.M.L.length≤1000) (some (.i (mX t.M id now).1,setM d t.l (mX t.M id now).2 hp,nx+300+60*t.M.L.length))
 |_,_,_=>none
theorem bAk (d:Nat) (id now:W32) (hp:H) (nx:Nat):xQ [.op d 0,.w32 id,.w32 now] hp nx=aK (kH hp d) fun t=>aN (t.M.L.length≤1000) (some (.i (mX t.M id now).1,setM d t.l (mX t.M id now).2 hp,nx+300+60*t.M.L.length)):=(rfl)
attribute [go_sem] bAk
set_option maxHeartbeats 1000000 in
theorem bKn:cQ Tryd.prog GLh 22 xQ:=by
 refine gF Tryd.func22 (aT rfl) ?_
 intro args hp nx r hp' nx' hg
 unfold xQ at hg
 split at hg
 ·rename_i d id now
  replace hg:=aJ hg;obtain⟨⟨l,M⟩,hD0,hg⟩:=hg
  have hD:=kW hD0
  replace hg:=aP hg;obtain⟨hlen,hg⟩:=hg
  simp only[Option.some.injEq,Prod.mk.injEq]at hg hD hlen;obtain⟨rfl,rfl,rfl⟩:=hg
  refine⟨J1 rfl,by omega,fun hnone=>?_⟩
  have h1:=hD.hd;have h2:=hD.hl
  obtain⟨n1,n2⟩:=hD.ne
  have hlt: ∀k o,hp k=some o→k<nx:=fun k o hk=>lI hnone hk
  have hd:=hlt _ _ h1
  have hl:=hlt _ _ h2
  have hkl:=iJ M.L
  refine aA rfl (aW [0,1,2] rfl rfl rfl fun K hK=>?_)
  simp(disch:=omega) only[Tryd.f22,go_sem,↓reduceIte]
  refine hK _ ?_
  refine aB (aA rfl (aC (Γ:=bC [(37,.heap zJ)]) [0,2,7] (aH aWa aO) rfl rfl rfl (fun K hK=>?_)))
  simp(disch:=omega) only[Tryd.f22,go_sem,↓reduceIte,hD0,hlen]
  refine hK _ ?_
  refine aB ?_
  rcases aCz M.L id with hf|⟨i,hi,hf,hid⟩
  ·have ek:mX M id now=(130,M):=by unfold mX;rw[hf];exact J4 (by omega)
   rw[hf]
   refine aA rfl (aA rfl (aW [12,0,2,7] rfl rfl rfl fun K hK=>?_))
   simp(disch:=omega) only[Tryd.f22,go_sem,↓reduceIte]
   refine hK _ ?_
   refine aB (eC (.tmp 12) rfl rfl rfl (fun h=>?_) (fun h=>?_))
   ·refine aI rfl ?_
    rw[ek]
    refine aA rfl (aW [6] rfl rfl rfl fun K hK=>?_)
    simp(disch:=omega) only[Tryd.f22,go_sem,↓reduceIte]
    refine hK _ ?_
    refine aB (aS rfl (bI ?_))
    rw[oE hD]
    exact⟨rfl,fun j o h=>h,by simp only;omega⟩
   refine aI rfl ?_
   cases h
  have ek:mX M id now=if(kyA M.L i).role≠1∨(kyA M.L i).st≠2∨(kyA M.L i).seen≠0#32 then(131,M)else(0,aNk M i now):=by
   unfold mX;rw[hf,U2];exact J3 (by omega)
  rw[hf]
  refine aA rfl (aA rfl (aW [12,0,2,7] rfl rfl rfl fun K hK=>?_))
  simp(disch:=omega) only[Tryd.f22,go_sem,↓reduceIte]
  refine hK _ ?_
  refine aB (gP (.tmp 12) rfl rfl rfl (fun h=>?_) (fun h=>?_))
  ·exact aI rfl (absurd h (by omega))
  refine aI rfl ?_
  clear h
  have hmx:(if now<1#32 then(1#32:W32)else now)=mx1 now:=rfl
  have a1:=jW M.L i 1 hi (by omega)
  have a2:=jW M.L i 2 hi (by omega)
  have a7:=jW M.L i 14 hi (by omega)
  have e15:i*15=15*i:=by omega
  refine aQ rfl (aB (aA rfl (aA rfl ?_)))
  by_cases hb1:(kyA M.L i).role=1
  ·have d1:decide ((kyA M.L i).role=1)=true:=J5 hb1
   by_cases hb2:(kyA M.L i).st=2
   ·have d2:decide ((kyA M.L i).st=2)=true:=J5 hb2
    by_cases hb3:(kyA M.L i).seen=0#32
    ·have d3:decide ((kyA M.L i).seen=0#32)=true:=J5 hb3
     rw[J3 (fun e=>e.elim (fun e=>e hb1) (fun e=>e.elim (fun e=>e hb2) (fun e=>e hb3)))]at ek
     rw[ek]
     refine aW [43,0,2,7] rfl rfl rfl fun K hK=>?_
     simp(disch:=omega) only[Tryd.f22,go_sem,↓reduceIte,d1,d2,d3,Bool.not_true,h1,h2,jR,a1,a2,a7,e15,kyC,J8,J7,J9]
     refine hK _ ?_
     refine aB (eC (.tmp 43) rfl rfl rfl (fun h=>?_) (fun h=>?_))
     ·refine aI rfl ?_
      cases h
     refine aI rfl ?_
     clear h
     refine aQ rfl (aB (aA rfl (aW [] rfl rfl rfl fun K hK=>?_)))
     simp(disch:=omega) only[Tryd.f22,go_sem,↓reduceIte,h1,h2,jR,hkl,hmx,e15,J8,J7,J9]
     refine hK _ ?_
     refine aB (aA rfl (aW [6] rfl rfl rfl fun K hK=>?_))
     simp(disch:=omega) only[Tryd.f22,go_sem,↓reduceIte]
     refine hK _ ?_
     refine aB (aS rfl ?_)
     have hset:=aJm M.L i 14 (.w32 (mx1 now)) {kyA M.L i with seen:=mx1 now} hi (by omega) rfl
     refine⟨rfl,fun j o hj=>vL (M:=aNk M i now) (l:=l) ?_ ?_ ?_ j o hj,by simp only;omega⟩
     ·have e2:mgC l (aNk M i now)=mgC l M:=by simp only[mgC,aNk,List.length_set]
      rw[e2]
      simp(disch:=omega) only[aV,bY,↓reduceIte]
      exact h1
     ·simp(disch:=omega) only[aV,↓reduceIte,eq_self,hset]<;>rfl
     intro k o k1 k2 hk
     simp(disch:=omega) only[aV,bY,↓reduceIte]
     exact hk
    have d3:decide ((kyA M.L i).seen=0#32)=false:=J6 hb3
    refine aW [43,0,2,7] rfl rfl rfl fun K hK=>?_
    simp(disch:=omega) only[Tryd.f22,go_sem,↓reduceIte,d1,d2,d3,Bool.not_true,Bool.not_false,h1,h2,jR,a1,a2,a7,e15,kyC,J8,J7,J9]
    refine hK _ ?_
    refine aB (eC (.tmp 43) rfl rfl rfl (fun h=>?_) (fun h=>?_))
    ·refine aI rfl ?_
     rw[J4 (.inr (.inr hb3))]at ek
     rw[ek]
     refine aA rfl (aW [6] rfl rfl rfl fun K hK=>?_)
     simp(disch:=omega) only[Tryd.f22,go_sem,↓reduceIte]
     refine hK _ ?_
     refine aB (aS rfl (bI ?_))
     rw[oE hD]
     exact⟨rfl,fun j o h=>h,by simp only;omega⟩
    refine aI rfl ?_
    cases h
   have d2:decide ((kyA M.L i).st=2)=false:=J6 hb2
   refine aW [43,0,2,7] rfl rfl rfl fun K hK=>?_
   simp(disch:=omega) only[Tryd.f22,go_sem,↓reduceIte,d1,d2,Bool.not_true,Bool.not_false,h1,h2,jR,a1,a2,e15,kyC,J8,J7,J9]
   refine hK _ ?_
   refine aB (eC (.tmp 43) rfl rfl rfl (fun h=>?_) (fun h=>?_))
   ·refine aI rfl ?_
    rw[J4 (.inr (.inl hb2))]at ek
    rw[ek]
    refine aA rfl (aW [6] rfl rfl rfl fun K hK=>?_)
    simp(disch:=omega) only[Tryd.f22,go_sem,↓reduceIte]
    refine hK _ ?_
    refine aB (aS rfl (bI ?_))
    rw[oE hD]
    exact⟨rfl,fun j o h=>h,by simp only;omega⟩
   refine aI rfl ?_
   cases h
  have d1:decide ((kyA M.L i).role=1)=false:=J6 hb1
  refine aW [43,0,2,7] rfl rfl rfl fun K hK=>?_
  simp(disch:=omega) only[Tryd.f22,go_sem,↓reduceIte,d1,Bool.not_false,h1,h2,jR,a1,e15,kyC,J8,J7,J9]
  refine hK _ ?_
  refine aB (eC (.tmp 43) rfl rfl rfl (fun h=>?_) (fun h=>?_))
  ·refine aI rfl ?_
   rw[J4 (.inl hb1)]at ek
   rw[ek]
   refine aA rfl (aW [6] rfl rfl rfl fun K hK=>?_)
   simp(disch:=omega) only[Tryd.f22,go_sem,↓reduceIte]
   refine hK _ ?_
   refine aB (aS rfl (bI ?_))
   rw[oE hD]
   exact⟨rfl,fun j o h=>h,by simp only;omega⟩
  refine aI rfl ?_
  cases h
 cases hg
theorem cFi:bX Tryd.prog GLh 22 (.heap xQ):=⟨⟨_,Tryd.func22,rfl,rfl⟩,bKn⟩
end Go.AX

namespace Go.AX
open Go Go.Proofs
set_option maxRecDepth 8000
theorem tK: ∀L:List KY,gH (jQ L)=true
 |[]=>rfl
 |k::r=>by
  have ih:=tK r
  rw[jQ]
  simp only[gH,Bool.not_eq_true',List.any_append,Bool.or_eq_false_iff]at ih⊢
  exact⟨rfl,ih⟩
theorem bWs (xs:List AV) (a b:Nat) (h:gH xs=true):gH ((xs.drop b).take a)=true:=by
 simp only[gH,Bool.not_eq_true',List.any_eq_false]at h⊢
 exact fun x hx=>h x (List.mem_of_mem_drop (List.mem_of_mem_take hx))
theorem aOa: ∀(L:List KY) (k:Nat),List.take (15*k) (jQ L)=jQ (L.take k)
 |[],k=>by simp[jQ]
 |x::r,0=>by simp[jQ]
 |x::r,k+1=>by
  have h15:(kyC x).length=15:=rfl
  rw[jQ,U0,jQ,show 15*(k+1)=(kyC x).length+15*k by rw[h15];omega,List.take_length_add_append,aOa r k]
theorem aGx: ∀(L:List KY) (k:Nat),List.drop (15*k) (jQ L)=jQ (L.drop k)
 |[],k=>by simp[jQ]
 |x::r,0=>by simp
 |x::r,k+1=>by
  have h15:(kyC x).length=15:=rfl
  rw[jQ,J7,show 15*(k+1)=(kyC x).length+15*k by rw[h15];omega,List.drop_length_add_append,aGx r k]
def xP (M:MC) (i:Nat) (st:Int) (now:W32):MC:= {M with L:=M.L.set i {kyA M.L i with st:=st,since:=now}}
def aSa (M:MC) (i:Nat):MC:= {M with L:=M.L.take i++M.L.drop (i+1)}
noncomputable def uA (d l:Nat) (M:MC) (id:W32) (st:Int) (now:W32) (hp:H) (nx:Nat):Int×H:=
 if kB M.L id<0 then(130,hp)
 else if st≤(kyA M.L (kB M.L id).toNat).st∨4<st then(131,hp)
 else if st=4 then(0,setM d (nx+88+60*M.L.length) (aSa M (kB M.L id).toNat) (del hp l))
 else(0,setM d l (xP M (kB M.L id).toNat st now) hp)
noncomputable def xO:List AV→H→Nat→Option (AV×H×Nat)
 |[.op d 0,.w32 id,.i st,.w32 now],hp,nx=>aK (kH hp d) fun t=>aN (t.M.L.length≤1000) (some (.i (uA d t.l t.M id st now hp nx).1,(uA d t.l t.M id st now hp nx).2,nx+300+60*t.M.L.length))
 |_,_,_=>none
theorem bAi (d:Nat) (id now:W32) (st:Int) (hp:H) (nx:Nat):xO [.op d 0,.w32 id,.i st,.w32 now] hp nx=aK (kH hp d) fun t=>aN (t.M.L.length≤1000) (some (.i (uA d t.l t.M id st now hp nx).1,(uA d t.l t.M id st now hp nx).2,nx+300+60*t.M.L.length)):=(rfl)
attribute [go_sem] bAi
set_option maxHeartbeats 1000000 in
theorem bKj:cQ Tryd.prog GLh 20 xO:=by
 refine gF Tryd.func20 (aT rfl) ?_
 intro args hp nx r hp' nx' hg
 unfold xO at hg
 split at hg
 ·rename_i d id st now
  replace hg:=aJ hg;obtain⟨⟨l,M⟩,hD0,hg⟩:=hg
  have hD:=kW hD0
  replace hg:=aP hg;obtain⟨hlen,hg⟩:=hg
  simp only[Option.some.injEq,Prod.mk.injEq]at hg hD hlen;obtain⟨rfl,rfl,rfl⟩:=hg
  refine⟨J1 rfl,by omega,fun hnone=>?_⟩
  have h1:=hD.hd;have h2:=hD.hl
  obtain⟨n1,n2⟩:=hD.ne
  have hlt: ∀k o,hp k=some o→k<nx:=fun k o hk=>lI hnone hk
  have hd:=hlt _ _ h1
  have hl:=hlt _ _ h2
  have hkl:=iJ M.L
  refine aA rfl (aW [0,1,2,3] rfl rfl rfl fun K hK=>?_)
  simp(disch:=omega) only[Tryd.f20,go_sem,↓reduceIte]
  refine hK _ ?_
  refine aB (aA rfl (aC (Γ:=bC [(37,.heap zJ)]) [0,2,3,9] (aH aWa aO) rfl rfl rfl (fun K hK=>?_)))
  simp(disch:=omega) only[Tryd.f20,go_sem,↓reduceIte,hD0,hlen]
  refine hK _ ?_
  refine aB ?_
  rcases aCz M.L id with hf|⟨i,hi,hf,hid⟩
  ·have ek:uA d l M id st now hp nx=(130,hp):=by unfold uA;rw[hf];exact J4 (by omega)
   rw[hf]
   refine aA rfl (aA rfl (aW [14,0,2,3,9] rfl rfl rfl fun K hK=>?_))
   simp(disch:=omega) only[Tryd.f20,go_sem,↓reduceIte]
   refine hK _ ?_
   refine aB (eC (.tmp 14) rfl rfl rfl (fun h=>?_) (fun h=>?_))
   ·refine aI rfl ?_
    rw[ek]
    refine aA rfl (aW [8] rfl rfl rfl fun K hK=>?_)
    simp(disch:=omega) only[Tryd.f20,go_sem,↓reduceIte]
    refine hK _ ?_
    refine aB (aS rfl (bI ?_))
    exact⟨rfl,fun j o h=>h,by simp only;omega⟩
   refine aI rfl ?_
   cases h
  have ek:uA d l M id st now hp nx=if st≤(kyA M.L i).st∨4<st then(131,hp)else if st=4 then(0,setM d (nx+88+60*M.L.length) (aSa M i) (del hp l))else(0,setM d l (xP M i st now) hp):=by
   unfold uA;rw[hf,U2];exact J3 (by omega)
  rw[hf]
  refine aA rfl (aA rfl (aW [14,0,2,3,9] rfl rfl rfl fun K hK=>?_))
  simp(disch:=omega) only[Tryd.f20,go_sem,↓reduceIte]
  refine hK _ ?_
  refine aB (gP (.tmp 14) rfl rfl rfl (fun h=>?_) (fun h=>?_))
  ·exact aI rfl (absurd h (by omega))
  refine aI rfl ?_
  clear h
  have a2:=jW M.L i 2 hi (by omega)
  have e15:i*15=15*i:=by omega
  refine aQ rfl (aB (aA rfl (aA rfl ?_)))
  by_cases hb:st≤(kyA M.L i).st
  ·have db:decide (st≤(kyA M.L i).st)=true:=J5 hb
   rw[J4 (.inl hb)]at ek
   refine aW [28,0,2,3,9] rfl rfl rfl fun K hK=>?_
   simp(disch:=omega) only[Tryd.f20,go_sem,↓reduceIte,h1,h2,jR,a2,e15,db,kyC,J8,J7,J9]
   refine hK _ ?_
   refine aB (eC (.tmp 28) rfl rfl rfl (fun h=>?_) (fun h=>?_))
   ·refine aI rfl ?_
    rw[ek]
    refine aA rfl (aW [8] rfl rfl rfl fun K hK=>?_)
    simp(disch:=omega) only[Tryd.f20,go_sem,↓reduceIte]
    refine hK _ ?_
    refine aB (aS rfl (bI ?_))
    exact⟨rfl,fun j o h=>h,by simp only;omega⟩
   refine aI rfl ?_
   cases h
  have db:decide (st≤(kyA M.L i).st)=false:=J6 hb
  refine aW [28,0,2,3,9] rfl rfl rfl fun K hK=>?_
  simp(disch:=omega) only[Tryd.f20,go_sem,↓reduceIte,h1,h2,jR,a2,e15,db,kyC,J8,J7,J9]
  refine hK _ ?_
  refine aB (gP (.tmp 28) rfl rfl rfl (fun h=>?_) (fun h=>?_))
  ·refine aI rfl ?_
   rw[J4 (.inr h)]at ek
   rw[ek]
   refine aA rfl (aW [8] rfl rfl rfl fun K hK=>?_)
   simp(disch:=omega) only[Tryd.f20,go_sem,↓reduceIte]
   refine hK _ ?_
   refine aB (aS rfl (bI ?_))
   exact⟨rfl,fun j o h=>h,by simp only;omega⟩
  refine aI rfl ?_
  rw[J3 (fun e=>e.elim hb h)]at ek
  clear h
  refine aQ rfl (aB (aA rfl (aA rfl (aW [30,0,2,3,9] rfl rfl rfl fun K hK=>?_))))
  simp(disch:=omega) only[Tryd.f20,go_sem,↓reduceIte]
  refine hK _ ?_
  refine aB (gP (.tmp 30) rfl rfl rfl (fun h=>?_) (fun h=>?_))
  ·refine aI rfl ?_
   rw[J4 h]at ek
   rw[ek]
   have ei:((i:Int)+1).toNat=i+1:=by omega
   have hno:=bWs (jQ M.L) ((M.L.length-(i+1))*15) ((i+1)*15) (tK M.L)
   refine aA rfl (bB (Γ:=aL) (fun _=>2) [] bZ (aD _ _) rfl rfl rfl (by kernel_rfl) (fun K hK=>?_))
   simp(disch:=omega) only[Tryd.f20,go_sem,↓reduceIte,h1,h2,jR,hkl,e15,ei,hno,Nat.sub_zero,J8,List.set_cons_succ,List.set_cons_zero,J7,J9]
   refine hK _ ?_
   refine aB (aA rfl (aW [8] rfl rfl rfl fun K hK=>?_))
   simp(disch:=omega) only[Tryd.f20,go_sem,↓reduceIte]
   refine hK _ ?_
   refine aB (aS rfl (bI ?_))
   have e3:(aSa M i).L.length=i+(M.L.length-(i+1)):=by
    show(M.L.take i++M.L.drop (i+1)).length=_
    rw[List.length_append,List.length_take,List.length_drop];omega
   have e4:List.take (15*i) (jQ M.L)++List.take ((M.L.length-(i+1))*15) (List.drop ((i+1)*15) (jQ M.L))=jQ (aSa M i).L:=by
    show _=jQ (M.L.take i++M.L.drop (i+1))
    rw[lD,aOa,show(i+1)*15=15*(i+1)by omega,aGx]
    congr 1
    exact List.take_of_length_le (by rw[iJ,List.length_drop];omega)
   have e5:nx+1+4+50+60*M.L.length+2+14+2+15=nx+88+60*M.L.length:=by omega
   rw[e4,e5,←e3]
   refine⟨rfl,fun j o hj=>vL (M:=aSa M i) (l:=nx+88+60*M.L.length) ?_ ?_ ?_ j o hj,by simp only;omega⟩
   ·simp(disch:=omega) only[aV,↓reduceIte,eq_self]<;>rfl
   ·simp(disch:=omega) only[aV,bY,↓reduceIte,eq_self]
   intro k o k1 k2 hk
   simp(disch:=omega) only[aV,bY,↓reduceIte]
   exact hk
  refine aI rfl ?_
  rw[J3 h]at ek
  rw[ek]
  refine aQ rfl (aB (aA rfl (bB (Γ:=aL) (fun _=>2) [] bZ (aD _ _) rfl rfl rfl (by kernel_rfl) (fun K hK=>?_))))
  simp(disch:=omega) only[Tryd.f20,go_sem,↓reduceIte,h1,h2,jR,hkl,e15,J8,J7,J9]
  refine hK _ ?_
  refine aB (aA rfl (aW [8] rfl rfl rfl fun K hK=>?_))
  simp(disch:=omega) only[Tryd.f20,go_sem,↓reduceIte]
  refine hK _ ?_
  refine aB (aS rfl ?_)
  have hset:=aJm M.L i 2 (.i st) {kyA M.L i with st:=st} hi (by omega) rfl
  have hka:kyA (M.L.set i {kyA M.L i with st:=st}) i= {kyA M.L i with st:=st}:=by simp[kyA,hi]
  have hset2:=aJm (M.L.set i {kyA M.L i with st:=st}) i 13 (.w32 now) {kyA M.L i with st:=st,since:=now} (by simpa using hi) (by omega) (by rw[hka];rfl)
  rw[List.set_set]at hset2
  refine⟨rfl,fun j o hj=>vL (M:=xP M i st now) (l:=l) ?_ ?_ ?_ j o hj,by simp only;omega⟩
  ·have e2:mgC l (xP M i st now)=mgC l M:=by simp only[mgC,xP,List.length_set]
   rw[e2]
   simp(disch:=omega) only[aV,bY,↓reduceIte]
   exact h1
  ·simp(disch:=omega) only[aV,↓reduceIte,eq_self,hset,hset2]<;>rfl
  intro k o k1 k2 hk
  simp(disch:=omega) only[aV,bY,↓reduceIte]
  exact hk
 cases hg
theorem cFj:bX Tryd.prog GLh 20 (.heap xO):=⟨⟨_,Tryd.func20,rfl,rfl⟩,bKj⟩
end Go.AX

namespace Go.AX
open Go Go.Proofs
def jS (id:W32):List KY→Option KY
 |[]=>none
 |k::r=>if id=k.id then some k else jS id r
def SL (L:List KY):Prop:=L.Pairwise fun a b=>a.id.toNat<b.id.toNat
theorem nB {id:W32} {k:KY}: ∀ {L:List KY},jS id L=some k→k∈L∧k.id=id
 |x::r,h=>by
  simp only[jS]at h
  split at h
  ·rename_i e
   obtain rfl:=J0 h
   exact⟨by simp,e.symm⟩
  obtain⟨h1,h2⟩:=nB h
  exact⟨by simp[h1],h2⟩
theorem jX {k:KY}: ∀ {L:List KY},SL L→k∈L→jS k.id L=some k
 |x::r,hs,h=>by
  rw[SL,List.pairwise_cons]at hs
  simp only[jS]
  rcases List.mem_cons.1 h with rfl|h
  ·rw[J4 rfl]
  have:=hs.1 k h
  rw[J3 (fun e=>by rw[e]at this;omega)]
  exact jX hs.2 h
theorem aDa {id:W32}: ∀ {L:List KY},(∀k∈L,k.id≠id)→jS id L=none
 |[],_=>rfl
 |x::r,h=>by
  simp only[jS]
  rw[J3 (fun e=>h x (by simp) e.symm)]
  exact aDa fun k hk=>h k (by simp[hk])
theorem SL.nodup {L:List KY} (h:SL L):L.Nodup:=List.Pairwise.imp (fun {a b} h e=>by rw[e]at h;omega) h
theorem SL.uniq {L M:List KY} (h1:SL L) (h2:SL M) (h: ∀id,jS id L=jS id M):L=M:=by
 have hp:L.Perm M:=(List.perm_ext_iff_of_nodup h1.nodup h2.nodup).2 fun k=>by
  constructor
  ·intro hk
   have:=jX h1 hk
   rw[h]at this
   exact(nB this).1
  intro hk
  have:=jX h2 hk
  rw[←h]at this
  exact(nB this).1
 refine hp.eq_of_pairwise (fun a b _ _ h3 h4=>?_) (show List.Pairwise (fun a b:KY=>a.id.toNat<b.id.toNat) L from h1) (show List.Pairwise (fun a b:KY=>a.id.toNat<b.id.toNat) M from h2)
 exact absurd h3 (by omega)
theorem aCw {β:Type} {id:W32}: ∀ {l:List (W32×β)},id∉l.map (·.1)→iK id l=none
 |[],_=>rfl
 |p::r,h=>by
  rw[List.map_cons,List.mem_cons]at h
  simp only[iK]
  rw[J3 (fun e=>h (.inl e))]
  exact aCw fun e=>h (.inr e)
theorem bGl {l:List W32} (h:l.Nodup):(iU l).Pairwise fun a b=>a.toNat<b.toNat:=by
 have h1:=nY l
 have h2:(iU l).Nodup:=(kC l).nodup_iff.2 h
 refine(List.pairwise_and_iff.2 ⟨h1,h2⟩).imp (fun {a b} h=>?_)
 have:a.toNat≠b.toNat:=fun e=>h.2 (BitVec.eq_of_toNat_eq e)
 omega
theorem aHh {f:W32→KY} (id:W32): ∀ {l:List W32},(∀i∈l,(f i).id=i)→jS id (l.map f)=if id∈l then some (f id)else none
 |[],_=>by simp[jS]
 |i::r,h=>by
  have hi:=h i (by simp)
  simp only[List.map_cons,jS,hi]
  by_cases e:id=i
  ·subst e;simp
  rw[J3 e,aHh id fun j hj=>h j (by simp[hj])]
  simp[e]
theorem aLg {C:RC} (h:ROk C): ∀i∈idsL C,((iK i C.by').getD ky0).id=i:=by
 intro i hi
 obtain⟨v,hv⟩:=wH i C.by' ((kC _).mem_iff.1 hi)
 rw[hv]
 exact(h.key _ _ hv).1
theorem bSc {C:RC} (h:ROk C):SL (iP C):=by
 unfold SL iP
 rw[List.pairwise_map]
 refine(bGl h.nb).imp_of_mem (fun {a b} ha hb hab=>?_)
 rw[aLg h a ha,aLg h b hb]
 exact hab
theorem aQg {C:RC} (h:ROk C) (id:W32):iK id C.by'=jS id (iP C):=by
 rw[iP,aHh id (aLg h)]
 by_cases hm:id∈C.by'.map (·.1)
 ·have hm':id∈idsL C:=(kC _).mem_iff.2 hm
  rw[J4 hm']
  obtain⟨v,hv⟩:=wH id C.by' hm
  rw[hv];rfl
 have hm': ¬id∈idsL C:=fun e=>hm ((kC _).mem_iff.1 e)
 rw[J3 hm',aCw hm]
theorem aUc {C:RC} (h:ROk C) {L:List KY} (hs:SL L) (hg: ∀id,iK id C.by'=jS id L):iP C=L:=
 (bSc h).uniq hs fun id=>by rw[←aQg h,hg]
theorem qX {L:List KY} {i:Nat} (h:i<L.length):kyA L i=L[i]:=by simp[kyA,List.getD_eq_getElem?_getD,h]
theorem aHi (id:W32) (k:KY): ∀(L:List KY),jS id (L++[k])=match jS id L with|some x=>some x|none=>if id=k.id then some k else none
 |[]=>rfl
 |x::r=>by
  simp only[List.cons_append,jS]
  by_cases e:id=x.id
  ·rw[J4 e,J4 e]
  rw[J3 e,J3 e,aHi id k r]
theorem aDb: ∀ {L:List KY},SL L→∀ {i:Nat},i<L.length→jS (kyA L i).id L=some (kyA L i):=by
 intro L hs i hi
 refine jX hs ?_
 rw[qX hi];exact List.getElem_mem hi
theorem aHf (id:W32) (k':KY): ∀ {L:List KY} {i:Nat},SL L→i<L.length→k'.id=(kyA L i).id→jS id (L.set i k')=if id=k'.id then some k' else jS id L
 |x::r,0,hs,_,he=>by
  have he:k'.id=x.id:=he
  simp only[List.set_cons_zero,jS,he]
  split<;>rfl
 |x::r,i+1,hs,hi,he=>by
  have he2:k'.id=(kyA r i).id:=he
  have hi2:i<r.length:=by simpa using hi
  rw[SL,List.pairwise_cons]at hs
  have hlt:x.id.toNat<k'.id.toNat:=by
   rw[he2,qX hi2];exact hs.1 _ (List.getElem_mem hi2)
  simp only[List.set_cons_succ,jS]
  by_cases e:id=x.id
  ·rw[J4 e,J3 (fun e2=>by rw[←e2,e]at hlt;omega),J4 e]
  rw[J3 e,J3 e,aHf id k' hs.2 hi2 he2]
theorem aUh {k':KY}: ∀ {L:List KY} {i:Nat},SL L→i<L.length→k'.id=(kyA L i).id→SL (L.set i k')
 |x::r,0,hs,_,he=>by
  have he:k'.id=x.id:=he
  rw[SL,List.pairwise_cons]at hs
  rw[List.set_cons_zero,SL,List.pairwise_cons]
  exact⟨fun b hb=>by rw[he];exact hs.1 b hb,hs.2⟩
 |x::r,i+1,hs,hi,he=>by
  have he2:k'.id=(kyA r i).id:=he
  have hi2:i<r.length:=by simpa using hi
  rw[SL,List.pairwise_cons]at hs
  rw[List.set_cons_succ,SL,List.pairwise_cons]
  refine⟨fun b hb=>?_,aUh hs.2 hi2 he2⟩
  rcases List.mem_or_eq_of_mem_set hb with h|rfl
  ·exact hs.1 b h
  rw[he2,qX hi2];exact hs.1 _ (List.getElem_mem hi2)
theorem aHg (id:W32): ∀ {L:List KY} {i:Nat},SL L→i<L.length→jS id (L.take i++L.drop (i+1))=if id=(kyA L i).id then none else jS id L
 |x::r,0,hs,_=>by
  rw[SL,List.pairwise_cons]at hs
  have e0:(kyA (x::r) 0)=x:=rfl
  rw[e0]
  show jS id r=_
  simp only[jS]
  by_cases e:id=x.id
  ·rw[J4 e]
   exact aDa fun k hk e2=>by have:=hs.1 k hk;rw[e2,e]at this;omega
  rw[J3 e,J3 e]
 |x::r,i+1,hs,hi=>by
  have hi2:i<r.length:=by simpa using hi
  rw[SL,List.pairwise_cons]at hs
  have e0:kyA (x::r) (i+1)=kyA r i:=rfl
  rw[e0]
  have hlt:x.id.toNat<(kyA r i).id.toNat:=by rw[qX hi2];exact hs.1 _ (List.getElem_mem hi2)
  show jS id (x::(r.take i++r.drop (i+1)))=_
  simp only[jS]
  by_cases e:id=x.id
  ·rw[J4 e,J3 (fun e2=>by rw[←e2,e]at hlt;omega),J4 e]
  rw[J3 e,J3 e,aHg id hs.2 hi2]
theorem bSg {L:List KY} {i:Nat} (hs:SL L):SL (L.take i++L.drop (i+1)):=by
 refine List.Pairwise.sublist ?_ hs
 have h:=List.take_append_drop i L
 calc
  List.Sublist (L.take i++L.drop (i+1)) (L.take i++L.drop i):=by
    refine List.Sublist.append (List.Sublist.refl _) ?_
    rw[←List.drop_drop]
    exact List.drop_sublist 1 _
  _=L:=h
theorem bSh {L:List KY} {k:KY} (hs:SL L) (h: ∀x∈L,x.id.toNat<k.id.toNat):SL (L++[k]):=by
 rw[SL,List.pairwise_append]
 exact⟨hs,List.pairwise_singleton _ _,fun a ha b hb=>by rw[List.mem_singleton]at hb;rw[hb];exact h a ha⟩
theorem aHj (id:W32): ∀(L:List KY) (n:Nat),(fdN id L n= -1∧jS id L=none)∨∃i,i<L.length∧fdN id L n=((n+i:Nat):Int)∧(kyA L i).id=id∧jS id L=some (kyA L i)
 |[],n=> .inl ⟨rfl,rfl⟩
 |x::r,n=>by
  simp only[fdN,jS]
  by_cases e:x.id=id
  ·right
   exact⟨0,by simp,by rw[J4 e];rfl,e,by rw[J4 e.symm];rfl⟩
  rw[J3 e,J3 (fun h=>e h.symm)]
  rcases aHj id r (n+1)with⟨h1,h2⟩|⟨i,h1,h2,h3,h4⟩
  ·exact .inl ⟨h1,h2⟩
  right
  refine⟨i+1,by simpa using h1,?_,h3,h4⟩
  rw[h2,show n+1+i=n+(i+1)by omega]
theorem kX (L:List KY) (id:W32):(kB L id= -1∧jS id L=none)∨∃i:Nat,i<L.length∧kB L id=(i:Int)∧(kyA L i).id=id∧jS id L=some (kyA L i):=by
 rcases aHj id L 0 with h|⟨i,h1,h2,h3,h4⟩
 ·exact .inl h
 exact .inr ⟨i,h1,by rw[kB,h2,Nat.zero_add],h3,h4⟩
structure RM (C:RC) (M:MC):Prop where
 ok:ROk C
 l:iP C=M.L
 last:C.last=M.last
 c:C.c=M.c
theorem RM.sl {C:RC} {M:MC} (h:RM C M):SL M.L:=h.l▸bSc h.ok
theorem RM.get {C:RC} {M:MC} (h:RM C M) (id:W32):iK id C.by'=jS id M.L:=h.l▸aQg h.ok id
theorem RM.len {C:RC} {M:MC} (h:RM C M):C.by'.length=M.L.length:=by rw[←h.l,qL]
theorem RM.le {C:RC} {M:MC} (h:RM C M) {x:KY} (hx:x∈M.L):x.id.toNat≤M.last.toNat:=by
 have:=h.ok.key x.id x (by rw[h.get];exact jX h.sl hx)
 rw[←h.last];exact this.2.2.2
theorem RM.upd {C C':RC} {M:MC} (h:RM C M) (hok:ROk C') {i:Nat} (hi:i<M.L.length) {k':KY} (he:k'.id=(kyA M.L i).id) (hb:C'.by'=kT k'.id k' C.by') (hl:C'.last=C.last) (hc:C'.c=C.c):RM C' {M with L:=M.L.set i k'}:=by
 refine⟨hok,aUc hok (aUh h.sl hi he) fun id=>?_,hl.trans h.last,hc.trans h.c⟩
 rw[hb,jK,aHf id k' h.sl hi he,h.get]
theorem RM.seen {C:RC} {M:MC} (h:RM C M) (id now:W32):(snV C id now).1=(mX M id now).1∧RM (snV C id now).2 (mX M id now).2:=by
 have hok:=h.ok.snV id now
 rcases kX M.L id with⟨h1,h2⟩|⟨i,h1,h2,h3,h4⟩
 ·have e1:=bGn (now:=now) ((h.get id).trans h2)
  have e2:mX M id now=(130,M):=by unfold mX;rw[h1,J4 (by decide)]
  rw[e1,e2];exact⟨rfl,h⟩
 have e1:=aMa (now:=now) ((h.get id).trans h4)
 have e2:mX M id now=if(kyA M.L i).role≠1∨(kyA M.L i).st≠2∨(kyA M.L i).seen≠0#32 then(131,M)else(0,aNk M i now):=by
  unfold mX
  rw[h2,J3 (by omega),U2]
 rw[e1]at hok
 rw[e1,e2]
 split
 ·exact⟨rfl,h⟩
 rename_i hc
 rw[J3 hc]at hok
 refine⟨rfl,h.upd hok h1 rfl ?_ rfl rfl⟩
 show kT id ({kyA M.L i with seen:=mx1 now}:KY) C.by'=kT (kyA M.L i).id ({kyA M.L i with seen:=mx1 now}:KY) C.by'
 rw[h3]
theorem RM.mk' {C:RC} {M:MC} (h:RM C M) (hl:C.last.toNat<1000000) (hh:C.c.h≤10) (role:Int) (sd:S8) (st:Int) (now:W32):
  (mkV C role sd st now).1=(nK M role sd st now).1∧(mkV C role sd st now).2.1=(nK M role sd st now).2.1∧RM (mkV C role sd st now).2.2 ((nK M role sd st now).2.2.getD M):=by
 have hok:=h.ok.mkV hl hh role sd st now
 unfold mkV nK at*
 by_cases hb:(role≠0∧role≠1)∨st<0∨3<st
 ·rw[J4 hb,J4 hb];exact⟨rfl,rfl,h⟩
 ·rw[J3 hb]at hok⊢
  rw[J3 hb]
  rw[h.len]at hok⊢
  by_cases h16:16≤M.L.length
  ·rw[J4 h16,J4 h16];exact⟨rfl,rfl,h⟩
  ·rw[J3 h16]at hok⊢
   rw[J3 h16]
   have ek:aRx C role sd st now=wA M role sd st now:=by unfold aRx wA;rw[h.last,h.c]
   have hla:M.last.toNat<1000000:=by rw[←h.last];exact hl
   have hlast:(M.last+1#32).toNat=M.last.toNat+1:=by
    rw[BitVec.toNat_add]
    show(M.last.toNat+1)%4294967296=_
    omega
   have hlt: ∀x∈M.L,x.id.toNat<(wA M role sd st now).id.toNat:=fun x hx=>by
    show _<(M.last+1#32).toNat
    have:=h.le hx;omega
   refine⟨by rw[h.last],rfl,⟨hok,aUc hok (bSh h.sl hlt) fun id=>?_,by show C.last+1#32=M.last+1#32;rw[h.last],h.c⟩⟩
   show iK id (kT (C.last+1#32) (aRx C role sd st now) C.by')=jS id (M.L++[wA M role sd st now])
   rw[jK,aHi,h.get,h.last,ek]
   rcases hf:jS id M.L with _|x
   ·rfl
   ·have:=hlt x (nB hf).1
    rw[(nB hf).2]at this
    exact J3 fun e=>by rw[e]at this;exact absurd this (Nat.lt_irrefl _)
def kG (M:MC) (id:W32) (st:Int) (now:W32):Int×MC:=
 if kB M.L id<0 then(130,M)
 else if st≤(kyA M.L (kB M.L id).toNat).st∨4<st then(131,M)
 else if st=4 then(0,aSa M (kB M.L id).toNat)else(0,xP M (kB M.L id).toNat st now)
theorem RM.turn {C:RC} {M:MC} (h:RM C M) (id:W32) (st:Int) (now:W32):(tnV C id st now).1=(kG M id st now).1∧RM (tnV C id st now).2 (kG M id st now).2:=by
 have hok:=h.ok.tnV id st now
 rcases kX M.L id with⟨h1,h2⟩|⟨i,h1,h2,h3,h4⟩
 ·have e1:=aUp (st:=st) (now:=now) ((h.get id).trans h2)
  have e2:kG M id st now=(130,M):=by unfold kG;rw[h1,J4 (by decide)]
  rw[e1,e2];exact⟨rfl,h⟩
 have e1:=aUo (st:=st) (now:=now) ((h.get id).trans h4)
 have e2:kG M id st now=if st≤(kyA M.L i).st∨4<st then(131,M)else if st=4 then(0,aSa M i)else(0,xP M i st now):=by
  unfold kG
  rw[h2,J3 (by omega),U2]
 rw[e1]at hok
 rw[e1,e2]
 split
 ·exact⟨rfl,h⟩
 rename_i hc
 rw[J3 hc]at hok
 split
 ·rename_i h4'
  rw[J4 h4']at hok
  refine⟨rfl,⟨hok,aUc hok (bSg h.sl) fun j=>?_,h.last,h.c⟩⟩
  show iK j (eEt id C.by')=jS j (M.L.take i++M.L.drop (i+1))
  rw[sP _ _ _ h.ok.nb,aHg j h.sl h1,h.get,h3]
 rename_i h4'
 rw[J3 h4']at hok
 refine⟨rfl,h.upd hok h1 rfl ?_ rfl rfl⟩
 show kT id ({kyA M.L i with st:=st,since:=now}:KY) C.by'=kT (kyA M.L i).id ({kyA M.L i with st:=st,since:=now}:KY) C.by'
 rw[h3]
theorem cLr (d l:Nat) (M:MC) (id:W32) (st:Int) (now:W32) (hp:H) (nx:Nat):
  (uA d l M id st now hp nx=((kG M id st now).1,hp)∧(kG M id st now).2=M)∨(uA d l M id st now hp nx=((kG M id st now).1,setM d (nx+88+60*M.L.length) (kG M id st now).2 (del hp l)))∨(uA d l M id st now hp nx=((kG M id st now).1,setM d l (kG M id st now).2 hp)):=by
 unfold uA kG
 split
 ·exact .inl ⟨rfl,rfl⟩
 ·split
  ·exact .inl ⟨rfl,rfl⟩
  ·split
   ·exact .inr (.inl rfl)
   ·exact .inr (.inr rfl)
end Go.AX
