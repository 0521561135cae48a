/-
  Disk, part B: what a disk is in memory; asked for its sectors, their size, its power; cut. Disk, part C: a disk's sectors' size, its power; what may be asked for; the power cut. Disk, part D: sectors read and written. Disk, part E: sectors written. Disk, part F: a new one. Disk, part G: a map's keys, collected and sorted (the kit's own contracts, laid at this program). Disk, part H: contracts of a map's keys, sorted. Disk, part I: what was written is settled. Disk, part J: synced, crashed. Disk, part O: a map cloned, rows cloned, a disk copied. Disk, part P: rows cloned, a disk copied. Disk, part Q: the statement's small helps; the model's power. Disk, part R: the statement's model: its power. Disk, part K: a disk that is known. Disk, part L: how many sectors, and how great ones. Disk, part M: what was synced outlasts a crash. Disk, part S: the plain law: the model against the disk's contents. AX, more, part N: a region that draws its order, where operations are apart by the own objects that they touch. AX, more, part Q: a region that draws its order, where operations are apart by the own objects that they touch: the rule. Disk, part T: the statement DiskPlays: the model in memory; branches that come together again. Disk, part U: the statement DiskPlays, walked. Disk, part V: the plain law: the statement's model and the disk go on alike. Disk, part W: the statement DiskPlays, walked: a write. Disk, part X: the statement DiskPlays, walked: a sync, a cut. Disk, part Y: the statement DiskPlays, walked: a crash, a copy. Disk, part Z: the statement DiskPlays, walked: a copy.
-/
import Derived.Test.YtkpgebeipmedeaaBB
import Derived.Shelf.SlIterI.Nil
import Derived.Shelf.SlIterI.Sorted
import Derived.Shelf.SortM.Plain
import Derived.Shelf.SortM.SortNone
import Derived.Ground.GgzProg
import Derived.Ground.SlgmProg
import Derived.Test.YtkpgebeipmedeaaProg
import Derived.KernelRfl
import Derived.Shelf.SlMaps.Clone
import Derived.Ground.SlmcProg
namespace Go.AX
open Go Go.Proofs
structure DC where
 rows:List (List B8)
 g:Bool
 dirty:List (Int×List B8)
 cut:Int
 dead:Bool
def zP (b:List B8):AV:=.sl b.length (c8 b)
def dEz (l:List (Int×List B8)):List (AV×AV):=l.map fun p=>(.i p.1,zP p.2)
structure aZo (hp:H) (d s m:Nat) (C:DC):Prop where
 hd:hp d=some (.cells [.os s 0 C.rows.length 1 C.g,.mp m,.i C.cut,.b C.dead] true)
 hs:hp s=some (.cells (C.rows.map zP) true)
 hm:hp m=some (.mapo (dEz C.dirty) true)
 ne:d≠s∧d≠m∧s≠m∧s≠d∧m≠d∧m≠s
def bO (d s m:Nat) (C:DC) (hp:H):H:=upd (upd (upd hp s (.cells (C.rows.map zP) true)) m (.mapo (dEz C.dirty) true)) d (.cells [.os s 0 C.rows.length 1 C.g,.mp m,.i C.cut,.b C.dead] true)
theorem dFw {a b:List B8} (h:c8 a=c8 b):a=b:=by
 have h1:=iA a;rw[h,iA]at h1;exact(J0 h1).symm
theorem dHm {a b:List B8} (h:zP a=zP b):a=b:=dFw (AV.sl.inj h).2
theorem dEl {α β:Type} {f:α→β} (hf: ∀a b,f a=f b→a=b): ∀ {l l':List α},l.map f=l'.map f→l=l'
 |[],[],_=>rfl
 |[],_::_,h=>by cases h
 |_::_,[],h=>by cases h
 |a::r,b::r',h=>by
  simp only[List.map_cons,List.cons.injEq]at h
  rw[hf a b h.1,dEl hf h.2]
theorem dLe {a b:List (Int×List B8)} (h:dEz a=dEz b):a=b:=dEl (fun p q e=>by
 obtain⟨e1,e2⟩:=Prod.mk.inj e
 exact Prod.ext (AV.i.inj e1) (dHm e2)) h
theorem aZo.uniq {hp:H} {d s m s' m':Nat} {C C':DC} (h:aZo hp d s m C) (h':aZo hp d s' m' C'):s=s'∧m=m'∧C=C':=by
 have e:=h.hd.symm.trans h'.hd
 simp only[Option.some.injEq,AO.cells.injEq,List.cons.injEq,AV.os.injEq,AV.mp.injEq,AV.i.injEq,AV.b.injEq]at e
 obtain⟨⟨⟨rfl,_,_,_,eg⟩,rfl,ec,ed,_⟩,_⟩:=e
 have er0:=h.hs.symm.trans h'.hs
 have em0:=h.hm.symm.trans h'.hm
 have er:=dEl (fun _ _=>dHm) (AO.cells.inj (J0 er0)).1
 have em:=dLe (AO.mapo.inj (J0 em0)).1
 obtain⟨r1,g1,d1,c1,x1⟩:=C
 obtain⟨r2,g2,d2,c2,x2⟩:=C'
 simp only at er em eg ec ed
 subst er;subst em;subst eg;subst ec;subst ed
 exact⟨rfl,rfl,rfl⟩
structure DT where
 s:Nat
 m:Nat
 C:DC
open Classical in
noncomputable def mB (hp:H) (d:Nat):Option DT:=if h: ∃t:DT,aZo hp d t.s t.m t.C then some (Classical.choose h)else none
theorem mK {hp:H} {d s m:Nat} {C:DC} (h:aZo hp d s m C):mB hp d=some ⟨s,m,C⟩:=by
 have hx: ∃t:DT,aZo hp d t.s t.m t.C:=⟨⟨s,m,C⟩,h⟩
 unfold mB
 rw[dif_pos hx]
 have h2:=Classical.choose_spec hx
 obtain⟨e1,e2,e3⟩:=h2.uniq h
 congr 1
 generalize Classical.choose hx=t at e1 e2 e3
 cases t;simp only at e1 e2 e3;rw[e1,e2,e3]
theorem mD {hp:H} {d:Nat} {t:DT} (h:mB hp d=some t):aZo hp d t.s t.m t.C:=by
 unfold mB at h
 split at h
 ·rename_i hx
  obtain rfl:=J0 h
  exact Classical.choose_spec hx
 cases h
theorem dEp {hp:H} {d s m:Nat} {C:DC} (h1:d≠s) (h2:d≠m) (h3:s≠m):aZo (bO d s m C hp) d s m C:=
 ⟨by simp[bO,bJ],by simp[bO,bJ,Ne.symm h1,h3],by simp[bO,bJ,Ne.symm h2],⟨h1,h2,h3,Ne.symm h1,Ne.symm h2,Ne.symm h3⟩⟩
theorem dMs (hp:H) (d s m:Nat) (C:DC) (h1:d≠s) (h2:d≠m) (h3:s≠m):mB (bO d s m C hp) d=some ⟨s,m,C⟩:=mK (dEp h1 h2 h3)
theorem dJz (hp:H) (d s m:Nat) (C C':DC):bO d s m C' (bO d s m C hp)=bO d s m C' hp:=by
 funext k
 simp only[bO,bJ]
 by_cases h1:k=d
 ·simp[h1]
 by_cases h2:k=m
 ·simp[h2]
 by_cases h3:k=s
 ·simp[h3]
 simp[h1,h2,h3]
theorem mH (hp:H) (d s m:Nat) (C:DC) (k:Nat) (h1:k≠d) (h2:k≠s) (h3:k≠m):bO d s m C hp k=hp k:=by simp[bO,bJ,h1,h2,h3]
theorem dGy (hp:H) (d s m:Nat) (C:DC) (k:Nat) (o:AO) (h1:k≠d) (h2:k≠s) (h3:k≠m):upd (bO d s m C hp) k o=bO d s m C (upd hp k o):=by
 funext j
 simp only[bO,bJ]
 by_cases e:j=k
 ·subst e;simp[h1,h2,h3]
 simp[e]
theorem mC {hp:H} {d s m:Nat} {C:DC} (h:aZo hp d s m C):bO d s m C hp=hp:=by
 funext k
 simp only[bO,bJ]
 by_cases h1:k=d
 ·subst h1;rw[J4 rfl,h.hd]
 rw[J3 h1]
 by_cases h2:k=m
 ·subst h2;rw[J4 rfl,h.hm]
 rw[J3 h2]
 by_cases h3:k=s
 ·subst h3;rw[J4 rfl,h.hs]
 rw[J3 h3]
theorem dEj {hp t:H} {d s m:Nat} {C:DC} (h1:t d=some (.cells [.os s 0 C.rows.length 1 C.g,.mp m,.i C.cut,.b C.dead] true)) (h2:t s=some (.cells (C.rows.map zP) true)) (h3:t m=some (.mapo (dEz C.dirty) true))
  (h: ∀k o,k≠d→k≠s→k≠m→hp k=some o→t k=some o) (k:Nat) (o:AO) (hk:bO d s m C hp k=some o):t k=some o:=by
 simp only[bO,bJ]at hk
 by_cases e1:k=d
 ·subst e1;rw[J4 rfl]at hk;rw[h1];exact hk
 ·rw[J3 e1]at hk
  by_cases e2:k=m
  ·subst e2;rw[J4 rfl]at hk;rw[h3];exact hk
  ·rw[J3 e2]at hk
   by_cases e3:k=s
   ·subst e3;rw[J4 rfl]at hk;rw[h2];exact hk
   ·rw[J3 e3]at hk;exact h k o e1 e3 e2 hk
theorem dNv (hp:H) (d s m:Nat) (C:DC):bO d s m C hp d=some (.cells [.os s 0 C.rows.length 1 C.g,.mp m,.i C.cut,.b C.dead] true):=by simp[bO,bJ]
theorem dNu (hp:H) (d s m:Nat) (C:DC) (h1:s≠d) (h2:s≠m):bO d s m C hp s=some (.cells (C.rows.map zP) true):=by simp[bO,bJ,h1,h2]
theorem dKa (hp:H) (d s m:Nat) (C:DC) (h1:m≠d):bO d s m C hp m=some (.mapo (dEz C.dirty) true):=by simp[bO,bJ,h1]
theorem dGf (hp:H) (d s m:Nat) (C:DC) (l:List (Int×List B8)) (h1:m≠d):upd (bO d s m C hp) m (.mapo (dEz l) true)=bO d s m {C with dirty:=l} hp:=by
 funext k
 simp only[bO,bJ]
 by_cases e:k=m
 ·subst e;simp[h1]
 simp[e]
theorem dJe (hp:H) (d s m:Nat) (C:DC) (l:List (List B8)) (hl:l.length=C.rows.length) (h1:s≠d) (h2:s≠m):upd (bO d s m C hp) s (.cells (l.map zP) true)=bO d s m {C with rows:=l} hp:=by
 funext k
 simp only[bO,bJ]
 by_cases e:k=s
 ·subst e;simp[h1,h2]
 simp[e,hl]
theorem eL {hp hp2:H} {d s m:Nat} {C:DC} (h: ∀j o,hp j=some o→hp2 j=some o) (k:Nat) (o:AO) (hk:bO d s m C hp k=some o):bO d s m C hp2 k=some o:=by
 simp only[bO,bJ]at hk⊢
 by_cases e1:k=d
 ·rw[J4 e1]at hk⊢;exact hk
 rw[J3 e1]at hk⊢
 by_cases e2:k=m
 ·rw[J4 e2]at hk⊢;exact hk
 rw[J3 e2]at hk⊢
 by_cases e3:k=s
 ·rw[J4 e3]at hk⊢;exact hk
 rw[J3 e3]at hk⊢;exact h k o hk
attribute [go_sem] dNv dNu dKa dGf dMs dJz mH dGy
theorem cA {hp:H} {nx d:Nat} {o:AO} (hn: ∀id,nx≤id→hp id=none) (h:hp d=some o):d<nx:=by
 rcases Nat.lt_or_ge d nx with e|e
 ·exact e
 rw[hn d e]at h;cases h
noncomputable def dGz:List AV→H→Nat→Option (AV×H×Nat)
 |[.op d 0],hp,nx=>aK (mB hp d) fun t=>some (.i t.C.rows.length,hp,nx+50)
 |_,_,_=>none
theorem dLw (d:Nat) (hp:H) (nx:Nat):dGz [.op d 0] hp nx=aK (mB hp d) fun t=>some (.i t.C.rows.length,hp,nx+50):=(rfl)
attribute [go_sem] dLw
theorem dNw:cQ Try.prog GLh 8 dGz:=by
 refine gF Try.func8 (aT rfl) ?_
 intro args hp nx r hp' nx' hg
 unfold dGz at hg
 split at hg
 ·rename_i d
  replace hg:=aJ hg;obtain⟨⟨s,m,C⟩,hD,hg⟩:=hg
  have hD:=mD hD
  simp only[Option.some.injEq,Prod.mk.injEq]at hg hD;obtain⟨rfl,rfl,rfl⟩:=hg
  refine⟨J1 rfl,by omega,fun hnone=>?_⟩
  have h1:=hD.hd;have h2:=hD.hs;have h3:=hD.hm
  refine cP rfl (bA [0] rfl rfl rfl fun K hK=>?_)
  simp(disch:=omega) only[Try.f8,go_sem,↓reduceIte]
  refine hK _ ?_
  refine aB (cP rfl (bA [2] rfl rfl rfl fun K hK=>?_))
  simp(disch:=omega) only[Try.f8,go_sem,↓reduceIte,h1]
  refine hK _ ?_
  refine aB (aS rfl ?_)
  exact⟨rfl,fun j o h=>h,by simp only;omega⟩
 cases hg
theorem ok8:bX Try.prog GLh 8 (.heap dGz):=⟨⟨_,Try.func8,rfl,rfl⟩,dNw⟩
end Go.AX

namespace Go.AX
open Go Go.Proofs
theorem dLc (b:List B8) (e:TypeId):aEk (zP b) (some (.slice e))=some (.i b.length):=(rfl)
attribute [go_sem] dLc
def uK:List (List B8)→Option Int
 |[]=>none
 |b::_=>some b.length
noncomputable def dGx:List AV→H→Nat→Option (AV×H×Nat)
 |[.op d 0],hp,nx=>aK (mB hp d) fun t=>aK (uK t.C.rows) fun n=>some (.i n,hp,nx+50)
 |_,_,_=>none
theorem dLu (d:Nat) (hp:H) (nx:Nat):dGx [.op d 0] hp nx=aK (mB hp d) fun t=>aK (uK t.C.rows) fun n=>some (.i n,hp,nx+50):=(rfl)
attribute [go_sem] dLu
theorem dNt:cQ Try.prog GLh 9 dGx:=by
 refine gF Try.func9 (aT rfl) ?_
 intro args hp nx r hp' nx' hg
 unfold dGx at hg
 split at hg
 ·rename_i d
  replace hg:=aJ hg;obtain⟨⟨s,m,C⟩,hD,hg⟩:=hg
  have hD:=mD hD
  replace hg:=aJ hg;obtain⟨n,hn,hg⟩:=hg
  simp only[Option.some.injEq,Prod.mk.injEq]at hg hD;obtain⟨rfl,rfl,rfl⟩:=hg
  refine⟨J1 rfl,by omega,fun hnone=>?_⟩
  have h1:=hD.hd;have h2:=hD.hs;have h3:=hD.hm
  obtain⟨rows,g,dirty,cut,dead⟩:=C
  cases rows with
  |nil=>cases hn
  |cons b rows=>
  obtain rfl:=J0 hn
  simp only at h1 h2 h3
  refine cP rfl (bA [0] rfl rfl rfl fun K hK=>?_)
  simp(disch:=omega) only[Try.f9,go_sem,↓reduceIte]
  refine hK _ ?_
  refine aB (cP rfl (bA [2] rfl rfl rfl fun K hK=>?_))
  simp(disch:=omega) only[Try.f9,go_sem,↓reduceIte,h1,h2,List.length_cons,List.map_cons,J9,J8,Nat.zero_add]
  refine hK _ ?_
  refine aB (aS rfl ?_)
  exact⟨rfl,fun j o h=>h,by simp only;omega⟩
 cases hg
theorem ok9:bX Try.prog GLh 9 (.heap dGx):=⟨⟨_,Try.func9,rfl,rfl⟩,dNt⟩
noncomputable def dWf:List AV→H→Nat→Option (AV×H×Nat)
 |[.op d 0],hp,nx=>aK (mB hp d) fun t=>some (.b t.C.dead,hp,nx+50)
 |_,_,_=>none
theorem dWl (d:Nat) (hp:H) (nx:Nat):dWf [.op d 0] hp nx=aK (mB hp d) fun t=>some (.b t.C.dead,hp,nx+50):=(rfl)
attribute [go_sem] dWl
theorem dWn:cQ Try.prog GLh 18 dWf:=by
 refine gF Try.func18 (aT rfl) ?_
 intro args hp nx r hp' nx' hg
 unfold dWf at hg
 split at hg
 ·rename_i d
  replace hg:=aJ hg;obtain⟨⟨s,m,C⟩,hD,hg⟩:=hg
  have hD:=mD hD
  simp only[Option.some.injEq,Prod.mk.injEq]at hg hD;obtain⟨rfl,rfl,rfl⟩:=hg
  refine⟨J1 rfl,by omega,fun hnone=>?_⟩
  have h1:=hD.hd;have h2:=hD.hs;have h3:=hD.hm
  refine cP rfl (bA [0] rfl rfl rfl fun K hK=>?_)
  simp(disch:=omega) only[Try.f18,go_sem,↓reduceIte]
  refine hK _ ?_
  refine aB (cP rfl (bA [2] rfl rfl rfl fun K hK=>?_))
  simp(disch:=omega) only[Try.f18,go_sem,↓reduceIte,h1,J7,J9,J8]
  refine hK _ ?_
  refine aB (aS rfl ?_)
  exact⟨rfl,fun j o h=>h,by simp only;omega⟩
 cases hg
theorem eBs:bX Try.prog GLh 18 (.heap dWf):=⟨⟨_,Try.func18,rfl,rfl⟩,dWn⟩
def atV (C:DC) (i:Int):Int:=if C.dead=true then 82 else if i<0∨i≥C.rows.length then 80 else 0
noncomputable def atG:List AV→H→Nat→Option (AV×H×Nat)
 |[.op d 0,.i i],hp,nx=>aK (mB hp d) fun t=>some (.i (atV t.C i),hp,nx+50)
 |_,_,_=>none
theorem dPs (d:Nat) (i:Int) (hp:H) (nx:Nat):atG [.op d 0,.i i] hp nx=aK (mB hp d) fun t=>some (.i (atV t.C i),hp,nx+50):=(rfl)
attribute [go_sem] dPs
theorem dRp:cQ Try.prog GLh 21 atG:=by
 refine gF Try.func21 (aT rfl) ?_
 intro args hp nx r hp' nx' hg
 unfold atG at hg
 split at hg
 ·rename_i d i
  replace hg:=aJ hg;obtain⟨⟨s,m,C⟩,hD,hg⟩:=hg
  have hD:=mD hD
  simp only[Option.some.injEq,Prod.mk.injEq]at hg hD;obtain⟨rfl,rfl,rfl⟩:=hg
  refine⟨J1 rfl,by omega,fun hnone=>?_⟩
  have h1:=hD.hd;have h2:=hD.hs;have h3:=hD.hm
  refine cP rfl (bA [0,1] rfl rfl rfl fun K hK=>?_)
  simp(disch:=omega) only[Try.f21,go_sem,↓reduceIte]
  refine hK _ ?_
  refine aB (cP rfl (aR 0 rfl rfl (cP rfl (bA [5,0,1] rfl rfl rfl fun K hK=>?_))))
  simp(disch:=omega) only[Try.f21,go_sem,↓reduceIte,h1,J7,J9,J8]
  refine hK _ ?_
  refine aB (eC (.tmp 5) rfl rfl rfl (fun h=>?_) (fun h=>?_))
  ·refine aI rfl ?_
   have e:atV C i=82:=J4 h
   rw[e]
   refine cP rfl (bA [4] rfl rfl rfl fun K hK=>?_)
   simp(disch:=omega) only[Try.f21,go_sem,↓reduceIte]
   refine hK _ ?_
   refine aB (aS rfl (bN (bI ?_)))
   exact⟨rfl,fun j o h=>h,by simp only;omega⟩
  refine aI rfl ?_
  by_cases hi:i<0
  ·have e:atV C i=80:=by unfold atV;rw[J3 (by simp[h]),J4 (.inl hi)]
   rw[e]
   refine cP rfl (bA [10] rfl rfl rfl fun K hK=>?_)
   simp(disch:=omega) only[Try.f21,go_sem,↓reduceIte,J5 hi]
   refine hK _ ?_
   refine aB (eC (.tmp 10) rfl rfl rfl (fun h=>?_) (fun h=>?_))
   ·refine aI rfl (cP rfl (bA [4] rfl rfl rfl fun K hK=>?_))
    simp(disch:=omega) only[Try.f21,go_sem,↓reduceIte]
    refine hK _ ?_
    refine aB (aS rfl (bN (bI ?_)))
    exact⟨rfl,fun j o h=>h,by simp only;omega⟩
   refine aI rfl ?_
   cases h
  have hd1:decide (i<0)=false:=J6 hi
  refine cP rfl (bA [10] rfl rfl rfl fun K hK=>?_)
  simp(disch:=omega) only[Try.f21,go_sem,↓reduceIte,h1,hd1]
  refine hK _ ?_
  refine aB (gP (.tmp 10) rfl rfl rfl (fun h=>?_) (fun h=>?_))
  ·refine aI rfl ?_
   have e:atV C i=80:=by unfold atV;rw[J3 (by simp_all),J4 (.inr h)]
   rw[e]
   refine cP rfl (bA [4] rfl rfl rfl fun K hK=>?_)
   simp(disch:=omega) only[Try.f21,go_sem,↓reduceIte]
   refine hK _ ?_
   refine aB (aS rfl (bN (bI ?_)))
   exact⟨rfl,fun j o h=>h,by simp only;omega⟩
  refine aI rfl ?_
  have e:atV C i=0:=by unfold atV;rw[J3 (by simp_all),J3 (fun q=>q.elim hi h)]
  rw[e]
  refine aQ rfl (bU (aB (cP rfl (bA [4] rfl rfl rfl fun K hK=>?_))))
  simp(disch:=omega) only[Try.f21,go_sem,↓reduceIte]
  refine hK _ ?_
  refine aB (aS rfl ?_)
  exact⟨rfl,fun j o h=>h,by simp only;omega⟩
 cases hg
theorem dQw:bX Try.prog GLh 21 (.heap atG):=⟨⟨_,Try.func21,rfl,rfl⟩,dRp⟩
def pwV (C:DC):Int×DC:=if C.cut=0 then(82,{C with dead:=true})else if 0<C.cut then(0,{C with cut:=W (C.cut-1)})else(0,C)
noncomputable def pwG:List AV→H→Nat→Option (AV×H×Nat)
 |[.op d 0],hp,nx=>aK (mB hp d) fun t=>some (.i (pwV t.C).1,bO d t.s t.m (pwV t.C).2 hp,nx+50)
 |_,_,_=>none
theorem dOc (d:Nat) (hp:H) (nx:Nat):pwG [.op d 0] hp nx=aK (mB hp d) fun t=>some (.i (pwV t.C).1,bO d t.s t.m (pwV t.C).2 hp,nx+50):=(rfl)
attribute [go_sem] dOc
theorem dQj:cQ Try.prog GLh 22 pwG:=by
 refine gF Try.func22 (aT rfl) ?_
 intro args hp nx r hp' nx' hg
 unfold pwG at hg
 split at hg
 ·rename_i d
  replace hg:=aJ hg;obtain⟨⟨s,m,C⟩,hD,hg⟩:=hg
  have hD:=mD hD
  simp only[Option.some.injEq,Prod.mk.injEq]at hg hD;obtain⟨rfl,rfl,rfl⟩:=hg
  refine⟨J1 rfl,by omega,fun hnone=>?_⟩
  have h1:=hD.hd;have h2:=hD.hs;have h3:=hD.hm
  obtain⟨n1,n2,n3,n4,n5,n6⟩:=hD.ne
  refine cP rfl (bA [0] rfl rfl rfl fun K hK=>?_)
  simp(disch:=omega) only[Try.f22,go_sem,↓reduceIte]
  refine hK _ ?_
  refine aB (cP rfl (cP rfl (bA [7,0] rfl rfl rfl fun K hK=>?_)))
  simp(disch:=omega) only[Try.f22,go_sem,↓reduceIte,h1,J7,J9,J8]
  refine hK _ ?_
  refine aB (gP (.tmp 7) rfl rfl rfl (fun h=>?_) (fun h=>?_))
  ·refine aI rfl ?_
   have e:pwV C=(82,{C with dead:=true}):=J4 h
   rw[e]
   refine cP rfl (bA [] rfl rfl rfl fun K hK=>?_)
   simp(disch:=omega) only[Try.f22,go_sem,↓reduceIte,h1]
   refine hK _ ?_
   refine aB (cP rfl (bA [2] rfl rfl rfl fun K hK=>?_))
   simp(disch:=omega) only[Try.f22,go_sem,↓reduceIte]
   refine hK _ ?_
   refine aB (aS rfl (bI ?_))
   refine⟨rfl,dEj (by simp[bJ]) ?_ ?_ ?_,by simp only;omega⟩
   ·simp only[bJ,J3 n4];exact h2
   ·simp only[bJ,J3 n5];exact h3
   intro k o k1 k2 k3 hk
   simp only[bJ,J3 k1];exact hk
  refine aI rfl (aQ rfl (aB (cP rfl (cP rfl (bA [15,0] rfl rfl rfl fun K hK=>?_)))))
  simp(disch:=omega) only[Try.f22,go_sem,↓reduceIte,h1,J7,J9,J8]
  refine hK _ ?_
  refine aB (gP (.tmp 15) rfl rfl rfl (fun h=>?_) (fun h=>?_))
  ·refine aI rfl ?_
   have e:pwV C=(0,{C with cut:=W (C.cut-1)}):=by unfold pwV;rw[J3 (by assumption),J4 h]
   rw[e]
   refine bA [] rfl rfl rfl fun K hK=>?_
   simp(disch:=omega) only[Try.f22,go_sem,↓reduceIte,h1,J7,J9,J8]
   refine hK _ ?_
   refine aB (cP rfl (bA [2] rfl rfl rfl fun K hK=>?_))
   simp(disch:=omega) only[Try.f22,go_sem,↓reduceIte]
   refine hK _ ?_
   refine aB (aS rfl ?_)
   refine⟨rfl,dEj (by simp[bJ]) ?_ ?_ ?_,by simp only;omega⟩
   ·simp only[bJ,J3 n4];exact h2
   ·simp only[bJ,J3 n5];exact h3
   intro k o k1 k2 k3 hk
   simp only[bJ,J3 k1];exact hk
  refine aI rfl ?_
  have e:pwV C=(0,C):=by unfold pwV;rw[J3 (by assumption),J3 h]
  rw[e]
  refine aQ rfl (aB (cP rfl (bA [2] rfl rfl rfl fun K hK=>?_)))
  simp(disch:=omega) only[Try.f22,go_sem,↓reduceIte]
  refine hK _ ?_
  refine aB (aS rfl ?_)
  refine⟨rfl,?_,by simp only;omega⟩
  rw[mC hD];exact fun j o h=>h
 cases hg
theorem cWs:bX Try.prog GLh 22 (.heap pwG):=⟨⟨_,Try.func22,rfl,rfl⟩,dQj⟩
def dRt (C:DC) (n:Int):DC:= {C with cut:=if n<0 then 0 else n}
noncomputable def bOg:List AV→H→Nat→Option (AV×H×Nat)
 |[.op d 0,.i n],hp,nx=>aK (mB hp d) fun t=>some (.tup [],bO d t.s t.m (dRt t.C n) hp,nx+50)
 |_,_,_=>none
theorem cBe (d:Nat) (n:Int) (hp:H) (nx:Nat):bOg [.op d 0,.i n] hp nx=aK (mB hp d) fun t=>some (.tup [],bO d t.s t.m (dRt t.C n) hp,nx+50):=(rfl)
attribute [go_sem] cBe
theorem cPz:cQ Try.prog GLh 16 bOg:=by
 refine gF Try.func16 (aT rfl) ?_
 intro args hp nx r hp' nx' hg
 unfold bOg at hg
 split at hg
 ·rename_i d n
  replace hg:=aJ hg;obtain⟨⟨s,m,C⟩,hD,hg⟩:=hg
  have hD:=mD hD
  simp only[Option.some.injEq,Prod.mk.injEq]at hg hD;obtain⟨rfl,rfl,rfl⟩:=hg
  refine⟨J1 rfl,by omega,fun hnone=>?_⟩
  have h1:=hD.hd;have h2:=hD.hs;have h3:=hD.hm
  obtain⟨n1,n2,n3,n4,n5,n6⟩:=hD.ne
  refine bA [] rfl rfl rfl fun K hK=>?_
  simp(disch:=omega) only[Try.f16,go_sem,↓reduceIte,h1]
  refine hK _ ?_
  refine⟨rfl,dEj (by simp[bJ,dRt]) ?_ ?_ ?_,by simp only;omega⟩
  ·simp only[bJ,J3 n4];exact h2
  ·simp only[bJ,J3 n5];exact h3
  intro k o k1 k2 k3 hk
  simp only[bJ,J3 k1];exact hk
 cases hg
theorem dUo:bX Try.prog GLh 16 (.heap bOg):=⟨⟨_,Try.func16,rfl,rfl⟩,cPz⟩
end Go.AX

namespace Go.AX
open Go Go.Proofs
theorem dFe (i:Int) (l:List (Int×List B8)):aNp (.i i) (dEz l)=some ((iK i l).map zP):=aNo (α:=Int) AV.i dNe zP i l
theorem dLd (i:Int) (b:List B8) (l:List (Int×List B8)):aEh (.i i) (zP b) (dEz l)=some (dEz (kT i b l)):=aNm (α:=Int) AV.i dNe zP i b l
theorem dIw (b:List B8):zP b=.sl b.length (c8 b):=(rfl)
def rdS (C:DC) (i:Int) (nx:Nat) (hp:H):Option (List B8)→Option (AV×H×Nat)
 |some b=>aN (0<b.length∧b.length≤1000000) (some (.tup [.os (nx+71) 0 b.length 1 true,.i 0],upd hp (nx+71) (.cells (c8 b) true),nx+100))
 |none=>aK C.rows[i.toNat]? fun b=>aN (0<b.length∧b.length≤1000000) (some (.tup [.os (nx+77) 0 b.length 1 true,.i 0],upd hp (nx+77) (.cells (c8 b) true),nx+100))
def rdE (C:DC) (i:Int) (nx:Nat) (hp:H):Int→Option (AV×H×Nat)
 |0=>rdS C i nx hp (iK i C.dirty)
 |e=>some (.tup [.v (.slice none 0 0),.i e],hp,nx+100)
noncomputable def rdG:List AV→H→Nat→Option (AV×H×Nat)
 |[.op d 0,.i i],hp,nx=>aK (mB hp d) fun t=>rdE t.C i nx hp (atV t.C i)
 |_,_,_=>none
theorem dNz (d:Nat) (i:Int) (hp:H) (nx:Nat):rdG [.op d 0,.i i] hp nx=aK (mB hp d) fun t=>rdE t.C i nx hp (atV t.C i):=(rfl)
theorem dQi (C:DC) (i:Int) (nx:Nat) (hp:H):rdE C i nx hp 0=rdS C i nx hp (iK i C.dirty):=(rfl)
theorem dQg (C:DC) (i:Int) (nx:Nat) (hp:H) (b:List B8):rdS C i nx hp (some b)=aN (0<b.length∧b.length≤1000000) (some (.tup [.os (nx+71) 0 b.length 1 true,.i 0],upd hp (nx+71) (.cells (c8 b) true),nx+100)):=(rfl)
theorem dQh (C:DC) (i:Int) (nx:Nat) (hp:H):rdS C i nx hp none=aK C.rows[i.toNat]? fun b=>aN (0<b.length∧b.length≤1000000) (some (.tup [.os (nx+77) 0 b.length 1 true,.i 0],upd hp (nx+77) (.cells (c8 b) true),nx+100)):=(rfl)
attribute [go_sem] dNz dQi dQg dQh
theorem dHs {C:DC} {i:Int} (h:atV C i=0):C.dead=false∧0≤i∧i<C.rows.length:=by
 unfold atV at h
 split at h
 ·cases h
 split at h
 ·cases h
 rename_i h1 h2
 refine⟨by simpa using h1,by omega,by omega⟩
set_option maxHeartbeats 1000000 in
theorem dQf:cQ Try.prog GLh 13 rdG:=by
 refine gF Try.func13 (aT rfl) ?_
 intro args hp nx r hp' nx' hg
 unfold rdG at hg
 split at hg
 ·rename_i d i
  replace hg:=aJ hg;obtain⟨⟨s,m,C⟩,hD0,hg⟩:=hg
  have hD:=mD hD0
  simp only[rdE]at hg hD
  have h1:=hD.hd;have h2:=hD.hs;have h3:=hD.hm
  obtain⟨n1,n2,n3,n4,n5,n6⟩:=hD.ne
  refine⟨J1 rfl,?_,fun hnone=>?_⟩
  ·split at hg
   ·unfold rdS at hg
    split at hg
    ·replace hg:=aP hg;obtain⟨_,hg⟩:=hg
     simp only[Option.some.injEq,Prod.mk.injEq]at hg;omega
    replace hg:=aJ hg;obtain⟨b,_,hg⟩:=hg
    replace hg:=aP hg;obtain⟨_,hg⟩:=hg
    simp only[Option.some.injEq,Prod.mk.injEq]at hg;omega
   simp only[Option.some.injEq,Prod.mk.injEq]at hg;omega
  have hlt: ∀k o,hp k=some o→k<nx:=fun k o hk=>cA hnone hk
  refine cP rfl (bA [0,1] rfl rfl rfl fun K hK=>?_)
  simp(disch:=omega) only[Try.f13,go_sem,↓reduceIte]
  refine hK _ ?_
  refine aB (cP rfl (cP rfl (aC (Γ:=bC [(21,.heap atG)]) [0,1,6] (aH dQw aO) rfl rfl rfl (fun K hK=>?_))))
  simp(disch:=omega) only[Try.f13,go_sem,↓reduceIte,hD0]
  refine hK _ ?_
  refine aB (cP rfl (bA [13,0,1,6] rfl rfl rfl fun K hK=>?_))
  simp(disch:=omega) only[Try.f13,go_sem,↓reduceIte]
  refine hK _ ?_
  refine aB (xF (.tmp 13) rfl rfl rfl (fun h=>?_) (fun h=>?_))
  ·refine aI rfl ?_
   split at hg
   ·rename_i h0
    exact absurd h0 h
   simp only[Option.some.injEq,Prod.mk.injEq]at hg;obtain⟨rfl,rfl,rfl⟩:=hg
   refine cP rfl (bA [4,5] rfl rfl rfl fun K hK=>?_)
   simp(disch:=omega) only[Try.f13,go_sem,↓reduceIte]
   refine hK _ ?_
   refine aB (aS rfl (bI ?_))
   exact⟨rfl,fun j o h=>h,by simp only;omega⟩
  refine aI rfl ?_
  have h0:atV C i=0:=h
  rw[h0]at hg
  simp only at hg
  obtain⟨_,hi1,hi2⟩:=dHs h0
  obtain⟨gk,hgk⟩: ∃gk,iK i C.dirty=gk:=⟨_,rfl⟩
  rw[hgk]at hg
  refine aQ rfl (aB (cP rfl (cP rfl ?_)))
  cases gk
  ·simp only[rdS]at hg
   replace hg:=aJ hg;obtain⟨b,hb,hg⟩:=hg
   replace hg:=aP hg;obtain⟨⟨hb0,hb1⟩,hg⟩:=hg
   simp only[Option.some.injEq,Prod.mk.injEq]at hg;obtain⟨rfl,rfl,rfl⟩:=hg
   refine bA [0,1,7,8] rfl rfl rfl fun K hK=>?_
   simp(disch:=omega) only[Try.f13,go_sem,↓reduceIte,h1,h3,J7,J9,J8,dFe,hgk,Option.map_none]
   refine hK _ ?_
   refine aB (cP rfl (bA [24,0,1,7] rfl rfl rfl fun K hK=>?_))
   simp(disch:=omega) only[Try.f13,go_sem,↓reduceIte]
   refine hK _ ?_
   refine aB (eC (.tmp 24) rfl rfl rfl (fun h=>?_) (fun h=>?_))
   ·refine aI rfl ?_
    cases h
   refine aI rfl (aQ rfl (aB (cP rfl ?_)))
   have e1:((C.rows.map zP).drop i.toNat).head? =some (zP b):=by rw[List.head?_drop,List.getElem?_map,hb];rfl
   refine aC (Γ:=bC [(23,.fresh true dDv)]) [4,5] (aH cWr aO) rfl rfl rfl (fun K hK=>?_)
   simp(disch:=omega) only[Try.f13,go_sem,↓reduceIte,h1,h2,J9,J8,e1,dIw,dEw b _ rfl ⟨hb0,hb1⟩,Nat.zero_add,Nat.mul_one]
   refine hK _ ?_
   refine aB (aS rfl ?_)
   refine⟨rfl,fun j o h=>h,by simp only;omega⟩
  rename_i b
  simp only[rdS]at hg
  replace hg:=aP hg;obtain⟨⟨hb0,hb1⟩,hg⟩:=hg
  simp only[Option.some.injEq,Prod.mk.injEq]at hg;obtain⟨rfl,rfl,rfl⟩:=hg
  refine bA [0,1,7,8] rfl rfl rfl fun K hK=>?_
  simp(disch:=omega) only[Try.f13,go_sem,↓reduceIte,h1,h3,J7,J9,J8,dFe,hgk,Option.map_some]
  refine hK _ ?_
  refine aB (cP rfl (bA [24,0,1,7] rfl rfl rfl fun K hK=>?_))
  simp(disch:=omega) only[Try.f13,go_sem,↓reduceIte]
  refine hK _ ?_
  refine aB (eC (.tmp 24) rfl rfl rfl (fun h=>?_) (fun h=>?_))
  ·refine aI rfl (cP rfl (aC (Γ:=bC [(23,.fresh true dDv)]) [4,5] (aH cWr aO) rfl rfl rfl (fun K hK=>?_)))
   simp(disch:=omega) only[Try.f13,go_sem,↓reduceIte,dIw,dEw b _ rfl ⟨hb0,hb1⟩]
   refine hK _ ?_
   refine aB (aS rfl (bI ?_))
   refine⟨rfl,fun j o h=>h,by simp only;omega⟩
  refine aI rfl ?_
  cases h
 cases hg
theorem dQy:bX Try.prog GLh 13 (.heap rdG):=⟨⟨_,Try.func13,rfl,rfl⟩,dQf⟩
end Go.AX

namespace Go.AX
open Go Go.Proofs
theorem dJr (i:Int) (b:List B8) (l:List (Int×List B8)):aEh (.i i) (.sl b.length (c8 b)) (dEz l)=some (dEz (kT i b l)):=dLd i b l
def xBo (off n:Nat):AO→Option (List B8)
 | .cells ys _=>aK (cI ys) fun l=>aN (off+n≤l.length) (some ((l.drop off).take n))
 |_=>none
def xB (hp:H):AV→Option (List B8)
 | .sl n xs=>aK (cI xs) fun b=>aN (b.length=n) (some b)
 | .os i off n e _=>aN (e=1) (aK (hp i) (xBo off n))
 |_=>none
theorem eBz (hp:H) (n:Nat) (xs:List AV):xB hp (.sl n xs)=aK (cI xs) fun b=>aN (b.length=n) (some b):=(rfl)
theorem dPw (hp:H) (i off n e:Nat) (g:Bool):xB hp (.os i off n e g)=aN (e=1) (aK (hp i) (xBo off n)):=(rfl)
theorem dPv (off n:Nat) (ys:List AV) (mt:Bool):xBo off n (.cells ys mt)=aK (cI ys) fun l=>aN (off+n≤l.length) (some ((l.drop off).take n)):=(rfl)
attribute [go_sem] eBz dPw dPv iA
structure XBok (hp:H) (x:AV) (b:List B8) (nx d s m:Nat) (C:DC):Prop where
 len: ∀e,aEk x (some (.slice e))=some (.i b.length)
 imm: ∀(C':DC) (mm n2 k:Nat),mm≠1→nx≤n2→cO 4 (mY mm n2 k (bO d s m C' hp)) x=some (.sl b.length (c8 b))
theorem dPx {hp:H} {x:AV} {b:List B8} {nx d s m:Nat} {C:DC} (h:xB hp x=some b) (hD:aZo hp d s m C) (hn: ∀id,nx≤id→hp id=none) {n:Int} (hr:uK C.rows=some n):XBok hp x b nx d s m C:=by
 unfold xB at h
 split at h
 ·rename_i n xs
  replace h:=aJ h;obtain⟨l,hl,h⟩:=h
  replace h:=aP h;obtain⟨hn,h⟩:=h
  obtain rfl:=J0 h
  have:=bW hl
  change xs=c8 l at this
  subst this;subst hn
  exact⟨fun e=>rfl,fun C' mm n2 k _ _=>rfl⟩
 ·rename_i i off n e g
  replace h:=aP h;obtain⟨rfl,h⟩:=h
  replace h:=aJ h;obtain⟨o,ho,h⟩:=h
  cases o with
  |mapo es mt=>cases h
  |cells ys mt=>
   simp only[xBo]at h
   replace h:=aJ h;obtain⟨l,hl,h⟩:=h
   replace h:=aP h;obtain⟨hfit,h⟩:=h
   obtain rfl:=J0 h
   have hys:=bW hl
   change ys=c8 l at hys
   subst hys
   have hi:i<nx:=cA hn ho
   have hlen:((l.drop off).take n).length=n:=by simp;omega
   have i1:i≠d:=by
    intro e;subst e
    have:=ho.symm.trans hD.hd
    have:=(AO.cells.inj (J0 this)).1
    cases l with
    |nil=>cases this
    |cons a r=>cases (List.cons.inj this).1
   have i2:i≠s:=by
    intro e;subst e
    have:=ho.symm.trans hD.hs
    have:=(AO.cells.inj (J0 this)).1
    obtain⟨rows,g,dirty,cut,dead⟩:=C
    cases rows with
    |nil=>cases hr
    |cons b rows=>
     cases l with
     |nil=>cases this
     |cons a r=>cases (List.cons.inj this).1
   have i3:i≠m:=by
    intro e;subst e
    have:=ho.symm.trans hD.hm
    cases this
   refine⟨fun e=>by rw[hlen];rfl,fun C' mm n2 k hm hn2=>?_⟩
   have h5:mY mm n2 k (bO d s m C' hp) i=some (.cells (c8 l) mt):=by
    rw[←ho,←mH hp d s m C' i i1 i2 i3]
    rcases Nat.lt_or_ge mm 2 with h6|h6
    ·obtain rfl:mm=0:=by omega
     rfl
    exact bZs mm n2 k i _ h6 (by omega)
   rw[cNm,h5,aX,cYo]
   rw[cU _ (by rw[hT];omega),tP,Nat.mul_one,rH,lE,J4 (fQ _),aX,hlen]
 cases h
def wrV (C:DC) (i:Int) (b:List B8) (n:Int):Int×DC:=
 if atV C i=0 then(if(b.length:Int)=n then(if(pwV C).1=0 then(0,{(pwV C).2 with dirty:=kT i b (pwV C).2.dirty})else pwV C)else(81,C))else(atV C i,C)
noncomputable def wrG:List AV→H→Nat→Option (AV×H×Nat)
 |[.op d 0,.i i,x],hp,nx=>aK (mB hp d) fun t=>aK (xB hp x) fun b=>aK (uK t.C.rows) fun n=>aN (0<n∧n≤1000000) (some (.i (wrV t.C i b n).1,bO d t.s t.m (wrV t.C i b n).2 hp,nx+400))
 |_,_,_=>none
theorem dNi (d:Nat) (i:Int) (x:AV) (hp:H) (nx:Nat):wrG [.op d 0,.i i,x] hp nx=aK (mB hp d) fun t=>aK (xB hp x) fun b=>aK (uK t.C.rows) fun n=>aN (0<n∧n≤1000000) (some (.i (wrV t.C i b n).1,bO d t.s t.m (wrV t.C i b n).2 hp,nx+400)):=(rfl)
attribute [go_sem] dNi
set_option maxHeartbeats 1000000 in
theorem dPy:cQ Try.prog GLh 10 wrG:=by
 refine gF Try.func10 (aT rfl) ?_
 intro args hp nx r hp' nx' hg
 unfold wrG at hg
 split at hg
 ·rename_i d i x
  replace hg:=aJ hg;obtain⟨⟨s,m,C⟩,hD0,hg⟩:=hg
  have hD:=mD hD0
  replace hg:=aJ hg;obtain⟨b,hb,hg⟩:=hg
  replace hg:=aJ hg;obtain⟨n,hn,hg⟩:=hg
  replace hg:=aP hg;obtain⟨⟨hn0,hn1⟩,hg⟩:=hg
  simp only[Option.some.injEq,Prod.mk.injEq]at hg hD hn;obtain⟨rfl,rfl,rfl⟩:=hg
  refine⟨J1 rfl,by omega,fun hnone=>?_⟩
  have h1:=hD.hd;have h2:=hD.hs;have h3:=hD.hm
  obtain⟨n1,n2,n3,n4,n5,n6⟩:=hD.ne
  have hlt: ∀k o,hp k=some o→k<nx:=fun k o hk=>cA hnone hk
  have hd:=hlt _ _ h1
  have hs:=hlt _ _ h2
  have hm:=hlt _ _ h3
  obtain⟨x1,x2⟩:=dPx hb hD hnone hn
  refine cP rfl (bA [0,1,2] rfl rfl rfl fun K hK=>?_)
  simp(disch:=omega) only[Try.f10,go_sem,↓reduceIte]
  refine hK _ ?_
  refine aB (cP rfl (cP rfl (aC (Γ:=bC [(21,.heap atG)]) [0,1,2,7] (aH dQw aO) rfl rfl rfl (fun K hK=>?_))))
  simp(disch:=omega) only[Try.f10,go_sem,↓reduceIte,hD0]
  refine hK _ ?_
  refine aB (cP rfl (bA [13,0,1,2,7] rfl rfl rfl fun K hK=>?_))
  simp(disch:=omega) only[Try.f10,go_sem,↓reduceIte]
  refine hK _ ?_
  refine aB (xF (.tmp 13) rfl rfl rfl (fun h=>?_) (fun h=>?_))
  ·refine aI rfl ?_
   have e:wrV C i b n=(atV C i,C):=J3 h
   rw[e]
   refine cP rfl (bA [6] rfl rfl rfl fun K hK=>?_)
   simp(disch:=omega) only[Try.f10,go_sem,↓reduceIte]
   refine hK _ ?_
   refine aB (aS rfl (bI ?_))
   refine⟨rfl,?_,by simp only;omega⟩
   rw[mC hD];exact fun j o h=>h
  refine aI rfl ?_
  have h0:=h
  refine aQ rfl (aB (cP rfl (cP rfl (aC (Γ:=bC [(9,.heap dGx)]) [19,0,1,2] (aH ok9 aO) rfl rfl rfl (fun K hK=>?_)))))
  simp(disch:=omega) only[Try.f10,go_sem,↓reduceIte,hD0,x1,hn]
  refine hK _ ?_
  refine aB (xF (.tmp 19) rfl rfl rfl (fun h=>?_) (fun h=>?_))
  ·refine aI rfl ?_
   have e:wrV C i b n=(81,C):=by unfold wrV;rw[J4 h0,J3 h]
   rw[e]
   refine cP rfl (bA [6] rfl rfl rfl fun K hK=>?_)
   simp(disch:=omega) only[Try.f10,go_sem,↓reduceIte]
   refine hK _ ?_
   refine aB (aS rfl (bI ?_))
   refine⟨rfl,?_,by simp only;omega⟩
   rw[mC hD];exact fun j o h=>h
  refine aI rfl ?_
  have h4:=h
  refine aQ rfl (aB (cP rfl (cP rfl (aC (Γ:=bC [(22,.heap pwG)]) [0,1,2,8] (aH cWs aO) rfl rfl rfl (fun K hK=>?_)))))
  simp(disch:=omega) only[Try.f10,go_sem,↓reduceIte,hD0]
  refine hK _ ?_
  refine aB (cP rfl (bA [23,0,1,2,8] rfl rfl rfl fun K hK=>?_))
  simp(disch:=omega) only[Try.f10,go_sem,↓reduceIte]
  refine hK _ ?_
  refine aB (xF (.tmp 23) rfl rfl rfl (fun h=>?_) (fun h=>?_))
  ·refine aI rfl ?_
   have e:wrV C i b n=pwV C:=by unfold wrV;rw[J4 h0,J4 h4,J3 h]
   rw[e]
   refine cP rfl (bA [6] rfl rfl rfl fun K hK=>?_)
   simp(disch:=omega) only[Try.f10,go_sem,↓reduceIte]
   refine hK _ ?_
   refine aB (aS rfl (bI ?_))
   exact⟨rfl,fun j o h=>h,by simp only;omega⟩
  refine aI rfl ?_
  have e:wrV C i b n=(0,{(pwV C).2 with dirty:=kT i b (pwV C).2.dirty}):=by unfold wrV;rw[J4 h0,J4 h4,J4 h]
  rw[e]
  have e3:(c8 b).take b.length=c8 b:=List.take_of_length_le (by rw[hT];exact U3 _)
  generalize (pwV C).2=C2
  refine aQ rfl (aB (cP rfl (bB (Γ:=bC [(23,.fresh true dDv)]) (fun _=>2) [] mixed (aH cWr aO) rfl rfl rfl (by kernel_rfl) (fun K hK=>?_))))
  simp(disch:=omega) only[Try.f10,go_sem,↓reduceIte,J7,J9,J8,x2,dEw b _ rfl (by omega),dJr,Nat.mul_one,Nat.zero_add,e3,hT]
  refine hK _ ?_
  refine aB (cP rfl (bA [6] rfl rfl rfl fun K hK=>?_))
  simp(disch:=omega) only[Try.f10,go_sem,↓reduceIte]
  refine hK _ ?_
  refine aB (aS rfl ?_)
  refine⟨rfl,eL fun j o hj=>?_,by simp only;omega⟩
  have:=hlt j o hj
  simp(disch:=omega) only[bJ,J3]
  exact hj
 cases hg
theorem dRa:bX Try.prog GLh 10 (.heap wrG):=⟨⟨_,Try.func10,rfl,rfl⟩,dPy⟩
end Go.AX

namespace Go.AX
open Go Go.Proofs
theorem dKc (n:Nat):rep n [.w8 0#8]=c8 (List.replicate n 0#8):=by
 induction n with
 |zero=>rfl
 |succ n ih=>unfold rep at ih⊢;rw[List.replicate_succ,List.flatten_cons,ih];rfl
def dGw (z:Int):List B8:=List.replicate (wit z 64 4096).toNat 0#8
theorem dJu (x:Int) (lo hi:Int) (h:lo≤hi):lo≤wit x lo hi∧wit x lo hi≤hi:=by
 unfold wit;split<;>split<;>omega
def nwC (n z:Int):DC:=⟨List.replicate (wit n 1 4096).toNat (dGw z),true,[],-1,false⟩
def bKg:List AV→H→Nat→Option (AV×H×Nat)
 |[.i n,.i z],hp,nx=>some (.op (nx+3) 0,bO (nx+3) (nx+16*(wit n 1 4096).toNat+3) (nx+1) (nwC n z) hp,nx+16*(wit n 1 4096).toNat+50)
 |_,_,_=>none
theorem bWx (n z:Int) (hp:H) (nx:Nat):bKg [.i n,.i z] hp nx=some (.op (nx+3) 0,bO (nx+3) (nx+16*(wit n 1 4096).toNat+3) (nx+1) (nwC n z) hp,nx+16*(wit n 1 4096).toNat+50):=(rfl)
attribute [go_sem] bWx
def dFs (nx k:Nat):Nat:=match k with|0=>nx+8|k+1=>nx+16*k+19
def kC (z:Int) (k:Nat):DC:=⟨List.replicate k (dGw z),true,[],-1,false⟩
theorem dIk (z:Int) (k:Nat):(kC z k).rows=List.replicate k (dGw z):=(rfl)
theorem kC_g (z:Int) (k:Nat):(kC z k).g=true:=(rfl)
theorem dIh (nx k:Nat):nx+8≤dFs nx k∧dFs nx k<nx+9+16*k:=by
 unfold dFs;split<;>omega
set_option maxHeartbeats 1000000 in
theorem cLn:cQ Try.prog GLh 7 bKg:=by
 refine gF Try.func7 (aT rfl) ?_
 intro args hp nx r hp' nx' hg
 unfold bKg at hg
 split at hg
 ·rename_i n z
  simp only[Option.some.injEq,Prod.mk.injEq]at hg;obtain⟨rfl,rfl,rfl⟩:=hg
  refine⟨J1 rfl,by omega,fun hnone=>?_⟩
  have hlt: ∀k o,hp k=some o→k<nx:=fun k o hk=>cA hnone hk
  obtain⟨w1,w2⟩:=dJu n 1 4096 (by omega)
  obtain⟨w3,w4⟩:=dJu z 64 4096 (by omega)
  obtain⟨N,hN⟩: ∃N:Nat,wit n 1 4096=N:=⟨(wit n 1 4096).toNat,by omega⟩
  obtain⟨Z,hZ⟩: ∃Z:Nat,wit z 64 4096=Z:=⟨(wit z 64 4096).toNat,by omega⟩
  have hz:dGw z=List.replicate Z 0#8:=by unfold dGw;rw[hZ,U2]
  have hzl:(dGw z).length=Z:=by rw[hz,List.length_replicate]
  unfold nwC
  rw[hN,U2]
  rw[hN]at w1 w2
  rw[hZ]at w3 w4
  refine cP rfl (bA [0,1] rfl rfl rfl fun K hK=>?_)
  simp(disch:=omega) only[Try.f7,go_sem,↓reduceIte]
  refine hK _ ?_
  refine aB (cP rfl (bA [0,1,5] rfl rfl rfl fun K hK=>?_))
  simp(disch:=omega) only[Try.f7,go_sem,↓reduceIte]
  refine hK _ ?_
  refine aB (cP rfl (cP rfl (aC (Γ:=bC [(20,.pure true dJc)]) [1,5,10,11] (aH dQx aO) rfl rfl rfl (fun K hK=>?_))))
  simp(disch:=omega) only[Try.f7,go_sem,↓reduceIte,hN]
  refine hK _ ?_
  refine aB ?_
  refine aDn (nx+3) 1 [] [.mp (nx+1),.i (-1),.b false] true (by simp(disch:=omega) only[aV,↓reduceIte,eq_self];rfl) (by omega) ?_
  refine aR 0 rfl rfl (bR (fun k:Nat=> {fr:=[(1,.i z),(5,.op (nx+3) 0),(10,.i N),(11,.i k)],hp:=bO (nx+3) (dFs nx k) (nx+1) (kC z k) hp,nx:=0,cx:=nx+9+16*k}) (fun k=>k≤N) (fun k=>N-k) rfl ?_ ?_)
  rotate_left
  rintro k hk n0
  simp only at hk⊢
  refine cP rfl (bA [12,1,5,10,11] rfl rfl rfl fun K hK=>?_)
  simp(disch:=omega) only[Try.f7,go_sem,↓reduceIte]
  refine hK _ ?_
  refine aB (cP rfl (gP (.tmp 12) rfl rfl rfl (fun h=>?_) (fun h=>?_)))
  ·refine aI rfl ?_
   obtain⟨hs1,hs2⟩:=dIh nx k
   refine aQ rfl (aB (cP rfl (aR 1 rfl rfl (bB (Γ:=bC [(20,.pure true dJc)]) (fun k=>if k=9 then 770 else 2) [1,5,10,11] mixed (aH dQx aO) rfl rfl rfl (by kernel_rfl) (fun K hK=>?_)))))
   simp(disch:=omega) only[Try.f7,go_sem,↓reduceIte,dKc,hZ,U2,J9,J8,dIk,kC_g,List.length_replicate,hT,Nat.mul_one,Nat.zero_add,List.length_map,List.take_replicate,Nat.min_self,bFz]
   refine hK _ ?_
   refine bU (aB (bA [1,5,10,11] rfl rfl rfl fun K hK=>?_))
   simp(disch:=omega) only[Try.f7,go_sem,↓reduceIte]
   refine hK _ ?_
   refine bT ?_
   have e5:nx+9+16*k+1+9=dFs nx (k+1):=by simp only[dFs];omega
   have hs3:=(dIh nx (k+1)).1
   rw[e5]
   refine⟨k+1,by omega,by omega,⟨fun _=> .inr ?_,fun j o hj=>dEj (C:=kC z (k+1)) (s:=dFs nx (k+1)) ?_ ?_ ?_ ?_ j o hj,by simp only;omega⟩⟩
   ·simp only[Int.natCast_add,Int.natCast_one]
   ·simp[bJ,kC]
   ·simp only[]
    rw[bJ,J3 (by omega),bJ,J4 rfl,dIk,List.replicate_succ',List.map_append,List.map_singleton,zP,hzl,hz]
   ·simp only[]
    rw[bJ,J3 (by omega),bJ,J3 (by omega),eV,J3 (by omega),dKa _ _ _ _ _ (by omega)];rfl
   intro j o j1 j2 j3 hj
   have:=hlt j o hj
   simp only[bJ,eV]
   rw[J3 (by omega),J3 (by omega),J3 (by omega),mH _ _ _ _ _ _ (by omega) (by omega) (by omega)]
   simp only[bJ]
   rw[J3 (by omega),J3 (by omega),J3 (by omega)];exact hj
  ·refine aI rfl (bF 0 rfl rfl (aY (aZ (bE (aB (cP rfl ?_))))))
   obtain rfl:k=N:=by omega
   refine bA [4] rfl rfl rfl fun K hK=>?_
   simp(disch:=omega) only[Try.f7,go_sem,↓reduceIte]
   refine hK _ ?_
   refine aB (aS rfl ?_)
   refine⟨rfl,?_,by simp only;omega⟩
   have e6:nx+16*k+3=dFs nx k:=by
    cases k with
    |zero=>omega
    |succ k=>simp only[dFs];omega
   rw[e6]
   exact fun j o h=>h
  refine⟨0,Nat.zero_le _,⟨fun _=> .inr rfl,fun j o hj=>?_,by simp only;omega⟩⟩
  refine dEj (C:=kC z 0) (s:=dFs nx 0) ?_ ?_ ?_ ?_ j o hj
  ·simp only[bJ,if_true];rfl
  ·simp[bJ,dFs,kC]
  ·simp only[bJ];rw[J3 (by omega),J3 (by omega),J3 (by omega),if_true];rfl
  intro k o k1 k2 k3 hk
  have:=hlt k o hk
  simp only[bJ]
  rw[J3 (by omega),J3 (by omega),J3 (by omega),J3 (by omega)];exact hk
 cases hg
theorem ok7:bX Try.prog GLh 7 (.heap bKg):=⟨⟨_,Try.func7,rfl,rfl⟩,cLn⟩
end Go.AX

namespace Go.Proofs
open Go.RowKit Go.Maps Go.Sort Go.Shelf
shelf_lay_g SlLaysZI.n7 Ggz 7 at Try 30 as Try.keysA
shelf_lay_g SlLaysZI.n6 Ggz 6 at Try 29 as Try.sortedA
shelf_lay_g SlLaysM.n5 Slgm 5 at Try 33 as Try.sortA
theorem dNr (m:Nat):AnyZI.SortsIn Try.prog Try.sortedA_ren Fence.wide m:=
 ⟨fun blk off cap ss W hH hblk hsz=>callsIn_wide.2 (AnyM.slices_Sort_int Try.sortA blk off cap ss W hH hblk hsz),
 fun p cap W=>callsIn_wide.2 (AnyM.slices_Sort_int_none Try.sortA p cap W)⟩
variable {P : Program} {ρ : Ren}
set_option maxRecDepth 100000 in
set_option maxHeartbeats 1000000 in
theorem dJk (L:SlLaysZI.n10 P ρ) {H:Type} (F:Fence) (n:Nat) (h10:F.fn (ρ.f 10)) (hro:F.round=none) (hn:1≤n) (l Bm ob b nn:Nat) (D0:DataW H) {R:Value→Option (DataW H×List MemPlace)} (J:List Int→World→Prop)
  (hY: ∀pre x W,J pre W→pre.length<Maps.size D0→YieldAt F (n-1) P l #[encZ x] W fun e W'=>e=.returned (.bool true)∧J (pre++[x]) W'∧KeepsWalks W W')
  (W:World) (hJ:AbidesFrom W.heap.size J) (hm:W.cell? ⟨Bm,ob,none⟩=some (.map (some b))) (hown:W.ownsMap P (ρ.t 26) R b nn D0) (h0:J [] W):
  CallsIn F n P (ρ.f 10) #[.func (.yield l) #[] #[],.pointer (some ⟨Bm,ob,none⟩)] W fun e W'=>(∃v,e=.returned v)∧∃ss:List Int,ss.Perm (intKeys D0)∧J ss W':=by
 have mixed:=L.mixed;have t0:=L.t0;have a0:=L.a0;have z0:=L.z0;have v0:=L.v0;have t4:=L.t4;have a4:=L.a4;have z4:=L.z4;have v4:=L.v4;have t23:=L.t23;have a23:=L.a23;have z23:=L.z23;have v23:=L.v23;have t26:=L.t26;have a26:=L.a26;have z26:=L.z26;have v26:=L.v26;have t33:=L.t33;have a33:=L.a33;have z33:=L.z33;have v33:=L.v33
 have u0:=run_underlying L.t0;have u4:=run_underlying L.t4;have u23:=run_underlying L.t23;have u26:=run_underlying L.t26;have u33:=run_underlying L.t33
 obtain⟨_,_,FG⟩:=L.f10
 refine callsIn_of_wp FG rfl h10 ?_ hro
 simp only[SlBodyZ.n10_ntmps ρ,List.size_toArray,List.length_cons,List.length_nil,Nat.reduceAdd,Nat.reduceSub,Array.replicate_succ,Array.replicate_zero,List.push_toArray,List.append_toArray,List.nil_append,List.cons_append]
 gi_wp2_with (first
  |(gi_at_range;refine wpListIn_range_own _ rfl _ (ρ.t 23) rfl (ρ.t 26) (ρ.t 3) (int_keyed L.t26) L.t23 _ b nn _ rfl hown ?_;intro w0 hrg0 hg0 hs0)
  |gi_in)
 go_frame
 gi_loopw [3] (fun _ wr=> ∃(left:Lit→Bool) (cnt:Nat) (ss:List Int),wr.ranges P (ρ.t 26) R b W.heap.size nn D0 left cnt∧ss.length+cnt≤Maps.size D0∧CollectedI D0 left ss∧J ss wr)
  (fun _ wr=>wr.rangeLeft b W.heap.size)
 case atStart=>
  exact⟨_,_,[],hrg0,by simp,CollectedI.start D0,hJ [] W w0 none h0 hg0 (fun r e=>by cases e)⟩
 case round=>
  obtain⟨left,cnt,ss,hrg,hcs,hC,hJs⟩:=hrel
  gi_wp2_with (first
   |(gi_at_next;refine wpListIn_next_ranges _ rfl _ rfl (ρ.t 26) (int_keyed L.t26) R encZ id (fun key kl hk=>by obtain⟨x,hx,_⟩:=Maps.keyOf_i64 L.t26 hk;exact⟨x,hx⟩) (fun v _ _=>⟨v,rfl⟩) b W.heap.size nn _ _ _ rfl hrg ?_ ?_)
   |gi_in)
  ·intro hc0 hl0
   gi_wp2
   go_end0
   exact⟨⟨_,rfl⟩,ss,hC.perm hown (int_keyed L.t26) L.t26 hl0,hJs⟩
  ·intro x c kl yd yp w2 cnt2 hkey hlk hv hat hrg2 hlt hg2 hs2 hen
   obtain⟨x',ex,rfl,_⟩:=Maps.keyOf_i64 L.t26 hkey
   obtain rfl:x=x':=encZ_inj ex
   have hJ2:J ss w2:=hJ ss wr w2 (some W.heap.size) hJs hg2 (fun r e=>by cases e;exact⟨Nat.le_refl _,hrg.iter_walk⟩)
   obtain⟨fn,tmps,assign,body,hy,hR⟩:=hY ss x w2 hJ2 (by omega)
   clear hs2
   gi_wp2
   refine hR.mono ?_
   rintro e W3 ⟨rfl,hJ3,hk3⟩
   gi_wp2
   have hrg3:=hrg2.of_walks hk3
   go_roundw
   case rel=>exact⟨_,cnt2,ss++[x],hrg3,by simp;omega,hC.step hlk hat,hJ3⟩
   case measure=>rw[hrg3.left_eq,hrg.left_eq];exact hlt
theorem dHg (L:SlLaysZI.n10 P ρ) {H:Type} (F:Fence) (n:Nat) (h10:F.fn (ρ.f 10)) (hro:F.round=none) (hn:1≤n) (Bm ob b nn:Nat) (D0:DataW H) {R:Value→Option (DataW H×List MemPlace)} (w:World) (hBm:Bm<w.heap.size)
  (hm:w.cell? ⟨Bm,ob,none⟩=some (.map (some b))) (hown:w.ownsMap P (ρ.t 26) R b nn D0):
  SeqGives F n P (ρ.f 10) #[.pointer (some ⟨Bm,ob,none⟩)] encZ (fun ss=>ss.Perm (intKeys D0)) (Maps.size D0) w:=fun l J W hW hJ hY h0=>by
 have hown':W.ownsMap P (ρ.t 26) R b nn D0:=by
  have hbl:=hown.lt
  obtain⟨es,clock,hb,Ft,hs,hD⟩:=hown
  exact⟨es,clock,(hW.block b hbl).trans hb,Ft,hs,hD⟩
 exact dJk {L with} F n h10 hro hn l Bm ob b nn D0 J hY W hJ ((hW.cell (p:=⟨Bm,ob,none⟩) hBm).trans hm) hown' h0
set_option maxHeartbeats 1000000 in
theorem dGk {H:Type} (Bm ob b nn:Nat) (D0:DataW H) (R:Value→Option (DataW H×List MemPlace)) (w:World) (hBm:Bm<w.heap.size) (hm:w.cell? ⟨Bm,ob,none⟩=some (.map (some b))) (hown:w.ownsMap Try.prog 3 R b nn D0) (hmax:Maps.size D0≤maxLen) (hbytes:Maps.size D0*8≤140737488355328):
  Calls Try.prog 29 #[.func (.func 34) #[] #[.pointer (some ⟨Bm,ob,none⟩)]] w fun e w'=> ∃(v:Value) (ss:List Int),e=.returned v∧ss.Perm (intKeys D0)∧
   w'.ownsRow w.heap.size 3 1 v ss.length ((ss.mergeSort (fun x y=>decide (x≤y))).map encZ)∧(v=.slice none 0 0↔ss=[])∧Below w.heap.size w w':=by
 refine(callsIn_wide (n:=5)).1 ?_
 have hseq:SeqGives Fence.wide 2 Try.prog 34 #[.pointer (some ⟨Bm,ob,none⟩)] encZ (fun ss=>ss.Perm (intKeys D0)) (Maps.size D0) w:=
  dHg (ρ:=Try.keysA_ren) {Try.keysA with} Fence.wide _ trivial rfl (by omega) Bm ob b nn D0 w hBm hm hown
 exact AnyZI.sorted_in Try.sortedA Fence.wide 5 trivial trivial trivial trivial rfl (by omega) (dNr _) (enters_of Try.func33 (by kernel_rfl) rfl) 34 #[.pointer (some ⟨Bm,ob,none⟩)] trivial (enters_of Try.func34 (by kernel_rfl) rfl) _ _ hmax hbytes _ hseq
end Go.Proofs

namespace Go.AX
open Go Go.Proofs
open Go.WideElems (Fit rd rg)
def dJl:List AV→H→Nat→Option (AV×H×Nat)
 |[.mp m],hp,nx=>some (.fn 34 [.op nx 0],upd hp nx (.cells [.mp m] true),nx+10)
 |_,_,_=>none
theorem dMd (m:Nat) (hp:H) (nx:Nat):dJl [.mp m] hp nx=some (.fn 34 [.op nx 0],upd hp nx (.cells [.mp m] true),nx+10):=(rfl)
attribute [go_sem] dMd
theorem dOn:cQ Try.prog GLh 30 dJl:=by
 refine gF Try.func30 (aT rfl) ?_
 intro args hp nx r hp' nx' hg
 unfold dJl at hg
 split at hg
 ·rename_i m
  simp only[Option.some.injEq,Prod.mk.injEq]at hg;obtain⟨rfl,rfl,rfl⟩:=hg
  refine⟨J1 rfl,by omega,fun hnone=>?_⟩
  refine cP rfl (bA [1] rfl rfl rfl fun K hK=>?_)
  simp(disch:=omega) only[Try.f30,go_sem,↓reduceIte]
  refine hK _ ?_
  refine aB (cP rfl (bA [2] rfl rfl rfl fun K hK=>?_))
  simp(disch:=omega) only[Try.f30,go_sem,↓reduceIte]
  refine hK _ ?_
  refine aB (aS rfl ?_)
  exact⟨rfl,fun j o h=>h,by simp only;omega⟩
 cases hg
theorem dQu:bX Try.prog GLh 30 (.heap dJl):=⟨⟨_,Try.func30,rfl,rfl⟩,dOn⟩
def dFl:List (AV×AV)→Option (List Int)
 |[]=>some []
 |p::r=>match p.1 with
  | .i k=>aK (dFl r) fun l=>some (k::l)
  |_=>none
theorem dMc (l:List (Int×List B8)):dFl (dEz l)=some (l.map (·.1)):=by
 induction l with
 |nil=>rfl
 |cons p r ih=>simp only[dEz,List.map_cons,dFl]at ih⊢;rw[ih];rfl
theorem dGh: ∀ {es:List (AV×AV)} {ks:List Int},dFl es=some ks→ks.length=es.length∧∀i (h:i<es.length),es[i].1=.i (ks.getD i 0)
 |[],ks,h=>by obtain rfl:=J0 h;exact⟨rfl,fun i h=>by simp at h⟩
 |p::r,ks,h=>by
  simp only[dFl]at h
  split at h
  ·rename_i k e
   replace h:=aJ h;obtain⟨l,hl,h⟩:=h
   obtain rfl:=J0 h
   obtain⟨i1,i2⟩:=dGh hl
   refine⟨by simp[i1],fun i hi=>?_⟩
   cases i with
   |zero=>exact e
   |succ i=>simpa using i2 i (by simpa using hi)
  cases h
def srt (ks:List Int):List Int:=ks.mergeSort (fun x y=>decide (x≤y))
def dNq (nx:Nat) (hp:H):AO→Option (AV×H×Nat)
 | .mapo es _=>aK (dFl es) fun ks=>aN ((ks.all fun k=>decide (0≤k∧k<1000000))=true∧ks.length≤1000000) (some (.os nx 0 ks.length 1 true,upd hp nx (.cells ((srt ks).map .i) true),nx+1))
 |_=>none
def dLt (nx:Nat) (hp:H):AO→Option (AV×H×Nat)
 | .cells [.mp m] _=>aK (hp m) (dNq nx hp)
 |_=>none
def bGg:List AV→H→Nat→Option (AV×H×Nat)
 |[.fn 34 [.op b 0]],hp,nx=>aK (hp b) (dLt nx hp)
 |_,_,_=>none
theorem aUw (b:Nat) (hp:H) (nx:Nat):bGg [.fn 34 [.op b 0]] hp nx=aK (hp b) (dLt nx hp):=(rfl)
theorem dLs (m nx:Nat) (hp:H) (mt:Bool):dLt nx hp (.cells [.mp m] mt)=aK (hp m) (dNq nx hp):=(rfl)
theorem dIg (nx:Nat) (hp:H) (es:List (AV×AV)) (mt:Bool):dNq nx hp (.mapo es mt)=aK (dFl es) fun ks=>aN ((ks.all fun k=>decide (0≤k∧k<1000000))=true∧ks.length≤1000000) (some (.os nx 0 ks.length 1 true,upd hp nx (.cells ((srt ks).map .i) true),nx+1)):=(rfl)
attribute [go_sem] aUw dLs dIg dMc
def dJi:Value→Option (DataW Unit×List MemPlace):=fun _=>some (.lit (.bool true),[])
theorem dHh (x:Lit×DataW Unit): ∀l,(DataW.insert x l).Perm (x::l)
 |[]=>List.Perm.refl _
 |y::r=>by
  simp only[DataW.insert]
  split
  ·exact List.Perm.refl _
  exact((dHh x r).cons y).trans (List.Perm.swap x y r)
theorem dEy: ∀l:List (Lit×DataW Unit),(l.foldr DataW.insert []).Perm l
 |[]=>List.Perm.refl _
 |x::r=>(dHh x _).trans ((dEy r).cons x)
theorem dNx {σ:Nat→Loc} {I:Nat→Prop} {w:World} {n:Int} {v:Value} (h:Rel σ I w (.i n) v):v=.int .i64 n:=by cases h;rfl
theorem dNk (k:Int) (h:0≤k∧k<1000000):(Lit.int .i64 k).wf=true:=by
 simp[Lit.wf,IntKind.min,IntKind.max,IntKind.signed,IntKind.bits]
 omega
theorem dHc {σ:Nat→Loc} {I:Nat→Prop} {w:World} {es:List (AV×AV)} {blk:Nat} {ks:List Int} (h:yQ σ I w es blk) (hk:dFl es=some ks) (hall: ∀k∈ks,0≤k∧k<1000000) (hlen:ks.length≤1000000):
  ∃D:DataW Unit,w.ownsMap Try.prog 3 dJi blk ks.length D∧(intKeys D).Perm ks∧Maps.size D=ks.length:=by
 obtain⟨⟨ents,cl,h1,h2,h3,h4⟩⟩:=h
 obtain⟨k1,k2⟩:=dGh hk
 have hkey: ∀i (hi:i<ents.size),ents[i].key=.int .i64 (ks.getD i 0):=by
  intro i hi
  have:=(h4 i (by omega)).2.1
  rw[k2 i (by omega)]at this
  have e:ents.getD i default=ents[i]:=by rw[Array.getD_eq_getD_getElem?,Array.getElem?_eq_getElem hi];rfl
  rw[e]at this
  exact dNx this
 have hrd: ∀i (hi:i<ents.size),rd Try.prog 3 dJi ents[i]=some (.int .i64 (ks.getD i 0),.lit (.bool true)):=by
  intro i hi
  have hm:ks.getD i 0∈ks:=by rw[List.getD_eq_getElem?_getD,List.getElem?_eq_getElem (by omega)];exact List.getElem_mem _
  have hw:=dNk _ (hall _ hm)
  have hk:=hkey i hi
  generalize ks.getD i 0=k at hw hk⊢
  simp[rd,hk,keyOf,mapKey,Try.underlying3,hw,dJi]
 have hmap:ents.toList.map (rg Try.prog 3 dJi)=ks.map fun k=>(.int .i64 k,.lit (.bool true)):=by
  apply List.ext_getElem
  ·simp[h2,k1]
  ·intro i hi1 hi2
   simp at hi1 hi2
   simp only[List.getElem_map,Array.getElem_toList,rg,hrd i hi1,Option.getD_some]
   rw[List.getD_eq_getElem?_getD,List.getElem?_eq_getElem hi2];rfl
 refine⟨.map ((ents.toList.map (rg Try.prog 3 dJi)).foldr DataW.insert []),⟨ents,cl,h1,⟨by simp only[maxLen];omega,h3,fun x hx=>?_⟩,by omega,rfl⟩,?_,?_⟩
 ·obtain⟨i,hi,rfl⟩:=List.getElem_of_mem hx
  exact⟨_,hrd i (by simpa using hi)⟩
 ·rw[hmap]
  simp only[intKeys]
  refine((dEy _).map _).trans (List.Perm.of_eq ?_)
  rw[List.map_map]
  exact List.map_id' ks
 ·rw[hmap,Maps.size_eq,(dEy _).length_eq,List.length_map]
theorem dFo (ks:List Int):(srt ks).length=ks.length:=(List.mergeSort_perm ks _).length_eq
set_option maxHeartbeats 1000000 in
theorem bGf:cQ Try.prog GLh 29 bGg:=by
 intro c σ I w hp nx args vals r hp' nx' hGL hi hs hr hg
 unfold bGg at hg
 split at hg
 ·rename_i b
  replace hg:=aJ hg;obtain⟨o,ho,hg⟩:=hg
  unfold dLt at hg
  split at hg
  ·rename_i m mt
   replace hg:=aJ hg;obtain⟨o2,ho2,hg⟩:=hg
   cases o2 with
   |cells xs mt2=>cases hg
   |mapo es mt2=>
   rw[dIg]at hg
   replace hg:=aJ hg;obtain⟨ks,hks,hg⟩:=hg
   replace hg:=aP hg;obtain⟨⟨hall,hlen⟩,hg⟩:=hg
   simp only[Option.some.injEq,Prod.mk.injEq]at hg;obtain⟨rfl,rfl,rfl⟩:=hg
   refine⟨by omega,?_⟩
   have hr0:=hr 0 (by simp)
   simp only[List.getElem_cons_zero]at hr0
   generalize hv0:vals.getD 0 undef=v0 at hr0
   cases hr0 with
   |fn f xs vs hvs hrel=>
   have hrp:=hrel 0 (by simp)
   simp only[List.getElem_cons_zero]at hrp
   obtain⟨blk,base,sz,hl,hp0⟩:=dZc hrp
   have hvs1:vs= #[.pointer (some ⟨blk,base+0,none⟩)]:=by
    apply Array.ext
    ·rw[hvs];rfl
    intro i h1 h2
    obtain rfl:i=0:=by simp at h2;omega
    have:vs.getD 0 undef=vs[0]:=by simp[Array.getD,h1]
    rw[←this];simpa using hp0
   have hvals:vals= #[.func (.func 34) #[] #[.pointer (some ⟨blk,base+0,none⟩)]]:=by
    apply Array.ext
    ·rw[hs];rfl
    intro i h1 h2
    obtain rfl:i=0:=by simp at h2;omega
    have:vals.getD 0 undef=vals[0]:=by simp[Array.getD,h1]
    rw[←this,hv0,hvs1];rfl
   have hob:=hi.own b _ ho
   have hrow:=fH hob hl
   obtain⟨v1,hc1,_,hr1⟩:=hrow.get 0 (by simp)
   simp only[List.getElem_cons_zero]at hr1
   obtain⟨mb,e1,hmr,_⟩:=hi.own m _ ho2
   obtain rfl:=aWp hr1 e1
   have hlt:blk<w.heap.size:=hob.lt hl
   have hall': ∀k∈ks,0≤k∧k<1000000:=fun k hk=>of_decide_eq_true (List.all_eq_true.1 hall k hk)
   obtain⟨D,d1,d2,d3⟩:=dHc hmr hks hall' hlen
   rw[hvals]
   refine(dGk blk (base+0) mb ks.length D dJi w hlt hc1 d1 (by rw[d3];simp only[maxLen];omega) (by rw[d3];omega)).mono ?_
   rintro e w' ⟨v,ss,rfl,hperm,hrow2,hnil,hb⟩
   have hp2:=hperm.trans d2
   have hsl:ss.length=ks.length:=hp2.length_eq
   have hms:ss.mergeSort (fun x y=>decide (x≤y))=srt ks:=mergeSort_of_perm_i hp2
   rw[hms,hsl]at hrow2
   have hext:=hi.extend hb.os hb.tape hb.output hb.size (fun k hk=>hb.block k hk) I (fun _ h=>h) (fun k hk=> .inl hk)
   have hun: ∀id,(nx+1≤id∨(id=nx∨(id<nx∧σ id=.unset)))→σ id=.unset:=by
    intro id h
    rcases h with h|h|h
    ·exact hi.un id (by omega)
    ·exact hi.un id (by omega)
    exact h.2
   have hext2:Inv c σ I w' hp (fun k=>nx+1≤k∨(k=nx∨(k<nx∧σ k=.unset))):= {hext with un:=hun}
   obtain⟨v2,σ2,I2,a1,a2,a3,a4⟩:=aCy (I:=I) (Iw:=I) (w:=w) (cx:=nx+1) (un:=fun k=>k=nx∨(k<nx∧σ k=.unset)) (id:=nx) (nn:=ks.length) (ee:=1) (xs:=(srt ks).map .i) (v:=v) (I1:=I) hext2 (.inl rfl) hi.size (fun k hk=>hi.ilt k hk)
    (fun k o blk base sz h1 h2=>(hi.own k o h1).lt h2) ⟨fun _ _=>rfl,fun _ h=>h,fun k hk=>hb.block k (hi.ilt k hk)⟩ (by
     rcases hrow2.2 with⟨rfl,h0⟩|⟨g,cap,cur,rfl,hbg,hgb,hcap,hmax,hsz,htake⟩
     ·left
      refine⟨.inl rfl,h0,?_⟩
      have:=dFo ks
      rw[h0]at this
      rw[List.eq_nil_of_length_eq_zero this];rfl
     right
     have hsl2:=dFo ks
     refine⟨g,0,cap,cap,rfl,hcap,by omega,hbg,fun hI5=>absurd (hi.ilt g hI5) (by omega),⟨cur,3,0,0,hgb,by omega,by rw[List.length_map];omega,⟨U3 _,fun _ _=>by omega⟩,fun i hi5=>?_⟩,fun i hi5=>?_⟩
     ·have hil:i<(srt ks).length:=by simpa using hi5
      rw[List.getElem_map]
      have h6:(cur.toList.take (ks.length*1))[i]? =some (.int .i64 ((srt ks)[i])):=by rw[htake];simp[hil]
      rw[List.getElem?_take_of_lt (by omega)]at h6
      have e6:cur.getD (0+i) undef=.int .i64 ((srt ks)[i]):=by
       rw[Nat.zero_add,Array.getD_eq_getD_getElem?,←Array.getElem?_toList,h6];rfl
      rw[e6];exact .i _
     rw[List.getElem_map];rfl) (fun k h=>by omega)
   cases a1
   exact⟨v,σ2,I2,rfl,a2.mono_un (fun k hk=> .inl hk),a3,a4,fun id hid hun=>a2.un id (.inr ⟨.inr ⟨hid,hun⟩,by omega⟩)⟩
  cases hg
 cases hg
theorem dQv:bX Try.prog GLh 29 (.heap bGg):=⟨⟨_,Try.func29,rfl,rfl⟩,bGf⟩
end Go.AX

namespace Go.AX
open Go Go.Proofs
def syG:List AV→Option AV
 |[.i _]=>some (.b true)
 |_=>none
theorem dNm (k:Int):syG [.i k]=some (.b true):=(rfl)
theorem dPz:cL Try.prog GLh 25 syG:=by
 refine cC Try.func25 (aT rfl) ?_
 intro args r hg
 unfold syG at hg
 split at hg
 ·obtain rfl:=J0 hg
  refine⟨J1 rfl,fun nx=>?_⟩
  refine cP rfl (bA [] rfl rfl rfl fun K hK=>?_)
  simp(disch:=omega) only[Try.f25,go_sem]
  refine hK _ ?_
  refine aB (cP rfl (bA [2] rfl rfl rfl fun K hK=>?_))
  simp(disch:=omega) only[Try.f25,go_sem,↓reduceIte]
  refine hK _ ?_
  refine aB (aS rfl ?_)
  simp(disch:=omega) only[cN,bV,bK,bQ,Try.f25,go_sem,↓reduceIte]
 cases hg
theorem bJh:bX Try.prog GLh 25 (.pure true syG):=⟨⟨_,Try.func25,rfl,rfl⟩,dPz⟩
def dGb (keep:BitVec 64) (k:Nat):Bool:=decide (keep>>>(k%64)&&&1#64=1#64)
def crG:List AV→Option AV
 |[.i k,.rp [.w64 keep]]=>aN (0≤k) (some (.b (dGb keep k.toNat)))
 |_=>none
theorem dPm (k:Int) (keep:BitVec 64):crG [.i k,.rp [.w64 keep]]=aN (0≤k) (some (.b (dGb keep k.toNat))):=(rfl)
theorem dRl:cL Try.prog GLh 26 crG:=by
 refine cC Try.func26 (aT rfl) ?_
 intro args r hg
 unfold crG at hg
 split at hg
 ·rename_i k keep
  replace hg:=aP hg;obtain⟨hk,hg⟩:=hg
  obtain rfl:=J0 hg
  refine⟨J1 rfl,fun nx=>?_⟩
  refine cP rfl (bA [0,1] rfl rfl rfl fun K hK=>?_)
  simp(disch:=omega) only[Try.f26,go_sem,↓reduceIte]
  refine hK _ ?_
  refine aB ?_
  obtain⟨n,rfl⟩: ∃n:Nat,k=n:=⟨k.toNat,by omega⟩
  refine cP rfl (bA [3] rfl rfl rfl fun K hK=>?_)
  simp(disch:=omega) only[Try.f26,go_sem,↓reduceIte,J8]
  refine hK _ ?_
  refine aB (aS rfl ?_)
  simp(disch:=omega) only[cN,bV,bK,bQ,Try.f26,go_sem,↓reduceIte]
  have e:(BitVec.ofInt 64 ((n:Int).tmod 64)).toNat=n%64:=by
   rw[show(n:Int).tmod 64=((n%64:Nat):Int)from rfl,BitVec.ofInt_natCast,BitVec.toNat_ofNat,Nat.mod_eq_of_lt (by omega)]
  simp only[e,dGb]
 cases hg
theorem ok26:bX Try.prog GLh 26 (.pure true crG):=⟨⟨_,Try.func26,rfl,rfl⟩,dRl⟩
theorem dHp (b:List B8):dC (zP b)=some [zP b]:=(rfl)
theorem dJf (hp:H) (d s m:Nat) (C:DC) (n:Nat) (b:List B8) (h1:s≠d) (h2:s≠m):upd (bO d s m C hp) s (.cells ((C.rows.map zP).set n (zP b)) true)=bO d s m {C with rows:=C.rows.set n b} hp:=by
 rw[←List.map_set];exact dJe hp d s m C _ (List.length_set ..) h1 h2
theorem dKb (hp:H) (d s m:Nat) (C:DC) (h1:m≠d):upd (bO d s m C hp) m (.mapo [] true)=bO d s m {C with dirty:=[]} hp:=dGf hp d s m C [] h1
attribute [go_sem] dHp dJf dKb
def mG (kept:Nat→Bool) (ks:List Int) (dirty:List (Int×List B8)) (rows:List (List B8)):Nat→List (List B8)
 |0=>rows
 |k+1=>if kept k=true then(mG kept ks dirty rows k).set (ks.getD k 0).toNat ((iK (ks.getD k 0) dirty).getD [])else mG kept ks dirty rows k
theorem dEk (kept:Nat→Bool) (ks:List Int) (dirty:List (Int×List B8)) (rows:List (List B8)): ∀k,(mG kept ks dirty rows k).length=rows.length
 |0=>rfl
 |k+1=>by
  simp only[mG]
  split
  ·rw[List.length_set];exact dEk kept ks dirty rows k
  exact dEk kept ks dirty rows k
def dFn (kept:Nat→Bool) (C:DC):DC:= {C with rows:=mG kept (srt (C.dirty.map (·.1))) C.dirty C.rows C.dirty.length,dirty:=[]}
def dGm (hp:H):AV→Option (Nat→Bool)
 | .fn 25 []=>some fun _=>true
 | .fn 26 [.op b 0]=>aK (hp b) fun o=>match o with| .cells [.w64 keep] _=>some (dGb keep)|_=>none
 |_=>none
def DOk (C:DC):Bool:=(C.dirty.map (·.1)).all fun i:Int=>decide (0≤i∧i<(C.rows.length:Int))
noncomputable def dJx:List AV→H→Nat→Option (AV×H×Nat)
 |[.op d 0,x],hp,nx=>aK (mB hp d) fun t=>aK (dGm hp x) fun kept=>aN (DOk t.C=true∧t.C.rows.length≤4096∧t.C.dirty.length≤4096) (some (.tup [],bO d t.s t.m (dFn kept t.C) hp,nx+100+24*t.C.dirty.length))
 |_,_,_=>none
theorem dLr (d:Nat) (x:AV) (hp:H) (nx:Nat):dJx [.op d 0,x] hp nx=aK (mB hp d) fun t=>aK (dGm hp x) fun kept=>aN (DOk t.C=true∧t.C.rows.length≤4096∧t.C.dirty.length≤4096) (some (.tup [],bO d t.s t.m (dFn kept t.C) hp,nx+100+24*t.C.dirty.length)):=(rfl)
attribute [go_sem] dLr
theorem wH {i:Int} {l:List (Int×List B8)} (h:i∈l.map (·.1)): ∃b,iK i l=some b:=by
 induction l with
 |nil=>cases h
 |cons p r ih=>
  simp only[iK]
  by_cases e:i=p.1
  ·rw[J4 e];exact⟨_,rfl⟩
  rw[J3 e]
  simp only[List.map_cons,List.mem_cons]at h
  exact ih (h.resolve_left e)
def kC2 (C:DC) (kept:Nat→Bool) (k:Nat):DC:= {C with rows:=mG kept (srt (C.dirty.map (·.1))) C.dirty C.rows k}
theorem dIl (C:DC) (kept:Nat→Bool) (k:Nat):(kC2 C kept k).rows.length=C.rows.length:=dEk ..
theorem dNf {C:DC} {kept:Nat→Bool} {k:Nat} {i:Int} {b:List B8} (hi:(srt (C.dirty.map (·.1))).getD k 0=i) (hb:iK i C.dirty=some b) (h:kept k=true):kC2 C kept (k+1)= {rows:=(kC2 C kept k).rows.set i.toNat b,g:=(kC2 C kept k).g,dirty:=C.dirty,cut:=(kC2 C kept k).cut,dead:=(kC2 C kept k).dead}:=by
 simp only[kC2,mG,h,if_true,hi,hb,Option.getD_some]
theorem dRf {C:DC} {kept:Nat→Bool} {k:Nat} (h:kept k=false):kC2 C kept (k+1)=kC2 C kept k:=by
 simp only[kC2,mG,h,Bool.false_eq_true,if_false]
theorem dIm (C:DC) (kept:Nat→Bool) (k:Nat):(kC2 C kept k).dirty=C.dirty:=(rfl)
set_option maxHeartbeats 2000000 in
theorem dNn {d s m:Nat} {C:DC} {hp:H} {nx:Nat} (hD:aZo hp d s m C) (hok:DOk C=true) (hl1:C.rows.length≤4096) (hl2:C.dirty.length≤4096) (hnone: ∀id,nx≤id→hp id=none):
  Awp Try.prog GLh Try.f24.ntmps (aE Try.f24) (sN [.op d 0,.fn 25 []] hp nx) (bMy Try.prog Try.f24.results.toList (.tup []) (bO d s m (dFn (fun _=>true) C) hp) (nx+100+24*C.dirty.length)):=by
 have hlt: ∀k o,hp k=some o→k<nx:=fun k o hk=>cA hnone hk
 have h1:=hD.hd;have h2:=hD.hs;have h3:=hD.hm
 obtain⟨n1,n2,n3,n4,n5,n6⟩:=hD.ne
 have hd:=hlt _ _ h1
 have hs:=hlt _ _ h2
 have hm:=hlt _ _ h3
 skip
 obtain⟨ks,hks⟩: ∃ks,srt (C.dirty.map (·.1))=ks:=⟨_,rfl⟩
 have hkl:ks.length=C.dirty.length:=by rw[←hks,dFo,List.length_map]
 have hpk:ks.Perm (C.dirty.map (·.1)):=by rw[←hks];exact List.mergeSort_perm _ _
 have hkm: ∀k,k<ks.length→ks.getD k 0∈C.dirty.map (·.1):=by
  intro k hk
  rw[List.getD_eq_getElem?_getD,List.getElem?_eq_getElem hk,Option.getD_some]
  exact hpk.mem_iff.1 (List.getElem_mem hk)
 have hbd: ∀i∈C.dirty.map (·.1),0≤i∧i<(C.rows.length:Int):=fun i hi=>of_decide_eq_true (List.all_eq_true.1 hok i hi)
 have hall:((C.dirty.map (·.1)).all fun k=>decide (0≤k∧k<1000000))=true:=List.all_eq_true.2 fun i hi=>J5 (by have:=hbd i hi;omega)
 have hdl:(C.dirty.map (·.1)).length≤1000000:=by rw[List.length_map];omega
 refine cP rfl ?_
 refine cP rfl ?_
 refine aC (Γ:=bC [(30,.heap dJl),(29,.heap bGg)]) [0,1,11,12,13] (aH dQu (aH dQv aO)) rfl rfl rfl (fun K hK=>?_)
 simp(disch:=omega) only[Try.f24,go_sem,↓reduceIte,h1,h3,J7,J9,J8,hall,hks,List.length_map]
 refine hK _ ?_
 refine aB ?_
 refine aR 0 rfl rfl ?_
 refine bR (fun k:Nat=> {fr:=[(0,.op d 0),(1,.fn 25 []),(11,.os (nx+18) 0 C.dirty.length 1 true),(12,.i C.dirty.length),(13,.i k)],hp:=bO d s m (kC2 C (fun _=>true) k) (upd hp (nx+18) (.cells (ks.map .i) true)),nx:=0,cx:=nx+19+24*k}) (fun k=>k≤C.dirty.length) (fun k=>C.dirty.length-k) rfl ?_ ?_
 rotate_left
 rintro k hk n0
 simp only at hk⊢
 refine cP rfl ?_
 refine bA [14,0,1,11,12,13] rfl rfl rfl fun K hK=>?_
 simp(disch:=omega) only[Try.f24,go_sem,↓reduceIte]
 refine hK _ ?_
 refine aB ?_
 refine cP rfl ?_
 refine gP (.tmp 14) rfl rfl rfl (fun h=>?_) (fun h=>?_)
 ·skip
  refine aI rfl ?_
  have hkd:k<ks.length:=by omega
  have hgk:((ks.map AV.i).drop k).head? =some (.i (ks.getD k 0)):=by rw[List.head?_drop,List.getElem?_map,List.getElem?_eq_getElem hkd,List.getD_eq_getElem?_getD,List.getElem?_eq_getElem hkd];rfl
  obtain⟨i,hi⟩: ∃i,ks.getD k 0=i:=⟨_,rfl⟩
  have him:=hkm k hkd
  rw[hi]at hgk him
  obtain⟨b,hb⟩:=wH him
  obtain⟨hi1,hi2⟩:=hbd i him
  refine aQ rfl ?_
  refine aB ?_
  refine cP rfl ?_
  refine aR 1 rfl rfl ?_
  refine cP rfl ?_
  refine bA [0,1,4,5,11,12,13] rfl rfl rfl fun K hK=>?_
  simp(disch:=omega) only[Try.f24,go_sem,↓reduceIte,hgk,Nat.zero_add,Nat.mul_one,U2]
  refine hK _ ?_
  refine aB ?_
  refine cP rfl ?_
  refine aC (Γ:=bC [(25,.pure true syG)]) [20,0,1,5,11,12,13] (aH bJh aO) rfl rfl rfl (fun K hK=>?_)
  simp(disch:=omega) only[Try.f24,go_sem,↓reduceIte,dNm,List.cons_append,List.nil_append,Nat.zero_add]
  refine hK _ ?_
  refine aB ?_
  refine eC (.tmp 20) rfl rfl rfl (fun h=>?_) (fun h=>?_)
  ·skip
   refine aI rfl ?_
   refine bB (Γ:=aL) (fun _=>2) [0,1,11,12,13] mixed (aD _ _) rfl rfl rfl (by kernel_rfl) (fun K hK=>?_)
   simp(disch:=omega) only[Try.f24,go_sem,↓reduceIte,dIm,dIl,J7,J9,J8,dFe,hb,Option.map_some,Nat.zero_add,Nat.mul_one,List.length_map]
   refine hK _ ?_
   refine bU (aB ?_)
   refine bA [0,1,11,12,13] rfl rfl rfl fun K hK=>?_
   simp(disch:=omega) only[Try.f24,go_sem,↓reduceIte]
   refine hK _ ?_
   refine bT ?_
   have e:=dNf (C:=C) (kept:=fun _=>true) (k:=k) (by rw[hks];exact hi) hb h
   refine⟨k+1,by omega,by omega,⟨fun _=> .inr ?_,fun j o hj=>?_,by simp only;omega⟩⟩
   ·simp only[Int.natCast_add,Int.natCast_one]
   ·simp only[e]at hj;exact hj
  ·skip
   refine aI rfl ?_
   cases h
 ·skip
  refine aI rfl ?_
  refine bF 0 rfl rfl ?_
  refine aY (aZ (bE ?_))
  refine aB ?_
  obtain rfl:k=C.dirty.length:=by omega
  refine bA [] rfl rfl rfl fun K hK=>?_
  simp(disch:=omega) only[Try.f24,go_sem,↓reduceIte,dIm,J7,J9,J8]
  refine hK _ ?_
  refine⟨rfl,fun j o hj=>?_,by simp only;omega⟩
  have e:({kC2 C (fun _=>true) C.dirty.length with dirty:=[]}:DC)=dFn (fun _=>true) C:=(rfl)
  simp only[e]
  refine eL (fun j o hj=>?_) j o hj
  have:=hlt j o hj
  rw[bJ,J3 (by omega)];exact hj
 ·refine⟨0,Nat.zero_le _,⟨fun _=> .inr rfl,fun j o hj=>?_,by simp only;omega⟩⟩
  refine dEj (C:=kC2 C (fun _=>true) 0) ?_ ?_ ?_ ?_ j o hj
  ·simp only[]
   rw[bJ,J3 (by omega),bJ,J3 (by omega)];exact h1
  ·simp only[]
   rw[bJ,J3 (by omega),bJ,J3 (by omega)];exact h2
  ·simp only[]
   rw[bJ,J3 (by omega),bJ,J3 (by omega)];exact h3
  ·intro k o k1 k2 k3 hk
   simp only[bJ]at hk⊢
   by_cases e:k=nx+18
   ·rw[J4 e]at hk;rw[J4 (by omega)];exact hk
   ·rw[J3 e]at hk
    have:=hlt k o hk
    rw[J3 (by omega),J3 (by omega)];exact hk
set_option maxHeartbeats 2000000 in
theorem dNp {d s m:Nat} {C:DC} {hp:H} {nx:Nat} (hD:aZo hp d s m C) (hok:DOk C=true) (hl1:C.rows.length≤4096) (hl2:C.dirty.length≤4096) (hnone: ∀id,nx≤id→hp id=none) {bx:Nat} {mb:Bool} {keep:BitVec 64} (hbx:hp bx=some (.cells [.w64 keep] mb)):
  Awp Try.prog GLh Try.f24.ntmps (aE Try.f24) (sN [.op d 0,.fn 26 [.op bx 0]] hp nx) (bMy Try.prog Try.f24.results.toList (.tup []) (bO d s m (dFn (dGb keep) C) hp) (nx+100+24*C.dirty.length)):=by
 have hlt: ∀k o,hp k=some o→k<nx:=fun k o hk=>cA hnone hk
 have h1:=hD.hd;have h2:=hD.hs;have h3:=hD.hm
 obtain⟨n1,n2,n3,n4,n5,n6⟩:=hD.ne
 have hd:=hlt _ _ h1
 have hs:=hlt _ _ h2
 have hm:=hlt _ _ h3
 have hbl:=hlt _ _ hbx
 have b1:bx≠d:=by
  rintro rfl
  have:=hbx.symm.trans h1
  cases (AO.cells.inj (J0 this)).1
 have b2:bx≠m:=by
  rintro rfl
  have:=hbx.symm.trans h3
  cases this
 have b3:bx≠s:=by
  rintro rfl
  have:=(AO.cells.inj (J0 (hbx.symm.trans h2))).1
  cases hr:C.rows with
  |nil=>rw[hr]at this;cases this
  |cons a r=>rw[hr]at this;cases (List.cons.inj this).1
 obtain⟨ks,hks⟩: ∃ks,srt (C.dirty.map (·.1))=ks:=⟨_,rfl⟩
 have hkl:ks.length=C.dirty.length:=by rw[←hks,dFo,List.length_map]
 have hpk:ks.Perm (C.dirty.map (·.1)):=by rw[←hks];exact List.mergeSort_perm _ _
 have hkm: ∀k,k<ks.length→ks.getD k 0∈C.dirty.map (·.1):=by
  intro k hk
  rw[List.getD_eq_getElem?_getD,List.getElem?_eq_getElem hk,Option.getD_some]
  exact hpk.mem_iff.1 (List.getElem_mem hk)
 have hbd: ∀i∈C.dirty.map (·.1),0≤i∧i<(C.rows.length:Int):=fun i hi=>of_decide_eq_true (List.all_eq_true.1 hok i hi)
 have hall:((C.dirty.map (·.1)).all fun k=>decide (0≤k∧k<1000000))=true:=List.all_eq_true.2 fun i hi=>J5 (by have:=hbd i hi;omega)
 have hdl:(C.dirty.map (·.1)).length≤1000000:=by rw[List.length_map];omega
 refine cP rfl ?_
 refine cP rfl ?_
 refine aC (Γ:=bC [(30,.heap dJl),(29,.heap bGg)]) [0,1,11,12,13] (aH dQu (aH dQv aO)) rfl rfl rfl (fun K hK=>?_)
 simp(disch:=omega) only[Try.f24,go_sem,↓reduceIte,h1,h3,J7,J9,J8,hall,hks,List.length_map]
 refine hK _ ?_
 refine aB ?_
 refine aR 0 rfl rfl ?_
 refine bR (fun k:Nat=> {fr:=[(0,.op d 0),(1,.fn 26 [.op bx 0]),(11,.os (nx+18) 0 C.dirty.length 1 true),(12,.i C.dirty.length),(13,.i k)],hp:=bO d s m (kC2 C (dGb keep) k) (upd hp (nx+18) (.cells (ks.map .i) true)),nx:=0,cx:=nx+19+24*k}) (fun k=>k≤C.dirty.length) (fun k=>C.dirty.length-k) rfl ?_ ?_
 rotate_left
 rintro k hk n0
 simp only at hk⊢
 refine cP rfl ?_
 refine bA [14,0,1,11,12,13] rfl rfl rfl fun K hK=>?_
 simp(disch:=omega) only[Try.f24,go_sem,↓reduceIte]
 refine hK _ ?_
 refine aB ?_
 refine cP rfl ?_
 refine gP (.tmp 14) rfl rfl rfl (fun h=>?_) (fun h=>?_)
 ·skip
  refine aI rfl ?_
  have hkd:k<ks.length:=by omega
  have hgk:((ks.map AV.i).drop k).head? =some (.i (ks.getD k 0)):=by rw[List.head?_drop,List.getElem?_map,List.getElem?_eq_getElem hkd,List.getD_eq_getElem?_getD,List.getElem?_eq_getElem hkd];rfl
  obtain⟨i,hi⟩: ∃i,ks.getD k 0=i:=⟨_,rfl⟩
  have him:=hkm k hkd
  rw[hi]at hgk him
  obtain⟨b,hb⟩:=wH him
  obtain⟨hi1,hi2⟩:=hbd i him
  refine aQ rfl ?_
  refine aB ?_
  refine cP rfl ?_
  refine aR 1 rfl rfl ?_
  refine cP rfl ?_
  refine bA [0,1,4,5,11,12,13] rfl rfl rfl fun K hK=>?_
  simp(disch:=omega) only[Try.f24,go_sem,↓reduceIte,hgk,Nat.zero_add,Nat.mul_one,U2]
  refine hK _ ?_
  refine aB ?_
  refine cP rfl ?_
  refine aC (Γ:=bC [(26,.pure true crG)]) [20,0,1,5,11,12,13] (aH ok26 aO) rfl rfl rfl (fun K hK=>?_)
  simp(disch:=omega) only[Try.f24,go_sem,↓reduceIte,dPm,hbx,List.cons_append,List.nil_append,Nat.zero_add,U2]
  refine hK _ ?_
  refine aB ?_
  refine eC (.tmp 20) rfl rfl rfl (fun h=>?_) (fun h=>?_)
  ·skip
   refine aI rfl ?_
   refine bB (Γ:=aL) (fun _=>2) [0,1,11,12,13] mixed (aD _ _) rfl rfl rfl (by kernel_rfl) (fun K hK=>?_)
   simp(disch:=omega) only[Try.f24,go_sem,↓reduceIte,dIm,dIl,J7,J9,J8,dFe,hb,Option.map_some,Nat.zero_add,Nat.mul_one,List.length_map]
   refine hK _ ?_
   refine bU (aB ?_)
   refine bA [0,1,11,12,13] rfl rfl rfl fun K hK=>?_
   simp(disch:=omega) only[Try.f24,go_sem,↓reduceIte]
   refine hK _ ?_
   refine bT ?_
   have e:=dNf (C:=C) (kept:=dGb keep) (k:=k) (by rw[hks];exact hi) hb h
   refine⟨k+1,by omega,by omega,⟨fun _=> .inr ?_,fun j o hj=>?_,by simp only;omega⟩⟩
   ·simp only[Int.natCast_add,Int.natCast_one]
   ·simp only[e]at hj;exact hj
  ·skip
   refine aI rfl ?_
   refine aQ rfl ?_
   refine bU (aB ?_)
   refine bA [0,1,11,12,13] rfl rfl rfl fun K hK=>?_
   simp(disch:=omega) only[Try.f24,go_sem,↓reduceIte]
   refine hK _ ?_
   refine bT ?_
   have e:=dRf (C:=C) (kept:=dGb keep) (k:=k) h
   refine⟨k+1,by omega,by omega,⟨fun _=> .inr ?_,fun j o hj=>?_,by simp only;omega⟩⟩
   ·simp only[Int.natCast_add,Int.natCast_one]
   ·simp only[e]at hj;exact hj
 ·skip
  refine aI rfl ?_
  refine bF 0 rfl rfl ?_
  refine aY (aZ (bE ?_))
  refine aB ?_
  obtain rfl:k=C.dirty.length:=by omega
  refine bA [] rfl rfl rfl fun K hK=>?_
  simp(disch:=omega) only[Try.f24,go_sem,↓reduceIte,dIm,J7,J9,J8]
  refine hK _ ?_
  refine⟨rfl,fun j o hj=>?_,by simp only;omega⟩
  have e:({kC2 C (dGb keep) C.dirty.length with dirty:=[]}:DC)=dFn (dGb keep) C:=(rfl)
  simp only[e]
  refine eL (fun j o hj=>?_) j o hj
  have:=hlt j o hj
  rw[bJ,J3 (by omega)];exact hj
 ·refine⟨0,Nat.zero_le _,⟨fun _=> .inr rfl,fun j o hj=>?_,by simp only;omega⟩⟩
  refine dEj (C:=kC2 C (dGb keep) 0) ?_ ?_ ?_ ?_ j o hj
  ·simp only[]
   rw[bJ,J3 (by omega),bJ,J3 (by omega)];exact h1
  ·simp only[]
   rw[bJ,J3 (by omega),bJ,J3 (by omega)];exact h2
  ·simp only[]
   rw[bJ,J3 (by omega),bJ,J3 (by omega)];exact h3
  ·intro k o k1 k2 k3 hk
   simp only[bJ]at hk⊢
   by_cases e:k=nx+18
   ·rw[J4 e]at hk;rw[J4 (by omega)];exact hk
   ·rw[J3 e]at hk
    have:=hlt k o hk
    rw[J3 (by omega),J3 (by omega)];exact hk
theorem dNo:cQ Try.prog GLh 24 dJx:=by
 refine gF Try.func24 (aT rfl) ?_
 intro args hp nx r hp' nx' hg
 unfold dJx at hg
 split at hg
 ·rename_i d x
  replace hg:=aJ hg;obtain⟨⟨s,m,C⟩,hD0,hg⟩:=hg
  have hD:=mD hD0
  replace hg:=aJ hg;obtain⟨kept,hk,hg⟩:=hg
  replace hg:=aP hg;obtain⟨⟨g1,g2,g3⟩,hg⟩:=hg
  simp only[Option.some.injEq,Prod.mk.injEq]at hg hD g1 g2 g3;obtain⟨rfl,rfl,rfl⟩:=hg
  refine⟨J1 rfl,by omega,fun hnone=>?_⟩
  unfold dGm at hk
  split at hk
  ·obtain rfl:=J0 hk
   exact dNn hD g1 g2 g3 hnone
  ·rename_i b
   replace hk:=aJ hk;obtain⟨o,ho,hk⟩:=hk
   split at hk
   ·obtain rfl:=J0 hk
    exact dNp hD g1 g2 g3 hnone ho
   cases hk
  cases hk
 cases hg
theorem bWa:bX Try.prog GLh 24 (.heap dJx):=⟨⟨_,Try.func24,rfl,rfl⟩,dNo⟩
end Go.AX

namespace Go.AX
open Go Go.Proofs
theorem dTd (hp:H) (d s m:Nat) (C:DC) (c:Int) (x:Bool):upd (bO d s m C hp) d (.cells [.os s 0 C.rows.length 1 C.g,.mp m,.i c,.b x] true)=bO d s m {C with cut:=c,dead:=x} hp:=by
 funext k
 simp only[bO,bJ]
 by_cases e:k=d
 ·simp[e]
 simp[e]
attribute [go_sem] dTd
theorem dEu (C:DC):(pwV C).2.rows=C.rows:=by unfold pwV;split<;>first|rfl|(split<;>rfl)
theorem dFv (C:DC):(pwV C).2.dirty=C.dirty:=by unfold pwV;split<;>first|rfl|(split<;>rfl)
theorem dOb (C:DC):DOk (pwV C).2=DOk C:=by unfold DOk;rw[dEu,dFv]
theorem dMe (hp:H):dGm hp (.fn 25 [])=some fun _=>true:=(rfl)
def mL (C:DC):Int×DC:=if C.dead=true then(82,C)else if(pwV C).1=0 then(0,dFn (fun _=>true) (pwV C).2)else pwV C
noncomputable def dJd:List AV→H→Nat→Option (AV×H×Nat)
 |[.op d 0],hp,nx=>aK (mB hp d) fun t=>aN (DOk t.C=true∧t.C.rows.length≤4096∧t.C.dirty.length≤4096) (some (.i (mL t.C).1,bO d t.s t.m (mL t.C).2 hp,nx+300+24*t.C.dirty.length))
 |_,_,_=>none
theorem dLq (d:Nat) (hp:H) (nx:Nat):dJd [.op d 0] hp nx=aK (mB hp d) fun t=>aN (DOk t.C=true∧t.C.rows.length≤4096∧t.C.dirty.length≤4096) (some (.i (mL t.C).1,bO d t.s t.m (mL t.C).2 hp,nx+300+24*t.C.dirty.length)):=(rfl)
attribute [go_sem] dLq
theorem dNl:cQ Try.prog GLh 11 dJd:=by
 refine gF Try.func11 (aT rfl) ?_
 intro args hp nx r hp' nx' hg
 unfold dJd at hg
 split at hg
 ·rename_i d
  replace hg:=aJ hg;obtain⟨⟨s,m,C⟩,hD0,hg⟩:=hg
  have hD:=mD hD0
  replace hg:=aP hg;obtain⟨⟨g1,g2,g3⟩,hg⟩:=hg
  simp only[Option.some.injEq,Prod.mk.injEq]at hg hD g1 g2 g3;obtain⟨rfl,rfl,rfl⟩:=hg
  refine⟨J1 rfl,by omega,fun hnone=>?_⟩
  have h1:=hD.hd;have h2:=hD.hs;have h3:=hD.hm
  obtain⟨n1,n2,n3,n4,n5,n6⟩:=hD.ne
  have q1:=dOb C
  have q2:=dEu C
  have q3:=dFv C
  refine cP rfl (bA [0] rfl rfl rfl fun K hK=>?_)
  simp(disch:=omega) only[Try.f11,go_sem,↓reduceIte]
  refine hK _ ?_
  refine aB (cP rfl (cP rfl (bA [7,0] rfl rfl rfl fun K hK=>?_)))
  simp(disch:=omega) only[Try.f11,go_sem,↓reduceIte,h1,J7,J9,J8]
  refine hK _ ?_
  refine aB (eC (.tmp 7) rfl rfl rfl (fun h=>?_) (fun h=>?_))
  ·refine aI rfl ?_
   have e:mL C=(82,C):=J4 h
   rw[e]
   refine cP rfl (bA [2] rfl rfl rfl fun K hK=>?_)
   simp(disch:=omega) only[Try.f11,go_sem,↓reduceIte]
   refine hK _ ?_
   refine aB (aS rfl (bI ?_))
   refine⟨rfl,?_,by simp only;omega⟩
   rw[mC hD];exact fun j o h=>h
  refine aI rfl ?_
  have h4:=h
  refine aQ rfl (aB (cP rfl (cP rfl (aC (Γ:=bC [(22,.heap pwG)]) [0,3] (aH cWs aO) rfl rfl rfl (fun K hK=>?_)))))
  simp(disch:=omega) only[Try.f11,go_sem,↓reduceIte,hD0]
  refine hK _ ?_
  refine aB (cP rfl (bA [11,0,3] rfl rfl rfl fun K hK=>?_))
  simp(disch:=omega) only[Try.f11,go_sem,↓reduceIte]
  refine hK _ ?_
  refine aB (xF (.tmp 11) rfl rfl rfl (fun h=>?_) (fun h=>?_))
  ·refine aI rfl ?_
   have e:mL C=pwV C:=by unfold mL;rw[J3 (by simp[h4]),J3 h]
   rw[e]
   refine cP rfl (bA [2] rfl rfl rfl fun K hK=>?_)
   simp(disch:=omega) only[Try.f11,go_sem,↓reduceIte]
   refine hK _ ?_
   refine aB (aS rfl (bI ?_))
   exact⟨rfl,fun j o h=>h,by simp only;omega⟩
  refine aI rfl ?_
  have e:mL C=(0,dFn (fun _=>true) (pwV C).2):=by unfold mL;rw[J3 (by simp[h4]),J4 h]
  rw[e]
  refine aQ rfl (aB (cP rfl (aC (Γ:=bC [(24,.heap dJx),(25,.pure true syG)]) [] (aH bWa (aH bJh aO)) rfl rfl rfl (fun K hK=>?_))))
  simp(disch:=omega) only[Try.f11,go_sem,↓reduceIte,dMe,q1,g1,q2,q3,g2,g3]
  refine hK _ ?_
  refine aB (cP rfl (bA [2] rfl rfl rfl fun K hK=>?_))
  simp(disch:=omega) only[Try.f11,go_sem,↓reduceIte]
  refine hK _ ?_
  refine aB (aS rfl ?_)
  exact⟨rfl,fun j o h=>h,by simp only;omega⟩
 cases hg
theorem dQz:bX Try.prog GLh 11 (.heap dJd):=⟨⟨_,Try.func11,rfl,rfl⟩,dNl⟩
def dRv (keep:BitVec 64) (C:DC):DC:= {dFn (dGb keep) C with cut:= -1,dead:=false}
noncomputable def dSr:List AV→H→Nat→Option (AV×H×Nat)
 |[.op d 0,.w64 keep],hp,nx=>aK (mB hp d) fun t=>aN (DOk t.C=true∧t.C.rows.length≤4096∧t.C.dirty.length≤4096) (some (.tup [],bO d t.s t.m (dRv keep t.C) hp,nx+300+24*t.C.dirty.length))
 |_,_,_=>none
theorem dTa (d:Nat) (keep:BitVec 64) (hp:H) (nx:Nat):dSr [.op d 0,.w64 keep] hp nx=aK (mB hp d) fun t=>aN (DOk t.C=true∧t.C.rows.length≤4096∧t.C.dirty.length≤4096) (some (.tup [],bO d t.s t.m (dRv keep t.C) hp,nx+300+24*t.C.dirty.length)):=(rfl)
attribute [go_sem] dTa
theorem dTv (hp:H) (b:Nat) (keep:BitVec 64) (mt:Bool) (h:hp b=some (.cells [.w64 keep] mt)):dGm hp (.fn 26 [.op b 0])=some (dGb keep):=by
 simp only[dGm,h,aX]
theorem dUj:cQ Try.prog GLh 12 dSr:=by
 refine gF Try.func12 (aT rfl) ?_
 intro args hp nx r hp' nx' hg
 unfold dSr at hg
 split at hg
 ·rename_i d keep
  replace hg:=aJ hg;obtain⟨⟨s,m,C⟩,hD0,hg⟩:=hg
  have hD:=mD hD0
  replace hg:=aP hg;obtain⟨⟨g1,g2,g3⟩,hg⟩:=hg
  simp only[Option.some.injEq,Prod.mk.injEq]at hg hD g1 g2 g3;obtain⟨rfl,rfl,rfl⟩:=hg
  refine⟨J1 rfl,by omega,fun hnone=>?_⟩
  have hlt: ∀k o,hp k=some o→k<nx:=fun k o hk=>cA hnone hk
  have h1:=hD.hd;have h2:=hD.hs;have h3:=hD.hm
  obtain⟨n1,n2,n3,n4,n5,n6⟩:=hD.ne
  have hd:=hlt _ _ h1
  have hs:=hlt _ _ h2
  have hm:=hlt _ _ h3
  refine cP rfl (bA [0,3] rfl rfl rfl fun K hK=>?_)
  simp(disch:=omega) only[Try.f12,go_sem,↓reduceIte]
  refine hK _ ?_
  refine aB ?_
  have hD2:mB (upd hp nx (.cells [.w64 keep] true)) d=some ⟨s,m,C⟩:=mK ⟨by rw[bJ,J3 (by omega)];exact h1,by rw[bJ,J3 (by omega)];exact h2,by rw[bJ,J3 (by omega)];exact h3,hD.ne⟩
  have hk2:dGm (upd hp nx (.cells [.w64 keep] true)) (.fn 26 [.op nx 0])=some (dGb keep):=dTv _ _ _ true (by rw[bJ,J4 rfl])
  refine cP rfl (aC (Γ:=bC [(24,.heap dJx)]) [0] (aH bWa aO) rfl rfl rfl (fun K hK=>?_))
  simp(disch:=omega) only[Try.f12,go_sem,↓reduceIte,hD2,hk2,g1,g2,g3]
  refine hK _ ?_
  refine aB (bA [] rfl rfl rfl fun K hK=>?_)
  simp(disch:=omega) only[Try.f12,go_sem,↓reduceIte,List.set_cons_succ,List.set_cons_zero,bFz]
  refine hK _ ?_
  refine⟨rfl,eL (fun j o hj=>?_),by simp only;omega⟩
  have:=hlt j o hj
  rw[bJ,J3 (by omega)];exact hj
 cases hg
theorem dUp:bX Try.prog GLh 12 (.heap dSr):=⟨⟨_,Try.func12,rfl,rfl⟩,dUj⟩
end Go.AX

namespace Go.Proofs
open Go.RowKit Go.Maps Go.Sort Go.Shelf
shelf_lay_g SlLaysW.n5 Slmc 5 at Try 28 as Try.cloneM
theorem dZw (b:Nat) (es:Array MapEntry) (clock:Nat) (w:World) (hb:w.heap[b]? =some (.map es clock)):
  Calls Try.prog 28 #[.map (some b)] w fun e w'=>e=.returned (.map (some w.heap.size))∧w'=w.alloc (.map es clock):=AnyW.maps_Clone Try.cloneM b es clock w hb
end Go.Proofs
namespace Go.AX
open Go Go.Proofs
theorem eAs (w:World) (a b:Obj):({(w.alloc a)with heap:=(w.alloc a).heap.setIfInBounds w.heap.size b}:World)=w.alloc b:=by
 have:(w.heap.push a).setIfInBounds w.heap.size b=w.heap.push b:=by
  apply Array.ext'
  rw[Array.toList_setIfInBounds,Array.toList_push,Array.toList_push,List.set_append_right _ _ (by simp)]
  simp
 simp only[World.alloc]at this⊢
 rw[this]
def eCh (nx:Nat) (hp:H):AO→Option (AV×H×Nat)
 | .mapo es _=>some (.mp nx,upd hp nx (.mapo es true),nx+1)
 |_=>none
def eBa:List AV→H→Nat→Option (AV×H×Nat)
 |[.mp m],hp,nx=>aK (hp m) (eCh nx hp)
 |_,_,_=>none
theorem eBu (m:Nat) (hp:H) (nx:Nat):eBa [.mp m] hp nx=aK (hp m) (eCh nx hp):=(rfl)
theorem eAz (nx:Nat) (hp:H) (es mt):eCh nx hp (.mapo es mt)=some (.mp nx,upd hp nx (.mapo es true),nx+1):=(rfl)
attribute [go_sem] eBu eAz
theorem eCg:cQ Try.prog GLh 28 eBa:=by
 intro c σ I w hp nx args vals r hp' nx' hGL hi hs hr hg
 unfold eBa at hg
 split at hg
 ·rename_i m
  replace hg:=aJ hg;obtain⟨o,ho,hg⟩:=hg
  cases o with
  |cells xs mt=>cases hg
  |mapo es mt=>
  rw[eAz]at hg
  simp only[Option.some.injEq,Prod.mk.injEq]at hg;obtain⟨rfl,rfl,rfl⟩:=hg
  refine⟨by omega,?_⟩
  have hr0:=hr 0 (by simp)
  simp only[List.getElem_cons_zero]at hr0
  obtain⟨mb,e1,⟨⟨ents,cl,g1,g2,g3,g4⟩⟩,_⟩:=hi.own m _ ho
  have hv0:=aWp hr0 e1
  have hvals:vals= #[.map (some mb)]:=by
   apply Array.ext
   ·rw[hs];rfl
   intro i h1 h2
   obtain rfl:i=0:=by simp at h2;omega
   have:vals.getD 0 undef=vals[0]:=by simp[Array.getD,h1]
   rw[←this,hv0];rfl
  rw[hvals]
  refine(dZw mb ents cl w g1).mono ?_
  rintro e w' ⟨rfl,rfl⟩
  have hu:nx≤nx:=U3 _
  have i1:=hi.allocMap (id:=nx) hu
  have hσ:=dM (l:=.at_ w.heap.size 0 0) (hi.un nx hu)
  have hw: ∀k,I k→(w.alloc (.map #[] 0)).heap[k]? =w.heap[k]?:=fun k hk=>iT w _ k (hi.ilt k hk)
  obtain⟨i2,i3⟩:=aBf (es:=[]) (es':=es) (ents':=ents) (cl':=cl) (id:=nx) (blk:=w.heap.size) (o:=.map #[] 0) i1 (by rw[bJ,J4 rfl]) (by simp[cE]) (uH w _) g2 g3
   (fun i h=>⟨(g4 i h).1,(g4 i h).2.1.mono hσ (fun _ h=>h) hw,(g4 i h).2.2.mono hσ (fun _ h=>h) hw⟩)
  rw[eAs]at i2 i3
  have e3:upd (upd hp nx (.mapo [] true)) nx (.mapo es true)=upd hp nx (.mapo es true):=by
   funext k;simp only[bJ];split<;>rfl
  rw[e3]at i2
  refine⟨_,_,I,rfl,i2.mono_un (fun k hk=>⟨by omega,by omega⟩),.mp nx _ (by simp[cE]),⟨hσ,fun _ h=>h,fun k hk=>iT w _ k (hi.ilt k hk)⟩,fun id hid hun=>?_⟩
  simp only[cE];rw[J3 (by omega)];exact hun
 cases hg
theorem ok28:bX Try.prog GLh 28 (.heap eBa):=⟨⟨_,Try.func28,rfl,rfl⟩,eCg⟩
end Go.AX

namespace Go.AX
open Go Go.Proofs
theorem eAn (l:List (List B8)):gH (l.map zP)=true:=by
 induction l with
 |nil=>rfl
 |cons a r ih=>
  simp only[gH,List.map_cons,List.any_cons]at ih⊢
  rw[show wG (zP a)=false from rfl,Bool.false_or];exact ih
def eBg (n e nx:Nat) (hp:H):AO→Option (AV×H×Nat)
 | .cells xs _=>aN (e=1∧xs.length=n∧0<n∧n≤4096∧gH xs=true) (some (.os (nx+5) 0 n 1 true,upd hp (nx+5) (.cells xs true),nx+20))
 |_=>none
def eBh:List AV→H→Nat→Option (AV×H×Nat)
 |[.os s 0 n e _],hp,nx=>aK (hp s) (eBg n e nx hp)
 |_,_,_=>none
theorem eBw (s n e:Nat) (g:Bool) (hp:H) (nx:Nat):eBh [.os s 0 n e g] hp nx=aK (hp s) (eBg n e nx hp):=(rfl)
theorem eAk (n e nx:Nat) (hp:H) (xs mt):eBg n e nx hp (.cells xs mt)=aN (e=1∧xs.length=n∧0<n∧n≤4096∧gH xs=true) (some (.os (nx+5) 0 n 1 true,upd hp (nx+5) (.cells xs true),nx+20)):=(rfl)
attribute [go_sem] eBw eAk
theorem is39:oQ Try.prog 39=true:=by kernel_rfl
theorem eCm:cQ Try.prog GLh 27 eBh:=by
 refine gF Try.func27 (aT rfl) ?_
 intro args hp nx r hp' nx' hg
 unfold eBh at hg
 split at hg
 ·rename_i s n e g
  replace hg:=aJ hg;obtain⟨o,ho,hg⟩:=hg
  cases o with
  |mapo es mt=>cases hg
  |cells xs mt=>
  rw[eAk]at hg
  replace hg:=aP hg;obtain⟨⟨rfl,rfl,h0,h1,hno⟩,hg⟩:=hg
  simp only[Option.some.injEq,Prod.mk.injEq]at hg;obtain⟨rfl,rfl,rfl⟩:=hg
  refine⟨J1 rfl,by omega,fun hnone=>?_⟩
  have hlt: ∀k o,hp k=some o→k<nx:=fun k o hk=>cA hnone hk
  have hs:=hlt _ _ ho
  have ht:xs.take xs.length=xs:=List.take_length
  refine cP rfl (bA [0] rfl rfl rfl fun K hK=>?_)
  simp(disch:=omega) only[Try.f27,go_sem,↓reduceIte]
  refine hK _ ?_
  refine aB (cP rfl (cP rfl (bA [4,0] rfl rfl rfl fun K hK=>?_)))
  simp(disch:=omega) only[Try.f27,go_sem,↓reduceIte,is39,h0,true_and]
  refine hK _ ?_
  refine aB (eC (.tmp 4) rfl rfl rfl (fun h=>?_) (fun h=>?_))
  ·refine aI rfl ?_
   cases h
  refine aI rfl (aQ rfl (aB (cP rfl (bA [2] rfl rfl rfl fun K hK=>?_))))
  simp(disch:=omega) only[Try.f27,go_sem,↓reduceIte,cUl,List.length_nil,List.nil_append,ho,J9,Nat.mul_one,ht,hno,Nat.zero_add]
  refine hK _ ?_
  refine aB (aS rfl ?_)
  refine⟨rfl,fun j o hj=>?_,by simp only;omega⟩
  simp only[bJ,eV]at hj⊢
  by_cases e:j=nx+5
  ·rw[J4 e]at hj;rw[J4 (by omega)];exact hj
  rw[J3 e]at hj
  have:=hlt j o hj
  rw[J3 (by omega),J3 (by omega),J3 (by omega)];exact hj
 cases hg
theorem ok27:bX Try.prog GLh 27 (.heap eBh):=⟨⟨_,Try.func27,rfl,rfl⟩,eCm⟩
noncomputable def eAr:List AV→H→Nat→Option (AV×H×Nat)
 |[.op d 0],hp,nx=>aK (mB hp d) fun t=>aN (0<t.C.rows.length∧t.C.rows.length≤4096) (some (.op (nx+4) 0,bO (nx+4) (nx+18) (nx+40) {t.C with g:=true} hp,nx+100))
 |_,_,_=>none
theorem eAj (d:Nat) (hp:H) (nx:Nat):eAr [.op d 0] hp nx=aK (mB hp d) fun t=>aN (0<t.C.rows.length∧t.C.rows.length≤4096) (some (.op (nx+4) 0,bO (nx+4) (nx+18) (nx+40) {t.C with g:=true} hp,nx+100)):=(rfl)
attribute [go_sem] eAj
theorem st4 (a b c d w x y z:AV):dV [a,b,c,d] 0 [w,x,y,z]=[w,x,y,z]:=(rfl)
theorem eCl:cQ Try.prog GLh 17 eAr:=by
 refine gF Try.func17 (aT rfl) ?_
 intro args hp nx r hp' nx' hg
 unfold eAr at hg
 split at hg
 ·rename_i d
  replace hg:=aJ hg;obtain⟨⟨s,m,C⟩,hD0,hg⟩:=hg
  have hD:=mD hD0
  replace hg:=aP hg;obtain⟨⟨g1,g2⟩,hg⟩:=hg
  simp only[Option.some.injEq,Prod.mk.injEq]at hg hD g1 g2;obtain⟨rfl,rfl,rfl⟩:=hg
  refine⟨J1 rfl,by omega,fun hnone=>?_⟩
  have hlt: ∀k o,hp k=some o→k<nx:=fun k o hk=>cA hnone hk
  have h1:=hD.hd;have h2:=hD.hs;have h3:=hD.hm
  obtain⟨n1,n2,n3,n4,n5,n6⟩:=hD.ne
  have hd:=hlt _ _ h1
  have hs:=hlt _ _ h2
  have hm:=hlt _ _ h3
  have hno:=eAn C.rows
  refine cP rfl (bA [0] rfl rfl rfl fun K hK=>?_)
  simp(disch:=omega) only[Try.f17,go_sem,↓reduceIte]
  refine hK _ ?_
  refine aB (cP rfl (bA [0,3] rfl rfl rfl fun K hK=>?_))
  simp(disch:=omega) only[Try.f17,go_sem,↓reduceIte,h1,J9,List.length_cons,List.length_nil,U0,U1,st4]
  refine hK _ ?_
  refine aB (cP rfl (aC (Γ:=bC [(27,.heap eBh)]) [0,3] (aH ok27 aO) rfl rfl rfl (fun K hK=>?_)))
  simp(disch:=omega) only[Try.f17,go_sem,↓reduceIte,h1,h2,J9,J8,List.length_map,hno,g1,g2,bFz,List.set_cons_zero]
  refine hK _ ?_
  refine aB (cP rfl (aC (Γ:=bC [(28,.heap eBa)]) [3] (aH ok28 aO) rfl rfl rfl (fun K hK=>?_)))
  simp(disch:=omega) only[Try.f17,go_sem,↓reduceIte,h1,h3,J7,J9,J8,bFz,List.set_cons_zero,List.set_cons_succ]
  refine hK _ ?_
  refine aB (cP rfl (bA [2] rfl rfl rfl fun K hK=>?_))
  simp(disch:=omega) only[Try.f17,go_sem,↓reduceIte]
  refine hK _ ?_
  refine aB (aS rfl ?_)
  refine⟨rfl,dEj ?_ ?_ ?_ ?_,by simp only;omega⟩
  ·simp[bJ,Nat.add_assoc]
  ·simp[bJ,Nat.add_assoc]
  ·simp[bJ,Nat.add_assoc]
  intro j o j1 j2 j3 hj
  have:=hlt j o hj
  simp only[bJ]
  rw[J3 (by omega),J3 (by omega),J3 (by omega),J3 (by omega),J3 (by omega)];exact hj
 cases hg
theorem ok17:bX Try.prog GLh 17 (.heap eAr):=⟨⟨_,Try.func17,rfl,rfl⟩,eCl⟩
end Go.AX

namespace Go.AX
open Go Go.Proofs
def plc (x n:Int):Int:=if x.tmod n<0 then W (x.tmod n+n)else x.tmod n
def eAe:List AV→Option AV
 |[.i x,.i n]=>aN (n≠0) (some (.i (plc x n)))
 |_=>none
theorem eBo (x n:Int):eAe [.i x,.i n]=aN (n≠0) (some (.i (plc x n))):=(rfl)
attribute [go_sem] eBo
theorem dZv (x n:Int) (h:0<n) (h2:n≤1000000):0≤plc x n∧plc x n<n:=by
 have h3:=Int.tmod_lt_of_pos x h
 have h4:=Int.lt_tmod_of_pos x h
 unfold plc
 split
 ·rw[mP (by omega) (by omega)];omega
 omega
theorem eCc:cL Try.prog GLh 14 eAe:=by
 refine cC Try.func14 (aT rfl) ?_
 intro args r hg
 unfold eAe at hg
 split at hg
 ·rename_i x n
  replace hg:=aP hg;obtain⟨hn,hg⟩:=hg
  obtain rfl:=J0 hg
  refine⟨J1 rfl,fun nx=>?_⟩
  refine cP rfl (bA [0,1] rfl rfl rfl fun K hK=>?_)
  simp(disch:=omega) only[Try.f14,go_sem,↓reduceIte]
  refine hK _ ?_
  refine aB (cP rfl (bA [0,1] rfl rfl rfl fun K hK=>?_))
  simp(disch:=omega) only[Try.f14,go_sem,↓reduceIte,J3 hn]
  refine hK _ ?_
  refine aB (cP rfl (cP rfl (bA [9,0,1] rfl rfl rfl fun K hK=>?_)))
  simp(disch:=omega) only[Try.f14,go_sem,↓reduceIte]
  refine hK _ ?_
  refine aB (gP (.tmp 9) rfl rfl rfl (fun h=>?_) (fun h=>?_))
  ·refine aI rfl (bA [0] rfl rfl rfl fun K hK=>?_)
   simp(disch:=omega) only[Try.f14,go_sem,↓reduceIte]
   refine hK _ ?_
   refine aB (cP rfl (bA [4] rfl rfl rfl fun K hK=>?_))
   simp(disch:=omega) only[Try.f14,go_sem,↓reduceIte]
   refine hK _ ?_
   refine aB (aS rfl ?_)
   simp(disch:=omega) only[cN,bV,bK,bQ,Try.f14,go_sem,↓reduceIte]
   unfold plc;rw[J4 h]
  refine aI rfl (aQ rfl (aB (cP rfl (bA [4] rfl rfl rfl fun K hK=>?_))))
  simp(disch:=omega) only[Try.f14,go_sem,↓reduceIte]
  refine hK _ ?_
  refine aB (aS rfl ?_)
  simp(disch:=omega) only[cN,bV,bK,bQ,Try.f14,go_sem,↓reduceIte]
  unfold plc;rw[J3 h]
 cases hg
theorem eCe:bX Try.prog GLh 14 (.pure true eAe):=⟨⟨_,Try.func14,rfl,rfl⟩,eCc⟩
def dJq:List AV→Option AV
 |[.sl n xs,.sl m ys]=>aK (cI xs) fun l=>aK (cI ys) fun l2=>aN (l.length=n∧l2.length=m) (some (.b (decide (l=l2))))
 |_=>none
theorem cvb5 (hp hp2:H) (cx id:Nat) (x:AV) (sd:Bool):cvF hp hp2 cx id x Try.prog.underlying sd (some (.slice 5)) (some .string)=aK (fG hp2 1 x) fun nl=>aK (cI nl.2) fun l=>some (.s l,hp,cx):=aXn _ _ _ _ _ _ _ _ Try.underlying5
attribute [go_sem] cvb5
theorem dMr (n m:Nat) (xs ys:List AV):dJq [.sl n xs,.sl m ys]=aK (cI xs) fun l=>aK (cI ys) fun l2=>aN (l.length=n∧l2.length=m) (some (.b (decide (l=l2)))):=(rfl)
attribute [go_sem] dMr
theorem dPg:cL Try.prog GLh 19 dJq:=by
 refine cC Try.func19 (aT rfl) ?_
 intro args r hg
 unfold dJq at hg
 split at hg
 ·rename_i n xs m ys
  replace hg:=aJ hg;obtain⟨a,ha,hg⟩:=hg
  replace hg:=aJ hg;obtain⟨b,hb,hg⟩:=hg
  replace hg:=aP hg;obtain⟨⟨rfl,rfl⟩,hg⟩:=hg
  obtain rfl:=J0 hg
  have:=bW ha
  change xs=c8 a at this
  subst this
  have:=bW hb
  change ys=c8 b at this
  subst this
  refine⟨J1 rfl,fun nx=>?_⟩
  refine cP rfl (bA [0,1] rfl rfl rfl fun K hK=>?_)
  simp(disch:=omega) only[Try.f19,go_sem,↓reduceIte]
  refine hK _ ?_
  refine aB (cP rfl (bA [4] rfl rfl rfl fun K hK=>?_))
  simp(disch:=omega) only[Try.f19,go_sem,↓reduceIte,hT,Nat.mul_one,iA]
  refine hK _ ?_
  refine aB (aS rfl ?_)
  simp(disch:=omega) only[cN,bV,bK,bQ,Try.f19,go_sem,↓reduceIte]
 cases hg
theorem eCd:bX Try.prog GLh 19 (.pure true dJq):=⟨⟨_,Try.func19,rfl,rfl⟩,dPg⟩
end Go.AX

namespace Go.AX
open Go Go.Proofs
def gI (dead armed:Bool) (n:Int):Bool×Bool×Int:=if armed=true then(if n=0 then(false,true,n)else(true,dead,W (n-1)))else(true,dead,n)
def eBm (mm:Nat) (hp:H) (nx:Nat):AO→Option (AV×H×Nat)
 | .cells [x,y,z,.b dead,.b armed,.i n] true=>some (.b (gI dead armed n).1,upd hp mm (.cells [x,y,z,.b (gI dead armed n).2.1,.b armed,.i (gI dead armed n).2.2] true),nx+60)
 |_=>none
def dZu:List AV→H→Nat→Option (AV×H×Nat)
 |[.op mm 0],hp,nx=>aK (hp mm) (eBm mm hp nx)
 |_,_,_=>none
theorem eBn (mm:Nat) (hp:H) (nx:Nat):dZu [.op mm 0] hp nx=aK (hp mm) (eBm mm hp nx):=(rfl)
theorem eCb (mm:Nat) (hp:H) (nx:Nat) (x y z:AV) (dead armed:Bool) (n:Int):eBm mm hp nx (.cells [x,y,z,.b dead,.b armed,.i n] true)=some (.b (gI dead armed n).1,upd hp mm (.cells [x,y,z,.b (gI dead armed n).2.1,.b armed,.i (gI dead armed n).2.2] true),nx+60):=(rfl)
attribute [go_sem] eBn eCb
theorem eCa:cQ Try.prog GLh 15 dZu:=by
 refine gF Try.func15 (aT rfl) ?_
 intro args hp nx r hp' nx' hg
 unfold dZu at hg
 split at hg
 ·rename_i mm
  replace hg:=aJ hg;obtain⟨o,ho,hg⟩:=hg
  unfold eBm at hg
  split at hg
  ·rename_i x y z dead armed n
   simp only[Option.some.injEq,Prod.mk.injEq]at hg;obtain⟨rfl,rfl,rfl⟩:=hg
   refine⟨J1 rfl,by omega,fun hnone=>?_⟩
   refine cP rfl (bA [0] rfl rfl rfl fun K hK=>?_)
   simp(disch:=omega) only[Try.f15,go_sem,↓reduceIte]
   refine hK _ ?_
   refine aB ?_
   cases armed
   ·have e:gI dead false n=(true,dead,n):=rfl
    rw[e]
    refine cP rfl (cP rfl (bA [13,0] rfl rfl rfl fun K hK=>?_))
    simp(disch:=omega) only[Try.f15,go_sem,↓reduceIte,ho,J7,J9,J8]
    refine hK _ ?_
    refine aB (eC (.tmp 13) rfl rfl rfl (fun h=>?_) (fun h=>?_))
    ·refine aI rfl ?_
     cases h
    refine aI rfl (aQ rfl (aB (cP rfl (cP rfl (bA [20,0] rfl rfl rfl fun K hK=>?_)))))
    simp(disch:=omega) only[Try.f15,go_sem,↓reduceIte,ho,J7,J9,J8]
    refine hK _ ?_
    refine aB (eC (.tmp 20) rfl rfl rfl (fun h=>?_) (fun h=>?_))
    ·refine aI rfl ?_
     cases h
    refine aI rfl (aQ rfl (aB (cP rfl (bA [2] rfl rfl rfl fun K hK=>?_))))
    simp(disch:=omega) only[Try.f15,go_sem,↓reduceIte]
    refine hK _ ?_
    refine aB (aS rfl ?_)
    refine⟨rfl,fun j o hj=>?_,by simp only;omega⟩
    simp only[bJ]at hj⊢
    by_cases e:j=mm
    ·rw[J4 e]at hj;rw[e,ho];exact hj
    rw[J3 e]at hj;exact hj
   refine cP rfl (cP rfl (bA [13,0] rfl rfl rfl fun K hK=>?_))
   simp(disch:=omega) only[Try.f15,go_sem,↓reduceIte,ho,J7,J9,J8]
   refine hK _ ?_
   refine aB (gP (.tmp 13) rfl rfl rfl (fun h=>?_) (fun h=>?_))
   ·refine aI rfl ?_
    have e:gI dead true n=(false,true,n):=by unfold gI;rw[J4 rfl,J4 h]
    rw[e]
    refine cP rfl (bA [] rfl rfl rfl fun K hK=>?_)
    simp(disch:=omega) only[Try.f15,go_sem,↓reduceIte,ho,List.set_cons_succ,List.set_cons_zero,bFz]
    refine hK _ ?_
    refine aB (cP rfl (bA [2] rfl rfl rfl fun K hK=>?_))
    simp(disch:=omega) only[Try.f15,go_sem,↓reduceIte]
    refine hK _ ?_
    refine aB (aS rfl (bI ?_))
    exact⟨rfl,fun j o h=>h,by simp only;omega⟩
   refine aI rfl ?_
   have e:gI dead true n=(true,dead,W (n-1)):=by unfold gI;rw[J4 rfl,J3 h]
   rw[e]
   refine aQ rfl (aB (cP rfl (cP rfl (bA [20,0] rfl rfl rfl fun K hK=>?_))))
   simp(disch:=omega) only[Try.f15,go_sem,↓reduceIte,ho,J7,J9,J8]
   refine hK _ ?_
   refine aB (eC (.tmp 20) rfl rfl rfl (fun h=>?_) (fun h=>?_))
   ·refine aI rfl (bA [] rfl rfl rfl fun K hK=>?_)
    simp(disch:=omega) only[Try.f15,go_sem,↓reduceIte,ho,J7,J9,J8,List.set_cons_succ,List.set_cons_zero,bFz]
    refine hK _ ?_
    refine aB (cP rfl (bA [2] rfl rfl rfl fun K hK=>?_))
    simp(disch:=omega) only[Try.f15,go_sem,↓reduceIte]
    refine hK _ ?_
    refine aB (aS rfl ?_)
    exact⟨rfl,fun j o h=>h,by simp only;omega⟩
   refine aI rfl ?_
   cases h
  cases hg
 cases hg
theorem eAy:bX Try.prog GLh 15 (.heap dZu):=⟨⟨_,Try.func15,rfl,rfl⟩,eCa⟩
def dZb (fresh:Nat→Bool):Nat→Nat
 |0=>0
 |k+1=>dZb fresh k+if fresh k=true then 1 else 0
def frs (fresh:Nat→Bool):Nat→List Int
 |0=>[]
 |k+1=>if fresh k=true then frs fresh k++[(k:Int)]else frs fresh k
theorem dZi (fresh:Nat→Bool): ∀k,(frs fresh k).length=dZb fresh k
 |0=>rfl
 |k+1=>by
  simp only[frs,dZb]
  split
  ·rw[List.length_append,dZi fresh k];rfl
  rw[dZi fresh k];rfl
theorem dZx (fresh:Nat→Bool) (i:Int): ∀k,i∈frs fresh k↔∃j:Nat,j<k∧fresh j=true∧i=j
 |0=>by simp[frs]
 |k+1=>by
  have ih:=dZx fresh i k
  simp only[frs]
  split
  ·rename_i h
   rw[List.mem_append,ih,List.mem_singleton]
   constructor
   ·rintro(⟨j,h1,h2,h3⟩|rfl)
    ·exact⟨j,by omega,h2,h3⟩
    exact⟨k,by omega,h,rfl⟩
   rintro⟨j,h1,h2,h3⟩
   by_cases e:j=k
   ·subst e;exact .inr h3
   exact .inl ⟨j,by omega,h2,h3⟩
  rename_i h
  rw[ih]
  constructor
  ·rintro⟨j,h1,h2,h3⟩;exact⟨j,by omega,h2,h3⟩
  rintro⟨j,h1,h2,h3⟩
  by_cases e:j=k
  ·subst e;exact absurd h2 h
  exact⟨j,by omega,h2,h3⟩
theorem dZf (fresh:Nat→Bool): ∀k,(frs fresh k).Pairwise (· < ·)
 |0=>List.Pairwise.nil
 |k+1=>by
  simp only[frs]
  split
  ·refine List.pairwise_append.2 ⟨dZf fresh k,List.pairwise_singleton _ _,fun a ha b hb=>?_⟩
   rw[List.mem_singleton]at hb
   subst hb
   obtain⟨j,h1,_,rfl⟩:=(dZx fresh a k).1 ha
   omega
  exact dZf fresh k
theorem eAi (fresh:Nat→Bool): ∀N k,k<N→fresh k=true→(frs fresh N).getD (dZb fresh k) 0=(k:Int)
 |0,k,h,_=>by omega
 |N+1,k,h,hf=>by
  simp only[frs]
  by_cases e:k=N
  ·subst e
   rw[J4 hf,List.getD_eq_getElem?_getD,List.getElem?_append_right (by rw[dZi];exact U3 _),dZi,Nat.sub_self];rfl
  have ih:=eAi fresh N k (by omega) hf
  have hlt:dZb fresh k<(frs fresh N).length:=by
   rcases Nat.lt_or_ge (dZb fresh k) (frs fresh N).length with q|q
   ·exact q
   rw[List.getD_eq_getElem?_getD,List.getElem?_eq_none q]at ih
   rw[dZi]at q
   have hr: ∀M,k<M→dZb fresh k<dZb fresh M:=by
    intro M
    induction M with
    |zero=>intro h;omega
    |succ M ihM=>
     intro h
     simp only[dZb]
     by_cases e2:k=M
     ·subst e2;rw[J4 hf];omega
     have:=ihM (by omega);omega
   have:=hr N (by omega);omega
  split
  ·rw[List.getD_eq_getElem?_getD,List.getElem?_append_left hlt,←List.getD_eq_getElem?_getD];exact ih
  exact ih
end Go.AX

namespace Go.AX
open Go Go.Proofs
def z64:List B8:=List.replicate 64 0#8
def k64:List B8:=7#8::List.replicate 63 0#8
def K0:DC:=⟨[z64,z64,z64],true,[],-1,false⟩
def K1:DC:=⟨[z64,z64,z64],true,[(1,k64)],-1,false⟩
def K2:DC:=⟨[z64,z64,z64],true,[(1,k64),(2,k64)],-1,false⟩
def K3:DC:=⟨[z64,z64,k64],true,[],-1,false⟩
def K4:DC:=⟨[z64,z64,k64],true,[],0,false⟩
def K5:DC:=⟨[z64,z64,k64],true,[],0,true⟩
theorem d33:decide (((3:Nat):Int)=3)=true:=(rfl)
theorem d64:decide (((64:Nat):Int)=64)=true:=(rfl)
theorem dd5:K5.dead=true:=(rfl)
theorem eDb:fM Try.prog 23=true:=by kernel_rfl
theorem eDp:nwC 3 64=K0:=by
 unfold nwC dGw
 rw[show(wit 3 1 4096).toNat=3 by decide,show(wit 64 64 4096).toNat=64 by decide]
 rfl
theorem eCs:srt [1,2]=[1,2]:=List.mergeSort_of_pairwise (by decide)
theorem eDo:wrV K0 1 k64 64=(0,K1):=(rfl)
theorem eDn:wrV K1 2 k64 64=(0,K2):=(rfl)
theorem eDm:dRv 2#64 K2=K3:=by
 have e:K2.dirty.map (·.1)=[1,2]:=rfl
 unfold dRv dFn
 rw[e,eCs]
 rfl
theorem eDl:dRt K3 0=K4:=(rfl)
theorem eDk:mL K4=(82,K5):=(rfl)
theorem eAg:z64.length=64:=(rfl)
theorem eAh:k64.length=64:=(rfl)
theorem eDj:atV K3 1=0:=(rfl)
theorem eDi:atV K3 2=0:=(rfl)
theorem g3 (i:Int):iK i K3.dirty=none:=(rfl)
theorem eCv:rep 64 [.w8 0#8]=c8 z64:=dKc 64
theorem eCt:(c8 z64).set 0 (.w8 7#8)=c8 k64:=(rfl)
theorem tk64:k64.take 64=k64:=(rfl)
theorem hz64:(c8 z64).head? =some (.w8 0#8):=(rfl)
theorem hk64:(c8 k64).head? =some (.w8 7#8):=(rfl)
def knG:List AV→Option AV
 |[]=>some (.b true)
 |_=>none
theorem eCi:knG []=some (.b true):=(rfl)
attribute [go_sem] eCi
set_option maxHeartbeats 2000000 in
theorem eBb:cL Try.prog GLh 6 knG:=by
 refine cC Try.func6 (aT rfl) ?_
 intro args r hg
 unfold knG at hg
 split at hg
 ·obtain rfl:=J0 hg
  refine⟨J1 rfl,fun nx=>?_⟩
  have w3:(wit 3 1 4096).toNat=3:=by decide
  have s0:uK K0.rows=some 64:=rfl
  have s1:uK K1.rows=some 64:=rfl
  have l0:K0.rows.length=3:=rfl
  have d2:DOk K2=true:=rfl
  have d2a:K2.rows.length=3:=rfl
  have d2b:K2.dirty.length=2:=rfl
  have d4:DOk K4=true:=rfl
  have d4a:K4.rows.length=3:=rfl
  have d4b:K4.dirty.length=0:=rfl
  refine cP rfl (bA [] rfl rfl rfl fun K hK=>?_)
  simp(disch:=omega) only[Try.f6,go_sem]
  refine hK _ ?_
  refine aB (cP rfl (aC (Γ:=bC [(7,.heap bKg)]) [1] (aH ok7 aO) rfl rfl rfl (fun K hK=>?_)))
  simp(disch:=omega) only[Try.f6,go_sem,↓reduceIte,w3,eDp]
  refine hK _ ?_
  refine aB (cP rfl (cP rfl (aC (Γ:=bC [(8,.heap dGz),(9,.heap dGx)]) [22,1] (aH ok8 (aH ok9 aO)) rfl rfl rfl (fun K hK=>?_))))
  simp(disch:=omega) only[Try.f6,go_sem,↓reduceIte,l0,s0,eDb,d33,eq_self,decide_true,Bool.not_true]
  refine hK _ ?_
  refine aB (eC (.tmp 22) rfl rfl rfl (fun h=>?_) (fun h=>?_))
  ·refine aI rfl ?_
   cases h
  refine aI rfl (aQ rfl (aB (cP rfl (bA [1,2] rfl rfl rfl fun K hK=>?_))))
  simp(disch:=omega) only[Try.f6,go_sem,↓reduceIte,eCv]
  refine hK _ ?_
  refine aB (cP rfl (bA [1,2] rfl rfl rfl fun K hK=>?_))
  simp(disch:=omega) only[Try.f6,go_sem,↓reduceIte,Nat.zero_add,bFz,hT,eAg,eCt]
  refine hK _ ?_
  refine aB (cP rfl (aC (Γ:=bC [(10,.heap wrG)]) [1,3,4] (aH dRa aO) rfl rfl rfl (fun K hK=>?_)))
  simp(disch:=omega) only[Try.f6,go_sem,↓reduceIte,J9,tk64,s0,s1,eDo,eDn,eAh]
  refine hK _ ?_
  refine aB (cP rfl (aC (Γ:=bC [(12,.heap dSr)]) [1,3,4] (aH dUp aO) rfl rfl rfl (fun K hK=>?_)))
  simp(disch:=omega) only[Try.f6,go_sem,↓reduceIte,d2,d2a,d2b,eDm]
  refine hK _ ?_
  refine aB (cP rfl (aC (Γ:=bC [(13,.heap rdG)]) [1,3,4,5,6] (aH dQy aO) rfl rfl rfl (fun K hK=>?_)))
  simp(disch:=omega) only[Try.f6,go_sem,↓reduceIte,eDj,g3]
  refine hK _ ?_
  refine aB (cP rfl (aC (Γ:=bC [(13,.heap rdG)]) [1,3,4,5,6,7,8] (aH dQy aO) rfl rfl rfl (fun K hK=>?_)))
  simp(disch:=omega) only[Try.f6,go_sem,↓reduceIte,eDi,g3,eAg]
  refine hK _ ?_
  refine aB (cP rfl (aC (Γ:=bC [(16,.heap bOg)]) [1,3,4,5,6,7,8] (aH dUo aO) rfl rfl rfl (fun K hK=>?_)))
  simp(disch:=omega) only[Try.f6,go_sem,↓reduceIte,eDl]
  refine hK _ ?_
  refine aB (cP rfl (aC (Γ:=bC [(11,.heap dJd)]) [1,3,4,5,6,7,8,9] (aH dQz aO) rfl rfl rfl (fun K hK=>?_)))
  simp(disch:=omega) only[Try.f6,go_sem,↓reduceIte,d4,d4a,d4b,eDk]
  refine hK _ ?_
  refine aB (cP rfl (aC (Γ:=bC [(18,.heap dWf)]) [0] (aH eBs aO) rfl rfl rfl (fun K hK=>?_)))
  simp(disch:=omega) only[Try.f6,go_sem,↓reduceIte,eAh,dd5,hz64,hk64,J9,Nat.zero_add,d64,eq_self,decide_true]
  refine hK _ ?_
  refine aB (aS rfl ?_)
  simp(disch:=omega) only[cN,bV,bK,bQ,Try.f6,go_sem,↓reduceIte]
 cases hg
theorem ok6:bX Try.prog GLh 6 (.pure true knG):=⟨⟨_,Try.func6,rfl,rfl⟩,eBb⟩
end Go.AX

namespace Go.AX
open Go Go.Proofs
end Go.AX

namespace Go.AX
open Go Go.Proofs
def dl (f:Nat→List B8) (n:Nat):List (Int×List B8):=(List.range n).map fun i:Nat=>((i:Int),f i)
def settled (kept:Nat→Bool) (rows:List (List B8)) (f:Nat→List B8) (n:Nat):List (List B8):=(List.range rows.length).map fun i=>if i<n∧kept i=true then f i else rows.getD i []
end Go.AX

namespace Go.AX
open Go Go.Proofs
structure dZa (N:Nat) (l:Nat→List B8) (fresh:Nat→Bool) (C:DC):Prop where
 len:C.rows.length=N
 get: ∀k:Nat,k<N→iK (k:Int) C.dirty=if fresh k=true then some (l k)else none
 keys: ∀i:Int,i∈C.dirty.map (·.1)→∃k:Nat,k<N∧i=(k:Int)
 nodup:(C.dirty.map (·.1)).Nodup
 old: ∀k,k<N→fresh k=false→C.rows.getD k []=l k
theorem eAo {i:Int} {b:List B8} {l:List (Int×List B8)} (h:iK i l=some b):i∈l.map (·.1):=by
 induction l with
 |nil=>cases h
 |cons p r ih=>
  simp only[iK]at h
  split at h
  ·rename_i e;rw[e];exact List.mem_cons_self
  exact List.mem_cons_of_mem _ (ih h)
variable {N : Nat} {l : Nat → List B8} {fresh : Nat → Bool} {C : DC}
theorem dZa.srt (h:dZa N l fresh C):srt (C.dirty.map (·.1))=frs fresh N:=by
 have hp:(C.dirty.map (·.1)).Perm (frs fresh N):=by
  refine(List.perm_ext_iff_of_nodup h.nodup ((dZf fresh N).imp fun {a b} q=>Int.ne_of_lt q)).2 fun i=>?_
  rw[dZx]
  constructor
  ·intro hi
   obtain⟨k,hk,rfl⟩:=h.keys i hi
   refine⟨k,hk,?_,rfl⟩
   obtain⟨b,hb⟩:=wH hi
   rw[h.get k hk]at hb
   split at hb
   ·assumption
   cases hb
  rintro⟨k,hk,hf,rfl⟩
  have:=h.get k hk
  rw[J4 hf]at this
  exact eAo this
 have e:=mergeSort_of_perm_i hp
 refine Eq.trans e (List.mergeSort_of_pairwise ((dZf fresh N).imp fun {a b} q=>?_))
 simp only[leI,decide_eq_true_eq];omega
theorem dZa.count (h:dZa N l fresh C):C.dirty.length=dZb fresh N:=by
 have:=congrArg List.length h.srt
 rw[dFo,List.length_map,dZi]at this;exact this
theorem dZa.rows (h:dZa N l fresh C) (kept:Nat→Bool): ∀j,j≤N→mG kept (frs fresh N) C.dirty C.rows (dZb fresh j)=(List.range N).map fun k=>if k<j∧fresh k=true∧kept (dZb fresh k)=true then l k else C.rows.getD k []
 |0,_=>by
  simp only[dZb,mG]
  apply List.ext_getElem
  ·simp[h.len]
  intro i h1 h2
  simp[h1]
 |j+1,hj=>by
  have ih:=h.rows kept j (by omega)
  simp only[dZb]
  by_cases hf:fresh j=true
  ·have e1:=eAi fresh N j (by omega) hf
   have e2:=h.get j (by omega)
   rw[J4 hf]at e2
   simp only[hf,if_true,mG,ih,e1,e2,Option.getD_some,U2]
   apply List.ext_getElem
   ·split<;>simp
   intro i h1 h2
   split
   ·rename_i hk
    rw[List.getElem_set]
    by_cases e:j=i
    ·subst e;simp[hf,hk]
    simp only[J3 e,List.getElem_map,List.getElem_range]
    by_cases h3:i<j
    ·simp[h3,show i<j+1 by omega]
    simp[h3,show¬i<j+1 by omega]
   rename_i hk
   simp only[List.getElem_map,List.getElem_range]
   by_cases h3:i<j
   ·simp[h3,show i<j+1 by omega]
   by_cases e:i=j
   ·subst e;simp[hk]
   simp[h3,show¬i<j+1 by omega]
  simp only[hf,Bool.false_eq_true,if_false,Nat.add_zero,ih]
  apply List.ext_getElem
  ·simp
  intro i h1 h2
  simp only[List.getElem_map,List.getElem_range]
  by_cases h3:i<j
  ·simp[h3,show i<j+1 by omega]
  by_cases e:i=j
  ·subst e;simp[hf]
  simp[h3,show¬i<j+1 by omega]
def aft (kept:Nat→Bool) (l:Nat→List B8) (fresh:Nat→Bool) (C:DC) (k:Nat):List B8:=if fresh k=true∧kept (dZb fresh k)=true then l k else C.rows.getD k []
theorem dZa.stl (h:dZa N l fresh C) (kept:Nat→Bool):dFn kept C= {C with rows:=(List.range N).map (aft kept l fresh C),dirty:=[]}:=by
 unfold dFn
 rw[h.srt,h.count,h.rows kept N (U3 _)]
 congr 1
 apply List.map_congr_left
 intro k hk
 have:k<N:=List.mem_range.1 hk
 simp only[aft,this,true_and]
theorem dZa.settle (h:dZa N l fresh C) (kept:Nat→Bool) (c:Int) (x:Bool):dZa N (aft kept l fresh C) (fun _=>false) {dFn kept C with cut:=c,dead:=x}:=by
 rw[h.stl kept]
 refine⟨by simp,fun k hk=>?_,(fun i hi=>by cases hi),List.nodup_nil,fun k hk _=>?_⟩
 ·simp[iK]
 simp[List.getD_eq_getElem?_getD,List.getElem?_range hk]
theorem dZa.dok (h:dZa N l fresh C):DOk C=true:=by
 unfold DOk
 refine List.all_eq_true.2 fun i hi=>J5 ?_
 obtain⟨k,hk,rfl⟩:=h.keys i hi
 rw[h.len];omega
theorem dZt (fresh:Nat→Bool): ∀k,dZb fresh k≤k
 |0=>U3 _
 |k+1=>by
  have:=dZt fresh k
  simp only[dZb];split<;>omega
theorem eAp (i j:Int) (b:List B8) (l:List (Int×List B8)):iK i (kT j b l)=if i=j then some b else iK i l:=by
 induction l with
 |nil=>simp only[kT,iK]
 |cons p r ih=>
  simp only[kT]
  by_cases e:j=p.1
  ·rw[J4 e]
   simp only[iK]
   by_cases e2:i=j
   ·rw[J4 e2,J4 e2]
   rw[J3 e2,J3 e2,J3 (by rw[←e];exact e2)]
  rw[J3 e]
  simp only[iK,ih]
  by_cases e2:i=p.1
  ·rw[J4 e2,J3 (by rw[e2];exact fun q=>e q.symm),J4 e2]
  rw[J3 e2]
  split
  ·rfl
  rfl
theorem dZs (j:Int) (b:List B8) (l:List (Int×List B8)):(kT j b l).map (·.1)=if j∈l.map (·.1)then l.map (·.1)else l.map (·.1)++[j]:=by
 induction l with
 |nil=>rfl
 |cons p r ih=>
  simp only[kT]
  by_cases e:j=p.1
  ·rw[J4 e];simp[e]
  rw[J3 e]
  simp only[List.map_cons,ih,List.mem_cons,e,false_or]
  split<;>rfl
theorem dZa.write (h:dZa N l fresh C) {i:Nat} (hi:i<N) (b:List B8) (c:Int) (x:Bool):
  dZa N (fun k=>if k=i then b else l k) (fun k=>if k=i then true else fresh k) {C with dirty:=kT i b C.dirty,cut:=c,dead:=x}:=by
 refine⟨h.len,fun k hk=>?_,fun j hj=>?_,?_,fun k hk hf=>?_⟩
 ·simp only[eAp]
  by_cases e:k=i
  ·subst e;simp
  ·rw[J3 (by omega),h.get k hk];simp[e]
 ·simp only[dZs]at hj
  split at hj
  ·exact h.keys j hj
  ·rw[List.mem_append,List.mem_singleton]at hj
   rcases hj with hj|rfl
   ·exact h.keys j hj
   ·exact⟨i,hi,rfl⟩
 ·simp only[dZs]
  split
  ·exact h.nodup
  ·rename_i hn
   refine List.nodup_append.2 ⟨h.nodup,by simp,fun a ha b' hb' e=>?_⟩
   rw[List.mem_singleton]at hb'
   subst hb';subst e;exact hn ha
 ·by_cases e:k=i
  ·simp[e]at hf
  ·simp only[J3 e]at hf⊢
   exact h.old k hk hf
theorem dZa.power (h:dZa N l fresh C) (c:Int) (x:Bool):dZa N l fresh {C with cut:=c,dead:=x}:=⟨h.len,h.get,h.keys,h.nodup,h.old⟩
theorem dZa.read (h:dZa N l fresh C) {i:Nat} (hi:i<N):(match iK (i:Int) C.dirty with|some b=>some b|none=>C.rows[i]?)=some (l i):=by
 rw[h.get i hi]
 by_cases hf:fresh i=true
 ·rw[J4 hf]
 rw[J3 hf]
 have e:=h.old i hi (by simpa using hf)
 rw[List.getD_eq_getElem?_getD]at e
 have hl:i<C.rows.length:=by rw[h.len];exact hi
 rw[List.getElem?_eq_getElem hl]at e⊢
 simp only[Option.getD_some]at e
 rw[e]
end Go.AX

namespace Go.AX
open Go Go.Proofs
inductive FP where
 |all
 |at_ (R W:List Nat)
 |cal (hp hp':H)
def fpV:AV→List Nat
 | .os i _ _ _ _=>[i]
 | .op i _=>[i]
 | .mp i=>[i]
 |_=>[]
def rW (hp:H) (y:AV):Bool:=
 match y with
 | .os j off n e _=>match hp j with
  |some (.cells xs _)=>gH ((xs.drop off).take (n*e))
  |_=>false
 | .sl _ xs=>gH xs
 | .s _=>true
 | .v (.slice none 0 0)=>true
 |_=>false
def dYz:List AV→List Nat
 |[]=>[]
 | .os i _ _ _ _::r=>i::dYz r
 |_::r=>dYz r
def dZr (hp:H) (y:AV):Option (List Nat):=
 match y with
 | .os j off n e _=>match hp j with
  |some (.cells xs _)=>some (dYz ((xs.drop off).take (n*e)))
  |_=>none
 |_=>none
def fpW (op:Op) (ρ:Operand→AV) (hp:H) (id:Nat):FP:=
 match op with
 | .store _ a _=> .at_ [] (fpV (ρ a))
 | .call c=>match c.callee,c.args.toList,c.argTypes.toList with
  | .builtin .append,[x,y],[_,_]=>if rW hp (ρ y)=true then .at_ (fpV (ρ y)) (id::fpV (ρ x))else match dZr hp (ρ y)with
   |some l=> .at_ (fpV (ρ y)) (id::(fpV (ρ x)++l))
   |none=> .all
  |_,_,_=> .all
 |_=> .all
def fpR (op:Op) (ρ:Operand→AV):FP:=
 match op with
 | .load _ x=> .at_ (fpV (ρ x)) []
 |_=> .all
def fpE (P:Program) (Γ:Env) (m:Nat) (op:Op) (ρ:Operand→AV) (hp:H) (id:Nat):FP:=
 if tI P Γ m op=.P then .at_ [] []else
 match cls P op with
 | .pure=> .at_ [] []
 | .read=>fpR op ρ
 | .new=> .at_ [] [id]
 | .write=>fpW op ρ hp id
 | .call=> .all
def kZ (p:Nat→Option (Option AO)) (hp:H):H:=fun k=>match p k with|some o=>o|none=>hp k
theorem qK (hp:H) (i:Nat) (o:AO):kZ (fun k=>if k=i then some (some o)else none) hp=upd hp i o:=by
 funext k
 simp only[kZ,bJ]
 by_cases h:k=i
 ·simp[h]
 simp[h]
theorem wY (hp:H) (i id:Nat) (o:AO):kZ (fun k=>if k=id then some (some o)else if k=i then some none else none) hp=upd (del hp i) id o:=by
 funext k
 simp only[kZ,bJ,eV]
 by_cases h:k=id
 ·simp[h]
 by_cases h2:k=i
 ·subst h2;simp[h]
 simp[h,h2]
theorem bEt (hp:H) (p q:Nat→Option (Option AO)) (h: ∀k,p k≠none→q k=none):kZ p (kZ q hp)=kZ q (kZ p hp):=by
 funext k
 simp only[kZ]
 cases hp1:p k with
 |none=>simp
 |some o=>
  have:=h k (by rw[hp1];simp)
  rw[this]
def cSa (R W:List Nat) (f:H→Option (AV×H)) (hp:H):Prop:=
 ∀r,f hp=some r→∃p,(∀k,p k≠none→k∈W)∧r.2=kZ p hp∧∀hp2,(∀k,k∈R∨k∈W→hp2 k=hp k)→f hp2=some (r.1,kZ p hp2)
theorem bAr (P:Program) (t:TypeId) (a x:Operand) (ρ:Operand→AV) (id:Nat) (hp:H):cSa [] (fpV (ρ a)) (fun hp=>fR P (.store t a x) ρ hp id) hp:=by
 intro r hr
 simp only[fR]at hr⊢
 cases ha:ρ a with
 |op i off=>
  simp only[ha]at hr⊢
  replace hr:=aJ hr;obtain⟨cs,hcs,hr⟩:=hr
  replace hr:=aJ hr;obtain⟨z,hz,hr⟩:=hr
  replace hr:=aJ hr;obtain⟨o,ho,hr⟩:=hr
  cases o with
  |mapo es mt=>cases hr
  |cells xs mt=>
   simp only at hr
   replace hr:=aP hr;obtain⟨hg,hr⟩:=hr
   obtain rfl:=J0 hr
   refine⟨fun k=>if k=i then some (some (.cells (dV xs off cs) true))else none,fun k hk=>?_,(qK _ _ _).symm,fun hp2 h2=>?_⟩
   ·simp only[fpV]
    by_cases e:k=i
    ·simp[e]
    simp[e]at hk
   have:=h2 i (.inr (by simp[fpV]))
   rw[hcs,aX,hz,aX,this,ho,aX]
   simp only[]
   rw[cU _ hg,qK]
 |_=>simp only[ha]at hr;cases hr
theorem aQw {hp hp2:H} {y:AV} (h2: ∀k,k∈fpV y→hp2 k=hp k):rW hp2 y=rW hp y:=by
 unfold rW
 cases y with
 |os j off n e g=>simp only[];rw[h2 j (by simp[fpV])]
 |v v=>
  cases v with
  |slice a b c=>cases a<;>cases b<;>cases c<;>rfl
  |_=>rfl
 |_=>rfl
theorem bTo {hp hp2:H} {z:Nat} {y:AV} {my:Nat×List AV} (h:tX hp z y=some my) (hn:rW hp y=true) (h2: ∀k,k∈fpV y→hp2 k=hp k):
  gH my.2=true∧tX hp2 z y=some my∧rW hp2 y=true:=by
 unfold tX at h⊢
 unfold rW at hn⊢
 cases y with
 |s l=>
  simp only at h⊢
  replace h:=aP h;obtain⟨hg,h⟩:=h
  obtain rfl:=J0 h
  refine⟨?_,by rw[cU _ hg],trivial⟩
  simp only[gH,Bool.not_eq_true',List.any_eq_false,List.mem_map]
  rintro _ ⟨x,_,rfl⟩
  simp[wG]
 |sl n xs=>
  simp only[fG]at h hn⊢
  replace h:=aP h;obtain⟨hg,h⟩:=h
  obtain rfl:=J0 h
  exact⟨hn,by rw[cU _ hg],hn⟩
 |os j off n e g=>
  simp only[fG]at h hn⊢
  have e2:=h2 j (by simp[fpV])
  replace h:=aJ h;obtain⟨o,ho,h⟩:=h
  rw[e2,ho]
  rw[ho]at hn
  cases o with
  |mapo es mt=>cases h
  |cells xs mt=>
   simp only at h hn⊢
   replace h:=aP h;obtain⟨hg,h⟩:=h
   obtain rfl:=J0 h
   refine⟨?_,by rw[aX];simp only[];rw[cU _ hg],hn⟩
   rw[←hg.1];exact hn
 |v v=>
  cases v with
  |slice a b c=>
   cases a with
   |none=>
    cases b with
    |zero=>cases c with
     |zero=>
      simp only[fG]at h⊢
      obtain rfl:=J0 h
      exact⟨rfl,rfl,trivial⟩
     |succ c=>simp[fG]at h
    |succ b=>simp[fG]at h
   |some a=>simp[fG]at h
  |_=>simp[fG]at h
 |_=>simp[fG]at h
theorem eAa {z by_ m id:Nat} {x:AV} {ys:List AV} {hp:H} {r:AV×H} (hr:zV z by_ x m ys hp id=some r): ∃p:Nat→Option (Option AO),(∀k,p k≠none→k∈id::fpV x)∧r.2=kZ p hp∧∀hp2:H,(∀k,k∈fpV x→hp2 k=hp k)→zV z by_ x m ys hp2 id=some (r.1,kZ p hp2):=by
 unfold zV at hr⊢
 cases x with
 |os i off n e' g=>
  simp only at hr⊢
  replace hr:=aJ hr;obtain⟨o,ho,hr⟩:=hr
  cases o with
  |mapo es mt=>cases hr
  |cells xs mt=>
   simp only at hr
   unfold eqO at hr
   have dom: ∀(w:AO) (k:Nat),(if k=id then some (some w)else if k=i then some none else none:Option (Option AO))≠none→k∈id::fpV (.os i off n e' g):=by
    intro w k hk
    simp only[fpV,List.mem_cons,List.not_mem_nil,or_false]
    by_cases e1:k=id
    ·exact .inl e1
    by_cases e2:k=i
    ·exact .inr e2
    simp[e1,e2]at hk
   split at hr
   ·rename_i he
    simp only[kF]at hr
    replace hr:=aJ hr;obtain⟨o2,ho2,hr⟩:=hr
    obtain rfl:=J0 (ho.symm.trans ho2)
    simp only at hr
    replace hr:=aP hr;obtain⟨hg2,hr⟩:=hr
    obtain rfl:=J0 hr
    refine⟨fun k=>if k=id then some (some (.cells (xs.drop off++ys) true))else if k=i then some none else none,dom _,(wY _ _ _ _).symm,fun hp2 h2=>?_⟩
    have e3:=h2 i (by simp[fpV])
    rw[e3,ho,aX]
    simp only[eqO]
    rw[J4 he]
    simp only[kF]
    rw[e3,ho,aX]
    simp only[]
    rw[cU _ hg2,wY]
   rename_i he
   unfold aDp at hr
   replace hr:=aP hr;obtain⟨hg2,hr⟩:=hr
   obtain rfl:=J0 hr
   refine⟨fun k=>if k=id then some (some (.cells ((xs.drop off).take (n*z)++ys) true))else if k=i then some none else none,dom _,(wY _ _ _ _).symm,fun hp2 h2=>?_⟩
   have e3:=h2 i (by simp[fpV])
   rw[e3,ho,aX]
   simp only[eqO]
   rw[J3 he]
   unfold aDp
   rw[cU _ hg2,wY]
 |v v=>
  cases v with
  |slice a b c=>
   cases a with
   |none=>
    cases b with
    |zero=>cases c with
     |zero=>
      simp only[kF]at hr⊢
      replace hr:=aP hr;obtain⟨hg2,hr⟩:=hr
      obtain rfl:=J0 hr
      refine⟨fun k=>if k=id then some (some (.cells ys true))else none,fun k hk=>?_,(qK _ _ _).symm,fun hp2 h2=>by rw[cU _ hg2,qK]⟩
      by_cases e1:k=id
      ·simp[e1]
      simp[e1]at hk
     |succ c=>simp[kF]at hr
    |succ b=>simp[kF]at hr
   |some a=>simp[kF]at hr
  |_=>simp[kF]at hr
 |_=>simp[kF]at hr
theorem aSh (P:Program) (t:TypeId) (x y:AV) (id:Nat) (hp:H) (hn:rW hp y=true):cSa (fpV y) (id::fpV x) (fun hp=>pK P t x y hp id) hp:=by
 intro r hr
 simp only[pK]at hr⊢
 cases ht:P.underlying t with
 |none=>simp[ht]at hr
 |some d=>
  cases d with
  |slice e=>
   simp only[ht]at hr⊢
   replace hr:=aJ hr;obtain⟨z,hz,hr⟩:=hr
   replace hr:=aJ hr;obtain⟨by_,hb,hr⟩:=hr
   replace hr:=aJ hr;obtain⟨zs,hzs,hr⟩:=hr
   replace hr:=aP hr;obtain⟨hg,hr⟩:=hr
   replace hr:=aJ hr;obtain⟨my,hmy,hr⟩:=hr
   have hsrc:=fun hp2 h2=>bTo (hp2:=hp2) hmy hn h2
   have hno:=(hsrc hp (fun _ _=>rfl)).1
   have hfz: ∀hp:H,uU hp my.2=some (my.2,hp):=fun hp=>J4 hno
   rw[hfz,aX]at hr
   simp only at hr
   have red: ∀hp2:H,(∀k,k∈fpV y→hp2 k=hp k)→(aK (cD P e) fun z=>aK (dU P e) fun by_=>aK (cG P e) fun zs=>aN (0<z∧zs.length=z) (aK (tX hp2 z y) fun my=>aK (uU hp2 my.2) fun fy=>zV z by_ x my.1 fy.1 fy.2 id))=zV z by_ x my.1 my.2 hp2 id:=by
    intro hp2 h2
    rw[hz,aX,hb,aX,hzs,aX,cU _ hg,(hsrc hp2 h2).2.1,aX,hfz,aX]
   have key:=eAa hr
   obtain⟨p,p1,p2,p3⟩:=key
   exact⟨p,p1,p2,fun hp2 h2=>by rw[red hp2 (fun k hk=>h2 k (.inl hk)),p3 hp2 (fun k hk=>h2 k (.inr (by simp[hk])))]⟩
  |_=>simp[ht]at hr
theorem dZj (hp:H) (p q:Nat→Option (Option AO)):kZ p (kZ q hp)=kZ (fun k=>match p k with|some o=>some o|none=>q k) hp:=by
 funext k
 simp only[kZ]
 cases p k<;>rfl
theorem dZl: ∀ {xs:List AV} {hp:H} {r:List AV×H},nT hp xs=some r→∃p:Nat→Option (Option AO),(∀k,p k≠none→k∈dYz xs)∧r.2=kZ p hp∧∀hp2:H,(∀k,k∈dYz xs→hp2 k=hp k)→nT hp2 xs=some (r.1,kZ p hp2)
 |[],hp,r,h=>by
  obtain rfl:=J0 h
  exact⟨fun _=>none,fun k hk=>absurd rfl hk,rfl,fun hp2 _=>rfl⟩
 |x::xs,hp,r,h=>by
  have plain:(∀hp:H,nT hp (x::xs)=aK (nT hp xs) fun p=>some (x::p.1,p.2))→dYz (x::xs)=dYz xs→∃p:Nat→Option (Option AO),(∀k,p k≠none→k∈dYz (x::xs))∧r.2=kZ p hp∧∀hp2:H,(∀k,k∈dYz (x::xs)→hp2 k=hp k)→nT hp2 (x::xs)=some (r.1,kZ p hp2):=by
   intro e1 e2
   rw[e1]at h
   replace h:=aJ h;obtain⟨q,hq,h⟩:=h
   obtain rfl:=J0 h
   obtain⟨p,p1,p2,p3⟩:=dZl hq
   rw[e2]
   exact⟨p,p1,p2,fun hp2 h2=>by rw[e1,p3 hp2 h2,aX]⟩
  cases x with
  |os i off n e g=>
   simp only[nT]at h
   replace h:=aJ h;obtain⟨o,ho,h⟩:=h
   cases o with
   |mapo es mt=>cases h
   |cells cs mt=>
    simp only at h
    replace h:=aP h;obtain⟨hg,h⟩:=h
    replace h:=aJ h;obtain⟨q,hq,h⟩:=h
    obtain rfl:=J0 h
    obtain⟨p,p1,p2,p3⟩:=dZl hq
    have hu: ∀hp:H,upd hp i (.cells cs false)=kZ (fun k=>if k=i then some (some (.cells cs false))else none) hp:=fun hp=>(qK _ _ _).symm
    refine⟨fun k=>match p k with|some o=>some o|none=>(if k=i then some (some (.cells cs false))else none),fun k hk=>?_,?_,fun hp2 h2=>?_⟩
    ·simp only[dYz,List.mem_cons]
     by_cases e:k=i
     ·exact .inl e
     refine .inr (p1 k fun e2=>hk ?_)
     simp only[e2,J3 e]
    ·rw[p2,hu,dZj]
    have e3:=h2 i (by simp[dYz])
    have e4:=p3 (upd hp2 i (.cells cs false)) fun k hk=>by
     simp only[bJ]
     split
     ·rfl
     exact h2 k (by simp[dYz,hk])
    simp only[nT]
    rw[e3,ho,aX]
    simp only[]
    rw[cU _ hg,e4,aX,hu,dZj]
  |_=>exact plain (fun _=>rfl) rfl
theorem eBc {xs:List AV} {hp:H} {r:List AV×H} (h:uU hp xs=some r): ∃p:Nat→Option (Option AO),(∀k,p k≠none→k∈dYz xs)∧r.2=kZ p hp∧∀hp2:H,(∀k,k∈dYz xs→hp2 k=hp k)→uU hp2 xs=some (r.1,kZ p hp2):=by
 unfold uU at h⊢
 by_cases hn:gH xs=true
 ·rw[J4 hn]at h
  obtain rfl:=J0 h
  exact⟨fun _=>none,fun k hk=>absurd rfl hk,rfl,fun hp2 _=>by rw[J4 hn];rfl⟩
 rw[J3 hn]at h
 obtain⟨p,p1,p2,p3⟩:=dZl h
 exact⟨p,p1,p2,fun hp2 h2=>by rw[J3 hn];exact p3 hp2 h2⟩
theorem eAc {hp hp2:H} {y:AV} (h2: ∀k,k∈fpV y→hp2 k=hp k):dZr hp2 y=dZr hp y:=by
 unfold dZr
 cases y with
 |os j off n e g=>simp only[];rw[h2 j (by simp[fpV])]
 |_=>rfl
theorem dZz (P:Program) (t:TypeId) (x y:AV) (id:Nat) (hp:H) {l:List Nat} (hn:dZr hp y=some l):cSa (fpV y) (id::(fpV x++l)) (fun hp=>pK P t x y hp id) hp:=by
 intro r hr
 simp only[pK]at hr⊢
 cases ht:P.underlying t with
 |none=>simp[ht]at hr
 |some d=>
  cases d with
  |slice e=>
   simp only[ht]at hr⊢
   replace hr:=aJ hr;obtain⟨z,hz,hr⟩:=hr
   replace hr:=aJ hr;obtain⟨by_,hb,hr⟩:=hr
   replace hr:=aJ hr;obtain⟨zs,hzs,hr⟩:=hr
   replace hr:=aP hr;obtain⟨hg,hr⟩:=hr
   replace hr:=aJ hr;obtain⟨my,hmy,hr⟩:=hr
   replace hr:=aJ hr;obtain⟨fy,hfy,hr⟩:=hr
   have hsrc:dYz my.2=l∧∀hp2:H,(∀k,k∈fpV y→hp2 k=hp k)→tX hp2 z y=some my:=by
    unfold dZr at hn
    cases y with
    |os j off n e' g=>
     simp only[tX,fG]at hn hmy⊢
     replace hmy:=aJ hmy;obtain⟨o,ho,hmy⟩:=hmy
     rw[ho]at hn
     cases o with
     |mapo es mt=>cases hmy
     |cells xs mt=>
      simp only at hmy hn
      replace hmy:=aP hmy;obtain⟨hg2,hmy⟩:=hmy
      obtain rfl:=J0 hmy
      obtain rfl:=J0 hn
      refine⟨by rw[hg2.1],fun hp2 h2=>?_⟩
      rw[h2 j (by simp[fpV]),ho,aX]
      simp only[]
      rw[cU _ hg2]
    |_=>cases hn
   obtain⟨hl,hsrc⟩:=hsrc
   obtain⟨p,p1,p2,p3⟩:=eBc hfy
   rw[hl]at p1 p3
   obtain⟨q,q1,q2,q3⟩:=eAa hr
   refine⟨fun k=>match q k with|some o=>some o|none=>p k,fun k hk=>?_,by rw[q2,p2,dZj],fun hp2 h2=>?_⟩
   ·simp only at hk
    cases hq:q k with
    |some o=>
     have:=q1 k (by rw[hq];simp)
     rcases List.mem_cons.1 this with h|h
     ·simp[h]
     simp[h]
    |none=>
     rw[hq]at hk
     have:=p1 k hk
     simp[this]
   rw[hz,aX,hb,aX,hzs,aX,cU _ hg,hsrc hp2 (fun k hk=>h2 k (.inl hk)),aX,p3 hp2 (fun k hk=>h2 k (.inr (by simp[hk]))),aX]
   simp only[]
   rw[q3 (kZ p hp2) fun k hk=>by
    rw[p2]
    simp only[kZ]
    rw[h2 k (.inr (by simp[hk]))],dZj]
  |_=>simp[ht]at hr
theorem bMw {m nx n:Nat} {hp hp2:H} {k:Nat} (h:hp2 k=hp k):mY m nx n hp2 k=mY m nx n hp k:=by
 unfold mY
 split
 ·exact h
 ·rfl
 simp only[]
 rw[h]
theorem bLf (P:Program) (t:TypeId) (x:Operand) (ρ:Operand→AV) {hp hp2:H} {v:AV} (h:lA P (.load t x) ρ hp=some v) (h2: ∀k,k∈fpV (ρ x)→hp2 k=hp k):lA P (.load t x) ρ hp2=some v:=by
 simp only[lA]at h⊢
 cases hx:ρ x with
 |op i off=>
  simp only[hx]at h⊢
  rw[h2 i (by simp[hx,fpV])]
  exact h
 |rp ys=>simp only[hx]at h⊢;exact h
 |_=>simp only[hx]at h;cases h
section
variable {P : Program} {Γ : Env} {GL : Nat → Option (List AV)} {md : Nat → Nat} {ops : Array Oper}
theorem aAf {op:Op} {ρ:Operand→AV} {m nx n:Nat} {hp:H} {id cx:Nat} {r:AV×H×Nat} {R W:List Nat} (hf: ∀f,ρ (.func f)=.fn f []) (hr:eff P Γ op ρ m nx n hp id cx=some r) (hfp:fpE P Γ m op ρ hp id=.at_ R W):
  ∃p,(∀k,p k≠none→k∈W)∧r.2.1=kZ p hp∧r.2.2=cx∧∀hp2,(∀k,k∈R∨k∈W→hp2 k=hp k)→(∀cx2,eff P Γ op ρ m nx n hp2 id cx2=some (r.1,kZ p hp2,cx2))∧fpE P Γ m op ρ hp2 id=.at_ R W:=by
 unfold fpE at hfp⊢
 by_cases hP:tI P Γ m op=.P
 ·rw[J4 hP]at hfp
  obtain⟨rfl,rfl⟩:=FP.at_.inj hfp
  refine⟨fun _=>none,fun k hk=>absurd rfl hk,?_,?_,fun hp2 _=>⟨fun cx2=>?_,by rw[J4 hP]⟩⟩
  ·have:=(aDd hf hP hp hp id id cx cx hr).1;rw[this];rfl
  ·have:=(aDd hf hP hp hp id id cx cx hr).1;rw[this]
  ·exact(aDd hf hP hp hp2 id id cx cx2 hr).2
 ·simp only[J3 hP]at hfp⊢
  unfold eff at hr⊢
  cases hc:cls P op with
  |pure=>
   simp only[hc]at hr hfp⊢
   obtain⟨rfl,rfl⟩:=FP.at_.inj hfp
   replace hr:=aJ hr;obtain⟨x,hx,hr⟩:=hr
   obtain rfl:=J0 hr
   exact⟨fun _=>none,fun k hk=>absurd rfl hk,rfl,rfl,fun hp2 _=>⟨fun cx2=>by rw[hx];rfl,by first|rfl|trivial⟩⟩
  |read=>
   simp only[hc]at hr hfp⊢
   replace hr:=aJ hr;obtain⟨x,hx,hr⟩:=hr
   obtain rfl:=J0 hr
   unfold fpR at hfp⊢
   cases op with
   |load t y=>
    simp only at hfp⊢
    obtain⟨rfl,rfl⟩:=FP.at_.inj hfp
    refine⟨fun _=>none,fun k hk=>absurd rfl hk,rfl,by first|rfl|trivial,fun hp2 h2=>⟨fun cx2=>?_,by first|rfl|trivial⟩⟩
    rw[bLf P t y ρ hx (fun k hk=>bMw (h2 k (.inl hk)))]
    rfl
   |_=>simp at hfp
  |new=>
   simp only[hc]at hr hfp⊢
   obtain⟨rfl,rfl⟩:=FP.at_.inj hfp
   replace hr:=aJ hr;obtain⟨x,hx,hr⟩:=hr
   obtain rfl:=J0 hr
   refine⟨fun k=>if k=id then some (some (.cells x.2 true))else none,fun k hk=>?_,(qK _ _ _).symm,rfl,fun hp2 _=>⟨fun cx2=>by rw[hx,aX,qK],by first|rfl|trivial⟩⟩
   by_cases e:k=id
   ·simp[e]
   ·simp[e]at hk
  |write=>
   simp only[hc]at hr hfp⊢
   replace hr:=aJ hr;obtain⟨x,hx,hr⟩:=hr
   obtain rfl:=J0 hr
   have go: ∀ {R W:List Nat},cSa R W (fun hp=>fR P op ρ hp id) hp→(∀hp2,(∀k,k∈R∨k∈W→hp2 k=hp k)→fpW op ρ hp2 id=.at_ R W)→
     ∃p,(∀k,p k≠none→k∈W)∧(x.1,x.2,cx).2.1=kZ p hp∧(x.1,x.2,cx).2.2=cx∧∀hp2,(∀k,k∈R∨k∈W→hp2 k=hp k)→(∀cx2:Nat,(aK (fR P op ρ hp2 id) fun p=>some (p.1,p.2,cx2))=some ((x.1,x.2,cx).1,kZ p hp2,cx2))∧fpW op ρ hp2 id=.at_ R W:=by
    intro R W hL hF
    obtain⟨p,p1,p2,p3⟩:=hL x hx
    exact⟨p,p1,p2,rfl,fun hp2 h2=>⟨fun cx2=>by rw[show fR P op ρ hp2 id=_ from p3 hp2 h2];rfl,hF hp2 h2⟩⟩
   unfold fpW at hfp
   cases op with
   |store t a y=>
    simp only at hfp
    obtain⟨rfl,rfl⟩:=FP.at_.inj hfp
    exact go (bAr P t a y ρ id hp) (fun hp2 _=>rfl)
   |call c=>
    obtain⟨callee,args,ats⟩:=c
    simp only at hfp
    split at hfp
    ·rename_i u v t1 t2 e2 e3
     split at hfp
     ·rename_i hn
      obtain⟨rfl,rfl⟩:=FP.at_.inj hfp
      have hint:eW P t2=true:=by
       simp only[fR]at hx
       rw[e2,e3]at hx
       simp only at hx
       by_cases hi:eW P t2=true
       ·exact hi
       ·rw[J3 hi]at hx
        replace hx:=aP hx;obtain⟨_,hx⟩:=hx
        unfold wX at hx
        cases hd:P.underlying t1 with
        |none=>simp[hd]at hx
        |some d=>
         cases d with
         |slice e=>
          simp only[hd]at hx
          replace hx:=aJ hx;obtain⟨z,hz,hx⟩:=hx
          replace hx:=aJ hx;obtain⟨by_,hb,hx⟩:=hx
          replace hx:=aJ hx;obtain⟨zs,hzs,hx⟩:=hx
          replace hx:=aP hx;obtain⟨hg,hx⟩:=hx
          replace hx:=aJ hx;obtain⟨mm,hmm,hx⟩:=hx
          unfold bCb at hmm
          unfold rW at hn
          cases hv:ρ v with
          |i q=>simp[hv]at hn
          |_=>simp[hv]at hmm
         |_=>simp[hd]at hx
      have hw: ∀hp2:H,fR P (.call ⟨.builtin .append,args,ats⟩) ρ hp2 id=pK P t1 (ρ u) (ρ v) hp2 id:=by
       intro hp2
       simp only[fR]
       rw[e2,e3]
       simp only[]
       rw[J4 hint]
      refine go ?_ (fun hp2 h2=>?_)
      ·have:=aSh P t1 (ρ u) (ρ v) id hp hn
       intro r hr
       simp only[hw]at hr⊢
       exact this r hr
      ·unfold fpW
       simp only[]
       rw[e2,e3]
       simp only[]
       have hxx:pK P t1 (ρ u) (ρ v) hp id=some x:=by rw[←hw];exact hx
       have hs:rW hp2 (ρ v)=true:=by rw[aQw (fun k hk=>h2 k (.inl hk))];exact hn
       rw[J4 hs]
     ·rename_i hn
      split at hfp
      ·rename_i l hx2
       obtain⟨rfl,rfl⟩:=FP.at_.inj hfp
       have hint:eW P t2=true:=by
        simp only[fR]at hx
        rw[e2,e3]at hx
        simp only at hx
        by_cases hi:eW P t2=true
        ·exact hi
        ·rw[J3 hi]at hx
         replace hx:=aP hx;obtain⟨_,hx⟩:=hx
         unfold wX at hx
         cases hd:P.underlying t1 with
         |none=>simp[hd]at hx
         |some d=>
          cases d with
          |slice e=>
           simp only[hd]at hx
           replace hx:=aJ hx;obtain⟨z,hz,hx⟩:=hx
           replace hx:=aJ hx;obtain⟨by_,hb,hx⟩:=hx
           replace hx:=aJ hx;obtain⟨zs,hzs,hx⟩:=hx
           replace hx:=aP hx;obtain⟨hg,hx⟩:=hx
           replace hx:=aJ hx;obtain⟨mm,hmm,hx⟩:=hx
           unfold bCb at hmm
           unfold dZr at hx2
           cases hv:ρ v with
           |i q=>simp[hv]at hx2
           |_=>simp[hv]at hmm
          |_=>simp[hd]at hx
       have hw: ∀hp2:H,fR P (.call ⟨.builtin .append,args,ats⟩) ρ hp2 id=pK P t1 (ρ u) (ρ v) hp2 id:=by
        intro hp2
        simp only[fR]
        rw[e2,e3]
        simp only[]
        rw[J4 hint]
       refine go ?_ (fun hp2 h2=>?_)
       ·have:=dZz P t1 (ρ u) (ρ v) id hp hx2
        intro r hr
        simp only[hw]at hr⊢
        exact this r hr
       ·unfold fpW
        simp only[]
        rw[e2,e3]
        simp only[]
        rw[J3 (by rw[aQw (fun k hk=>h2 k (.inl hk))];exact hn),eAc (fun k hk=>h2 k (.inl hk)),hx2]
      ·cases hfp
    ·cases hfp
   |_=>simp at hfp
  |call=>simp[hc]at hfp
theorem mZ {op:Op} {ρ ρ':Operand→AV} (m:Nat) (hp:H) (id:Nat) (h: ∀y∈op.operands,ρ y=ρ' y):fpE P Γ m op ρ hp id=fpE P Γ m op ρ' hp id:=by
 unfold fpE
 have e1:fpR op ρ=fpR op ρ':=by
  cases op with
  |load t x=>simp only[fpR];rw[h x (by simp[Op.operands])]
  |_=>rfl
 have e2:fpW op ρ hp id=fpW op ρ' hp id:=by
  cases op with
  |store t a x=>simp only[fpW];rw[h a (by simp[Op.operands])]
  |call c=>
   obtain⟨callee,args,ats⟩:=c
   have hA: ∀y∈args.toList,ρ y=ρ' y:=fun y hy=>h y (by simp only[Op.operands,Call.operands,Array.mem_append];exact .inr (Array.mem_toList_iff.1 hy))
   simp only[fpW]
   split
   ·rename_i x y t t' q1 q2
    rw[hA x (by rw[q1];simp),hA y (by rw[q1];simp)]
   rfl
  |_=>rfl
 rw[e1,e2]
def fpQ (f:FP) (hp hp':H):FP:=match f with
 | .all=> .cal hp hp'
 | .at_ R W=> .at_ R W
 | .cal a b=> .cal a b
def fpS (P:Program) (Γ:Env) (GL:Nat→Option (List AV)) (md:Nat→Nat) (ops:Array Oper) (k:Nat) (o:Oper) (s:S) (hp':H):FP:=
 match gdO ops s.fr o with
 |some true=>fpQ (fpE P Γ (md k) o.op (ev GL s.fr) s.hp (s.nx+k)) s.hp hp'
 |_=> .at_ [] []
def apL (xs ys:List Nat):Prop:= ∀x,x∈xs→∀y,y∈ys→x≠y
def aTz (x:Nat) (ys:List Nat):Prop:= ∀y,y∈ys→x≠y
theorem cEc (ys:List Nat):apL [] ys=True:=by simp[apL]
theorem bRv (x:Nat) (r ys:List Nat):apL (x::r) ys=(aTz x ys∧apL r ys):=by simp[apL,aTz]
theorem bRw (x:Nat):aTz x []=True:=by simp[aTz]
theorem bEw (x y:Nat) (r:List Nat):aTz x (y::r)=(x≠y∧aTz x r):=by simp[aTz]
def agL (xs:List Nat) (hp hp':H):Prop:= ∀x,x∈xs→hp' x=hp x
theorem dDl (hp hp':H):agL [] hp hp'=True:=by simp[agL]
theorem dDj (x:Nat) (r:List Nat) (hp hp':H):agL (x::r) hp hp'=(hp' x=hp x∧agL r hp hp'):=by simp[agL]
def rL:FP→FP→Prop
 | .at_ R W,.at_ R' W'=>apL W R'∧apL W W'∧apL R W'
 | .at_ R W,.all=>R=[]∧W=[]
 | .all,.at_ R W=>R=[]∧W=[]
 | .at_ R W,.cal hp hp'=>W=[]∧agL R hp hp'
 | .cal hp hp',.at_ R W=>W=[]∧agL R hp hp'
 |_,_=>False
theorem cAa {k:Nat} {o:Oper} {s t:S} (he:gC s t) (hp':H):fpS P Γ GL md ops k o s hp'=fpS P Γ GL md ops k o t hp':=by
 obtain⟨e1,e2,e3,e4⟩:=he
 unfold fpS
 rw[aXd e1 o,bNk e1,e2,e3]
theorem dDf {op:Op} {ρ:Operand→AV} {m:Nat} {hp:H} {id:Nat} {a b:H}:fpE P Γ m op ρ hp id≠.cal a b:=by
 unfold fpE
 split
 ·exact fun e=>by cases e
 split
 ·exact fun e=>by cases e
 ·unfold fpR;split<;>exact fun e=>by cases e
 ·exact fun e=>by cases e
 ·unfold fpW
  split
  ·exact fun e=>by cases e
  ·split
   ·split
    ·exact fun e=>by cases e
    split<;>exact fun e=>by cases e
   exact fun e=>by cases e
  exact fun e=>by cases e
 exact fun e=>by cases e
theorem aQv {i j:Nat} {x y:Oper} {s s1 s2:S} (hap:x.apart ops y=true) (_:i≠j)
  (h1:kA P Γ GL md ops i x s=some s1) (h2:kA P Γ GL md ops j y s1=some s2) (hd:rL (fpS P Γ GL md ops i x s s1.hp) (fpS P Γ GL md ops j y s1 s2.hp)):
  ∃t1 t2,kA P Γ GL md ops j y s=some t1∧kA P Γ GL md ops i x t1=some t2∧gC s2 t2∧fpS P Γ GL md ops j y s t1.hp=fpS P Γ GL md ops j y s1 s2.hp∧fpS P Γ GL md ops i x t1 t2.hp=fpS P Γ GL md ops i x s s1.hp:=by
 obtain⟨a1,a2,a3⟩:=Oper.apart_spec hap
 have hfn: ∀fr f,ev GL fr (.func f)=.fn f []:=fun _ _=>rfl
 unfold kA at h1 h2⊢
 unfold fpS at hd⊢
 replace h1:=aJ h1;obtain⟨bx,hbx,h1⟩:=h1
 replace h2:=aJ h2;obtain⟨by',hby,h2⟩:=h2
 cases bx with
 |false=>
  obtain rfl:=J0 h1
  simp only at hby h2 hd
  rw[jT a1]at hby
  rw[hby,aX]
  cases by' with
  |false=>
   obtain rfl:=J0 h2
   refine⟨_,{fr:=fA x.dst (.tup []) (fA y.dst (.tup []) s.fr),hp:=s.hp,nx:=s.nx,cx:=s.cx},rfl,?_,?_,?_,?_⟩
   ·simp only[];rw[jT a3,hbx,aX]
   ·exact⟨fun t=>jV a2 _ _ _ t,rfl,rfl,rfl⟩
   ·simp only[];rw[jT a1,hby]
   ·simp only[];rw[jT a3,hbx]
  |true=>
   replace h2:=aJ h2;obtain⟨r,hr,h2⟩:=h2
   obtain rfl:=J0 h2
   rw[kI _ _ _ _ _ _ (kO a1)]at hr
   simp only[hr,aX]
   refine⟨_,{fr:=fA x.dst (.tup []) (fA y.dst r.1 s.fr),hp:=r.2.1,nx:=s.nx,cx:=r.2.2},rfl,?_,?_,?_,?_⟩
   ·simp only[];rw[jT a3,hbx,aX]
   ·exact⟨fun t=>jV a2 _ _ _ t,rfl,rfl,rfl⟩
   ·rw[jT a1,hby];simp only[];rw[mZ _ _ _ (kO a1)]
   ·simp only[];rw[jT a3,hbx]
 |true=>
  replace h1:=aJ h1;obtain⟨rx,hrx,h1⟩:=h1
  obtain rfl:=J0 h1
  simp only at hby h2 hd
  rw[jT a1]at hby
  rw[hby,aX]
  cases by' with
  |false=>
   obtain rfl:=J0 h2
   refine⟨_,{fr:=fA x.dst rx.1 (fA y.dst (.tup []) s.fr),hp:=rx.2.1,nx:=s.nx,cx:=rx.2.2},rfl,?_,?_,?_,?_⟩
   ·simp only[]
    rw[jT a3,hbx,aX]
    simp only[]
    rw[kI _ _ _ _ _ _ (kO a3),hrx,aX]
   ·exact⟨fun t=>jV a2 _ _ _ t,rfl,rfl,rfl⟩
   ·simp only[];rw[jT a1,hby]
   ·simp only[];rw[jT a3,hbx];simp only[];rw[mZ _ _ _ (kO a3)]
  |true=>
   replace h2:=aJ h2;obtain⟨ry,hry,h2⟩:=h2
   obtain rfl:=J0 h2
   rw[jT a1,hby,hbx]at hd
   simp only at hd
   rw[mZ _ _ _ (kO a1)]at hd
   rw[kI _ _ _ _ _ _ (kO a1)]at hry
   have none_of: ∀ {p:Nat→Option (Option AO)} (_: ∀k,p k≠none→k∈([]:List Nat)) (hp:H),kZ p hp=hp:=by
    intro p hp0 hp
    funext k
    simp only[kZ]
    cases h:p k with
    |none=>rfl
    |some o=>exact absurd (hp0 k (by rw[h];simp)) (by simp)
   have quietX: ∀Rx,fpE P Γ (md i) x.op (ev GL s.fr) s.hp (s.nx+i)=.at_ Rx []→agL Rx rx.2.1 ry.2.1→∃t1 t2,(aK (eff P Γ y.op (ev GL s.fr) (md j) s.nx ops.size s.hp (s.nx+j) s.cx) fun r=>some ({fr:=fA y.dst r.1 s.fr,hp:=r.2.1,nx:=s.nx,cx:=r.2.2}:S))=some t1∧
      (aK (gdO ops t1.fr x) fun b=>match b with
       |true=>aK (eff P Γ x.op (ev GL t1.fr) (md i) t1.nx ops.size t1.hp (t1.nx+i) t1.cx) fun r=>some ({fr:=fA x.dst r.1 t1.fr,hp:=r.2.1,nx:=t1.nx,cx:=r.2.2}:S)
       |false=>some {t1 with fr:=fA x.dst (.tup []) t1.fr})=some t2∧
      gC {fr:=fA y.dst ry.1 (fA x.dst rx.1 s.fr),hp:=ry.2.1,nx:=s.nx,cx:=ry.2.2} t2∧
      fpQ (fpE P Γ (md j) y.op (ev GL s.fr) s.hp (s.nx+j)) s.hp t1.hp=fpQ (fpE P Γ (md j) y.op (ev GL s.fr) rx.2.1 (s.nx+j)) rx.2.1 ry.2.1∧
      (match gdO ops t1.fr x with|some true=>fpQ (fpE P Γ (md i) x.op (ev GL t1.fr) t1.hp (t1.nx+i)) t1.hp t2.hp|_=> .at_ [] [])=.at_ Rx []:=by
    intro Rx hfx hag
    obtain⟨p,p1,p2,p3,p4⟩:=aAf (hfn s.fr) hrx hfx
    rw[none_of p1]at p2
    rw[p2]at hag
    rw[p2,p3]at hry
    obtain⟨x1,x2⟩:=p4 ry.2.1 (fun k hk=>hk.elim (hag k) (fun h=>by simp at h))
    rw[hry,aX]
    refine⟨_,{fr:=fA x.dst rx.1 (fA y.dst ry.1 s.fr),hp:=ry.2.1,nx:=s.nx,cx:=ry.2.2},rfl,?_,⟨fun t=>jV a2 _ _ _ t,rfl,rfl,rfl⟩,by rw[p2],?_⟩
    ·simp only[]
     rw[jT a3,hbx,aX]
     simp only[]
     rw[kI _ _ _ _ _ _ (kO a3),x1 ry.2.2,aX,none_of p1]
    ·simp only[]
     rw[jT a3,hbx]
     simp only[]
     rw[mZ _ _ _ (kO a3),x2]
     rfl
   have quietY: ∀Ry,fpE P Γ (md j) y.op (ev GL s.fr) rx.2.1 (s.nx+j)=.at_ Ry []→agL Ry s.hp rx.2.1→∃t1 t2,(aK (eff P Γ y.op (ev GL s.fr) (md j) s.nx ops.size s.hp (s.nx+j) s.cx) fun r=>some ({fr:=fA y.dst r.1 s.fr,hp:=r.2.1,nx:=s.nx,cx:=r.2.2}:S))=some t1∧
      (aK (gdO ops t1.fr x) fun b=>match b with
       |true=>aK (eff P Γ x.op (ev GL t1.fr) (md i) t1.nx ops.size t1.hp (t1.nx+i) t1.cx) fun r=>some ({fr:=fA x.dst r.1 t1.fr,hp:=r.2.1,nx:=t1.nx,cx:=r.2.2}:S)
       |false=>some {t1 with fr:=fA x.dst (.tup []) t1.fr})=some t2∧
      gC {fr:=fA y.dst ry.1 (fA x.dst rx.1 s.fr),hp:=ry.2.1,nx:=s.nx,cx:=ry.2.2} t2∧
      fpE P Γ (md j) y.op (ev GL s.fr) s.hp (s.nx+j)=.at_ Ry []∧
      (match gdO ops t1.fr x with|some true=>fpQ (fpE P Γ (md i) x.op (ev GL t1.fr) t1.hp (t1.nx+i)) t1.hp t2.hp|_=> .at_ [] [])=fpQ (fpE P Γ (md i) x.op (ev GL s.fr) s.hp (s.nx+i)) s.hp rx.2.1:=by
    intro Ry hfy hag
    obtain⟨q,q1,q2,q3,q4⟩:=aAf (hfn s.fr) hry hfy
    rw[none_of q1]at q2
    obtain⟨y1,y2⟩:=q4 s.hp (fun k hk=>hk.elim (fun h=>(hag k h).symm) (fun h=>by simp at h))
    rw[none_of q1]at y1
    rw[y1 s.cx,aX]
    refine⟨_,{fr:=fA x.dst rx.1 (fA y.dst ry.1 s.fr),hp:=rx.2.1,nx:=s.nx,cx:=rx.2.2},rfl,?_,⟨fun t=>jV a2 _ _ _ t,q2,rfl,q3⟩,y2,?_⟩
    ·simp only[]
     rw[jT a3,hbx,aX]
     simp only[]
     rw[kI _ _ _ _ _ _ (kO a3),hrx,aX]
    ·simp only[]
     rw[jT a3,hbx]
     simp only[]
     rw[mZ _ _ _ (kO a3)]
   rw[jT a1,hby,hbx]
   simp only[]
   rw[mZ _ _ _ (kO a1)]
   cases hfx:fpE P Γ (md i) x.op (ev GL s.fr) s.hp (s.nx+i)with
   |cal a b=>exact absurd hfx dDf
   |all=>
    cases hfy:fpE P Γ (md j) y.op (ev GL s.fr) rx.2.1 (s.nx+j)with
    |cal a b=>exact absurd hfy dDf
    |all=>rw[hfx,hfy]at hd;exact hd.elim
    |at_ Ry Wy=>
     rw[hfx,hfy]at hd
     obtain⟨rfl,hag⟩:=hd
     obtain⟨t1,t2,c1,c2,c3,c4,c5⟩:=quietY Ry hfy hag
     exact⟨t1,t2,c1,c2,c3,by rw[c4];rfl,c5.trans (by rw[hfx])⟩
   |at_ Rx Wx=>
    cases hfy:fpE P Γ (md j) y.op (ev GL s.fr) rx.2.1 (s.nx+j)with
    |cal a b=>exact absurd hfy dDf
    |all=>
     rw[hfx,hfy]at hd
     obtain⟨rfl,hag⟩:=hd
     obtain⟨t1,t2,c1,c2,c3,c4,c5⟩:=quietX Rx hfx hag
     exact⟨t1,t2,c1,c2,c3,c4.trans (by rw[hfy]),c5⟩
    |at_ Ry Wy=>
     rw[hfx,hfy]at hd
     obtain⟨d1,d1',d2⟩:=hd
     obtain⟨p,p1,p2,p3,p4⟩:=aAf (hfn s.fr) hrx hfx
     obtain⟨q,q1,q2,q3,q4⟩:=aAf (hfn s.fr) hry hfy
     have hsame: ∀k,k∈Ry∨k∈Wy→s.hp k=rx.2.1 k:=by
      intro k hk
      rw[p2]
      simp only[kZ]
      cases hp:p k with
      |none=>rfl
      |some o=>
       have h5:=p1 k (by rw[hp];simp)
       rcases hk with hk|hk
       ·exact absurd rfl (d1 k h5 k hk)
       ·exact absurd rfl (d1' k h5 k hk)
     obtain⟨y1,y2⟩:=q4 s.hp hsame
     have hsame2: ∀k,k∈Rx∨k∈Wx→kZ q s.hp k=s.hp k:=by
      intro k hk
      simp only[kZ]
      cases hq:q k with
      |none=>rfl
      |some o=>
       have h5:=q1 k (by rw[hq];simp)
       rcases hk with hk|hk
       ·exact absurd rfl (d2 k hk k h5)
       ·exact absurd rfl (d1' k hk k h5)
     obtain⟨x1,x2⟩:=p4 (kZ q s.hp) hsame2
     have hcomm:kZ q (kZ p s.hp)=kZ p (kZ q s.hp):=bEt _ _ _ (fun k hk=>by
      have h5:=q1 k hk
      cases hp:p k with
      |none=>rfl
      |some o=>exact absurd rfl (d1' k (p1 k (by rw[hp];simp)) k h5))
     refine⟨{fr:=fA y.dst ry.1 s.fr,hp:=kZ q s.hp,nx:=s.nx,cx:=s.cx},{fr:=fA x.dst rx.1 (fA y.dst ry.1 s.fr),hp:=kZ p (kZ q s.hp),nx:=s.nx,cx:=s.cx},?_,?_,?_,?_,?_⟩
     ·rw[y1 s.cx,aX]
     ·simp only[]
      rw[jT a3,hbx,aX]
      simp only[]
      rw[kI _ _ _ _ _ _ (kO a3),x1 s.cx,aX]
     ·exact⟨fun t=>jV a2 _ _ _ t,by simp only[];rw[q2,p2,hcomm],rfl,by simp only[];rw[q3,p3]⟩
     ·rw[y2];rfl
     ·simp only[]
      rw[jT a3,hbx]
      simp only[]
      rw[mZ _ _ _ (kO a3),x2]
      rfl
end
end Go.AX

namespace Go.AX
open Go Go.Proofs
section
variable {P : Program} {Γ : Env} {c : Ctx} {σ0 : Nat → Loc} {I0 : Nat → Prop} {w0 : World} {GL : Nat → Option (List AV)} {md : Nat → Nat} {ops : Array Oper}
def aQn (P:Program) (Γ:Env) (GL:Nat→Option (List AV)) (md:Nat→Nat) (ops:Array Oper):List (Nat×FP)→S→S→Prop
 |[],s,sf=>s=sf
 |a::r,s,sf=> ∃o s1,ops[a.1]? =some o∧kA P Γ GL md ops a.1 o s=some s1∧fpS P Γ GL md ops a.1 o s s1.hp=a.2∧aQn P Γ GL md ops r s1 sf
theorem aQm: ∀(L:List (Nat×FP)) {s t sf:S},aQn P Γ GL md ops L s sf→gC s t→∃tf,aQn P Γ GL md ops L t tf∧gC sf tf
 |[],s,t,sf,h,he=>by obtain rfl:=h;exact⟨t,rfl,he⟩
 |a::r,s,t,sf,h,he=>by
  obtain⟨o,s1,h1,h2,h3,h4⟩:=h
  obtain⟨t1,e1,e2⟩:=aFn h2 he
  obtain⟨tf,e3,e4⟩:=aQm r h4 e2
  exact⟨tf,⟨o,t1,h1,e1,by rw[←cAa he,←e2.2.1];exact h3,e3⟩,e4⟩
theorem aOq {i:Nat} {x:Oper} {f:FP} (hx:ops[i]? =some x): ∀(L1 L2:List (Nat×FP)) {s sf:S},
  (∀a∈L1,a.1≠i∧∃y,ops[a.1]? =some y∧y.apart ops x=true∧rL a.2 f)→
  aQn P Γ GL md ops (L1++(i,f)::L2) s sf→∃s1 sf',kA P Γ GL md ops i x s=some s1∧fpS P Γ GL md ops i x s s1.hp=f∧aQn P Γ GL md ops (L1++L2) s1 sf'∧gC sf sf'
 |[],L2,s,sf,_,h=>by
  obtain⟨o,s1,h1,h2,h3,h4⟩:=h
  rw[hx]at h1
  obtain rfl:=J0 h1
  exact⟨s1,sf,h2,h3,h4,gC.refl _⟩
 |a::r,L2,s,sf,hl,h=>by
  obtain⟨hji,y,hy,hap,hc⟩:=hl a (by simp)
  obtain⟨o,sj,h1,h2,h3,h4⟩:=h
  rw[hy]at h1
  obtain rfl:=J0 h1
  obtain⟨s2,sf2,e1,e1',e2,e3⟩:=aOq hx r L2 (fun k hk=>hl k (by simp[hk])) h4
  obtain⟨t1,t2,c1,c2,c3,c4,c5⟩:=aQv hap hji h2 e1 (by rw[h3,e1'];exact hc)
  obtain⟨sf3,g1,g2⟩:=aQm (r++L2) e2 c3
  exact⟨t1,sf3,c1,c4.trans e1',⟨y,t2,hy,c2,c5.trans h3,g1⟩,e3.trans g2⟩
def cWi (ops:Array Oper) (a b:Nat×FP):Prop:=
 ((Region.before ops).getD b.1 0).testBit a.1=true∨∃x y,ops[a.1]? =some x∧ops[b.1]? =some y∧x.apart ops y=true∧rL a.2 b.2
theorem aJx (hΓ:eJ P c.GL Γ) {Q:Exit→Act→World→Prop} (hdst:fK c.nt ops.toList=true)
  (hedge: ∀j y,ops[j]? =some y→∀e∈y.after,Region.binds .any e=true→e.on<j) {s':S}
  (hQ: ∀a' w',R c σ0 I0 w0 (fun _=>False) s' a' w'→Q .normal a' w'):
  ∀(fuel:Nat) (listed:Array Bool) (L:List (Nat×FP)) (s sf:S) (a:Act) (w:World),listed.size=ops.size→L.length≤fuel→L.map Prod.fst=unl ops.size listed→
   (∀m o,listed.getD m false=true→ops[m]? =some o→∀e∈o.after,Region.binds .any e=true→listed.getD e.on false=true)→L.Pairwise (cWi ops)→
   aQn P Γ c.GL md ops L s sf→gC s' sf→R c σ0 I0 w0 (fun k=>k∈unl ops.size listed) s a w→wpAny P .any ops Q fuel listed a w:=by
 have mem_unl: ∀(listed:Array Bool) i,i∈unl ops.size listed↔i<ops.size∧listed.getD i true=false:=by
  intro listed i;simp[unl]
 have done: ∀(listed:Array Bool) (L:List (Nat×FP)) (s sf:S) (a:Act) (w:World),L.map Prod.fst=unl ops.size listed→unl ops.size listed=[]→aQn P Γ c.GL md ops L s sf→gC s' sf→R c σ0 I0 w0 (fun k=>k∈unl ops.size listed) s a w→Q .normal a w:=by
  intro listed L s sf a w hL h0 hrun heq hR
  rw[h0]at hL hR
  have:L=[]:=List.map_eq_nil_iff.1 hL
  subst this
  obtain rfl:=hrun
  exact hQ _ _ ((hR.un fun k hk=>hk.elim).eqv heq.symm)
 have noready: ∀(listed:Array Bool),listed.size=ops.size→(Region.ready .any ops listed=[]↔unl ops.size listed=[]):=by
  intro listed hsz
  constructor
  ·intro hr
   refine List.eq_nil_iff_forall_not_mem.2 fun i=>?_
   induction i using Nat.strongRecOn with
   |_ i ih=>
    intro hi
    obtain⟨hlt,hun⟩:=(mem_unl listed i).1 hi
    have:i∈Region.ready .any ops listed:=by
     rw[mem_ready]
     refine⟨hun,ops[i],Array.getElem?_eq_getElem hlt,fun e he hb=>?_⟩
     have hlt':=hedge i _ (Array.getElem?_eq_getElem hlt) e he hb
     have hn:=ih e.on hlt'
     rw[mem_unl]at hn
     have hs2:e.on<listed.size:=by omega
     rw[Array.getD_eq_getD_getElem?,Array.getElem?_eq_getElem hs2]at hn⊢
     simp only[Option.getD_some]at hn⊢
     cases hv:listed[e.on]with
     |true=>rfl
     |false=>exact absurd ⟨by omega,hv⟩ hn
    rw[hr]at this;cases this
  ·intro h0
   refine List.eq_nil_iff_forall_not_mem.2 fun i hi=>?_
   rw[mem_ready]at hi
   obtain⟨h1,o,ho,_⟩:=hi
   have:i∈unl ops.size listed:=(mem_unl listed i).2 ⟨(Array.getElem?_eq_some_iff.1 ho).1,h1⟩
   rw[h0]at this;cases this
 intro fuel
 induction fuel with
 |zero=>
  intro listed L s sf a w hsz hlen hL hdc hpw hrun heq hR
  have hL0:L=[]:=List.eq_nil_of_length_eq_zero (by omega)
  have h0:unl ops.size listed=[]:=by rw[←hL,hL0];rfl
  exact⟨(noready listed hsz).2 h0,done listed L s sf a w hL h0 hrun heq hR⟩
 |succ fuel ih=>
  intro listed L s sf a w hsz hlen hL hdc hpw hrun heq hR
  refine⟨fun hr=>done listed L s sf a w hL ((noready listed hsz).1 hr) hrun heq hR,fun i hi=>?_⟩
  obtain⟨hun,x,hx,hall⟩:=mem_ready.1 hi
  have hlt:=(Array.getElem?_eq_some_iff.1 hx).1
  have hmem:i∈unl ops.size listed:=(mem_unl listed i).2 ⟨hlt,hun⟩
  have hanc: ∀m j,Anc ops m j→(∀o,ops[m]? =some o→∀e∈o.after,Region.binds .any e=true→listed.getD e.on false=true)→listed.getD j false=true:=by
   intro m j ha
   induction ha with
   |edge ho he hb=>exact fun h=>h _ ho _ he hb
   |step ho he hb _ ih2=>exact fun h=>ih2 fun o ho' e' he' hb'=>hdc _ o (h _ ho _ he hb) ho' e' he' hb'
  have hmemL:i∈L.map Prod.fst:=by rw[hL];exact hmem
  obtain⟨⟨i',f⟩,hf,rfl⟩:=List.mem_map.1 hmemL
  obtain⟨L1,L2,hl⟩:=List.append_of_mem hf
  subst hl
  have hpu:(unl ops.size listed).Pairwise (· < ·):=List.Pairwise.filter _ List.pairwise_lt_range
  rw[←hL,List.map_append,List.map_cons]at hpu
  simp only at hpu
  have hlt1: ∀j∈L1.map Prod.fst,j<i':=fun j hj=>(List.pairwise_append.1 hpu).2.2 j hj i' (by simp)
  have hlt2: ∀j∈L2.map Prod.fst,i'<j:=fun j hj=>(List.pairwise_cons.1 (List.pairwise_append.1 hpu).2.1).1 j hj
  obtain⟨s1,sf1,f1,f1',f2,f3⟩:=aOq hx L1 L2 (fun a0 ha0=>by
   have hjm:a0.1∈unl ops.size listed:=by rw[←hL];simp only[List.map_append,List.mem_append];exact .inl (List.mem_map_of_mem ha0)
   obtain⟨hjlt,hjun⟩:=(mem_unl listed a0.1).1 hjm
   have hj1:=hlt1 a0.1 (List.mem_map_of_mem ha0)
   refine⟨by omega,?_⟩
   rcases(List.pairwise_append.1 hpw).2.2 a0 ha0 (i',f) (by simp)with h|⟨y,x',hy,hx',hap,hap1⟩
   ·have:=hanc i' a0.1 (oR ops i' a0.1 h) (fun o ho e he hb=>by rw[hx]at ho;obtain rfl:=J0 ho;exact hall e he hb)
    have hs2:a0.1<listed.size:=by omega
    rw[Array.getD_eq_getD_getElem?,Array.getElem?_eq_getElem hs2]at hjun this
    simp only[Option.getD_some]at hjun this
    rw[hjun]at this;cases this
   ·rw[hx]at hx'
    obtain rfl:=J0 hx'
    exact⟨y,hy,hap,hap1⟩) hrun
  have hnew:unl ops.size (listed.setIfInBounds i' true)=(L1++L2).map Prod.fst:=by
   have e1:unl ops.size (listed.setIfInBounds i' true)=(unl ops.size listed).filter (fun k=>k !=i'):=by
    unfold unl
    rw[List.filter_filter]
    refine List.filter_congr fun k hk=>?_
    by_cases hki:k=i'
    ·subst hki
     rw[Array.getD_eq_getD_getElem?,Array.getElem?_setIfInBounds_self_of_lt (by omega)];simp
    ·rw[getD_set_ne true (Ne.symm hki)]
     simp[hki]
   rw[e1,←hL,List.map_append,List.map_append,List.filter_append,List.map_cons,List.filter_cons]
   simp only[bne_self_eq_false,Bool.false_eq_true,if_false]
   congr 1
   ·exact List.filter_eq_self.2 fun k hk=>by have:=hlt1 k hk;simp;omega
   ·exact List.filter_eq_self.2 fun k hk=>by have:=hlt2 k hk;simp;omega
  have hun2: ∀k,k∈unl ops.size (listed.setIfInBounds i' true)→k∈unl ops.size listed∧k≠i':=by
   intro k hk
   rw[hnew,List.map_append,List.mem_append]at hk
   rw[←hL,List.map_append,List.map_cons,List.mem_append,List.mem_cons]
   rcases hk with hk|hk
   ·exact⟨.inl hk,by have:=hlt1 k hk;omega⟩
   ·exact⟨.inr (.inr hk),by have:=hlt2 k hk;omega⟩
  have hstep:=fX (K:=wpAny P .any ops Q fuel (listed.setIfInBounds i' true)) (Q:=Q) (ops:=ops) hΓ f1 (lU hdst (Array.mem_toList_iff.2 (Array.mem_of_getElem? hx))) (rem:=fun k=>k∈unl ops.size listed) hmem hR (fun a' w' hR'=>
   ih (listed.setIfInBounds i' true) (L1++L2) s1 sf1 a' w' (by simpa using hsz) (by simp at hlen⊢;omega) hnew.symm (fun m o hm ho e he hb=>by
     by_cases hmi:m=i'
     ·subst hmi
      rw[hx]at ho;obtain rfl:=J0 ho
      exact getD_set_true (hall e he hb)
     ·rw[getD_set_ne false (Ne.symm hmi)]at hm
      exact getD_set_true (hdc m o hm ho e he hb))
    (by
     rw[List.pairwise_append]at hpw⊢
     exact⟨hpw.1,(List.pairwise_cons.1 hpw.2.1).2,fun a ha b hb=>hpw.2.2 a ha b (by simp[hb])⟩)
    f2 (heq.trans f3) (hR'.un fun k hk=>hun2 k hk))
  unfold wpOp
  simp only[hx]
  split
  ·rename_i hw;rw[J4 hw]at hstep;exact .inl hstep
  ·rename_i hw;rw[J3 hw]at hstep;exact hstep
def fpP (P:Program) (Γ:Env) (GL:Nat→Option (List AV)) (m k:Nat) (o:LOp) (s:S) (hp':H):FP:=
 match gdS s.fr o.g with
 |some true=>fpQ (fpE P Γ m o.op (ev GL s.fr) s.hp (s.nx+k)) s.hp hp'
 |_=> .at_ [] []
def bEz (b:Bool) (k:Nat) (f:FP) (acc:List (Nat×FP)):List (Nat×FP):=if b=true then(k,f)::acc else acc
def aBs (P:Program) (Γ:Env) (GL:Nat→Option (List AV)) (md:Nat→Nat) (n:Nat) (hv:Nat→Bool):Nat→List LOp→List (Nat×FP)→S→Option (S×List (Nat×FP))
 |_,[],acc,s=>some (s,acc)
 |k,o::r,acc,s=>aK (rO P Γ GL (md k) n k o s) fun s'=>aBs P Γ GL md n hv (k+1) r (bEz (hv k) k (fpP P Γ GL (md k) k o s s'.hp) acc) s'
def pC:List (Nat×FP)→Nat→FP
 |[],_=> .all
 |a::r,i=>if i=a.1 then a.2 else pC r i
def aDr:List (Nat×Nat)→List (Nat×FP)→Prop
 |[],_=>True
 |p::r,acc=>rL (pC acc p.1) (pC acc p.2)∧aDr r acc
theorem aHt {acc:List (Nat×FP)}: ∀ {prs:List (Nat×Nat)},aDr prs acc→∀p∈prs,rL (pC acc p.1) (pC acc p.2)
 |q::r,h,p,hp=>by
  rcases List.mem_cons.1 hp with rfl|hp
  ·exact h.1
  exact aHt h.2 p hp
theorem cZp (P:Program) (Γ:Env) (GL:Nat→Option (List AV)) (md:Nat→Nat) (ops:Array Oper) (k:Nat) (o:Oper) (s:S) (hp':H):fpS P Γ GL md ops k o s hp'=fpP P Γ GL (md k) k (aG ops o) s hp':=by
 have:gdO ops s.fr o=gdS s.fr (aG ops o).g:=by
  unfold gdO aG
  cases o.guard with
  |none=>rfl
  |some p=>
   obtain⟨j,want⟩:=p
   simp only[Option.map_some]
   cases ops[j]? with
   |none=>rfl
   |some y=>
    simp only[Option.bind_some]
    cases y.dst with
    |none=>rfl
    |some t=>rfl
 unfold fpS fpP
 rw[this]
 rfl
theorem aBr {hv:Nat→Bool}: ∀(l:List Oper) (k:Nat) (acc:List (Nat×FP)) {s sf:S} {acc':List (Nat×FP)},(∀m,l[m]? =if m<l.length then ops[k+m]? else none)→
  aBs P Γ GL md ops.size hv k (l.map (aG ops)) acc s=some (sf,acc')→
  ∃L,L.map Prod.fst=List.range' k l.length∧aQn P Γ GL md ops L s sf∧(∀a∈L,hv a.1=true→pC acc' a.1=a.2)∧(∀a∈L,∃o s hp',ops[a.1]? =some o∧fpS P Γ GL md ops a.1 o s hp'=a.2)∧∀i,i<k→pC acc' i=pC acc i
 |[],k,acc,s,sf,acc',_,h=>by
  simp only[List.map_nil,aBs,Option.some.injEq,Prod.mk.injEq]at h
  obtain⟨rfl,rfl⟩:=h
  exact⟨[],rfl,rfl,fun _ h=>absurd h (by simp),fun _ h=>absurd h (by simp),fun _ _=>rfl⟩
 |o::r,k,acc,s,sf,acc',hl,h=>by
  simp only[List.map_cons,aBs]at h
  replace h:=aJ h;obtain⟨s1,h1,h⟩:=h
  have h0:ops[k]? =some o:=by have:=(hl 0).symm;simpa using this
  obtain⟨L,e1,e2,e3,e3',e4⟩:=aBr r (k+1) _ (fun m=>by have:=hl (m+1);simpa [Nat.add_assoc,Nat.add_comm 1 m]using this) h
  refine⟨(k,fpS P Γ GL md ops k o s s1.hp)::L,by simp[e1,List.range'_succ],⟨o,s1,h0,by rw[vJ];exact h1,rfl,e2⟩,fun a ha hh=>?_,fun a ha=>?_,fun i hi=>?_⟩
  ·rcases List.mem_cons.1 ha with rfl|ha
   ·have:=e4 k (by omega)
    rw[this]
    simp only at hh
    rw[hh,bEz,J4 rfl,pC,J4 rfl,cZp]
   ·exact e3 a ha hh
  ·rcases List.mem_cons.1 ha with rfl|ha
   ·exact⟨o,s,s1.hp,h0,rfl⟩
   ·exact e3' a ha
  ·rw[e4 i (by omega)]
   unfold bEz
   split
   ·rw[pC,J3 (by omega)]
   ·rfl
def aWc (P:Program) (Γ:Env) (md:Nat→Nat) (hv:Nat→Bool) (prs:List (Nat×Nat)) (ops:Array Oper):Bool:=
 let b:=Region.before ops
 (List.range ops.size).all fun j=>match ops[j]? with
  |none=>true
  |some y=>y.after.all (fun e=> !Region.binds .any e||decide (e.on<j))&&
   let bj:=b.getD j 0
   (List.range j).all fun i=>bj.testBit i||match ops[i]? with
    |none=>true
    |some x=>x.apart ops y&&(decide (tI P Γ (md i) x.op=.P)||decide (tI P Γ (md j) y.op=.P)||(hv i&&hv j&&prs.contains (i,j)))
theorem cFz {k:Nat} {o:Oper} {s:S} {hp':H} (h:tI P Γ (md k) o.op=.P):fpS P Γ GL md ops k o s hp'=.at_ [] []:=by
 unfold fpS
 split
 ·unfold fpE;rw[J4 h];rfl
 rfl
theorem bRr (f:FP):rL (.at_ [] []) f:=by
 cases f with
 |all=>exact⟨rfl,rfl⟩
 |cal a b=>exact⟨rfl,fun _ h=>by simp at h⟩
 |at_ R W=>exact⟨fun _ h=>by simp at h,fun _ h=>by simp at h,fun _ h=>by simp at h⟩
theorem bRq (f:FP):rL f (.at_ [] []):=by
 cases f with
 |all=>exact⟨rfl,rfl⟩
 |cal a b=>exact⟨rfl,fun _ h=>by simp at h⟩
 |at_ R W=>exact⟨fun _ _ _ h=>by simp at h,fun _ _ _ h=>by simp at h,fun _ _ _ h=>by simp at h⟩
theorem aPc (hm:P.follows .mixedOrders=true) (hΓ:eJ P c.GL Γ) {hv:Nat→Bool} {prs:List (Nat×Nat)} {id:Nat} {Q:Exit→Act→World→Prop} (hdst:fK c.nt ops.toList=true) (hok:aWc P Γ md hv prs ops=true) {s s':S} {acc:List (Nat×FP)} {a:Act} {w:World}
  (h:aBs P Γ c.GL md ops.size hv 0 (ops.toList.map (aG ops)) [] (cX ops.size s)=some (s',acc)) (hp:aDr prs acc) (hR:R c σ0 I0 w0 (fun _=>False) s a w) (hQ: ∀a' w',R c σ0 I0 w0 (fun _=>False) s' a' w'→Q .normal a' w'):
  (Code.region id ops true).wp P Q a w:=by
 have h0:unl ops.size (Array.replicate ops.size false)=List.range ops.size:=by
  unfold unl
  refine List.filter_eq_self.2 fun k hk=>?_
  rw[List.mem_range]at hk
  rw[Array.getD_eq_getD_getElem?,Array.getElem?_replicate,J4 hk];rfl
 have hchk: ∀j y,ops[j]? =some y→(∀e∈y.after,Region.binds .any e=true→e.on<j)∧∀i x,i<j→ops[i]? =some x→((Region.before ops).getD j 0).testBit i=true∨(x.apart ops y=true∧(tI P Γ (md i) x.op=.P∨tI P Γ (md j) y.op=.P∨(hv i=true∧hv j=true∧(i,j)∈prs))):=by
  intro j y hy
  have hlt:=(Array.getElem?_eq_some_iff.1 hy).1
  have h:=List.all_eq_true.1 hok j (List.mem_range.2 hlt)
  simp only[hy,Bool.and_eq_true]at h
  refine⟨fun e he hb=>?_,fun i x hi hx=>?_⟩
  ·have:=Array.all_eq_true_iff_forall_mem.1 h.1 e he
   simpa [hb]using this
  ·have:=List.all_eq_true.1 h.2 i (List.mem_range.2 hi)
   simp only[hx,Bool.or_eq_true,Bool.and_eq_true,decide_eq_true_eq]at this
   rcases this with h|⟨h1,(h2|h2)|⟨⟨h2,h3⟩,h4⟩⟩
   ·exact .inl h
   ·exact .inr ⟨h1,.inl h2⟩
   ·exact .inr ⟨h1,.inr (.inl h2)⟩
   ·exact .inr ⟨h1,.inr (.inr ⟨h2,h3,List.contains_iff_mem.1 h4⟩)⟩
 obtain⟨L,e1,e2,e3,e3',_⟩:=aBr ops.toList 0 [] (fun m=>by
  rw[Nat.zero_add]
  split
  ·rw[Array.getElem?_toList]
  ·rename_i hh;rw[List.getElem?_eq_none (by omega)]) h
 rw[Array.length_toList,←List.range_eq_range']at e1
 have hpw:L.Pairwise (cWi ops):=by
  have hlt:L.Pairwise fun a b=>a.1<b.1:=by
   have:(L.map Prod.fst).Pairwise (· < ·):=by rw[e1];exact List.pairwise_lt_range
   exact List.pairwise_map.1 this
  refine hlt.imp_of_mem fun {a b} ha hb hab=>?_
  obtain⟨x,sa,ha',hx,fx⟩:=e3' a ha
  obtain⟨y,sb,hb',hy,fy⟩:=e3' b hb
  rcases(hchk b.1 y hy).2 a.1 x hab hx with h|⟨hap,h|h|⟨h1,h2,h3⟩⟩
  ·exact .inl h
  ·refine .inr ⟨x,y,hx,hy,hap,?_⟩
   rw[←fx,cFz h];exact bRr _
  ·refine .inr ⟨x,y,hx,hy,hap,?_⟩
   rw[←fy,cFz h];exact bRq _
  ·refine .inr ⟨x,y,hx,hy,hap,?_⟩
   have:=aHt hp _ h3
   rw[e3 a ha h1,e3 b hb h2]at this
   exact this
 have hlen:L.length=ops.size:=by have:=congrArg List.length e1;simpa using this
 refine wp_region_any hm (aJx hΓ hdst (fun j y hy=>(hchk j y hy).1) hQ ops.size _ L (cX ops.size s) s' a _ (by simp) (by omega) (by rw[e1,h0]) (fun m o hl=>?_) hpw e2 (gC.refl _) ?_)
 ·rw[Array.getD_eq_getD_getElem?,Array.getElem?_replicate]at hl;split at hl<;>cases hl
 ·exact((hR.enter ops.size).un fun k hk=>by rw[h0]at hk;exact List.mem_range.1 hk).world rfl rfl rfl rfl
end
def bGm (o:Option (S×List (Nat×FP))) (Q:S→List (Nat×FP)→Prop):Prop:=match o with|some t=>Q t.1 t.2|none=>False
theorem aYa {P:Program} {GL:Nat→Option (List AV)} {nt:Nat} {Q:Exit→S→Prop} {s:S} {code:Code} {Γ:Env} (hv:Nat→Bool) (prs:List (Nat×Nat)) (md:Nat→Nat) (ks:List Nat) (hm:P.follows .mixedOrders=true) (hΓ:eJ P GL Γ) (hc:rS code=true) (hd:lZ code=true) (ho:fK nt (aM code).toList=true) (hk:aWc P Γ md hv prs (aM code)=true)
  (h: ∀K:S→Prop,(∀t,Q .normal t→K t)→bGm (aBs P Γ GL md (rN code) hv 0 (aF code) [] (cX (rN code) s)) fun t acc=>aDr prs acc∧K {t with fr:=gL ks t.fr}):Awp P GL nt code s Q:=by
 have h':=h (Q .normal) fun _ h=>h
 clear h
 refine sX ?_
 cases code<;>first|(cases hc;done)|skip
 rename_i id ops d
 simp only[lZ]at hd
 subst hd
 intro c h1 h2 σ0 I0 w0 a w hR
 subst h1;subst h2
 simp only[aM,aF,rN]at ho hk h'
 unfold bGm at h'
 split at h'
 ·rename_i t e
  obtain⟨t,acc⟩:=t
  obtain⟨hp,hq⟩:=h'
  exact aPc hm hΓ ho hk e hp hR fun a' w' hR'=>⟨t,⟨_,hq,dWs ks t,rfl⟩,hR'⟩
 ·exact h'.elim
theorem bHi (P Γ GL md n hv k acc s):aBs P Γ GL md n hv k [] acc s=some (s,acc):=(rfl)
theorem aZk (P Γ GL md n hv k o r acc s):aBs P Γ GL md n hv k (o::r) acc s=aK (rO P Γ GL (md k) n k o s) fun s2=>aBs P Γ GL md n hv (k+1) r (bEz (hv k) k (fpP P Γ GL (md k) k o s s2.hp) acc) s2:=(rfl)
theorem cRy (k:Nat) (f:FP) (acc:List (Nat×FP)):bEz false k f acc=acc:=(rfl)
theorem cRx (k:Nat) (f:FP) (acc:List (Nat×FP)):bEz true k f acc=(k,f)::acc:=(rfl)
theorem aQy (t:S) (acc:List (Nat×FP)) (Q:S→List (Nat×FP)→Prop):bGm (some (t,acc)) Q=Q t acc:=(rfl)
@[congr] theorem cIe {P : Program} {Γ : Env} {GL : Nat → Option (List AV)} {md : Nat → Nat} {n k k' : Nat} {hv : Nat → Bool} {l : List LOp} {acc acc' : List (Nat × FP)} {s s' : S} (hk : k = k') (ha : acc = acc') (h : s = s') : aBs P Γ GL md n hv k l acc s = aBs P Γ GL md n hv k' l acc' s' := by rw [h, hk, ha]
def fpG (b:Option Bool) (f:FP):FP:=match b with|some true=>f|_=> .at_ [] []
theorem cZr (f:FP):fpG (some true) f=f:=(rfl)
theorem cOv (P Γ GL m k d op g fr hp nx cx hp'):fpP P Γ GL m k {d:=d,op:=op,g:=g} {fr:=fr,hp:=hp,nx:=nx,cx:=cx} hp'=fpG (gdS fr g) (fpQ (fpE P Γ m op (ev GL fr) hp (nx+k)) hp hp'):=by
 simp only[fpP,fpG]
theorem cZd (fr:List (Nat×AV)):gdS fr none=some true:=(rfl)
theorem bBk (P Γ t x ρ hp id):fpE P Γ 2 (.load t x) ρ hp id=.at_ (fpV (ρ x)) []:=(rfl)
theorem bBm (P Γ m t n ps ρ hp id):fpE P Γ m (.buildSlice t n ps) ρ hp id=.at_ [] [id]:=(rfl)
def fpA (b:Bool) (y x:List Nat) (id:Nat) (o:Option (List Nat)):FP:=if b=true then .at_ y (id::x)else match o with|some l=> .at_ y (id::(x++l))|none=> .all
theorem eDd (y x:List Nat) (id:Nat) (l:List Nat):fpA false y x id (some l)=.at_ y (id::(x++l)):=(rfl)
theorem cAb (P Γ m x y t u ρ hp id):fpE P Γ m (.call {callee:=.builtin .append,args:= #[x,y],argTypes:= #[t,u]}) ρ hp id=fpA (rW hp (ρ y)) (fpV (ρ y)) (fpV (ρ x)) id (dZr hp (ρ y)):=(rfl)
def eAu (off n:Nat):Option AO→Option (List Nat)|some (.cells xs _)=>some (dYz ((xs.drop off).take n))|_=>none
theorem eBl (hp:H) (j off n e:Nat) (g:Bool):dZr hp (.os j off n e g)=eAu off (n*e) (hp j):=by
 simp only[dZr,eAu]
 all_goals (rcases hp j with _|o<;>first|rfl|(cases o<;>rfl))
theorem eAb (off n:Nat) (xs:List AV) (mt:Bool):eAu off n (some (.cells xs mt))=some (dYz ((xs.drop off).take n)):=(rfl)
theorem eAm:dYz []=[]:=(rfl)
theorem eAx (i off n e:Nat) (g:Bool) (r:List AV):dYz (.os i off n e g::r)=i::dYz r:=(rfl)
theorem eBd (P Γ m t a b ρ hp id):fpE P Γ m (.makeSlice t a b) ρ hp id=.at_ [] [id]:=(rfl)
def cHd (off n:Nat):Option AO→Bool|some (.cells xs _)=>gH ((xs.drop off).take n)|_=>false
theorem cHe (hp:H) (j off n e:Nat) (g:Bool):rW hp (.os j off n e g)=cHd off (n*e) (hp j):=by
 simp only[rW,cHd]
 all_goals (rcases hp j with _|o<;>first|rfl|(cases o<;>rfl))
theorem aYu (off n:Nat) (xs:List AV) (mt:Bool):cHd off n (some (.cells xs mt))=gH ((xs.drop off).take n):=(rfl)
theorem cOs (i off n e:Nat) (g:Bool):fpV (.os i off n e g)=[i]:=(rfl)
theorem cOt (i off:Nat):fpV (.op i off)=[i]:=(rfl)
theorem bEx (acc:List (Nat×FP)):aDr [] acc=True:=(rfl)
theorem aUd (i j:Nat) (r:List (Nat×Nat)) (acc:List (Nat×FP)):aDr ((i,j)::r) acc=(rL (pC acc i) (pC acc j)∧aDr r acc):=(rfl)
theorem aSg (k:Nat) (f:FP) (r:List (Nat×FP)) (i:Nat):pC ((k,f)::r) i=if i=k then f else pC r i:=(rfl)
theorem dDm (R W:List Nat) (hp hp':H):fpQ (.at_ R W) hp hp'=.at_ R W:=(rfl)
theorem dDk (hp hp':H):fpQ .all hp hp'=.cal hp hp':=(rfl)
def fpC (m:Nat):Option bFb→FP
 |some (.pure true _)=>if m=1 then .at_ [] []else .all
 |some (.pure false _)=>if m=0 then .all else .at_ [] []
 |_=> .all
theorem dDo (m:Nat) (G):fpC m (some (.heap G))=.all:=(rfl)
theorem dDi (P Γ m f xs ts ρ hp id):fpE P Γ m (.call {callee:=.value (.func f),args:=xs,argTypes:=ts}) ρ hp id=fpC m (Γ f):=by
 have hc:cls P (.call {callee:=.value (.func f),args:=xs,argTypes:=ts})=.call:=rfl
 unfold fpE tI
 rw[hc]
 simp only[]
 cases hG:Γ f with
 |none=>simp[fpC]
 |some g=>
  cases g with
  |pure b G=>
   cases b with
   |true=>
    simp only[fpC]
    by_cases h0:m=0
    ·subst h0;simp
    by_cases h1:m=1
    ·subst h1;simp
    rw[J3 h0,J3 h1,J3 h1];simp
   |false=>
    simp only[fpC]
    by_cases h0:m=0
    ·subst h0;simp
    rw[J3 h0,J3 h0];simp[h0]
  |fresh b G=>
   by_cases h0:m=0
   ·subst h0;simp[fpC]
   simp[fpC,h0]
  |heap G=>simp[fpC]
theorem dDg (R W:List Nat) (hp hp':H):rL (.cal hp hp') (.at_ R W)=(W=[]∧agL R hp hp'):=(rfl)
theorem bEv (R W R' W':List Nat):rL (.at_ R W) (.at_ R' W')=(apL W R'∧apL W W'∧apL R W'):=(rfl)
theorem bRu: ∀(xs:List Nat),apL xs []=True:=fun xs=>by simp[apL]
attribute [go_sem] dDm dDk dDo dDi dDg dDl dDj bHi aZk cRy cRx aQy cZr cOv cZd bBk bBm eDd eBl eAb eAm eAx eBd cAb cHe aYu cOs cOt bEx aUd aSg bEv cEc bRu bRv bRw bEw
end Go.AX

namespace Go.AX
open Go Go.Proofs
set_option maxRecDepth 8000
section
variable {P : Program} {GL : Nat → Option (List AV)} {nt : Nat} {Q : Exit → S → Prop} {s t : S} {ι : Type} {st : ι → S} {inv : ι → Prop}
def dWp (st:ι→S) (inv:ι→Prop) (Q:Exit→S→Prop):Exit→S→Prop
 | .normal,t=> ∃i,inv i∧Sub (st i) t
 |e,t=>Q e t
theorem dWd (st:ι→S) (inv:ι→Prop) {x y:Code} (h:Awp P GL nt x s (dWp st inv Q)) (hb: ∀i,inv i→∀n,Awp P GL nt y {st i with nx:=n} Q):Awp P GL nt x s (oS P GL nt y Q):=
 dCq h fun e t hq=>by
  cases e with
  |normal=>
   obtain⟨i,hi,hs⟩:=hq
   exact tU (hb i hi t.nx) ⟨hs.fr,hs.hp,hs.cx⟩ rfl
  |_=>exact hq
theorem dWa (h: ∃i,inv i∧Sub (st i) t):dWp st inv Q .normal t:=h
end
def rD (x:Bool):AV:=.b x
structure MC where
 l:List (List B8)
 sure:List (List B8)
 fresh:List Bool
 dead:Bool
 armed:Bool
 n:Int
structure MI where
 mm:Nat
 li:Nat
 si:Nat
 fi:Nat
structure MM (hp:H) (I:MI) (d s m:Nat) (M:MC) (C:DC):Prop where
 hm:hp I.mm=some (.cells [.os I.li 0 M.l.length 1 true,.os I.si 0 M.sure.length 1 true,.os I.fi 0 M.fresh.length 1 true,.b M.dead,.b M.armed,.i M.n] true)
 hl:hp I.li=some (.cells (M.l.map zP) true)
 hs:hp I.si=some (.cells (M.sure.map zP) true)
 hf:hp I.fi=some (.cells (M.fresh.map rD) true)
 hd:aZo hp d s m C
 n1:I.mm≠I.li∧I.mm≠I.si∧I.mm≠I.fi∧I.mm≠d∧I.mm≠s∧I.mm≠m
 n2:I.li≠I.si∧I.li≠I.fi∧I.li≠d∧I.li≠s∧I.li≠m
 n3:I.si≠I.fi∧I.si≠d∧I.si≠s∧I.si≠m
 n4:I.fi≠d∧I.fi≠s∧I.fi≠m
theorem aZo.updq {hp:H} {d s m:Nat} {C:DC} (h:aZo hp d s m C) (i:Nat) (o:AO) (h1:i≠d) (h2:i≠s) (h3:i≠m):aZo (upd hp i o) d s m C:=
 ⟨by rw[bJ,J3 (Ne.symm h1)];exact h.hd,by rw[bJ,J3 (Ne.symm h2)];exact h.hs,by rw[bJ,J3 (Ne.symm h3)];exact h.hm,h.ne⟩
theorem aZo.sub {hp hp':H} {d s m:Nat} {C:DC} (h:aZo hp d s m C) (hs:hp' d=hp d∧hp' s=hp s∧hp' m=hp m):aZo hp' d s m C:=
 ⟨by rw[hs.1];exact h.hd,by rw[hs.2.1];exact h.hs,by rw[hs.2.2];exact h.hm,h.ne⟩
theorem MM.upd {hp:H} {I:MI} {d s m:Nat} {M:MC} {C:DC} (h:MM hp I d s m M C) (i:Nat) (o:AO) (h1:i≠I.mm∧i≠I.li∧i≠I.si∧i≠I.fi) (h2:i≠d∧i≠s∧i≠m):MM (upd hp i o) I d s m M C:=
 {h with hm:=by(rw[bJ,J3 (Ne.symm h1.1)];exact h.hm),hl:=by(rw[bJ,J3 (Ne.symm h1.2.1)];exact h.hl),hs:=by(rw[bJ,J3 (Ne.symm h1.2.2.1)];exact h.hs),hf:=by(rw[bJ,J3 (Ne.symm h1.2.2.2)];exact h.hf),hd:=h.hd.updq i o h2.1 h2.2.1 h2.2.2}
structure KM where
 k:Nat
 h:H
 I:MI
 c:Nat
def iM (z:Nat) (k:Nat):MC:=⟨List.replicate k (List.replicate z 0#8),List.replicate k (List.replicate z 0#8),List.replicate k false,false,false,0⟩
theorem eCf (x:Bool):gH [.b x]=true:=(rfl)
theorem eBv (z k:Nat):(iM z k).l=List.replicate k (List.replicate z 0#8):=(rfl)
theorem iM_s (z k:Nat):(iM z k).sure=List.replicate k (List.replicate z 0#8):=(rfl)
theorem eDc (z k:Nat):(iM z k).fresh=List.replicate k false:=(rfl)
end Go.AX

namespace Go.AX
open Go Go.Proofs
set_option maxRecDepth 8000
set_option maxHeartbeats 8000000 in
theorem eBq {Q:Exit→S→Prop} (n z:Int) (xs:List AV) (len nx N Z c0 d s m:Nat) (C:DC) (H0:H) (hN:(if n<1 then 1 else n)=(N:Int)) (hZ:(if z<64 then 64 else z)=(Z:Int)) (hZ2:Z≤4096) (hN2:N≤4096) (hD:aZo H0 d s m C) (hlt:d<c0∧s<c0∧m<c0)
  (hrest: ∀h I c nx2,MM h I d s m (iM Z N) C→(I.mm<c∧I.li<c∧I.si<c∧I.fi<c)∧c0≤c→Awp Try.prog GLh Try.f5.ntmps (cr (cr (cr (cr (cr (cr (cr (aE Try.f5)))))))) {fr:=[(0,.i n),(1,.i z),(2,.sl len xs),(7,.op d 0),(8,.op I.mm 0),(9,.i N)],hp:=h,nx:=nx2,cx:=c} Q):
  Awp Try.prog GLh Try.f5.ntmps (cr (cr (cr (cr (cr (aE Try.f5)))))) {fr:=[(0,.i n),(1,.i z),(2,.sl len xs),(7,.op d 0)],hp:=H0,nx:=nx,cx:=c0} Q:=by
 refine cP rfl ?_
 refine bA [0,1,2,7,8] rfl rfl rfl fun K hK=>?_
 simp(disch:=omega) only[Try.f5,go_sem]
 refine hK _ ?_
 refine aB ?_
 refine cP rfl ?_
 refine cP rfl ?_
 refine bA [0,1,2,7,8,9] rfl rfl rfl fun K hK=>?_
 simp(disch:=omega) only[Try.f5,go_sem,↓reduceIte]
 refine hK _ ?_
 refine aB ?_
 refine aDn (c0+1) 1 [] [.v (.slice none 0 0),.v (.slice none 0 0),.b false,.b false,.i 0] true (by rw[bJ,J4 rfl];rfl) (by omega) ?_
 refine aDn (c0+1) 1 [.os (c0+3+1) 0 0 1 true] [.v (.slice none 0 0),.b false,.b false,.i 0] true (by rw[bJ,J4 rfl];rfl) (by omega) ?_
 refine aDn (c0+1) 1 [.os (c0+3+1) 0 0 1 true,.os (c0+3+1+1) 0 0 1 true] [.b false,.b false,.i 0] true (by rw[bJ,J4 rfl];rfl) (by omega) ?_
 simp only[List.nil_append,List.cons_append]
 have hM0:MM (upd (upd (upd (upd (upd (upd (upd H0 (c0+1) (.cells [.v (.slice none 0 0),.v (.slice none 0 0),.v (.slice none 0 0),.b false,.b false,.i 0] true)) (c0+3+1) (.cells [] true)) (c0+1) (.cells [.os (c0+3+1) 0 0 1 true,.v (.slice none 0 0),.v (.slice none 0 0),.b false,.b false,.i 0] true)) (c0+3+1+1) (.cells [] true)) (c0+1) (.cells [.os (c0+3+1) 0 0 1 true,.os (c0+3+1+1) 0 0 1 true,.v (.slice none 0 0),.b false,.b false,.i 0] true)) (c0+3+1+1+1) (.cells [] true)) (c0+1) (.cells [.os (c0+3+1) 0 0 1 true,.os (c0+3+1+1) 0 0 1 true,.os (c0+3+1+1+1) 0 0 1 true,.b false,.b false,.i 0] true)) ⟨c0+1,c0+3+1,c0+3+1+1,c0+3+1+1+1⟩ d s m (iM Z 0) C:=by
  have e1: ∀q,q<c0→(upd (upd (upd (upd (upd (upd (upd H0 (c0+1) (.cells [.v (.slice none 0 0),.v (.slice none 0 0),.v (.slice none 0 0),.b false,.b false,.i 0] true)) (c0+3+1) (.cells [] true)) (c0+1) (.cells [.os (c0+3+1) 0 0 1 true,.v (.slice none 0 0),.v (.slice none 0 0),.b false,.b false,.i 0] true)) (c0+3+1+1) (.cells [] true)) (c0+1) (.cells [.os (c0+3+1) 0 0 1 true,.os (c0+3+1+1) 0 0 1 true,.v (.slice none 0 0),.b false,.b false,.i 0] true)) (c0+3+1+1+1) (.cells [] true)) (c0+1) (.cells [.os (c0+3+1) 0 0 1 true,.os (c0+3+1+1) 0 0 1 true,.os (c0+3+1+1+1) 0 0 1 true,.b false,.b false,.i 0] true)) q=H0 q:=fun q hq=>by
   simp(maxSteps:=400000) (disch:=omega) only[bJ,J3]
  exact⟨by(simp(maxSteps:=400000) (disch:=omega) only[bJ,J3];rfl),by(simp(maxSteps:=400000) (disch:=omega) only[bJ,J3];rfl),by(simp(maxSteps:=400000) (disch:=omega) only[bJ,J3];rfl),by(simp(maxSteps:=400000) (disch:=omega) only[bJ,J3];rfl),hD.sub ⟨e1 _ (by omega),e1 _ (by omega),e1 _ (by omega)⟩,by simp only;omega,by simp only;omega,by simp only;omega,by simp only;omega⟩
 obtain⟨H1,hH1⟩: ∃x,(upd (upd (upd (upd (upd (upd (upd H0 (c0+1) (.cells [.v (.slice none 0 0),.v (.slice none 0 0),.v (.slice none 0 0),.b false,.b false,.i 0] true)) (c0+3+1) (.cells [] true)) (c0+1) (.cells [.os (c0+3+1) 0 0 1 true,.v (.slice none 0 0),.v (.slice none 0 0),.b false,.b false,.i 0] true)) (c0+3+1+1) (.cells [] true)) (c0+1) (.cells [.os (c0+3+1) 0 0 1 true,.os (c0+3+1+1) 0 0 1 true,.v (.slice none 0 0),.b false,.b false,.i 0] true)) (c0+3+1+1+1) (.cells [] true)) (c0+1) (.cells [.os (c0+3+1) 0 0 1 true,.os (c0+3+1+1) 0 0 1 true,.os (c0+3+1+1+1) 0 0 1 true,.b false,.b false,.i 0] true))=x:=⟨_,rfl⟩
 rw[hH1]at hM0⊢
 clear hH1
 refine aR 0 rfl rfl ?_
 refine bR (fun p:KM=> {fr:=[(0,.i n),(1,.i z),(2,.sl len xs),(7,.op d 0),(8,.op p.I.mm 0),(9,.i p.k)],hp:=p.h,nx:=0,cx:=p.c}) (fun p=>p.k≤N∧MM p.h p.I d s m (iM Z p.k) C∧(p.I.mm<p.c∧p.I.li<p.c∧p.I.si<p.c∧p.I.fi<p.c)∧c0≤p.c) (fun p=>N-p.k) rfl ⟨⟨0,H1,⟨c0+1,c0+3+1,c0+3+1+1,c0+3+1+1+1⟩,_⟩,⟨Nat.zero_le _,hM0,by simp only;omega,by simp only;omega⟩,bD rfl rfl (U3 _)⟩ ?_
 rintro⟨k,h,I,c⟩ ⟨hk,hM,hI,hc⟩ n0
 simp only at hk hM hI hc⊢
 have h1:h I.mm=some (.cells [.os I.li 0 k 1 true,.os I.si 0 k 1 true,.os I.fi 0 k 1 true,.b false,.b false,.i 0] true):=by simpa [iM]using hM.hm
 have h2:h I.li=some (.cells ((List.replicate k (List.replicate Z 0#8)).map zP) true):=by simpa [iM]using hM.hl
 have h3:h I.si=some (.cells ((List.replicate k (List.replicate Z 0#8)).map zP) true):=by simpa [iM]using hM.hs
 have h4:h I.fi=some (.cells ((List.replicate k false).map rD) true):=by simpa [iM]using hM.hf
 obtain⟨mm,li,si,fi⟩:=I
 simp only at h1 h2 h3 h4 hI⊢
 obtain⟨n1,n2,n3,n4⟩:(mm≠li∧mm≠si∧mm≠fi∧mm≠d∧mm≠s∧mm≠m)∧(li≠si∧li≠fi∧li≠d∧li≠s∧li≠m)∧(si≠fi∧si≠d∧si≠s∧si≠m)∧fi≠d∧fi≠s∧fi≠m:=⟨hM.n1,hM.n2,hM.n3,hM.n4⟩
 refine cP rfl ?_
 refine cP rfl ?_
 refine bA [44,0,1,2,7,8,9] rfl rfl rfl fun K hK=>?_
 simp(disch:=omega) only[Try.f5,go_sem,↓reduceIte,hN]
 refine hK _ ?_
 refine aB ?_
 refine gP (.tmp 44) rfl rfl rfl (fun h=>?_) (fun h=>?_)
 ·skip
  refine aI rfl ?_
  have hkN:k<N:=by omega
  clear h
  refine aQ rfl ?_
  refine aB ?_
  refine cP rfl ?_
  refine aR 1 rfl rfl ?_
  refine aYa (Γ:=aL) (fun k=>if k=6 then true else if k=9 then true else if k=10 then true else if k=11 then true else if k=15 then true else if k=18 then true else if k=19 then true else if k=20 then true else if k=24 then true else if k=25 then true else false) [(6,9),(6,10),(6,15),(9,15),(10,15),(11,15),(6,18),(9,18),(10,18),(11,18),(15,18),(6,19),(9,19),(10,19),(11,19),(15,19),(6,24),(9,24),(10,24),(11,24),(15,24),(18,24),(19,24),(20,24),(6,25),(9,25),(10,25),(11,25),(15,25),(18,25),(19,25),(20,25),(24,25)] (fun _=>2) [0,1,2,7,8,9] mixed (aD _ _) rfl rfl rfl (by kernel_rfl) (fun K hK=>?_)
  simp(maxSteps:=400000) (disch:=omega) only[Try.f5,go_sem,and_self,and_true,true_and,ne_eq,not_false_eq_true,↓reduceIte,J8,List.set_cons_succ,List.set_cons_zero,U0,U1,J7,J9,bFz,h1,h2,h3,h4,hZ,U2,dKc,eCf,List.length_replicate,List.length_map,hT]
  refine hK _ ?_
  refine bU (aB ?_)
  obtain⟨H2,hH2⟩: ∃x,(upd (upd (del (upd (upd (del (upd (upd (upd (upd (del (upd (upd (upd h (c+4+9) (.cells (c8 (List.replicate Z 0#8)) true)) (c+4+10) (.cells [.os (c+4+9) 0 Z 1 true] true)) (c+4+9) (.cells (c8 (List.replicate Z 0#8)) false)) li) (c+4+11) (.cells (List.map zP (List.replicate k (List.replicate Z 0#8))++[.sl Z (c8 (List.take Z (List.replicate Z 0#8)))]) true)) (c+4+18) (.cells (c8 (List.replicate Z 0#8)) true)) (c+4+19) (.cells [.os (c+4+18) 0 Z 1 true] true)) (c+4+18) (.cells (c8 (List.replicate Z 0#8)) false)) si) (c+4+20) (.cells (List.map zP (List.replicate k (List.replicate Z 0#8))++[.sl Z (c8 (List.take Z (List.replicate Z 0#8)))]) true)) (c+4+25) (.cells [.b false] true)) fi) (c+4+26) (.cells (List.map rD (List.replicate k false)++[.b false]) true)) mm (.cells [.os (c+4+11) 0 (k+1) 1 true,.os (c+4+20) 0 (k+1) 1 true,.os (c+4+26) 0 (k+1) 1 true,.b false,.b false,.i 0] true))=x:=⟨_,rfl⟩
  rw[hH2]
  have hM2:MM H2 ⟨mm,c+4+11,c+4+20,c+4+26⟩ d s m (iM Z (k+1)) C:=by
   have e1: ∀q,q<c→q≠mm→q≠li→q≠si→q≠fi→H2 q=h q:=fun q f1 f2 f3 f4 f5=>by
    rw[←hH2]
    simp(disch:=omega) only[aV,kE,bY,↓reduceIte]
   have eR:(List.replicate k (List.replicate Z 0#8)).map zP++[.sl Z (c8 (List.take Z (List.replicate Z 0#8)))]=(iM Z (k+1)).l.map zP:=by
    rw[eBv,List.replicate_succ',List.map_append,List.map_singleton,zP,List.length_replicate,List.take_of_length_le (by rw[List.length_replicate];exact U3 _)]
   refine⟨?_,?_,?_,?_,hM.hd.sub ⟨e1 _ (by omega) (by omega) (by omega) (by omega) (by omega),e1 _ (by omega) (by omega) (by omega) (by omega) (by omega),e1 _ (by omega) (by omega) (by omega) (by omega) (by omega)⟩,by simp only;omega,by simp only;omega,by simp only;omega,by simp only;omega⟩
   ·rw[←hH2]
    simp(disch:=omega) only[aV,↓reduceIte,eq_self,eBv,iM_s,eDc,List.length_replicate]
    rfl
   ·rw[←hH2]
    simp(disch:=omega) only[aV,kE,bY,↓reduceIte,eq_self]
    rw[eR]
   ·rw[←hH2]
    simp(disch:=omega) only[aV,kE,bY,↓reduceIte,eq_self]
    rw[eR]
    rfl
   ·rw[←hH2]
    simp(disch:=omega) only[aV,bY,↓reduceIte,eq_self]
    rw[eDc,List.replicate_succ' (n:=k),List.map_append,List.map_singleton]
    rfl
  refine bA [0,1,2,7,8,9] rfl rfl rfl fun K hK=>?_
  simp(disch:=omega) only[Try.f5,go_sem,↓reduceIte]
  refine hK _ ?_
  refine bT ?_
  refine⟨⟨k+1,H2,⟨mm,c+4+11,c+4+20,c+4+26⟩,c+4+36+3⟩,⟨by simp only;omega,hM2,by simp only;exact⟨by omega,by omega,by omega,by omega⟩,by simp only;omega⟩,by simp only;omega,bD ?_ rfl (U3 _)⟩
  simp only[Int.natCast_add,Int.natCast_one]
 ·skip
  refine aI rfl ?_
  refine bF 0 rfl rfl ?_
  refine aY (aZ (bE ?_))
  refine aB ?_
  obtain rfl:k=N:=by omega
  refine hrest _ _ _ _ hM ?_
  simp only;omega
end Go.AX

namespace Go.AX
open Go Go.Proofs
set_option maxRecDepth 8000
structure PR (N Z:Nat) (M:MC) (C:DC):Prop where
 rel:dZa N (fun k=>M.l.getD k []) (fun k=>M.fresh.getD k false) C
 sure:M.sure=C.rows
 ll:M.l.length=N
 fl:M.fresh.length=N
 lz: ∀r∈M.l,r.length=Z
 rz: ∀r∈C.rows,r.length=Z
 de:M.dead=C.dead
 cu:C.cut=if M.armed=true then M.n else -1
 n0:0≤M.n∧M.n≤1000000
theorem dZa.congr {N:Nat} {l l':Nat→List B8} {f f':Nat→Bool} {C:DC} (h:dZa N l f C) (h1: ∀k,k<N→l' k=l k) (h2: ∀k,k<N→f' k=f k):dZa N l' f' C:=
 ⟨h.len,fun k hk=>by rw[h.get k hk,h1 k hk,h2 k hk],h.keys,h.nodup,fun k hk hf=>by rw[h1 k hk];exact h.old k hk (by rw[←h2 k hk];exact hf)⟩
theorem dZo {α:Type} (l:List α) (i k:Nat) (a d:α) (hi:i<l.length):(l.set i a).getD k d=if k=i then a else l.getD k d:=by
 simp only[List.getD_eq_getElem?_getD,List.getElem?_set]
 by_cases e:k=i
 ·subst e;simp[hi]
 rw[J3 (Ne.symm e),J3 e]
theorem eBt {α:Type} {l:List α} {i:Nat} {a x:α} (h:x∈l.set i a):x∈l∨x=a:=by
 rcases List.mem_or_eq_of_mem_set h with h|h
 ·exact .inl h
 exact .inr h
theorem dZp {α:Type} {l:List α} {i:Nat} {d:α} (h:i<l.length):l.getD i d∈l:=by
 rw[List.getD_eq_getElem?_getD,List.getElem?_eq_getElem h];exact List.getElem_mem h
def pM (M:MC):MC:= {M with dead:=(gI M.dead M.armed M.n).2.1,n:=(gI M.dead M.armed M.n).2.2}
theorem PR.power {N Z:Nat} {M:MC} {C:DC} (h:PR N Z M C) (hd:M.dead=false):
  ((gI M.dead M.armed M.n).1=true∧(pwV C).1=0∧(pM M).dead=false∨(gI M.dead M.armed M.n).1=false∧(pwV C).1=82∧(pM M).dead=true)∧PR N Z (pM M) (pwV C).2:=by
 have hc:=h.cu
 have hn:=h.n0
 have hde:=h.de
 unfold pM gI pwV
 by_cases ha:M.armed=true
 ·rw[J4 ha]at hc
  simp only[J4 ha]
  by_cases h0:M.n=0
  ·rw[J4 h0,J4 (show C.cut=0 by omega)]
   refine⟨.inr ⟨rfl,rfl,rfl⟩,h.rel.power _ _,h.sure,h.ll,h.fl,h.lz,h.rz,rfl,?_,hn⟩
   show C.cut=if M.armed=true then M.n else -1
   rw[J4 ha];exact hc
  ·rw[J3 h0,J3 (show¬C.cut=0 by omega),J4 (show 0<C.cut by omega)]
   have hw:W (M.n-1)=M.n-1:=mP (by omega) (by omega)
   refine⟨.inl ⟨rfl,rfl,hd⟩,h.rel.power _ _,h.sure,h.ll,h.fl,h.lz,h.rz,hde,?_,?_⟩
   ·show W (C.cut-1)=if M.armed=true then W (M.n-1)else -1
    rw[J4 ha,hc]
   ·show 0≤W (M.n-1)∧W (M.n-1)≤1000000
    rw[hw];omega
 ·rw[J3 ha]at hc
  simp only[J3 ha]
  rw[J3 (show¬C.cut=0 by omega),J3 (show¬0<C.cut by omega)]
  refine⟨.inl ⟨trivial,rfl,hd⟩,h.rel,h.sure,h.ll,h.fl,h.lz,h.rz,hde,?_,hn⟩
  show C.cut=if M.armed=true then M.n else -1
  rw[J3 ha];exact hc
def wM (M:MC) (Z:Nat) (at_:Int) (b:List B8):Int×MC:=
 if M.dead=true then(82,M)else if¬(0≤at_∧at_<M.l.length)then(80,M)else if b.length≠Z then(81,M)else
 if(gI M.dead M.armed M.n).1=false then(82,pM M)else(0,{pM M with l:=M.l.set at_.toNat b,fresh:=M.fresh.set at_.toNat true})
theorem PR.write {N Z:Nat} {M:MC} {C:DC} (h:PR N Z M C) (at_:Int) (b:List B8):
  (wrV C at_ b Z).1=(wM M Z at_ b).1∧PR N Z (wM M Z at_ b).2 (wrV C at_ b Z).2:=by
 have hde:=h.de
 have hl:C.rows.length=N:=h.rel.len
 have hll:=h.ll
 unfold wrV wM atV
 by_cases hd:C.dead=true
 ·simp only[J4 hd,J4 (show M.dead=true by rw[hde];exact hd)]
  rw[J3 (show¬(82:Int)=0 by decide)]
  exact⟨rfl,h⟩
 ·have hd':M.dead=false:=by rw[hde];simpa using hd
  simp only[J3 hd,J3 (show¬M.dead=true by rw[hd'];decide)]
  by_cases hr:0≤at_∧at_<(M.l.length:Int)
  ·simp only[J3 (show¬(at_<0∨at_≥(C.rows.length:Int))by omega),J3 (show¬¬(0≤at_∧at_<(M.l.length:Int))from fun q=>q hr),if_true]
   by_cases hb:b.length=Z
   ·simp only[J4 (show(b.length:Int)=(Z:Int)by omega),J3 (show¬b.length≠Z from fun q=>q hb)]
    obtain⟨hp,hP⟩:=h.power hd'
    rcases hp with⟨p1,p2,p3⟩|⟨p1,p2,p3⟩
    ·simp only[J4 p2,J3 (show¬(gI M.dead M.armed M.n).1=false by rw[p1];decide)]
     have hi:at_.toNat<N:=by omega
     have hai:((at_.toNat:Nat):Int)=at_:=by omega
     have hw:=hP.rel.write hi b (pwV C).2.cut (pwV C).2.dead
     rw[hai]at hw
     refine⟨by trivial,hw.congr (fun k _=>dZo _ _ _ _ _ (by rw[hll];exact hi)) (fun k _=>dZo _ _ _ _ _ (by rw[h.fl];exact hi)),hP.sure,by simp only[List.length_set];exact hll,by simp only[List.length_set];exact h.fl,fun r hr2=>?_,hP.rz,hP.de,hP.cu,hP.n0⟩
     rcases eBt hr2 with h2|h2
     ·exact h.lz r h2
     ·rw[h2];exact hb
    ·simp only[J3 (show¬(pwV C).1=0 by omega),J4 p1]
     exact⟨p2,hP⟩
   ·simp only[J3 (show¬(b.length:Int)=(Z:Int)by omega),J4 (show b.length≠Z from hb)]
    exact⟨by trivial,h⟩
  ·simp only[J4 (show at_<0∨at_≥(C.rows.length:Int)by omega),J4 hr]
   rw[J3 (show¬(80:Int)=0 by decide)]
   exact⟨rfl,h⟩
def sM (M:MC):Int×MC:=
 if M.dead=true then(82,M)else if(gI M.dead M.armed M.n).1=false then(82,pM M)else(0,{pM M with sure:=M.l,fresh:=List.replicate M.l.length false})
theorem dZg (n k:Nat):(List.replicate n false).getD k false=false:=by
 rw[List.getD_eq_getElem?_getD,List.getElem?_replicate]
 split<;>rfl
theorem PR.settle {N Z:Nat} {M:MC} {C:DC} (h:PR N Z M C) (kept:Nat→Bool) (c:Int) (x ar:Bool) (n:Int) (hn:0≤n∧n≤1000000) (hc:c=if ar=true then n else -1) {l:List (List B8)} (hl:l=(List.range N).map (aft kept (fun k=>M.l.getD k []) (fun k=>M.fresh.getD k false) C)):
  PR N Z ⟨l,l,List.replicate N false,x,ar,n⟩ {dFn kept C with cut:=c,dead:=x}:=by
 have hs:=h.rel.settle kept c x
 have hr:({dFn kept C with cut:=c,dead:=x}:DC).rows=l:=by
  rw[hl,h.rel.stl kept]
 have hz: ∀r∈l,r.length=Z:=by
  rw[hl]
  intro r hr
  obtain⟨k,hk,rfl⟩:=List.mem_map.1 hr
  have hkN:=List.mem_range.1 hk
  unfold aft
  split
  ·exact h.lz _ (dZp (by rw[h.ll];exact hkN))
  ·exact h.rz _ (dZp (by rw[h.rel.len];exact hkN))
 refine⟨hs.congr (fun k hk=>?_) (fun k _=>dZg _ _),hr.symm,by rw[hl];simp,by simp,hz,by rw[hr];exact hz,rfl,hc,hn⟩
 simp only[hl]
 rw[List.getD_eq_getElem?_getD,List.getElem?_map,List.getElem?_range hk]
 rfl
theorem PR.sync {N Z:Nat} {M:MC} {C:DC} (h:PR N Z M C):(mL C).1=(sM M).1∧PR N Z (sM M).2 (mL C).2:=by
 have hde:=h.de
 unfold mL sM
 by_cases hd:C.dead=true
 ·simp only[J4 hd,J4 (show M.dead=true by rw[hde];exact hd)]
  exact⟨trivial,h⟩
 have hd':M.dead=false:=by rw[hde];simpa using hd
 simp only[J3 hd,J3 (show¬M.dead=true by rw[hd'];decide)]
 obtain⟨hp,hP⟩:=h.power hd'
 rcases hp with⟨p1,p2,p3⟩|⟨p1,p2,p3⟩
 ·simp only[J4 p2,J3 (show¬(gI M.dead M.armed M.n).1=false by rw[p1];decide)]
  refine⟨by trivial,?_⟩
  have e:M.l=(List.range N).map (aft (fun _=>true) (fun k=>(pM M).l.getD k []) (fun k=>(pM M).fresh.getD k false) (pwV C).2):=by
   apply List.ext_getElem
   ·simp[h.ll]
   intro i h1 h2
   simp only[List.getElem_map,List.getElem_range,aft,and_true]
   have hl2:(pM M).l.getD i []=M.l[i]:=by
    show M.l.getD i []=_
    rw[List.getD_eq_getElem?_getD,List.getElem?_eq_getElem h1];rfl
   by_cases hf:(pM M).fresh.getD i false=true
   ·rw[J4 hf,hl2]
   rw[J3 hf,hP.rel.old i (by rw[←h.ll];exact h1) (by simpa using hf),hl2]
  have:=hP.settle (fun _=>true) (pwV C).2.cut (pwV C).2.dead M.armed (pM M).n hP.n0 hP.cu e
  have e2:(pM M).dead=(pwV C).2.dead:=hP.de
  have e3:({pM M with sure:=M.l,fresh:=List.replicate M.l.length false}:MC)=⟨M.l,M.l,List.replicate N false,(pwV C).2.dead,M.armed,(pM M).n⟩:=by
   rw[←e2,h.ll];rfl
  rw[e3]
  exact this
 simp only[J3 (show¬(pwV C).1=0 by omega),J4 p1]
 exact⟨p2,hP⟩
theorem PR.cutM {N Z:Nat} {M:MC} {C:DC} (h:PR N Z M C) (c:Int) (hc:c≤1000000):PR N Z {M with armed:=true,n:=if c<0 then 0 else c} (dRt C c):=by
 refine⟨h.rel.power _ _,h.sure,h.ll,h.fl,h.lz,h.rz,h.de,rfl,?_⟩
 show 0≤(if c<0 then 0 else c)∧(if c<0 then 0 else c)≤1000000
 split<;>omega
theorem PR.g {N Z:Nat} {M:MC} {C:DC} (h:PR N Z M C) (g:Bool):PR N Z M {C with g:=g}:=
 ⟨⟨h.rel.len,h.rel.get,h.rel.keys,h.rel.nodup,h.rel.old⟩,h.sure,h.ll,h.fl,h.lz,h.rz,h.de,h.cu,h.n0⟩
def crL (keep:BitVec 64) (M:MC) (k:Nat):List B8:=if M.fresh.getD k false=true∧dGb keep (dZb (fun k=>M.fresh.getD k false) k)=true then M.l.getD k []else if M.fresh.getD k false=true then M.sure.getD k []else M.l.getD k []
def crM (keep:BitVec 64) (M:MC) (j:Nat):MC:=
 {M with l:=(List.range M.l.length).map (fun k=>if k<j then crL keep M k else M.l.getD k []), sure:=(List.range M.l.length).map (fun k=>if k<j then crL keep M k else M.sure.getD k []), fresh:=(List.range M.l.length).map (fun k=>if k<j then false else M.fresh.getD k false)}
theorem dZh {α:Type} (l:List α) (d:α):(List.range l.length).map (fun k=>l.getD k d)=l:=by
 apply List.ext_getElem
 ·simp
 intro i h1 h2
 rw[List.getElem_map,List.getElem_range,List.getD_eq_getElem?_getD,List.getElem?_eq_getElem h2];rfl
theorem eDh (keep:BitVec 64) (M:MC) (h1:M.sure.length=M.l.length) (h2:M.fresh.length=M.l.length):crM keep M 0=M:=by
 unfold crM
 simp only[Nat.not_lt_zero,if_false]
 have e1:=dZh M.l []
 have e2:=dZh M.sure []
 have e3:=dZh M.fresh false
 rw[h1]at e2
 rw[h2]at e3
 rw[e1,e2,e3]
theorem eDf (keep:BitVec 64) (M:MC) (j:Nat):(crM keep M j).l.length=M.l.length:=by simp[crM]
theorem eDe (keep:BitVec 64) (M:MC) (j:Nat):(crM keep M j).sure.length=M.l.length:=by simp[crM]
theorem eDg (keep:BitVec 64) (M:MC) (j:Nat):(crM keep M j).fresh.length=M.l.length:=by simp[crM]
theorem PR.crash {N Z:Nat} {M:MC} {C:DC} (h:PR N Z M C) (keep:BitVec 64):PR N Z {crM keep M N with dead:=false,armed:=false} (dRv keep C):=by
 have hll:=h.ll
 have e:(crM keep M N).l=(List.range N).map (aft (dGb keep) (fun k=>M.l.getD k []) (fun k=>M.fresh.getD k false) C):=by
  unfold crM
  rw[hll]
  apply List.map_congr_left
  intro k hk
  have hkN:=List.mem_range.1 hk
  rw[J4 hkN]
  unfold crL aft
  rw[h.sure]
  by_cases hf:M.fresh.getD k false=true
  ·simp only[hf,true_and,if_true]
  simp only[hf,Bool.false_eq_true,false_and,if_false]
  exact(h.rel.old k hkN (by simpa using hf)).symm
 have e2:(crM keep M N).sure=(crM keep M N).l:=by
  unfold crM
  simp only
  apply List.map_congr_left
  intro k hk
  have hkN:=List.mem_range.1 hk
  rw[J4 (by omega),J4 (by omega)]
 have e3:(crM keep M N).fresh=List.replicate N false:=by
  unfold crM
  simp only
  rw[hll]
  apply List.ext_getElem
  ·simp
  intro i h1 h2
  simp at h1
  simp[h1]
 have:=h.settle (dGb keep) (-1) false false M.n h.n0 rfl e
 have e4:({crM keep M N with dead:=false,armed:=false}:MC)=⟨(crM keep M N).l,(crM keep M N).l,List.replicate N false,false,false,M.n⟩:=by
  show(⟨(crM keep M N).l,(crM keep M N).sure,(crM keep M N).fresh,false,false,(crM keep M N).n⟩:MC)=_
  rw[e2,e3];rfl
 rw[e4]
 exact this
end Go.AX

namespace Go.AX
open Go Go.Proofs
set_option maxRecDepth 8000
structure ST (N Z:Nat) (h:H) (I:MI) (d s m:Nat) (M:MC) (C:DC) (c:Nat):Prop where
 mm:MM h I d s m M C
 pr:PR N Z M C
 lt:I.mm<c∧I.li<c∧I.si<c∧I.fi<c∧d<c∧s<c∧m<c
 nz:1≤N∧N≤4096∧1≤Z∧Z≤4096
theorem ST.upd {N Z:Nat} {h:H} {I:MI} {d s m:Nat} {M:MC} {C:DC} {c:Nat} (q:ST N Z h I d s m M C c) {i:Nat} (o:AO) (hi:c≤i):ST N Z (upd h i o) I d s m M C c:=by
 have l:=q.lt
 exact⟨q.mm.upd i o (by omega) (by omega),q.pr,l,q.nz⟩
theorem ST.up {N Z:Nat} {h:H} {I:MI} {d s m:Nat} {M:MC} {C:DC} {c c2:Nat} (q:ST N Z h I d s m M C c) (hc:c≤c2):ST N Z h I d s m M C c2:=by
 have l:=q.lt
 exact⟨q.mm,q.pr,by omega,q.nz⟩
theorem eAd {N Z:Nat} {M:MC} {C:DC} (q:PR N Z M C) (h3:1≤N):uK C.rows=some (Z:Int):=by
 have h1:=q.rel.len
 have h2:=q.rz
 rcases hr:C.rows with _|⟨a,r⟩
 ·rw[hr]at h1;simp at h1;omega
 rw[hr]at h2
 show some ((a.length:Nat):Int)=_
 rw[h2 a (List.mem_cons_self ..)]
theorem MM.mmc {h:H} {I:MI} {d s m:Nat} {M:MC} {C:DC} (q:MM h I d s m M C) (de ar:Bool) (n:Int):
  MM (Go.AX.upd h I.mm (.cells [.os I.li 0 M.l.length 1 true,.os I.si 0 M.sure.length 1 true,.os I.fi 0 M.fresh.length 1 true,.b de,.b ar,.i n] true)) I d s m {M with dead:=de,armed:=ar,n:=n} C:=by
 obtain⟨a1,a2,a3,a4,a5,a6⟩:=q.n1
 exact⟨by rw[bJ,J4 rfl],by rw[bJ,J3 (Ne.symm a1)];exact q.hl,by rw[bJ,J3 (Ne.symm a2)];exact q.hs,by rw[bJ,J3 (Ne.symm a3)];exact q.hf,q.hd.updq _ _ a4 a5 a6,q.n1,q.n2,q.n3,q.n4⟩
theorem MM.lic {h:H} {I:MI} {d s m:Nat} {M:MC} {C:DC} (q:MM h I d s m M C) (l:List (List B8)) (hl:l.length=M.l.length):
  MM (Go.AX.upd h I.li (.cells (l.map zP) true)) I d s m {M with l:=l} C:=by
 obtain⟨a1,a2,a3,a4,a5⟩:=q.n2
 obtain⟨b1,_⟩:=q.n1
 exact⟨by rw[bJ,J3 b1,hl];exact q.hm,by rw[bJ,J4 rfl],by rw[bJ,J3 (Ne.symm a1)];exact q.hs,by rw[bJ,J3 (Ne.symm a2)];exact q.hf,q.hd.updq _ _ a3 a4 a5,q.n1,q.n2,q.n3,q.n4⟩
theorem MM.sic {h:H} {I:MI} {d s m:Nat} {M:MC} {C:DC} (q:MM h I d s m M C) (l:List (List B8)) (hl:l.length=M.sure.length):
  MM (Go.AX.upd h I.si (.cells (l.map zP) true)) I d s m {M with sure:=l} C:=by
 obtain⟨a1,a2,a3,a4⟩:=q.n3
 obtain⟨_,b1,_⟩:=q.n1
 obtain⟨c1,_⟩:=q.n2
 exact⟨by rw[bJ,J3 b1,hl];exact q.hm,by rw[bJ,J3 c1];exact q.hl,by rw[bJ,J4 rfl],by rw[bJ,J3 (Ne.symm a1)];exact q.hf,q.hd.updq _ _ a2 a3 a4,q.n1,q.n2,q.n3,q.n4⟩
theorem MM.fic {h:H} {I:MI} {d s m:Nat} {M:MC} {C:DC} (q:MM h I d s m M C) (l:List Bool) (hl:l.length=M.fresh.length):
  MM (Go.AX.upd h I.fi (.cells (l.map rD) true)) I d s m {M with fresh:=l} C:=by
 obtain⟨a2,a3,a4⟩:=q.n4
 obtain⟨_,_,b1,_⟩:=q.n1
 obtain⟨_,c1,_⟩:=q.n2
 obtain⟨e1,_⟩:=q.n3
 exact⟨by rw[bJ,J3 b1,hl];exact q.hm,by rw[bJ,J3 c1];exact q.hl,by rw[bJ,J3 e1];exact q.hs,by rw[bJ,J4 rfl],q.hd.updq _ _ a2 a3 a4,q.n1,q.n2,q.n3,q.n4⟩
theorem MM.dsk {h:H} {I:MI} {d s m:Nat} {M:MC} {C:DC} (q:MM h I d s m M C) (C2:DC):MM (bO d s m C2 h) I d s m M C2:=by
 obtain⟨_,_,_,a4,a5,a6⟩:=q.n1
 obtain⟨_,_,b3,b4,b5⟩:=q.n2
 obtain⟨_,c2,c3,c4⟩:=q.n3
 obtain⟨e2,e3,e4⟩:=q.n4
 obtain⟨f1,f2,f3,_⟩:=q.hd.ne
 exact⟨by rw[mH _ _ _ _ _ _ a4 a5 a6];exact q.hm,by rw[mH _ _ _ _ _ _ b3 b4 b5];exact q.hl,by rw[mH _ _ _ _ _ _ c2 c3 c4];exact q.hs,by rw[mH _ _ _ _ _ _ e2 e3 e4];exact q.hf,dEp f1 f2 f3,q.n1,q.n2,q.n3,q.n4⟩
theorem dZe (l:List (List B8)) (k:Nat) (h:k<l.length):((l.map zP).drop k).head? =some (.sl (l.getD k []).length (c8 (l.getD k []))):=by
 rw[List.head?_drop,List.getElem?_map,List.getElem?_eq_getElem h,List.getD_eq_getElem?_getD,List.getElem?_eq_getElem h]
 rfl
theorem eAq (l:List Bool) (k:Nat) (h:k<l.length):((l.map rD).drop k).head? =some (.b (l.getD k false)):=by
 rw[List.head?_drop,List.getElem?_map,List.getElem?_eq_getElem h,List.getD_eq_getElem?_getD,List.getElem?_eq_getElem h]
 rfl
theorem dZm (l:List (List B8)) (k:Nat) (b:List B8):(l.map zP).set k (.sl b.length (c8 b))=(l.set k b).map zP:=by rw[List.map_set];rfl
theorem dZq (l:List Bool) (k:Nat) (b:Bool):(l.map rD).set k (.b b)=(l.set k b).map rD:=by rw[List.map_set];rfl
def aA (x:BitVec 8) (n:Nat):List B8:=(List.range n).map fun j:Nat=>x+BitVec.ofInt 8 (j:Int)
theorem eAf (x:BitVec 8) (n:Nat):(aA x n).length=n:=by simp[aA]
theorem eBy (x:BitVec 8) (n:Nat):aA x (n+1)=aA x n++[x+BitVec.ofInt 8 (n:Int)]:=by
 simp only[aA,List.range_succ,List.map_append,List.map_cons,List.map_nil]
def aW (x:BitVec 8) (j r:Nat):List B8:=aA x j++List.replicate r 0#8
theorem eBi (x:BitVec 8) (j r:Nat):(aW x j r).length=j+r:=by rw[aW,List.length_append,eAf,List.length_replicate]
theorem eBx (x:BitVec 8) (j r:Nat):(aW x j (r+1)).set j (x+BitVec.ofInt 8 (j:Int))=aW x (j+1) r:=by
 have e:(aW x j (r+1))=aA x j++(0#8::List.replicate r 0#8):=by rw[aW,List.replicate_succ]
 rw[e,List.set_append_right _ _ (by rw[eAf];exact U3 _),eAf,Nat.sub_self,List.set_cons_zero,aW,eBy,List.append_assoc]
 rfl
structure AWI where
 j:Nat
 r:Nat
 c:Nat
structure AWJ where
 b:List B8
 c:Nat
structure AWK where
 h:H
 M:MC
 w:Int
 c:Nat
set_option maxHeartbeats 8000000 in
theorem eCw {Q:Exit→S→Prop} {N Z:Nat} {g:H} {I:MI} {d s m:Nat} {M:MC} {C:DC} {c0 c nx e len i:Nat} {xs:List AV} {at_ w ix n:Int} {keep:BitVec 64} {x:B8} {inb:Bool}
  (hS:ST N Z g I d s m M C c0) (he:g e=some (.cells [.i w,.i ix,.i n,.w64 keep,.w8 x] true)) (hec:c0≤e∧e<c) (hat: -1≤at_∧at_≤4096) (hin:inb=decide (0≤at_∧at_<(N:Int)))
  (hrest: ∀h' M' C' c' nx',ST N Z h' I d s m M' C' c'→c≤c'→Q .normal {fr:=[(2,.sl len xs),(7,.op d 0),(8,.op I.mm 0),(10,.i i),(12,.i at_),(13,.b inb)],hp:=h',nx:=nx',cx:=c'}):
  Awp Try.prog GLh Try.f5.ntmps (cl (cr (cl (cr (cl (cr (cr (cr (cl (cl (cr (cl (cl (cr (cl (cr (cr (cr (cr (cr (cr (cr (cr (aE Try.f5)))))))))))))))))))))))) {fr:=[(2,.sl len xs),(7,.op d 0),(8,.op I.mm 0),(10,.i i),(11,.op e 0),(12,.i at_),(13,.b inb)],hp:=g,nx:=nx,cx:=c} Q:=by
 have hdk:=mK hS.mm.hd
 have hnz:=hS.nz
 have hsz:=eAd hS.pr hnz.1
 refine cP rfl ?_
 refine aC (Γ:=bC [(9,.heap dGx)]) [2,7,8,10,11,12,13,14] (aH ok9 aO) rfl rfl rfl (fun K hK=>?_)
 simp(disch:=omega) only[Try.f5,go_sem,↓reduceIte,hdk,hsz,U2,dKc]
 refine hK _ ?_
 refine aB ?_
 obtain⟨b,hb⟩: ∃y,c+2=y:=⟨_,rfl⟩
 rw[hb]
 refine cP rfl ?_
 refine cP rfl ?_
 refine bA [2,7,8,10,11,12,13,14,15] rfl rfl rfl fun K hK=>?_
 simp(disch:=omega) only[Try.f5,go_sem,↓reduceIte]
 refine hK _ ?_
 refine aB ?_
 refine aR 5 rfl rfl ?_
 refine bR (fun p:AWI=> {fr:=[(2,.sl len xs),(7,.op d 0),(8,.op I.mm 0),(10,.i i),(11,.op e 0),(12,.i at_),(13,.b inb),(14,.os b 0 Z 1 true),(15,.i p.j)],hp:=Go.AX.upd g b (.cells (c8 (aW x p.j p.r)) true),nx:=0,cx:=p.c}) (fun p=>p.j+p.r=Z∧b<p.c) (fun p=>p.r) rfl ⟨⟨0,Z,_⟩,⟨Nat.zero_add _,by simp only;omega⟩,bD rfl rfl (U3 _)⟩ ?_
 rintro⟨j,r,c2⟩ ⟨hj,hc2⟩ n0
 simp only at hj hc2⊢
 refine cP rfl ?_
 refine cP rfl ?_
 refine bA [138,2,7,8,10,11,12,13,14,15] rfl rfl rfl fun K hK=>?_
 simp(disch:=omega) only[Try.f5,go_sem,↓reduceIte]
 refine hK _ ?_
 refine aB ?_
 refine gP (.tmp 138) rfl rfl rfl (fun h=>?_) (fun h=>?_)
 ·skip
  refine aI rfl ?_
  obtain⟨r2,rfl⟩: ∃r2,r=r2+1:=⟨r-1,by omega⟩
  have hn2:=eBx x j r2
  have hl2:=eBi x j (r2+1)
  clear h
  refine aQ rfl ?_
  refine aB ?_
  refine cP rfl ?_
  refine aR 6 rfl rfl ?_
  refine bA [2,7,8,10,11,12,13,14,15] rfl rfl rfl fun K hK=>?_
  simp(disch:=omega) only[Try.f5,go_sem,↓reduceIte,he,J8,J7,J9,hT,hl2,yB,hn2]
  refine hK _ ?_
  refine bU (aB ?_)
  refine bA [2,7,8,10,11,12,13,14,15] rfl rfl rfl fun K hK=>?_
  simp(disch:=omega) only[Try.f5,go_sem,↓reduceIte]
  refine hK _ ?_
  refine bT ?_
  refine⟨⟨j+1,r2,_⟩,⟨by simp only;omega,by simp only;omega⟩,by simp only;omega,bD ?_ rfl (U3 _)⟩
  simp only[Int.natCast_add,Int.natCast_one]
 ·skip
  refine aI rfl ?_
  obtain rfl:r=0:=by omega
  obtain rfl:Z=j:=by omega
  refine bF 5 rfl rfl ?_
  refine aY (aZ (bE ?_))
  refine aB ?_
  have hal:(aW x Z 0).length=Z:=by rw[eBi];rfl
  obtain⟨B,hB⟩: ∃B,aW x Z 0=B:=⟨_,rfl⟩
  rw[hB]at hal⊢
  refine pS 14 b 0 _ 1 rfl (by rw[bJ,J4 rfl]) (by rw[hT];omega) ?_
  rw[J9,List.take_of_length_le (by rw[hT];omega),lN]
  have hS1:=hS.upd (i:=b) (.cells (c8 B) false) (by omega)
  have he1:(Go.AX.upd g b (.cells (c8 B) false)) e=some (.cells [.i w,.i ix,.i n,.w64 keep,.w8 x] true):=by rw[bJ,J3 (by omega)];exact he
  obtain⟨g1,hg1⟩: ∃y,Go.AX.upd g b (.cells (c8 B) false)=y:=⟨_,rfl⟩
  rw[hg1]at hS1 he1⊢
  clear hg1
  refine cP rfl ?_
  refine dWd (fun p:AWJ=> {fr:=[(2,.sl len xs),(7,.op d 0),(8,.op I.mm 0),(10,.i i),(12,.i at_),(13,.b inb),(14,.sl p.b.length (c8 p.b))],hp:=g1,nx:=0,cx:=p.c}) (fun p=>p.b.length≤Z∧c≤p.c) ?_ ?_
  ·skip
   refine cP rfl ?_
   refine bA [152,2,7,8,10,12,13,14] rfl rfl rfl fun K hK=>?_
   simp(disch:=omega) only[Try.f5,go_sem,↓reduceIte,he1,J8,J7,J9]
   refine hK _ ?_
   refine aB ?_
   refine gP (.tmp 152) rfl rfl rfl (fun h=>?_) (fun h=>?_)
   ·skip
    refine aI rfl ?_
    clear h
    have hbd:(B.drop 1).length=Z-1:=by rw[List.length_drop,hal]
    refine bA [2,7,8,10,12,13,14] rfl rfl rfl fun K hK=>?_
    simp(disch:=omega) only[Try.f5,go_sem,↓reduceIte,tP]
    refine hK _ ?_
    refine dWa ?_
    refine⟨⟨B.drop 1,_⟩,⟨by simp only;omega,by simp only;omega⟩,bD ?_ rfl (U3 _)⟩
    simp only[hbd]
   ·skip
    refine aI rfl ?_
    clear h
    refine aQ rfl ?_
    refine dWa ?_
    refine⟨⟨B,_⟩,⟨by simp only;omega,by simp only;omega⟩,bD ?_ rfl (U3 _)⟩
    simp only[hal]
  rintro⟨b1,c3⟩ ⟨hb1,hc3⟩ n0
  simp only at hb1 hc3⊢
  refine cP rfl ?_
  refine bA [2,7,8,10,12,13,14,16] rfl rfl rfl fun K hK=>?_
  simp(disch:=omega) only[Try.f5,go_sem,↓reduceIte]
  refine hK _ ?_
  refine aB ?_
  have h1:=hS1.mm.hm
  have h2:=hS1.mm.hl
  have h3:=hS1.mm.hf
  have hdk1:=mK hS1.mm.hd
  have hll:=hS1.pr.ll
  have hfl:=hS1.pr.fl
  have l0:=hS1.lt
  have hPR:=hS1.pr
  refine cP rfl ?_
  refine dWd (fun p:AWK=> {fr:=[(2,.sl len xs),(7,.op d 0),(8,.op I.mm 0),(10,.i i),(12,.i at_),(13,.b inb),(14,.sl b1.length (c8 b1)),(16,.i p.w)],hp:=p.h,nx:=0,cx:=p.c}) (fun p=>MM p.h I d s m p.M C∧(wM M Z at_ b1=(p.w,p.M))∧c≤p.c) ?_ ?_
  ·skip
   cases hd:M.dead
   ·skip
    have hwd:wM M Z at_ b1=if¬(0≤at_∧at_<M.l.length)then(80,M)else if b1.length≠Z then(81,M)else
    if(gI M.dead M.armed M.n).1=false then(82,pM M)else(0,{pM M with l:=M.l.set at_.toNat b1,fresh:=M.fresh.set at_.toNat true}):=by unfold wM;rw[J3 (by rw[hd];decide)]
    refine aR 7 rfl rfl ?_
    refine cP rfl ?_
    refine bA [168,2,7,8,10,12,13,14,16] rfl rfl rfl fun K hK=>?_
    simp(disch:=omega) only[Try.f5,go_sem,↓reduceIte,h1,hd,J8,J7,J9]
    refine hK _ ?_
    refine aB ?_
    refine eC (.tmp 168) rfl rfl rfl (fun h=>?_) (fun h=>?_)
    ·skip
     refine aI rfl ?_
     cases h
    ·skip
     refine aI rfl ?_
     clear h
     refine cP rfl ?_
     by_cases hr:0≤at_∧at_<(N:Int)
     ·skip
      have hib:inb=true:=by rw[hin];exact J5 hr
      rw[J3 (show¬¬(0≤at_∧at_<(M.l.length:Int))by rw[hll];exact fun q=>q hr)]at hwd
      refine bA [173,2,7,8,10,12,13,14,16] rfl rfl rfl fun K hK=>?_
      simp(disch:=omega) only[Try.f5,go_sem,↓reduceIte,hib,Bool.not_true]
      refine hK _ ?_
      refine aB ?_
      refine eC (.tmp 173) rfl rfl rfl (fun h=>?_) (fun h=>?_)
      ·skip
       refine aI rfl ?_
       cases h
      ·skip
       refine aI rfl ?_
       clear h
       refine cP rfl ?_
       by_cases hbz:b1.length=Z
       ·skip
        rw[J3 (show¬b1.length≠Z from fun q=>q hbz)]at hwd
        have db:decide ((b1.length:Int)=(Z:Int))=true:=J5 (by omega)
        refine aC (Γ:=bC [(9,.heap dGx)]) [176,2,7,8,10,12,13,14,16] (aH ok9 aO) rfl rfl rfl (fun K hK=>?_)
        simp(disch:=omega) only[Try.f5,go_sem,↓reduceIte,hdk1,hsz,db,Bool.not_true]
        refine hK _ ?_
        refine aB ?_
        refine eC (.tmp 176) rfl rfl rfl (fun h=>?_) (fun h=>?_)
        ·skip
         refine aI rfl ?_
         cases h
        ·skip
         refine aI rfl ?_
         clear h
         refine cP rfl ?_
         have hM3:=hS1.mm.mmc (gI M.dead M.armed M.n).2.1 M.armed (gI M.dead M.armed M.n).2.2
         cases hpw:(gI M.dead M.armed M.n).1
         ·skip
          refine aC (Γ:=bC [(15,.heap dZu)]) [182,2,7,8,10,12,13,14,16] (aH eAy aO) rfl rfl rfl (fun K hK=>?_)
          simp(disch:=omega) only[Try.f5,go_sem,↓reduceIte,h1,hpw,Bool.not_false]
          refine hK _ ?_
          refine aB ?_
          refine eC (.tmp 182) rfl rfl rfl (fun h=>?_) (fun h=>?_)
          ·skip
           refine aI rfl ?_
           clear h
           refine bA [2,7,8,10,12,13,14,16] rfl rfl rfl fun K hK=>?_
           simp(disch:=omega) only[Try.f5,go_sem,↓reduceIte]
           refine hK _ ?_
           refine bU (dWa ?_)
           refine⟨⟨_,pM M,82,_⟩,⟨hM3,by rw[hwd,J4 hpw],by simp only;omega⟩,bD ?_ rfl (U3 _)⟩
           simp only[hib]
          ·skip
           refine aI rfl ?_
           cases h
         ·skip
          rw[J3 (show¬(gI M.dead M.armed M.n).1=false by rw[hpw];decide)]at hwd
          refine aC (Γ:=bC [(15,.heap dZu)]) [182,2,7,8,10,12,13,14,16] (aH eAy aO) rfl rfl rfl (fun K hK=>?_)
          simp(disch:=omega) only[Try.f5,go_sem,↓reduceIte,h1,hpw,Bool.not_true]
          refine hK _ ?_
          refine aB ?_
          refine eC (.tmp 182) rfl rfl rfl (fun h=>?_) (fun h=>?_)
          ·skip
           refine aI rfl ?_
           cases h
          ·skip
           refine aI rfl ?_
           clear h
           obtain⟨g3,hg3⟩: ∃y,Go.AX.upd g1 I.mm (.cells [.os I.li 0 M.l.length 1 true,.os I.si 0 M.sure.length 1 true,.os I.fi 0 M.fresh.length 1 true,.b (gI M.dead M.armed M.n).2.1,.b M.armed,.i (gI M.dead M.armed M.n).2.2] true)=y:=⟨_,rfl⟩
           rw[hg3]at hM3⊢
           obtain⟨k,rfl⟩:=Int.eq_ofNat_of_zero_le hr.1
           simp only[U2]at*
           have hkN:k<N:=by omega
           have h4:=hM3.hm
           have h5:=hM3.hl
           have h6:=hM3.hf
           simp only at h4 h5 h6
           have e1:(I.mm=I.li)=False:=eq_false hM3.n1.1
           have e2:(I.mm=I.fi)=False:=eq_false hM3.n1.2.2.1
           have e3:(I.li=I.fi)=False:=eq_false hM3.n2.2.1
           have e4:(I.li=I.mm)=False:=eq_false (Ne.symm hM3.n1.1)
           have e5:(I.fi=I.mm)=False:=eq_false (Ne.symm hM3.n1.2.2.1)
           have e6:(I.fi=I.li)=False:=eq_false (Ne.symm hM3.n2.2.1)
           have e7:M.l.length=N:=hll
           have e8:M.fresh.length=N:=hfl
           have e9:=dZm M.l k b1
           have e10:=dZq M.fresh k true
           have e11:(M.l.map zP).length=N:=by rw[List.length_map];exact hll
           have e12:(M.fresh.map rD).length=N:=by rw[List.length_map];exact hfl
           refine aYa (Γ:=aL) (fun k=>if k=3 then true else if k=8 then true else false) [(3,8)] (fun _=>2) [2,7,8,10,12,13,14,16] mixed (aD _ _) rfl rfl rfl (by kernel_rfl) (fun K hK=>?_)
           simp(maxSteps:=400000) (disch:=omega) only[Try.f5,go_sem,and_self,and_true,true_and,↓reduceIte,J8,J7,J9,bFz,h4,h5,h6,e6,e7,e8,e9,e10,e11,e12,U2]
           refine hK _ ?_
           refine bU (dWa ?_)
           refine⟨⟨_,_,0,_⟩,⟨(hM3.lic (M.l.set k b1) (List.length_set ..)).fic (M.fresh.set k true) (List.length_set ..),hwd,by simp only;omega⟩,bD ?_ rfl (U3 _)⟩
           simp only[hib]
       ·skip
        rw[J4 (show b1.length≠Z from hbz)]at hwd
        have db:decide ((b1.length:Int)=(Z:Int))=false:=J6 (by omega)
        refine aC (Γ:=bC [(9,.heap dGx)]) [176,2,7,8,10,12,13,14,16] (aH ok9 aO) rfl rfl rfl (fun K hK=>?_)
        simp(disch:=omega) only[Try.f5,go_sem,↓reduceIte,hdk1,hsz,db,Bool.not_false]
        refine hK _ ?_
        refine aB ?_
        refine eC (.tmp 176) rfl rfl rfl (fun h=>?_) (fun h=>?_)
        ·skip
         refine aI rfl ?_
         clear h
         refine bA [2,7,8,10,12,13,14,16] rfl rfl rfl fun K hK=>?_
         simp(disch:=omega) only[Try.f5,go_sem,↓reduceIte]
         refine hK _ ?_
         refine bU (dWa ?_)
         refine⟨⟨g1,M,81,_⟩,⟨hS1.mm,hwd,by simp only;omega⟩,bD ?_ rfl (U3 _)⟩
         simp only[hib]
        ·skip
         refine aI rfl ?_
         cases h
     ·skip
      have hib:inb=false:=by rw[hin];exact J6 hr
      rw[J4 (show¬(0≤at_∧at_<(M.l.length:Int))by rw[hll];exact hr)]at hwd
      refine bA [173,2,7,8,10,12,13,14,16] rfl rfl rfl fun K hK=>?_
      simp(disch:=omega) only[Try.f5,go_sem,↓reduceIte,hib,Bool.not_false]
      refine hK _ ?_
      refine aB ?_
      refine eC (.tmp 173) rfl rfl rfl (fun h=>?_) (fun h=>?_)
      ·skip
       refine aI rfl ?_
       clear h
       refine bA [2,7,8,10,12,13,14,16] rfl rfl rfl fun K hK=>?_
       simp(disch:=omega) only[Try.f5,go_sem,↓reduceIte]
       refine hK _ ?_
       refine bU (dWa ?_)
       refine⟨⟨g1,M,80,_⟩,⟨hS1.mm,hwd,by simp only;omega⟩,bD ?_ rfl (U3 _)⟩
       simp only[hib]
      ·skip
       refine aI rfl ?_
       cases h
   ·skip
    refine aR 7 rfl rfl ?_
    refine cP rfl ?_
    refine bA [168,2,7,8,10,12,13,14,16] rfl rfl rfl fun K hK=>?_
    simp(disch:=omega) only[Try.f5,go_sem,↓reduceIte,h1,hd,J8,J7,J9]
    refine hK _ ?_
    refine aB ?_
    refine eC (.tmp 168) rfl rfl rfl (fun h=>?_) (fun h=>?_)
    ·skip
     refine aI rfl ?_
     clear h
     refine bA [2,7,8,10,12,13,14,16] rfl rfl rfl fun K hK=>?_
     simp(disch:=omega) only[Try.f5,go_sem,↓reduceIte]
     refine hK _ ?_
     refine bU (dWa ?_)
     refine⟨⟨g1,M,82,_⟩,⟨hS1.mm,by unfold wM;rw[J4 hd],by simp only;omega⟩,bD rfl rfl (U3 _)⟩
    ·skip
     refine aI rfl ?_
     cases h
  rintro⟨g2,M2,w2,c4⟩ ⟨hM2,hw2,hc4⟩ n0
  simp only at hM2 hw2 hc4⊢
  have hP:=hPR.write at_ b1
  rw[hw2]at hP
  simp only at hP
  have hw: ∀nx,wrG [.op d 0,.i at_,.sl b1.length (c8 b1)] g2 nx=some (.i w2,bO d s m (wrV C at_ b1 Z).2 g2,nx+400):=fun nx=>by
   rw[dNi,mK hM2.hd,aX,eBz,iA,aX,cU _ rfl,aX]
   simp only
   rw[hsz,aX,cU _ (by omega),hP.1]
  have dw:decide (w2=w2)=true:=J5 rfl
  refine cP rfl ?_
  refine aC (Γ:=bC [(10,.heap wrG)]) [191,2,7,8,10,12,13] (aH dRa aO) rfl rfl rfl (fun K hK=>?_)
  simp(disch:=omega) only[Try.f5,go_sem,↓reduceIte,hw]
  refine hK _ ?_
  refine aB ?_
  refine eC (.tmp 191) rfl rfl rfl (fun h=>?_) (fun h=>?_)
  ·skip
   refine aI rfl ?_
   cases h
  ·skip
   refine aI rfl ?_
   clear h
   refine aQ rfl ?_
   exact hrest _ _ _ _ _ ⟨hM2.dsk _,hP.2,by omega,hnz⟩ (by omega)
end Go.AX

namespace Go.AX
open Go Go.Proofs
set_option maxRecDepth 8000
def syM (M:MC) (j:Nat):MC:=
 {pM M with sure:=(List.range M.l.length).map (fun k=>if k<j then M.l.getD k []else M.sure.getD k []),fresh:=(List.range M.l.length).map (fun k=>if k<j then false else M.fresh.getD k false)}
theorem eCr (M:MC) (h1:M.sure.length=M.l.length) (h2:M.fresh.length=M.l.length):syM M 0=pM M:=by
 unfold syM
 simp only[Nat.not_lt_zero,if_false]
 have e2:=dZh M.sure []
 have e3:=dZh M.fresh false
 rw[h1]at e2
 rw[h2]at e3
 rw[e2,e3]
 rfl
theorem dZd {α:Type} {n j:Nat} {f f':Nat→α} (v:α) (h: ∀k,k<n→f' k=if k=j then v else f k):((List.range n).map f).set j v=(List.range n).map f':=by
 apply List.ext_getElem
 ·simp
 intro i h1 h2
 simp at h1
 simp only[List.getElem_set,List.getElem_map,List.getElem_range]
 rw[h i h1]
 by_cases e:j=i
 ·rw[J4 e,J4 e.symm]
 rw[J3 e,J3 (Ne.symm e)]
theorem dZk {α:Type} (n j:Nat) (f:Nat→α) (d:α) (h:j<n):((List.range n).map f).getD j d=f j:=by
 rw[List.getD_eq_getElem?_getD,List.getElem?_map,List.getElem?_range h];rfl
theorem eAt (M:MC) (j:Nat):({syM M j with sure:=(syM M j).sure.set j (M.l.getD j []),fresh:=(syM M j).fresh.set j false}:MC)=syM M (j+1):=by
 have e1:(syM M j).sure.set j (M.l.getD j [])=(syM M (j+1)).sure:=dZd _ fun k hk=>by
  by_cases e:k=j
  ·rw[J4 e,J4 (by omega),e]
  rw[J3 e]
  by_cases h:k<j
  ·rw[J4 h,J4 (by omega)]
  rw[J3 h,J3 (by omega)]
 have e2:(syM M j).fresh.set j false=(syM M (j+1)).fresh:=dZd _ fun k hk=>by
  by_cases e:k=j
  ·rw[J4 e,J4 (by omega)]
  rw[J3 e]
  by_cases h:k<j
  ·rw[J4 h,J4 (by omega)]
  rw[J3 h,J3 (by omega)]
 show(⟨(syM M j).l,(syM M j).sure.set j (M.l.getD j []),(syM M j).fresh.set j false,(syM M j).dead,(syM M j).armed,(syM M j).n⟩:MC)=_
 rw[e1,e2]
 rfl
theorem eBj (M:MC):syM M M.l.length= {pM M with sure:=M.l,fresh:=List.replicate M.l.length false}:=by
 have e1:(syM M M.l.length).sure=M.l:=by
  apply List.ext_getElem
  ·simp[syM]
  intro i h1 h2
  simp only[syM,List.getElem_map,List.getElem_range,J4 h2]
  rw[List.getD_eq_getElem?_getD,List.getElem?_eq_getElem h2];rfl
 have e2:(syM M M.l.length).fresh=List.replicate M.l.length false:=by
  apply List.ext_getElem
  ·simp[syM]
  intro i h1 h2
  simp[syM]at h1
  simp[syM,h1]
 show(⟨(syM M M.l.length).l,(syM M M.l.length).sure,(syM M M.l.length).fresh,(syM M M.l.length).dead,(syM M M.l.length).armed,(syM M M.l.length).n⟩:MC)=_
 rw[e1,e2]
 rfl
theorem eCp (M:MC) (j:Nat):(syM M j).sure.length=M.l.length:=by simp[syM]
theorem eCq (M:MC) (j:Nat):(syM M j).fresh.length=M.l.length:=by simp[syM]
theorem PR.dl {N Z:Nat} {M:MC} {C:DC} (h:PR N Z M C) (hN:N≤4096):DOk C=true∧C.rows.length≤4096∧C.dirty.length≤4096:=by
 have h1:=h.rel.len
 have h2:=h.rel.count
 have h3:=dZt (fun k=>M.fresh.getD k false) N
 exact⟨h.rel.dok,by omega,by omega⟩
theorem dZy (k:Nat): ∀(a b:List (Nat×AV)),dG a k=.junk∨dG a k=dG (a++b) k
 |[],b=> .inl rfl
 |(i,x)::r,b=>by
  simp only[dG,List.cons_append]
  split
  ·exact .inr rfl
  exact dZy k r b
theorem eBk {fr:List (Nat×AV)} {hp:H} {n n' cx cx':Nat} (r:List (Nat×AV)) (h:cx'≤cx):Sub {fr:=fr,hp:=hp,nx:=n,cx:=cx} {fr:=fr++r,hp:=hp,nx:=n',cx:=cx'}:=⟨fun k=>dZy k fr r,fun _ _ h=>h,h⟩
structure ASK where
 h:H
 k:Nat
 c:Nat
set_option maxHeartbeats 8000000 in
theorem eCx {Q:Exit→S→Prop} {N Z:Nat} {g:H} {I:MI} {d s m:Nat} {M:MC} {C:DC} {c0 c nx e len i:Nat} {xs:List AV} {at_:Int} {inb:Bool}
  (hS:ST N Z g I d s m M C c0) (hc:c0≤c)
  (hrest: ∀h' M' C' c' nx',ST N Z h' I d s m M' C' c'→c≤c'→Q .normal {fr:=[(2,.sl len xs),(7,.op d 0),(8,.op I.mm 0),(10,.i i),(12,.i at_),(13,.b inb)],hp:=h',nx:=nx',cx:=c'}):
  Awp Try.prog GLh Try.f5.ntmps (cl (cr (cr (cr (cl (cr (cl (cr (cr (cr (cl (cl (cr (cl (cl (cr (cl (cr (cr (cr (cr (cr (cr (cr (cr (aE Try.f5)))))))))))))))))))))))))) {fr:=[(2,.sl len xs),(7,.op d 0),(8,.op I.mm 0),(10,.i i),(11,.op e 0),(12,.i at_),(13,.b inb)],hp:=g,nx:=nx,cx:=c} Q:=by
 have hnz:=hS.nz
 have hPR:=hS.pr
 have l0:=hS.lt
 have h1:=hS.mm.hm
 have hll:=hPR.ll
 refine cP rfl ?_
 refine bA [2,7,8,10,12,13,17] rfl rfl rfl fun K hK=>?_
 simp(disch:=omega) only[Try.f5,go_sem,↓reduceIte]
 refine hK _ ?_
 refine aB ?_
 refine cP rfl ?_
 refine dWd (fun p:AWK=> {fr:=[(2,.sl len xs),(7,.op d 0),(8,.op I.mm 0),(10,.i i),(12,.i at_),(13,.b inb),(17,.i p.w)],hp:=p.h,nx:=0,cx:=p.c}) (fun p=>MM p.h I d s m p.M C∧(sM M=(p.w,p.M))∧c≤p.c) ?_ ?_
 ·skip
  cases hd:M.dead
  ·skip
   have hwd:sM M=if(gI M.dead M.armed M.n).1=false then(82,pM M)else(0,{pM M with sure:=M.l,fresh:=List.replicate M.l.length false}):=by unfold sM;rw[J3 (by rw[hd];decide)]
   have hM3:=hS.mm.mmc (gI M.dead M.armed M.n).2.1 M.armed (gI M.dead M.armed M.n).2.2
   rw[hd]at hM3 hwd
   cases hpw:(gI false M.armed M.n).1
   ·skip
    rw[J4 hpw]at hwd
    refine cP rfl ?_
    refine aC (Γ:=bC [(15,.heap dZu)]) [202,2,7,8,10,12,13,17] (aH eAy aO) rfl rfl rfl (fun K hK=>?_)
    simp(disch:=omega) only[Try.f5,go_sem,↓reduceIte,h1,hd,hpw,J8,J7,J9]
    refine hK _ ?_
    refine aB ?_
    refine eC (.tmp 202) rfl rfl rfl (fun h=>?_) (fun h=>?_)
    ·skip
     refine aI rfl ?_
     clear h
     refine bA [2,7,8,10,12,13,17] rfl rfl rfl fun K hK=>?_
     simp(disch:=omega) only[Try.f5,go_sem,↓reduceIte]
     refine hK _ ?_
     refine dWa ?_
     refine⟨⟨_,pM M,82,_⟩,⟨?_,hwd,by simp only;omega⟩,bD rfl rfl (U3 _)⟩
     have e0:pM M= {M with dead:=(gI false M.armed M.n).2.1,n:=(gI false M.armed M.n).2.2}:=by unfold pM;rw[hd]
     simp only[e0]
     exact hM3
    ·skip
     refine aI rfl ?_
     cases h
   ·skip
    rw[J3 (by rw[hpw];decide)]at hwd
    refine cP rfl ?_
    refine aC (Γ:=bC [(15,.heap dZu)]) [202,2,7,8,10,12,13,17] (aH eAy aO) rfl rfl rfl (fun K hK=>?_)
    simp(disch:=omega) only[Try.f5,go_sem,↓reduceIte,h1,hd,hpw,J8,J7,J9]
    refine hK _ ?_
    refine aB ?_
    refine eC (.tmp 202) rfl rfl rfl (fun h=>?_) (fun h=>?_)
    ·skip
     refine aI rfl ?_
     cases h
    ·skip
     refine aI rfl ?_
     clear h
     refine cP rfl ?_
     refine bA [2,7,8,10,12,13,17,18] rfl rfl rfl fun K hK=>?_
     simp(disch:=omega) only[Try.f5,go_sem,↓reduceIte]
     refine hK _ ?_
     refine aB ?_
     have e0:pM M= {M with dead:=(gI false M.armed M.n).2.1,n:=(gI false M.armed M.n).2.2}:=by unfold pM;rw[hd]
     have hM4:MM (Go.AX.upd g I.mm (.cells [.os I.li 0 M.l.length 1 true,.os I.si 0 M.sure.length 1 true,.os I.fi 0 M.fresh.length 1 true,.b (gI false M.armed M.n).2.1,.b M.armed,.i (gI false M.armed M.n).2.2] true)) I d s m (syM M 0) C:=by
      rw[eCr M (by rw[hPR.sure,hPR.rel.len,hll]) (by rw[hPR.fl,hll]),e0]
      exact hM3
     obtain⟨g3,hg3⟩: ∃y,(Go.AX.upd g I.mm (.cells [.os I.li 0 M.l.length 1 true,.os I.si 0 M.sure.length 1 true,.os I.fi 0 M.fresh.length 1 true,.b (gI false M.armed M.n).2.1,.b M.armed,.i (gI false M.armed M.n).2.2] true))=y:=⟨_,rfl⟩
     rw[hg3]at hM4⊢
     clear hM3 hg3
     refine aR 8 rfl rfl ?_
     refine bR (fun p:ASK=> {fr:=[(2,.sl len xs),(7,.op d 0),(8,.op I.mm 0),(10,.i i),(12,.i at_),(13,.b inb),(17,.i 0),(18,.i p.k)],hp:=p.h,nx:=0,cx:=p.c}) (fun p=>p.k≤N∧MM p.h I d s m (syM M p.k) C∧c≤p.c) (fun p=>N-p.k) rfl ⟨⟨g3,0,_⟩,⟨Nat.zero_le _,hM4,by simp only;omega⟩,bD rfl rfl (U3 _)⟩ ?_
     rintro⟨g5,k,c5⟩ ⟨hk,hM5,hc5⟩ n0
     simp only at hk hM5 hc5⊢
     have h4:=hM5.hm
     have h5:=hM5.hl
     have h6:=hM5.hf
     have h7:=hM5.hs
     have e7:(syM M k).l.length=N:=hll
     have e8:(syM M k).fresh.length=N:=(eCq M k).trans hll
     have e13:(syM M k).sure.length=N:=(eCp M k).trans hll
     rw[e7,e8,e13]at h4
     refine cP rfl ?_
     refine cP rfl ?_
     refine bA [209,2,7,8,10,12,13,17,18] rfl rfl rfl fun K hK=>?_
     simp(disch:=omega) only[Try.f5,go_sem,↓reduceIte,h4,J8,J9]
     refine hK _ ?_
     refine aB ?_
     refine gP (.tmp 209) rfl rfl rfl (fun h=>?_) (fun h=>?_)
     ·skip
      refine aI rfl ?_
      have hkN:k<N:=by omega
      clear h
      have e1:(I.mm=I.li)=False:=eq_false hM5.n1.1
      have e2:(I.mm=I.fi)=False:=eq_false hM5.n1.2.2.1
      have e3:(I.li=I.fi)=False:=eq_false hM5.n2.2.1
      have e4:(I.li=I.mm)=False:=eq_false (Ne.symm hM5.n1.1)
      have e5:(I.fi=I.mm)=False:=eq_false (Ne.symm hM5.n1.2.2.1)
      have e6:(I.fi=I.li)=False:=eq_false (Ne.symm hM5.n2.2.1)
      have f1:(I.mm=I.si)=False:=eq_false hM5.n1.2.1
      have f2:(I.si=I.mm)=False:=eq_false (Ne.symm hM5.n1.2.1)
      have f3:(I.li=I.si)=False:=eq_false hM5.n2.1
      have f4:(I.si=I.li)=False:=eq_false (Ne.symm hM5.n2.1)
      have f5:(I.si=I.fi)=False:=eq_false hM5.n3.1
      have f6:(I.fi=I.si)=False:=eq_false (Ne.symm hM5.n3.1)
      have e9:=dZm (syM M k).sure k (M.l.getD k [])
      have e10:=dZq (syM M k).fresh k false
      have e11:((syM M k).l.map zP).length=N:=by rw[List.length_map];exact e7
      have e12:((syM M k).fresh.map rD).length=N:=by rw[List.length_map];exact e8
      have e14:((syM M k).sure.map zP).length=N:=by rw[List.length_map];exact e13
      have e15:(((syM M k).l.map zP).drop k).head? =some (.sl (M.l.getD k []).length (c8 (M.l.getD k []))):=dZe M.l k (by rw[hll];exact hkN)
      refine aQ rfl ?_
      refine aB ?_
      refine cP rfl ?_
      refine aR 9 rfl rfl ?_
      refine aYa (Γ:=aL) (fun k=>if k=3 then true else if k=8 then true else if k=13 then true else if k=16 then true else false) [(3,8),(3,13),(8,13),(3,16),(8,16)] (fun _=>2) [2,7,8,10,12,13,17,18] mixed (aD _ _) rfl rfl rfl (by kernel_rfl) (fun K hK=>?_)
      simp(maxSteps:=400000) (disch:=omega) only[Try.f5,go_sem,and_self,and_true,true_and,↓reduceIte,J8,J7,J9,bFz,h4,h5,h6,h7,f6,e9,e10,e12,e14,e15,U2]
      refine hK _ ?_
      refine bU (aB ?_)
      have hM6:=(hM5.sic ((syM M k).sure.set k (M.l.getD k [])) (List.length_set ..)).fic ((syM M k).fresh.set k false) (List.length_set ..)
      rw[eAt M k]at hM6
      refine bA [2,7,8,10,12,13,17,18] rfl rfl rfl fun K hK=>?_
      simp(disch:=omega) only[Try.f5,go_sem,↓reduceIte]
      refine hK _ ?_
      refine bT ?_
      refine⟨⟨_,k+1,_⟩,⟨by simp only;omega,hM6,by simp only;omega⟩,by simp only;omega,bD ?_ rfl (U3 _)⟩
      simp only[Int.natCast_add,Int.natCast_one]
     ·skip
      refine aI rfl ?_
      obtain rfl:N=k:=by omega
      refine bF 8 rfl rfl ?_
      refine aY (aZ (bE ?_))
      refine dWa ?_
      have e21:sM M=(0,syM M N):=hwd.trans (congrArg (Prod.mk (0:Int)) (by rw[←hll];exact(eBj M).symm))
      exact⟨⟨g5,syM M N,0,_⟩,⟨hM5,e21,by simp only;omega⟩,eBk [(18,.i N)] (U3 _)⟩
  ·skip
   refine cP rfl ?_
   refine aC (Γ:=bC [(15,.heap dZu)]) [202,2,7,8,10,12,13,17] (aH eAy aO) rfl rfl rfl (fun K hK=>?_)
   simp(disch:=omega) only[Try.f5,go_sem,↓reduceIte,h1,hd,J8,J7,J9]
   refine hK _ ?_
   refine aB ?_
   refine eC (.tmp 202) rfl rfl rfl (fun h=>?_) (fun h=>?_)
   ·skip
    refine aI rfl ?_
    clear h
    refine bA [2,7,8,10,12,13,17] rfl rfl rfl fun K hK=>?_
    simp(disch:=omega) only[Try.f5,go_sem,↓reduceIte]
    refine hK _ ?_
    refine dWa ?_
    refine⟨⟨g,M,82,_⟩,⟨hS.mm,by unfold sM;rw[J4 hd],by simp only;omega⟩,bD rfl rfl (U3 _)⟩
   ·skip
    refine aI rfl ?_
    cases h
 rintro⟨g2,M2,w2,c4⟩ ⟨hM2,hw2,hc4⟩ n0
 simp only at hM2 hw2 hc4⊢
 have hP:=hPR.sync
 rw[hw2]at hP
 simp only at hP
 have hw: ∀nx,dJd [.op d 0] g2 nx=some (.i w2,bO d s m (mL C).2 g2,nx+300+24*C.dirty.length):=fun nx=>by
  rw[dLq,mK hM2.hd,aX]
  simp only
  rw[cU _ (hPR.dl hnz.2.1),hP.1]
 have dw:decide (w2=w2)=true:=J5 rfl
 refine cP rfl ?_
 refine aC (Γ:=bC [(11,.heap dJd)]) [234,2,7,8,10,12,13] (aH dQz aO) rfl rfl rfl (fun K hK=>?_)
 simp(disch:=omega) only[Try.f5,go_sem,↓reduceIte,hw]
 refine hK _ ?_
 refine aB ?_
 refine eC (.tmp 234) rfl rfl rfl (fun h=>?_) (fun h=>?_)
 ·skip
  refine aI rfl ?_
  cases h
 ·skip
  refine aI rfl ?_
  clear h
  refine aQ rfl ?_
  exact hrest _ _ _ _ _ ⟨hM2.dsk _,hP.2,by omega,hnz⟩ (by omega)
set_option maxHeartbeats 4000000 in
theorem eCy {Q:Exit→S→Prop} {N Z:Nat} {g:H} {I:MI} {d s m:Nat} {M:MC} {C:DC} {c0 c nx e len i:Nat} {xs:List AV} {at_ w ix n:Int} {keep:BitVec 64} {x:B8} {inb:Bool}
  (hS:ST N Z g I d s m M C c0) (he:g e=some (.cells [.i w,.i ix,.i n,.w64 keep,.w8 x] true)) (hec:c0≤e∧e<c)
  (hrest: ∀h' M' C' c' nx',ST N Z h' I d s m M' C' c'→c≤c'→Q .normal {fr:=[(2,.sl len xs),(7,.op d 0),(8,.op I.mm 0),(10,.i i),(12,.i at_),(13,.b inb)],hp:=h',nx:=nx',cx:=c'}):
  Awp Try.prog GLh Try.f5.ntmps (cl (cr (cr (cr (cr (cr (cl (cr (cl (cr (cr (cr (cl (cl (cr (cl (cl (cr (cl (cr (cr (cr (cr (cr (cr (cr (cr (aE Try.f5)))))))))))))))))))))))))))) {fr:=[(2,.sl len xs),(7,.op d 0),(8,.op I.mm 0),(10,.i i),(11,.op e 0),(12,.i at_),(13,.b inb)],hp:=g,nx:=nx,cx:=c} Q:=by
 have hnz:=hS.nz
 have hPR:=hS.pr
 have l0:=hS.lt
 have hp7:=dZv n 7 (by decide) (by decide)
 obtain⟨q,hq⟩: ∃q,plc n 7=q:=⟨_,rfl⟩
 rw[hq]at hp7
 have hct: ∀nx,bOg [.op d 0,.i (q-1)] g nx=some (.tup [],bO d s m (dRt C (q-1)) g,nx+50):=fun nx=>by
  rw[cBe,mK hS.mm.hd,aX]
 have hM2:=hS.mm.dsk (dRt C (q-1))
 refine cP rfl ?_
 refine aC (Γ:=bC [(14,.pure true eAe)]) [2,7,8,10,12,13,19] (aH eCe aO) rfl rfl rfl (fun K hK=>?_)
 simp(disch:=omega) only[Try.f5,go_sem,↓reduceIte,he,hq,J8,J7,J9]
 refine hK _ ?_
 refine aB ?_
 refine cP rfl ?_
 refine aC (Γ:=bC [(16,.heap bOg)]) [2,7,8,10,12,13,19] (aH dUo aO) rfl rfl rfl (fun K hK=>?_)
 simp(disch:=omega) only[Try.f5,go_sem,↓reduceIte,hct]
 refine hK _ ?_
 refine aB ?_
 obtain⟨g2,hg2⟩: ∃y,bO d s m (dRt C (q-1)) g=y:=⟨_,rfl⟩
 rw[hg2]at hM2⊢
 have h1:=hM2.hm
 refine bA [2,7,8,10,12,13] rfl rfl rfl fun K hK=>?_
 simp(disch:=omega) only[Try.f5,go_sem,↓reduceIte,h1,bFz,List.set_cons_succ,List.set_cons_zero]
 refine hK _ ?_
 have hM3:=hM2.mmc M.dead true (if q-1<0 then 0 else q-1)
 exact hrest _ _ _ _ _ ⟨hM3,hPR.cutM (q-1) (by omega),by omega,hnz⟩ (by omega)
end Go.AX

namespace Go.AX
open Go Go.Proofs
set_option maxRecDepth 8000
theorem eBf (keep:BitVec 64) (M:MC) (j:Nat) (h:j<M.l.length):(crM keep M j).l.getD j []=M.l.getD j []:=by
 unfold crM
 rw[dZk _ _ _ _ h,J3 (Nat.lt_irrefl j)]
theorem eCj (keep:BitVec 64) (M:MC) (j:Nat) (h:j<M.l.length):(crM keep M j).sure.getD j []=M.sure.getD j []:=by
 unfold crM
 rw[dZk _ _ _ _ h,J3 (Nat.lt_irrefl j)]
theorem eCk (keep:BitVec 64) (M:MC) (j:Nat) (h:j<M.l.length):(crM keep M j).fresh.getD j false=M.fresh.getD j false:=by
 unfold crM
 rw[dZk _ _ _ _ h,J3 (Nat.lt_irrefl j)]
theorem eBe (keep:BitVec 64) (M:MC) (j:Nat):({crM keep M j with l:=(crM keep M j).l.set j (crL keep M j),sure:=(crM keep M j).sure.set j (crL keep M j),fresh:=(crM keep M j).fresh.set j false}:MC)=crM keep M (j+1):=by
 have aux: ∀ {α:Type} (f f2:Nat→α) (k:Nat),(if k<j+1 then f k else f2 k)=if k=j then f j else if k<j then f k else f2 k:=fun f f2 k=>by
  by_cases e:k=j
  ·rw[J4 e,J4 (by omega),e]
  rw[J3 e]
  by_cases h:k<j
  ·rw[J4 h,J4 (by omega)]
  rw[J3 h,J3 (by omega)]
 have e0:(crM keep M j).l.set j (crL keep M j)=(crM keep M (j+1)).l:=dZd _ fun k hk=>aux (crL keep M) (fun k=>M.l.getD k []) k
 have e1:(crM keep M j).sure.set j (crL keep M j)=(crM keep M (j+1)).sure:=dZd _ fun k hk=>aux (crL keep M) (fun k=>M.sure.getD k []) k
 have e2:(crM keep M j).fresh.set j false=(crM keep M (j+1)).fresh:=dZd _ fun k hk=>aux (fun _=>false) (fun k=>M.fresh.getD k false) k
 show(⟨(crM keep M j).l.set j (crL keep M j),(crM keep M j).sure.set j (crL keep M j),(crM keep M j).fresh.set j false,(crM keep M j).dead,(crM keep M j).armed,(crM keep M j).n⟩:MC)=_
 rw[e0,e1,e2]
 rfl
theorem eAv {α:Type} (l:List α) (i:Nat) (d:α) (h:i<l.length):l.set i (l.getD i d)=l:=by
 apply List.ext_getElem
 ·simp
 intro k h1 h2
 rw[List.getElem_set]
 split
 ·rename_i e;subst e
  rw[List.getD_eq_getElem?_getD,List.getElem?_eq_getElem h];rfl
 rfl
def rk (M:MC) (j:Nat):Nat:=dZb (fun k=>M.fresh.getD k false) j
theorem rk_t {M:MC} {j:Nat} (h:M.fresh.getD j false=true):rk M (j+1)=rk M j+1:=by
 unfold rk;rw[dZb,J4 h]
theorem rk_f {M:MC} {j:Nat} (h:M.fresh.getD j false=false):rk M (j+1)=rk M j:=by
 unfold rk;rw[dZb,J3 (by rw[h];decide),Nat.add_zero]
theorem eCu (M:MC) (j:Nat):rk M j≤j:=dZt _ _
theorem and1 (x:BitVec 64):x&&&1#64=0#64∨x&&&1#64=1#64:=by
 rw[BitVec.and_one_eq_setWidth_ofBool_getLsbD]
 cases x.getLsbD 0
 ·exact .inl rfl
 exact .inr rfl
structure ACK where
 h:H
 j:Nat
 c:Nat
structure ACJ where
 h:H
 c:Nat
set_option maxHeartbeats 8000000 in
theorem eCz {Q:Exit→S→Prop} {N Z:Nat} {g:H} {I:MI} {d s m:Nat} {M:MC} {C:DC} {c0 c nx e len i:Nat} {xs:List AV} {at_ w ix n:Int} {keep:BitVec 64} {x:B8} {inb:Bool}
  (hS:ST N Z g I d s m M C c0) (he:g e=some (.cells [.i w,.i ix,.i n,.w64 keep,.w8 x] true)) (hec:c0≤e∧e<c)
  (hrest: ∀h' M' C' c' nx',ST N Z h' I d s m M' C' c'→c≤c'→Q .normal {fr:=[(2,.sl len xs),(7,.op d 0),(8,.op I.mm 0),(10,.i i),(12,.i at_),(13,.b inb)],hp:=h',nx:=nx',cx:=c'}):
  Awp Try.prog GLh Try.f5.ntmps (cl (cr (cr (cr (cr (cr (cr (cr (cl (cr (cl (cr (cr (cr (cl (cl (cr (cl (cl (cr (cl (cr (cr (cr (cr (cr (cr (cr (cr (aE Try.f5)))))))))))))))))))))))))))))) {fr:=[(2,.sl len xs),(7,.op d 0),(8,.op I.mm 0),(10,.i i),(11,.op e 0),(12,.i at_),(13,.b inb)],hp:=g,nx:=nx,cx:=c} Q:=by
 have hnz:=hS.nz
 have hPR:=hS.pr
 have l0:=hS.lt
 have hll:=hPR.ll
 have hcr: ∀nx,dSr [.op d 0,.w64 keep] g nx=some (.tup [],bO d s m (dRv keep C) g,nx+300+24*C.dirty.length):=fun nx=>by
  rw[dTa,mK hS.mm.hd,aX]
  exact cU _ (hPR.dl hnz.2.1)
 have hM2:=hS.mm.dsk (dRv keep C)
 have he2:bO d s m (dRv keep C) g e=some (.cells [.i w,.i ix,.i n,.w64 keep,.w8 x] true):=by
  rw[mH _ _ _ _ _ _ (by omega) (by omega) (by omega)];exact he
 refine cP rfl ?_
 refine aC (Γ:=bC [(12,.heap dSr)]) [2,7,8,10,11,12,13] (aH dUp aO) rfl rfl rfl (fun K hK=>?_)
 simp(disch:=omega) only[Try.f5,go_sem,↓reduceIte,he,hcr,J8,J7,J9]
 refine hK _ ?_
 refine aB ?_
 obtain⟨g2,hg2⟩: ∃y,bO d s m (dRv keep C) g=y:=⟨_,rfl⟩
 rw[hg2]at hM2 he2⊢
 clear hg2
 rw[←eDh keep M (by rw[hPR.sure,hPR.rel.len,hll]) (by rw[hPR.fl,hll])]at hM2
 refine cP rfl ?_
 refine bA [2,7,8,10,11,12,13,20] rfl rfl rfl fun K hK=>?_
 simp(disch:=omega) only[Try.f5,go_sem,↓reduceIte]
 refine hK _ ?_
 refine aB ?_
 refine cP rfl ?_
 refine cP rfl ?_
 refine bA [2,7,8,10,11,12,13,20,21] rfl rfl rfl fun K hK=>?_
 simp(disch:=omega) only[Try.f5,go_sem,↓reduceIte]
 refine hK _ ?_
 refine aB ?_
 refine aR 10 rfl rfl ?_
 refine bR (fun p:ACK=> {fr:=[(2,.sl len xs),(7,.op d 0),(8,.op I.mm 0),(10,.i i),(11,.op e 0),(12,.i at_),(13,.b inb),(20,.i (rk M p.j)),(21,.i p.j)],hp:=p.h,nx:=0,cx:=p.c}) (fun p=>p.j≤N∧MM p.h I d s m (crM keep M p.j) (dRv keep C)∧p.h e=some (.cells [.i w,.i ix,.i n,.w64 keep,.w8 x] true)∧c≤p.c) (fun p=>N-p.j) rfl ⟨⟨g2,0,_⟩,⟨Nat.zero_le _,hM2,he2,by simp only;omega⟩,bD rfl rfl (U3 _)⟩ ?_
 rintro⟨g5,j,c5⟩ ⟨hj,hM5,he5,hc5⟩ n0
 simp only at hj hM5 he5 hc5⊢
 have hrk:=eCu M j
 have h4:=hM5.hm
 have h5:=hM5.hl
 have h6:=hM5.hf
 have h7:=hM5.hs
 have e7:(crM keep M j).l.length=N:=(eDf keep M j).trans hll
 have e8:(crM keep M j).fresh.length=N:=(eDg keep M j).trans hll
 have e13:(crM keep M j).sure.length=N:=(eDe keep M j).trans hll
 rw[e7,e8,e13]at h4
 refine cP rfl ?_
 refine cP rfl ?_
 refine bA [264,2,7,8,10,11,12,13,20,21] rfl rfl rfl fun K hK=>?_
 simp(disch:=omega) only[Try.f5,go_sem,↓reduceIte,h4,J8,J9]
 refine hK _ ?_
 refine aB ?_
 refine gP (.tmp 264) rfl rfl rfl (fun h=>?_) (fun h=>?_)
 ·skip
  refine aI rfl ?_
  have hjN:j<N:=by omega
  clear h
  have e1:(I.mm=I.li)=False:=eq_false hM5.n1.1
  have e2:(I.mm=I.fi)=False:=eq_false hM5.n1.2.2.1
  have e3:(I.li=I.fi)=False:=eq_false hM5.n2.2.1
  have e4:(I.li=I.mm)=False:=eq_false (Ne.symm hM5.n1.1)
  have e5:(I.fi=I.mm)=False:=eq_false (Ne.symm hM5.n1.2.2.1)
  have e6:(I.fi=I.li)=False:=eq_false (Ne.symm hM5.n2.2.1)
  have f1:(I.mm=I.si)=False:=eq_false hM5.n1.2.1
  have f2:(I.si=I.mm)=False:=eq_false (Ne.symm hM5.n1.2.1)
  have f3:(I.li=I.si)=False:=eq_false hM5.n2.1
  have f4:(I.si=I.li)=False:=eq_false (Ne.symm hM5.n2.1)
  have f5:(I.si=I.fi)=False:=eq_false hM5.n3.1
  have f6:(I.fi=I.si)=False:=eq_false (Ne.symm hM5.n3.1)
  have e11:((crM keep M j).l.map zP).length=N:=by rw[List.length_map];exact e7
  have e12:((crM keep M j).fresh.map rD).length=N:=by rw[List.length_map];exact e8
  have e14:((crM keep M j).sure.map zP).length=N:=by rw[List.length_map];exact e13
  have e15:=dZe (crM keep M j).l j (by omega)
  have e16:=dZe (crM keep M j).sure j (by omega)
  have e17:=eAq (crM keep M j).fresh j (by omega)
  rw[eBf keep M j (by omega)]at e15
  rw[eCj keep M j (by omega)]at e16
  rw[eCk keep M j (by omega)]at e17
  have e18:crL keep M j=if M.fresh.getD j false=true∧dGb keep (rk M j)=true then M.l.getD j []else if M.fresh.getD j false=true then M.sure.getD j []else M.l.getD j []:=rfl
  refine aQ rfl ?_
  refine aB ?_
  refine cP rfl ?_
  refine aR 11 rfl rfl ?_
  refine cP rfl ?_
  refine dWd (fun p:ACJ=> {fr:=[(2,.sl len xs),(7,.op d 0),(8,.op I.mm 0),(10,.i i),(11,.op e 0),(12,.i at_),(13,.b inb),(20,.i (rk M (j+1))),(21,.i j)],hp:=p.h,nx:=0,cx:=p.c}) (fun p=>MM p.h I d s m {crM keep M j with l:=(crM keep M j).l.set j (crL keep M j)} (dRv keep C)∧p.h e=some (.cells [.i w,.i ix,.i n,.w64 keep,.w8 x] true)∧c≤p.c) ?_ ?_
  ·skip
   have esm:((crM keep M j).l.set j (M.l.getD j []))=(crM keep M j).l:=by rw[←eBf keep M j (by omega)];exact eAv _ _ _ (by omega)
   cases hf:M.fresh.getD j false
   ·skip
    have hcl:crL keep M j=M.l.getD j []:=by rw[e18,hf,J3 (by simp),J3 (by decide)]
    refine cP rfl ?_
    refine bA [273,2,7,8,10,11,12,13,20,21] rfl rfl rfl fun K hK=>?_
    simp(disch:=omega) only[Try.f5,go_sem,↓reduceIte,h4,h6,e17,hf,J8,J7,J9]
    refine hK _ ?_
    refine aB ?_
    refine eC (.tmp 273) rfl rfl rfl (fun h=>?_) (fun h=>?_)
    ·skip
     refine aI rfl ?_
     cases h
    ·skip
     refine aI rfl ?_
     clear h
     refine aQ rfl ?_
     refine dWa ?_
     refine⟨⟨g5,_⟩,⟨?_,he5,by simp only;omega⟩,bD ?_ rfl (U3 _)⟩
     ·simp only[hcl,esm]
      exact hM5
     ·simp only[rk_f hf]
   ·skip
    rw[hf]at e17
    have ekk:((rk M j:Nat):Int).tmod 64=((rk M j%64:Nat):Int):=rfl
    refine cP rfl ?_
    refine bA [273,2,7,8,10,11,12,13,20,21] rfl rfl rfl fun K hK=>?_
    simp(disch:=omega) only[Try.f5,go_sem,↓reduceIte,h4,h6,e17,J8,J7,J9]
    refine hK _ ?_
    refine aB ?_
    refine eC (.tmp 273) rfl rfl rfl (fun h=>?_) (fun h=>?_)
    ·skip
     refine aI rfl ?_
     clear h
     refine cP rfl ?_
     refine dWd (fun p:ACJ=> {fr:=[(2,.sl len xs),(7,.op d 0),(8,.op I.mm 0),(10,.i i),(11,.op e 0),(12,.i at_),(13,.b inb),(20,.i (rk M j)),(21,.i j)],hp:=p.h,nx:=0,cx:=p.c}) (fun p=>MM p.h I d s m {crM keep M j with l:=(crM keep M j).l.set j (crL keep M j)} (dRv keep C)∧p.h e=some (.cells [.i w,.i ix,.i n,.w64 keep,.w8 x] true)∧c≤p.c) ?_ ?_
     ·skip
      refine cP rfl ?_
      refine bA [280,2,7,8,10,11,12,13,20,21] rfl rfl rfl fun K hK=>?_
      simp(disch:=omega) only[Try.f5,go_sem,↓reduceIte,he5,ekk,J8,J7,J9]
      refine hK _ ?_
      refine aB ?_
      refine gP (.tmp 280) rfl rfl rfl (fun h=>?_) (fun h=>?_)
      ·skip
       refine aI rfl ?_
       have hbk:dGb keep (rk M j)=false:=by unfold dGb;rw[h];rfl
       have hcl:crL keep M j=M.sure.getD j []:=by rw[e18,hf,hbk,J3 (by simp),J4 rfl]
       clear h
       have e9:=dZm (crM keep M j).l j (M.sure.getD j [])
       refine aYa (Γ:=aL) (fun k=>if k=3 then true else if k=8 then true else if k=11 then true else false) [(3,8),(3,11)] (fun _=>2) [2,7,8,10,11,12,13,20,21] mixed (aD _ _) rfl rfl rfl (by kernel_rfl) (fun K hK=>?_)
       simp(maxSteps:=400000) (disch:=omega) only[Try.f5,go_sem,and_self,and_true,true_and,↓reduceIte,J8,J7,J9,bFz,h4,h5,h7,e9,e11,e16,U2]
       refine hK _ ?_
       refine dWa ?_
       have hM7:=hM5.lic ((crM keep M j).l.set j (M.sure.getD j [])) (List.length_set ..)
       rw[←hcl]at hM7⊢
       have he7:(Go.AX.upd g5 I.li (.cells (((crM keep M j).l.set j (crL keep M j)).map zP) true)) e=some (.cells [.i w,.i ix,.i n,.w64 keep,.w8 x] true):=by rw[bJ,J3 (by omega)];exact he5
       exact⟨⟨_,_⟩,⟨hM7,he7,by simp only;omega⟩,bD rfl rfl (U3 _)⟩
      ·skip
       refine aI rfl ?_
       have hbk:dGb keep (rk M j)=true:=by unfold dGb;exact J5 ((and1 _).resolve_left h)
       have hcl:crL keep M j=M.l.getD j []:=by rw[e18,hf,hbk,J4 ⟨rfl,rfl⟩]
       clear h
       refine aQ rfl ?_
       refine dWa ?_
       refine⟨⟨g5,_⟩,⟨?_,he5,by simp only;omega⟩,bD rfl rfl (U3 _)⟩
       simp only[hcl,esm]
       exact hM5
     rintro⟨g6,c6⟩ ⟨hM6,he6,hc6⟩ n0
     simp only at hM6 he6 hc6⊢
     refine bA [2,7,8,10,11,12,13,20,21] rfl rfl rfl fun K hK=>?_
     simp(disch:=omega) only[Try.f5,go_sem,↓reduceIte]
     refine hK _ ?_
     refine dWa ?_
     refine⟨⟨g6,_⟩,⟨hM6,he6,by simp only;omega⟩,bD ?_ rfl (U3 _)⟩
     simp only[rk_t hf,Int.natCast_add,Int.natCast_one]
    ·skip
     refine aI rfl ?_
     cases h
  rintro⟨g6,c6⟩ ⟨hM6,he6,hc6⟩ n0
  simp only at hM6 he6 hc6⊢
  have h4:=hM6.hm
  have h5:=hM6.hl
  have h6:=hM6.hf
  have h7:=hM6.hs
  simp only[List.length_set]at h4 h5 h6 h7
  rw[e7,e8,e13]at h4
  have e11:(((crM keep M j).l.set j (crL keep M j)).map zP).length=N:=by rw[List.length_map,List.length_set];exact e7
  have e15:=dZe ((crM keep M j).l.set j (crL keep M j)) j (by rw[List.length_set];omega)
  rw[dZo _ _ _ _ _ (by omega),J4 rfl]at e15
  have e9:=dZm (crM keep M j).sure j (crL keep M j)
  have e10:=dZq (crM keep M j).fresh j false
  refine aYa (Γ:=aL) (fun k=>if k=3 then true else if k=8 then true else if k=13 then true else if k=16 then true else false) [(3,8),(3,13),(8,13),(3,16),(8,16)] (fun _=>2) [2,7,8,10,11,12,13,20,21] mixed (aD _ _) rfl rfl rfl (by kernel_rfl) (fun K hK=>?_)
  simp(maxSteps:=400000) (disch:=omega) only[Try.f5,go_sem,and_self,and_true,true_and,↓reduceIte,J8,J7,J9,bFz,h4,h5,h6,h7,f6,e9,e10,e12,e14,e15,U2]
  refine hK _ ?_
  refine bU (aB ?_)
  have hM7:=(hM6.sic ((crM keep M j).sure.set j (crL keep M j)) (List.length_set ..)).fic ((crM keep M j).fresh.set j false) (List.length_set ..)
  have hM8:MM (Go.AX.upd (Go.AX.upd g6 I.si (.cells (((crM keep M j).sure.set j (crL keep M j)).map zP) true)) I.fi (.cells (((crM keep M j).fresh.set j false).map rD) true)) I d s m (crM keep M (j+1)) (dRv keep C):=by
   rw[←eBe];exact hM7
  have he8:(Go.AX.upd (Go.AX.upd g6 I.si (.cells (((crM keep M j).sure.set j (crL keep M j)).map zP) true)) I.fi (.cells (((crM keep M j).fresh.set j false).map rD) true)) e=some (.cells [.i w,.i ix,.i n,.w64 keep,.w8 x] true):=by
   rw[bJ,J3 (by omega),bJ,J3 (by omega)];exact he6
  refine bA [2,7,8,10,11,12,13,20,21] rfl rfl rfl fun K hK=>?_
  simp(disch:=omega) only[Try.f5,go_sem,↓reduceIte]
  refine hK _ ?_
  refine bT ?_
  refine⟨⟨_,j+1,_⟩,⟨by simp only;omega,hM8,he8,by simp only;omega⟩,by simp only;omega,bD ?_ rfl (U3 _)⟩
  simp only[Int.natCast_add,Int.natCast_one]
 ·skip
  refine aI rfl ?_
  obtain rfl:N=j:=by omega
  refine bF 10 rfl rfl ?_
  refine aY (aZ (bE ?_))
  refine aB ?_
  refine bA [2,7,8,10,12,13] rfl rfl rfl fun K hK=>?_
  simp(disch:=omega) only[Try.f5,go_sem,↓reduceIte,h4,bFz,List.set_cons_succ,List.set_cons_zero]
  refine hK _ ?_
  have hM9:=hM5.mmc false false (crM keep M N).n
  rw[e7,e8,e13]at hM9
  exact hrest _ _ _ _ _ ⟨hM9,hPR.crash keep,by omega,hnz⟩ (by omega)
end Go.AX

namespace Go.AX
open Go Go.Proofs
set_option maxRecDepth 8000
theorem MM.move {h:H} {I:MI} {d s m d' s' m' c0:Nat} {M:MC} {C C':DC} (q:MM h I d s m M C) (hl:I.mm<c0∧I.li<c0∧I.si<c0∧I.fi<c0) (hd:aZo h d' s' m' C') (h2:c0≤d'∧c0≤s'∧c0≤m'):MM h I d' s' m' M C':=by
 obtain⟨a1,a2,a3,_⟩:=q.n1
 obtain⟨b1,b2,_⟩:=q.n2
 obtain⟨c1,_⟩:=q.n3
 exact⟨q.hm,q.hl,q.hs,q.hf,hd,⟨a1,a2,a3,by omega,by omega,by omega⟩,⟨b1,b2,by omega,by omega,by omega⟩,⟨c1,by omega,by omega,by omega⟩,by omega,by omega,by omega⟩
theorem aZo.setDq {h:H} {d s m d' s' m':Nat} {C C':DC} (q:aZo h d' s' m' C') (h1:d'≠d∧d'≠s∧d'≠m) (h2:s'≠d∧s'≠s∧s'≠m) (h3:m'≠d∧m'≠s∧m'≠m):aZo (bO d s m C h) d' s' m' C':=
 q.sub ⟨mH _ _ _ _ _ _ h1.1 h1.2.1 h1.2.2,mH _ _ _ _ _ _ h2.1 h2.2.1 h2.2.2,mH _ _ _ _ _ _ h3.1 h3.2.1 h3.2.2⟩
set_option maxHeartbeats 8000000 in
theorem eDa {Q:Exit→S→Prop} {N Z:Nat} {g:H} {I:MI} {d s m:Nat} {M:MC} {C:DC} {c0 c nx len i:Nat} {xs:List AV} {at_:Int} {inb:Bool}
  (hS:ST N Z g I d s m M C c0) (hc:c0≤c)
  (hrest: ∀h' d' s' m' M' C' c' nx',ST N Z h' I d' s' m' M' C' c'→c≤c'→Q .normal {fr:=[(2,.sl len xs),(7,.op d' 0),(8,.op I.mm 0),(10,.i i),(12,.i at_),(13,.b inb)],hp:=h',nx:=nx',cx:=c'}):
  Awp Try.prog GLh Try.f5.ntmps (cl (cr (cr (cr (cr (cr (cr (cr (cr (cr (cl (cr (cl (cr (cr (cr (cl (cl (cr (cl (cl (cr (cl (cr (cr (cr (cr (cr (cr (cr (cr (aE Try.f5)))))))))))))))))))))))))))))))) {fr:=[(2,.sl len xs),(7,.op d 0),(8,.op I.mm 0),(10,.i i),(12,.i at_),(13,.b inb)],hp:=g,nx:=nx,cx:=c} Q:=by
 have hnz:=hS.nz
 have hPR:=hS.pr
 have l0:=hS.lt
 have hrl:=hPR.rel.len
 have hsz:=eAd hPR hnz.1
 have hcp: ∀nx,eAr [.op d 0] g nx=some (.op (nx+4) 0,bO (nx+4) (nx+18) (nx+40) {C with g:=true} g,nx+100):=fun nx=>by
  rw[eAj,mK hS.mm.hd,aX]
  exact cU _ (by simp only;omega)
 refine cP rfl ?_
 refine aC (Γ:=bC [(17,.heap eAr)]) [2,7,8,10,12,13,22] (aH ok17 aO) rfl rfl rfl (fun K hK=>?_)
 simp(disch:=omega) only[Try.f5,go_sem,↓reduceIte,hcp]
 refine hK _ ?_
 refine aB ?_
 obtain⟨d',hd'⟩: ∃y,c+3+4=y:=⟨_,rfl⟩
 obtain⟨s',hs'⟩: ∃y,c+3+18=y:=⟨_,rfl⟩
 obtain⟨m',hm'⟩: ∃y,c+3+40=y:=⟨_,rfl⟩
 rw[hd',hs',hm']
 have hM1:MM (bO d' s' m' {C with g:=true} g) I d s m M C:=by
  have e1: ∀q,q<c0→bO d' s' m' {C with g:=true} g q=g q:=fun q hq=>mH _ _ _ _ _ _ (by omega) (by omega) (by omega)
  have q:=hS.mm
  exact⟨by rw[e1 _ (by omega)];exact q.hm,by rw[e1 _ (by omega)];exact q.hl,by rw[e1 _ (by omega)];exact q.hs,by rw[e1 _ (by omega)];exact q.hf,q.hd.sub ⟨e1 _ (by omega),e1 _ (by omega),e1 _ (by omega)⟩,q.n1,q.n2,q.n3,q.n4⟩
 have hD1:aZo (bO d' s' m' {C with g:=true} g) d' s' m' {C with g:=true}:=dEp (by omega) (by omega) (by omega)
 obtain⟨g1,hg1⟩: ∃y,bO d' s' m' {C with g:=true} g=y:=⟨_,rfl⟩
 rw[hg1]at hM1 hD1⊢
 clear hg1
 refine cP rfl ?_
 refine cP rfl ?_
 refine bA [326,2,7,8,10,12,13,22] rfl rfl rfl fun K hK=>?_
 simp(disch:=omega) only[Try.f5,go_sem,↓reduceIte,eDb]
 refine hK _ ?_
 refine aB ?_
 refine eC (.tmp 326) rfl rfl rfl (fun h=>?_) (fun h=>?_)
 ·skip
  refine aI rfl ?_
  cases h
 ·skip
  refine aI rfl ?_
  clear h
  refine aQ rfl ?_
  refine aB ?_
  refine cP rfl ?_
  have hdk:=mK hM1.hd
  obtain⟨b,hb⟩: ∃y,c+3+100+2+3=y:=⟨_,rfl⟩
  have hM2:=hM1.upd b (.cells (c8 (List.replicate Z 0#8)) true) (by omega) (by omega)
  have hD2:=hD1.updq b (.cells (c8 (List.replicate Z 0#8)) true) (by omega) (by omega) (by omega)
  have hb2:(Go.AX.upd g1 b (.cells (c8 (List.replicate Z 0#8)) true)) b=some (.cells (c8 (List.replicate Z 0#8)) true):=by rw[bJ,J4 rfl]
  obtain⟨g2,hg2⟩: ∃y,(Go.AX.upd g1 b (.cells (c8 (List.replicate Z 0#8)) true))=y:=⟨_,rfl⟩
  have hP:=hPR.write 0 (List.replicate Z 0#8)
  have hw: ∀nx,wrG [.op d 0,.i 0,.os b 0 Z 1 true] g2 nx=some (.i (wrV C 0 (List.replicate Z 0#8) Z).1,bO d s m (wrV C 0 (List.replicate Z 0#8) Z).2 g2,nx+400):=fun nx=>by
   rw[hg2]at hM2 hb2
   rw[dNi,mK hM2.hd,aX,dPw,cU _ rfl,hb2,aX,dPv,iA,aX,cU _ (by rw[List.length_replicate];omega),aX]
   simp only
   rw[hsz,aX,cU _ (by omega),J9,List.take_of_length_le (by rw[List.length_replicate];exact U3 _)]
  rw[hg2]at hM2 hD2
  refine aC (Γ:=bC [(9,.heap dGx),(10,.heap wrG)]) [2,7,8,10,12,13,22] (aH ok9 (aH dRa aO)) rfl rfl rfl (fun K hK=>?_)
  simp(disch:=omega) only[Try.f5,go_sem,↓reduceIte,hdk,hsz,U2,dKc,hb,hg2,hw]
  refine hK _ ?_
  refine aB ?_
  have hM3:=hM2.dsk (wrV C 0 (List.replicate Z 0#8) Z).2
  have hD3:aZo (bO d s m (wrV C 0 (List.replicate Z 0#8) Z).2 g2) d' s' m' {C with g:=true}:=hD2.setDq (by omega) (by omega) (by omega)
  obtain⟨g3,hg3⟩: ∃y,bO d s m (wrV C 0 (List.replicate Z 0#8) Z).2 g2=y:=⟨_,rfl⟩
  rw[hg3]at hM3 hD3⊢
  obtain⟨C2,hC2⟩: ∃y,(wrV C 0 (List.replicate Z 0#8) Z).2=y:=⟨_,rfl⟩
  rw[hC2]at hM3 hP
  have hcr: ∀nx,dSr [.op d 0,.w64 0#64] g3 nx=some (.tup [],bO d s m (dRv 0#64 C2) g3,nx+300+24*C2.dirty.length):=fun nx=>by
   rw[dTa,mK hM3.hd,aX]
   exact cU _ (hP.2.dl hnz.2.1)
  refine cP rfl ?_
  refine aC (Γ:=bC [(12,.heap dSr)]) [2,8,10,12,13,22] (aH dUp aO) rfl rfl rfl (fun K hK=>?_)
  simp(disch:=omega) only[Try.f5,go_sem,↓reduceIte,hcr]
  refine hK _ ?_
  refine aB ?_
  have hM4:=hM3.dsk (dRv 0#64 C2)
  have hD4:aZo (bO d s m (dRv 0#64 C2) g3) d' s' m' {C with g:=true}:=hD3.setDq (by omega) (by omega) (by omega)
  refine bA [2,7,8,10,12,13] rfl rfl rfl fun K hK=>?_
  simp(disch:=omega) only[Try.f5,go_sem,↓reduceIte]
  refine hK _ ?_
  exact hrest _ _ _ _ _ _ _ _ ⟨hM4.move (c0:=c0) (by omega) hD4 (by omega),hPR.g true,by omega,hnz⟩ (by omega)
end Go.AX
