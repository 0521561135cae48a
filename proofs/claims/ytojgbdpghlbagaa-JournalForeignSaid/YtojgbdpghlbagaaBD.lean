/-
  Journal, part I: the head written, and all made sure. Journal, part J: good disks. Journal, part K: a side's bytes written, then its head. Journal, part L: a side's bytes written, from a place on. AX, part AyR: functions that defer one closure, on memory that is there; none panics. Journal, part M: a head taken; records taken. Journal, more, part Z: a copy of bytes, of none too. Journal, part N: records taken. Journal, part O: what reads, and what may give up caught. Journal, part P: what may give up, caught. Journal, part Q: what may give up, caught. Journal, part R: a journal begun. Journal, part S: a nil slice in an own object is an empty one. Journal, part T: a journal opened. Journal, part U: records added. Journal, part V: bytes and rows of bytes held against one another. Journal, part W: the plain law: a side written where there is power. Journal, part X: rows of rows, frozen ahead of a call. Journal, part Y: the plain law: a head read again; records read again. Journal, part Z: what the statements of layer 12 ask ahead of all. Journal, more, part A: what the statements of layer 12 ask ahead of all: the walk. Journal, more, part B: any bytes' CRC is the document's. Journal, more, part C: records laid in the place of all. Journal, more, part D: the plain law: what a settling does to a good disk. Journal, more, part E: the plain law: a good journal is opened. Journal, more, part F: the plain law: a side is written, whatever power there is. Journal, more, part G: the plain law: writing, sector by sector, and the head. Journal, more, part H: the plain law: what a write leaves: the new journal; or, without power, what any crash turns into the old one or the new one. Journal, more, part I: the records that the statements commit. Journal, more, part J: the plain law: a new journal; records added, or laid in the place of all; opened anew. Journal, more, part K: a crash while a journal is opened behind a crash: the walk. Journal, more, part L: resets make room again: the walk. Journal, more, part M: scripts of acts; how aG they are; sizes of records; room. Journal, more, part N: whatever is committed is there: the walk. Journal, more, part O: branches that come together again; a write with any power; arguments. Journal, more, part Q: what gives up: heads and records that are none. Journal, more, part R: records that are none give up; what gives up, caught. Journal, more, part S: what gives up, caught.
-/
import Derived.Test.YtojgbdpghlbagaaBC
import Derived.Shelf.Abstract
import Derived.WalkKit
import Derived.Lib.Walk
import Derived.Lib.SliceRun
import Derived.Deep.LoopGhost
import Derived.Maps.AppendAt
import Derived.Tactics
import Derived.Tactics2
namespace Go.AX
open Go Go.Proofs
set_option maxRecDepth 8000
def dGi (t:JT) (side:Int) (b:List B8) (z:Nat):Int×JT:=
 if(wrV t.C 0 (hdV z side b.length t.J.com) z).1≠0 then((wrV t.C 0 (hdV z side b.length t.J.com) z).1,{t with C:=(wrV t.C 0 (hdV z side b.length t.J.com) z).2})
 else if(mL (wrV t.C 0 (hdV z side b.length t.J.com) z).2).1≠0 then((mL (wrV t.C 0 (hdV z side b.length t.J.com) z).2).1,{t with C:=(mL (wrV t.C 0 (hdV z side b.length t.J.com) z).2).2})
 else(0,⟨⟨t.J.d,side,b,t.J.com+1#64⟩,t.s,t.m,(mL (wrV t.C 0 (hdV z side b.length t.J.com) z).2).2⟩)
theorem dJv {hp:H} {j:Nat} {o:AO} (h:hp j=some o):upd hp j o=hp:=by
 funext k
 rw[bJ]
 split
 ·rename_i e;rw[e,h]
 rfl
theorem dEi {hp:H} {j:Nat} {t:JT} (h:mE hp j t) (C:DC):cS j {t with C:=C} hp=bO t.J.d t.s t.m C hp:=by
 unfold cS
 rw[dJv h.hj]
set_option maxHeartbeats 4000000 in
theorem dOs {j d s m z nx o id nf:Nat} {sd side:Int} {b bb:List B8} {co:W64} {C0 C:DC} {hp:H} (hh: ∀k o',hp k=some o'→k<id) (hJ:mE hp j ⟨⟨d,sd,bb,co⟩,s,m,C0⟩) (hz:64≤z) (hz2:z≤4096)
  (hsz:uK C.rows=some (z:Int)) (hok:DOk (wrV C 0 (hdV z side b.length co) z).2=true) (hrl:(wrV C 0 (hdV z side b.length co) z).2.rows.length≤4096) (hdl:(wrV C 0 (hdV z side b.length co) z).2.dirty.length≤4096) (_:id<o) (hnf:o+200000≤nf):
  Awp Try.prog GLh Try.f42.ntmps (cr (cr (cr (cr (cr (cr (cr (cr (cr (cr (aE Try.f42))))))))))) {fr:=[(0,.op j 0),(1,.i side),(2,.sl b.length (c8 b)),(14,.os id 0 z 1 true)],hp:=bO d s m C (upd hp id (.cells (c8 (hdV z side b.length co)) true)),nx:=nx,cx:=o}
   (bMy Try.prog Try.f42.results.toList (.i (dGi ⟨⟨d,sd,bb,co⟩,s,m,C⟩ side b z).1) (cS j (dGi ⟨⟨d,sd,bb,co⟩,s,m,C⟩ side b z).2 hp) nf):=by
 have h1:=hJ.hj
 have hD:=hJ.hd
 have hne:=hJ.ne
 simp only at h1 hD hne
 obtain⟨n1,n2,n3,n4,n5,n6⟩:=hD.ne
 obtain⟨e1,e2,e3⟩:=hne
 have hjl:=hh _ _ h1
 have hdl1:=hh _ _ hD.hd
 have hsl:=hh _ _ hD.hs
 have hml:=hh _ _ hD.hm
 have l5:=dEm hz side b.length co
 unfold dGi
 simp only
 obtain⟨h,hhd⟩: ∃x,hdV z side b.length co=x:=⟨_,rfl⟩
 rw[hhd]at l5 hok hrl hdl⊢
 have lt:h.take z=h:=List.take_of_length_le (by omega)
 obtain⟨W,hW⟩: ∃x,wrV C 0 h z=x:=⟨_,rfl⟩
 rw[hW]at hok hrl hdl⊢
 obtain⟨w1,C1⟩:=W
 simp only at hok hrl hdl⊢
 refine aA rfl ?_
 refine aA rfl ?_
 refine aC (Γ:=bC [(17,.heap wrG)]) [0,1,2,15] (aH dRa aO) rfl rfl rfl (fun K hK=>?_)
 simp(disch:=omega) only[Try.f42,go_sem,↓reduceIte,h1,hsz,l5,lt,hW]
 refine hK _ ?_
 refine aB ?_
 by_cases hw0:w1=0
 ·skip
  subst hw0
  rw[J3 (by simp)]
  obtain⟨Y,hY⟩: ∃x,mL C1=x:=⟨_,rfl⟩
  rw[hY]
  obtain⟨y1,C2⟩:=Y
  simp only
  refine aA rfl ?_
  refine bA [103,0,1,2,15] rfl rfl rfl fun K hK=>?_
  simp(disch:=omega) only[Try.f42,go_sem,↓reduceIte]
  refine hK _ ?_
  refine aB ?_
  refine eC (.tmp 103) rfl rfl rfl (fun h=>?_) (fun h=>?_)
  ·skip
   refine aI rfl ?_
   cases h
  ·skip
   refine aI rfl ?_
   clear h
   refine aQ rfl ?_
   refine aB ?_
   refine aA rfl ?_
   refine aA rfl ?_
   refine aC (Γ:=bC [(18,.heap dJd)]) [0,1,2,16] (aH dQz aO) rfl rfl rfl (fun K hK=>?_)
   simp(disch:=omega) only[Try.f42,go_sem,↓reduceIte,h1,hok,hrl,hdl,hY,and_self]
   refine hK _ ?_
   refine aB ?_
   by_cases hy0:y1=0
   ·skip
    subst hy0
    rw[J3 (by simp)]
    refine aA rfl ?_
    refine bA [111,0,1,2,16] rfl rfl rfl fun K hK=>?_
    simp(disch:=omega) only[Try.f42,go_sem,↓reduceIte]
    refine hK _ ?_
    refine aB ?_
    refine eC (.tmp 111) rfl rfl rfl (fun h=>?_) (fun h=>?_)
    ·skip
     refine aI rfl ?_
     cases h
    ·skip
     refine aI rfl ?_
     clear h
     refine aQ rfl ?_
     refine aB ?_
     refine aA rfl ?_
     refine bA [] rfl rfl rfl fun K hK=>?_
     simp(disch:=omega) only[Try.f42,go_sem,↓reduceIte,h1,List.set_cons_zero,List.set_cons_succ]
     refine hK _ ?_
     refine aB ?_
     refine aA rfl ?_
     refine bA [8] rfl rfl rfl fun K hK=>?_
     simp(disch:=omega) only[Try.f42,go_sem,↓reduceIte]
     refine hK _ ?_
     refine aB ?_
     refine aS rfl ?_
     refine⟨rfl,fun q oo hq=>eL (fun a ao ha=>?_) q oo hq,by simp only;omega⟩
     simp only[bJ]at ha
     simp only[bJ]
     by_cases e:a=j
     ·rw[J4 e]at ha⊢;exact ha
     ·rw[J3 e]at ha⊢
      have:=hh a ao ha
      rw[J3 (by omega)];exact ha
   ·skip
    rw[J4 hy0]
    have dy:decide (y1=0)=false:=J6 hy0
    refine aA rfl ?_
    refine bA [111,0,1,2,16] rfl rfl rfl fun K hK=>?_
    simp(disch:=omega) only[Try.f42,go_sem,↓reduceIte,dy,Bool.not_false]
    refine hK _ ?_
    refine aB ?_
    refine eC (.tmp 111) rfl rfl rfl (fun h=>?_) (fun h=>?_)
    ·skip
     refine aI rfl ?_
     refine aA rfl ?_
     refine bA [8] rfl rfl rfl fun K hK=>?_
     simp(disch:=omega) only[Try.f42,go_sem,↓reduceIte]
     refine hK _ ?_
     refine aB ?_
     refine aS rfl ?_
     refine bI ?_
     have hsj:=dEi hJ C2
     simp only at hsj
     refine⟨rfl,fun q oo hq=>?_,by simp only;omega⟩
     rw[hsj]at hq
     exact eL (fun a ao ha=>by {have:=hh a ao ha;rw[bJ,J3 (by omega)];exact ha}) q oo hq
    ·skip
     refine aI rfl ?_
     cases h
 ·skip
  rw[J4 hw0]
  have dw:decide (w1=0)=false:=J6 hw0
  refine aA rfl ?_
  refine bA [103,0,1,2,15] rfl rfl rfl fun K hK=>?_
  simp(disch:=omega) only[Try.f42,go_sem,↓reduceIte,dw,Bool.not_false]
  refine hK _ ?_
  refine aB ?_
  refine eC (.tmp 103) rfl rfl rfl (fun h=>?_) (fun h=>?_)
  ·skip
   refine aI rfl ?_
   refine aA rfl ?_
   refine bA [8] rfl rfl rfl fun K hK=>?_
   simp(disch:=omega) only[Try.f42,go_sem,↓reduceIte]
   refine hK _ ?_
   refine aB ?_
   refine aS rfl ?_
   refine bI ?_
   have hsj:=dEi hJ C1
   simp only at hsj
   refine⟨rfl,fun q oo hq=>?_,by simp only;omega⟩
   rw[hsj]at hq
   exact eL (fun a ao ha=>by {have:=hh a ao ha;rw[bJ,J3 (by omega)];exact ha}) q oo hq
  ·skip
   refine aI rfl ?_
   cases h
end Go.AX

namespace Go.AX
open Go Go.Proofs
set_option maxRecDepth 8000
structure DG (C:DC) (z:Nat):Prop where
 ne:0<C.rows.length
 row: ∀r∈C.rows,r.length=z
 dr: ∀p∈C.dirty,p.2.length=z
 ok: ∀p∈C.dirty,0≤p.1∧p.1<(C.rows.length:Int)
 nd:(C.dirty.map (·.1)).Nodup
 le:C.rows.length≤4096
theorem aUt {α:Type} [DecidableEq α]: ∀(R S:List α),R.Nodup→(∀t∈R,t∈S)→R.length≤S.length
 |[],_,_,_=>Nat.zero_le _
 |a::r,S,hn,hs=>by
  have ha:=hs a (by simp)
  obtain⟨h1,h2⟩:=List.nodup_cons.1 hn
  have:=aUt r (S.erase a) h2 fun t ht=>(List.mem_erase_of_ne (show t≠a from fun e=>by rw[e]at ht;exact h1 ht)).2 (hs t (by simp[ht]))
  rw[List.length_erase_of_mem ha]at this
  have:=List.length_pos_of_mem ha
  rw[List.length_cons];omega
theorem DG.dok {C:DC} {z:Nat} (h:DG C z):DOk C=true:=by
 unfold DOk
 rw[List.all_eq_true]
 intro i hi
 obtain⟨p,hp,rfl⟩:=List.mem_map.1 hi
 exact J5 (h.ok p hp)
theorem DG.siz {C:DC} {z:Nat} (h:DG C z):uK C.rows=some (z:Int):=by
 have h1:=h.ne
 have h2:=h.row
 rcases hr:C.rows with _|⟨a,r⟩
 ·rw[hr]at h1;exact absurd h1 (Nat.lt_irrefl _)
 rw[hr]at h2
 show some ((a.length:Nat):Int)=_
 rw[h2 a (by simp)]
theorem DG.dl {C:DC} {z:Nat} (h:DG C z):C.dirty.length≤4096:=by
 have:=aUt (C.dirty.map (·.1)) ((List.range C.rows.length).map fun i:Nat=>(i:Int)) h.nd fun t ht=>by
  obtain⟨p,hp,rfl⟩:=List.mem_map.1 ht
  obtain⟨h1,h2⟩:=h.ok p hp
  exact List.mem_map.2 ⟨p.1.toNat,List.mem_range.2 (by omega),by omega⟩
 rw[List.length_map,List.length_map,List.length_range]at this
 have:=h.le
 omega
theorem dFq {i:Int} {b:List B8}: ∀ {l:List (Int×List B8)} {p:Int×List B8},p∈kT i b l→p=(i,b)∨p∈l
 |[],p,h=> .inl (by simpa [kT]using h)
 |q::r,p,h=>by
  simp only[kT]at h
  split at h
  ·rcases List.mem_cons.1 h with h|h
   ·exact .inl h
   exact .inr (by simp[h])
  rcases List.mem_cons.1 h with h|h
  ·exact .inr (by simp[h])
  rcases dFq h with h|h
  ·exact .inl h
  exact .inr (by simp[h])
theorem dKi {i:Int} {b:List B8}: ∀ {l:List (Int×List B8)},(l.map (·.1)).Nodup→((kT i b l).map (·.1)).Nodup
 |[],_=>by simp[kT]
 |q::r,h=>by
  rw[List.map_cons,List.nodup_cons]at h
  simp only[kT]
  split
  ·rename_i e
   rw[List.map_cons,List.nodup_cons]
   exact⟨by rw[e];exact h.1,h.2⟩
  rename_i e
  rw[List.map_cons,List.nodup_cons]
  refine⟨fun hm=>?_,dKi h.2⟩
  obtain⟨p,hp,hq⟩:=List.mem_map.1 hm
  rcases dFq hp with rfl|hp
  ·exact e hq
  exact h.1 (List.mem_map.2 ⟨p,hp,hq⟩)
theorem DG.eq {C C':DC} {z:Nat} (h:DG C z) (h1:C'.rows=C.rows) (h2:C'.dirty=C.dirty):DG C' z:=
 ⟨by rw[h1];exact h.ne,by rw[h1];exact h.row,by rw[h2];exact h.dr,by rw[h1,h2];exact h.ok,by rw[h2];exact h.nd,by rw[h1];exact h.le⟩
theorem DG.pw {C:DC} {z:Nat} (h:DG C z):DG (pwV C).2 z:=h.eq (dEu C) (dFv C)
theorem DG.put {C:DC} {z:Nat} (h:DG C z) {i:Int} {b:List B8} (hb:b.length=z) (h0:0≤i) (h1:i<(C.rows.length:Int)):DG {C with dirty:=kT i b C.dirty} z:=by
 refine⟨h.ne,h.row,fun p hp=>?_,fun p hp=>?_,dKi h.nd,h.le⟩
 ·rcases dFq hp with rfl|hp
  ·exact hb
  exact h.dr p hp
 rcases dFq hp with rfl|hp
 ·exact⟨h0,h1⟩
 exact h.ok p hp
theorem DG.wr {C:DC} {z:Nat} (h:DG C z) (i:Int) (b:List B8):DG (wrV C i b z).2 z:=by
 unfold wrV
 split
 ·rename_i ha
  obtain⟨_,a1,a2⟩:=dHs ha
  split
  ·rename_i hb
   split
   ·exact h.pw.put (by omega) a1 (by rw[dEu];exact a2)
   exact h.pw
  exact h
 exact h
theorem dLo (C:DC) (i:Int) (b:List B8) (z:Int):(wrV C i b z).2.rows=C.rows:=by
 unfold wrV
 split
 ·split
  ·split
   ·exact dEu C
   exact dEu C
  rfl
 rfl
theorem dIu {i:Int} {b:List B8}: ∀ {l:List (Int×List B8)},iK i l=some b→(i,b)∈l
 |[],h=>by cases h
 |q::r,h=>by
  simp only[iK]at h
  split at h
  ·rename_i e
   obtain rfl:=J0 h
   simp[e]
  exact List.mem_cons_of_mem _ (dIu h)
theorem dFu {C:DC} {z:Nat} (h:DG C z) (kept:Nat→Bool): ∀k,k≤C.dirty.length→∀r∈mG kept (srt (C.dirty.map (·.1))) C.dirty C.rows k,r.length=z
 |0,_=>h.row
 |k+1,hk=>by
  have ih:=dFu h kept k (by omega)
  simp only[mG]
  split
  ·intro r hr
   rcases List.mem_or_eq_of_mem_set hr with hr|rfl
   ·exact ih r hr
   have hlen:(srt (C.dirty.map (·.1))).length=C.dirty.length:=by unfold srt;rw[List.length_mergeSort,List.length_map]
   have hm:(srt (C.dirty.map (·.1))).getD k 0∈C.dirty.map (·.1):=by
    have hk':k<(srt (C.dirty.map (·.1))).length:=by omega
    rw[List.getD_eq_getElem?_getD,List.getElem?_eq_getElem hk',Option.getD_some]
    have:=List.getElem_mem hk'
    unfold srt at this
    exact List.mem_mergeSort.1 this
   obtain⟨b,hb⟩:=wH hm
   rw[hb,Option.getD_some]
   exact h.dr _ (dIu hb)
  exact ih
theorem DG.stl {C:DC} {z:Nat} (h:DG C z) (kept:Nat→Bool):DG (dFn kept C) z:=by
 have hl:=dEk kept (srt (C.dirty.map (·.1))) C.dirty C.rows C.dirty.length
 exact⟨by show 0<(mG kept (srt (C.dirty.map (·.1))) C.dirty C.rows C.dirty.length).length;rw[hl];exact h.ne,dFu h kept _ (U3 _),fun p hp=>(by cases hp),fun p hp=>(by cases hp),List.nodup_nil,by show(mG kept (srt (C.dirty.map (·.1))) C.dirty C.rows C.dirty.length).length≤4096;rw[hl];exact h.le⟩
theorem dSt (kept:Nat→Bool) (C:DC):(dFn kept C).rows.length=C.rows.length:=dEk ..
theorem DG.syn {C:DC} {z:Nat} (h:DG C z):DG (mL C).2 z:=by
 unfold mL
 split
 ·exact h
 split
 ·exact h.pw.stl _
 exact h.pw
end Go.AX

namespace Go.AX
open Go Go.Proofs
set_option maxRecDepth 8000
def dFm (t:JT) (side:Int) (b:List B8) (z:Nat):Int×JT:=
 if(mL t.C).1≠0 then((mL t.C).1,{t with C:=(mL t.C).2})else dGi {t with C:=(mL t.C).2} side b z
set_option maxHeartbeats 4000000 in
theorem dOr {j d s m z nx o nf:Nat} {sd side:Int} {b bb:List B8} {co:W64} {C0 C:DC} {hp:H} (hh: ∀k o',hp k=some o'→k<o) (hJ:mE hp j ⟨⟨d,sd,bb,co⟩,s,m,C0⟩) (hz:64≤z) (hz2:z≤4096) (hbl:b.length≤1000000000)
  (hG:DG C z) (hnf:o+400000≤nf):
  Awp Try.prog GLh Try.f42.ntmps (cr (cr (cr (aE Try.f42)))) {fr:=[(0,.op j 0),(1,.i side),(2,.sl b.length (c8 b)),(9,.i z)],hp:=bO d s m C hp,nx:=nx,cx:=o}
   (bMy Try.prog Try.f42.results.toList (.i (dFm ⟨⟨d,sd,bb,co⟩,s,m,C⟩ side b z).1) (cS j (dFm ⟨⟨d,sd,bb,co⟩,s,m,C⟩ side b z).2 hp) nf):=by
 have h1:=hJ.hj
 have hD:=hJ.hd
 have hne:=hJ.ne
 simp only at h1 hD hne
 obtain⟨n1,n2,n3,n4,n5,n6⟩:=hD.ne
 obtain⟨e1,e2,e3⟩:=hne
 have hjl:=hh _ _ h1
 have hdl1:=hh _ _ hD.hd
 have hsl:=hh _ _ hD.hs
 have hml:=hh _ _ hD.hm
 have hok:=hG.dok
 have hrl:=hG.le
 have hdl:=hG.dl
 have hGs:=hG.syn
 unfold dFm
 simp only
 obtain⟨Y,hY⟩: ∃x,mL C=x:=⟨_,rfl⟩
 rw[hY]at hGs⊢
 obtain⟨y1,C1⟩:=Y
 simp only at hGs⊢
 refine aA rfl ?_
 refine aA rfl ?_
 refine aC (Γ:=bC [(18,.heap dJd)]) [0,1,2,9,13] (aH dQz aO) rfl rfl rfl (fun K hK=>?_)
 simp(disch:=omega) only[Try.f42,go_sem,↓reduceIte,h1,hok,hrl,hdl,hY,and_self]
 refine hK _ ?_
 refine aB ?_
 by_cases hy0:y1=0
 ·skip
  subst hy0
  rw[J3 (by simp)]
  refine aA rfl ?_
  refine bA [64,0,1,2,9,13] rfl rfl rfl fun K hK=>?_
  simp(disch:=omega) only[Try.f42,go_sem,↓reduceIte]
  refine hK _ ?_
  refine aB ?_
  refine eC (.tmp 64) rfl rfl rfl (fun h=>?_) (fun h=>?_)
  ·skip
   refine aI rfl ?_
   cases h
  ·skip
   refine aI rfl ?_
   clear h
   refine aQ rfl ?_
   refine aB ?_
   have hJ1:=dIn hJ C1
   simp only at hJ1
   have hh1: ∀k o',bO d s m C1 hp k=some o'→k<o+6+300+24*C.dirty.length+2:=fun k o' hk=>by
    rcases Nat.lt_or_ge k o with e|e
    ·omega
    ·rw[mH _ _ _ _ _ _ (by omega) (by omega) (by omega)]at hk
     have:=hh _ _ hk
     omega
   refine fF [0,1,2,9] ?_
   simp only[iB,fU,eB,↓reduceIte,Nat.reduceEqDiff]
   refine dMh hh1 hJ1 hz hz2 hbl (fun id nx2 cx2 q1 q2 q3=>?_)
   rw[dGy _ _ _ _ _ _ _ (by omega) (by omega) (by omega)]
   have hw:=hGs.wr 0 (hdV z side b.length co)
   exact dOs (fun k o' hk=>by have:=hh _ _ hk;omega) hJ hz hz2 hGs.siz hw.dok hw.le hw.dl q2 (by omega)
 ·skip
  rw[J4 hy0]
  have dy:decide (y1=0)=false:=J6 hy0
  refine aA rfl ?_
  refine bA [64,0,1,2,9,13] rfl rfl rfl fun K hK=>?_
  simp(disch:=omega) only[Try.f42,go_sem,↓reduceIte,dy,Bool.not_false]
  refine hK _ ?_
  refine aB ?_
  refine eC (.tmp 64) rfl rfl rfl (fun h=>?_) (fun h=>?_)
  ·skip
   refine aI rfl ?_
   refine aA rfl ?_
   refine bA [8] rfl rfl rfl fun K hK=>?_
   simp(disch:=omega) only[Try.f42,go_sem,↓reduceIte]
   refine hK _ ?_
   refine aB ?_
   refine aS rfl ?_
   refine bI ?_
   have hsj:=dEi hJ C1
   simp only at hsj
   rw[hsj]
   exact⟨rfl,fun q oo hq=>hq,by simp only;omega⟩
  ·skip
   refine aI rfl ?_
   cases h
end Go.AX

namespace Go.AX
open Go Go.Proofs
set_option maxRecDepth 8000
def dEr (z:Nat) (b:List B8) (i:Nat):List B8:=jM (List.replicate z 0#8) 0 ((b.drop (i*z)).take z)
theorem dEq (z:Nat) (b:List B8) (i:Nat):(dEr z b i).length=z:=by
 unfold dEr
 rw[dEh _ _ _ (by rw[List.length_take,List.length_replicate];omega),List.length_replicate]
def wlV (z:Nat) (base:Int) (b:List B8):Nat→DC→Nat→Int×DC
 |0,C,_=>(0,C)
 |n+1,C,i=>if b.length≤i*z then(0,C)else if(wrV C (base+i) (dEr z b i) z).1≠0 then wrV C (base+i) (dEr z b i) z else wlV z base b n (wrV C (base+i) (dEr z b i) z).2 (i+1)
def jwV (t:JT) (side:Int) (b:List B8) (fr z:Nat):Int×JT:=
 if(wlV z (1+side*eH t.C) b 4097 t.C (fr/z)).1≠0 then((wlV z (1+side*eH t.C) b 4097 t.C (fr/z)).1,{t with C:=(wlV z (1+side*eH t.C) b 4097 t.C (fr/z)).2})
 else dFm {t with C:=(wlV z (1+side*eH t.C) b 4097 t.C (fr/z)).2} side b z
@[irreducible] def jwN : Nat := 20000000
theorem dHz:jwN=20000000:=by unfold jwN;rfl
noncomputable instance dgDec (C:DC) (z:Nat):Decidable (DG C z):=Classical.propDecidable _
noncomputable def dHy:List AV→H→Nat→Option (AV×H×Nat)
 |[.op j 0,.i side,.sl n xs,.i f],hp,nx=>aK (mJ hp j) fun t=>aK (cI xs) fun b=>aK (uK t.C.rows) fun z=>
   aN ((b.length=n∧0≤side∧side≤1∧0≤f∧f≤b.length)∧DG t.C z.toNat∧(64≤z∧z≤4096)∧b.length≤eH t.C*z.toNat)
    (some (.i (jwV t side b f.toNat z.toNat).1,cS j (jwV t side b f.toNat z.toNat).2 hp,nx+jwN))
 |_,_,_=>none
structure WLI where
 i:Nat
 f:Nat
 C:DC
 c:Nat
set_option maxHeartbeats 4000000 in
theorem dKr:cQ Try.prog GLh 42 dHy:=by
 refine gF Try.func42 (aT rfl) ?_
 intro args hp nx r hp' nx' hg
 unfold dHy at hg
 split at hg
 ·rename_i j side n xs f0
  replace hg:=aJ hg;obtain⟨⟨⟨d,sd,bb,co⟩,s,m,C⟩,hJ0,hg⟩:=hg
  replace hg:=aJ hg;obtain⟨b,hb,hg⟩:=hg
  replace hg:=aJ hg;obtain⟨z0,hz0,hg⟩:=hg
  replace hg:=aP hg;obtain⟨⟨⟨hn,hs0,hs1,hf0,hf1⟩,hG,⟨hz,hz2⟩,hbl⟩,hg⟩:=hg
  have:=bW hb;subst this
  have hJ:=mA hJ0
  simp only[Option.some.injEq,Prod.mk.injEq]at hg hJ hG hbl hz0;obtain⟨rfl,rfl,rfl⟩:=hg
  obtain⟨z,rfl⟩:=Int.eq_ofNat_of_zero_le (show 0≤z0 by omega)
  obtain⟨f,rfl⟩:=Int.eq_ofNat_of_zero_le hf0
  simp only[U2]at*
  subst hn
  have hN:=dHz
  refine⟨J1 rfl,by omega,fun hnone=>?_⟩
  have h1:=hJ.hj
  have hD:=hJ.hd
  have hne:=hJ.ne
  simp only at h1 hD hne
  obtain⟨n1,n2,n3,n4,n5,n6⟩:=hD.ne
  obtain⟨e1,e2,e3⟩:=hne
  have hlt: ∀k o,hp k=some o→k<nx:=fun k o hk=>cA hnone hk
  have hjl:=hlt _ _ h1
  have hdl1:=hlt _ _ hD.hd
  have hsl:=hlt _ _ hD.hs
  have hml:=hlt _ _ hD.hm
  have h2:=dFt hJ
  simp only at h2
  have hrl:=hG.le
  have hrn:=hG.ne
  have hse:eH C≤2048:=by unfold eH;omega
  have hbz:b.length≤2048*4096:=by
   exact Nat.le_trans hbl (Nat.mul_le_mul hse (by omega))
  obtain⟨sb,hsb⟩: ∃x:Int,side*(eH C:Int)=x:=⟨_,rfl⟩
  have hsb1:0≤sb∧sb≤2048:=by
   rw[←hsb]
   rcases(by omega:side=0∨side=1)with rfl|rfl<;>omega
  have hdv:(f:Int).tdiv (z:Int)=((f/z:Nat):Int):=rfl
  have hfz:f/z*z≤f:=Nat.div_mul_le_self f z
  obtain⟨i0,hi0⟩: ∃x,f/z=x:=⟨_,rfl⟩
  rw[hi0]at hdv hfz
  have hi0b:i0≤8388608:=by rw[←hi0];exact Nat.le_trans (Nat.div_le_self f z) (by omega)
  unfold jwV
  simp only
  rw[hsb,hi0]
  obtain⟨R,hR⟩: ∃x,wlV z (1+sb) b 4097 C i0=x:=⟨_,rfl⟩
  rw[hR]
  have hszC:=hG.siz
  have hz0': ¬((z:Int)=0):=by omega
  refine aA rfl (bA [0,1,2,3] rfl rfl rfl fun K hK=>?_)
  simp(disch:=omega) only[Try.f42,go_sem,↓reduceIte]
  refine hK _ ?_
  refine aB (aA rfl (aC (Γ:=bC [(37,.heap dGx)]) [0,1,2,3,9] (aH ok9 aO) rfl rfl rfl (fun K hK=>?_)))
  simp(disch:=omega) only[Try.f42,go_sem,↓reduceIte,h1,h2,hszC]
  refine hK _ ?_
  refine aB (aA rfl (aA rfl (bA [0,1,2,9,10] rfl rfl rfl fun K hK=>?_)))
  simp(disch:=omega) only[Try.f42,go_sem,↓reduceIte,hdv,hz0']
  refine hK _ ?_
  refine aB (yK (hp':=bO d s m C hp) (fun q oo hq=>by {rw[mC hD]at hq;exact hq}) ?_)
  refine aR 0 rfl rfl ?_
  refine bR (fun p:WLI=> {fr:=[(0,.op j 0),(1,.i side),(2,.sl b.length (c8 b)),(9,.i z),(10,.i p.i)],hp:=bO d s m p.C hp,nx:=0,cx:=p.c}) (fun p=>DG p.C z∧p.C.rows.length=C.rows.length∧wlV z (1+sb) b p.f p.C p.i=R∧p.i*z≤b.length+4096∧i0≤p.i∧p.f+p.i=4097+i0∧nx≤p.c∧p.c≤nx+1000+2000*(p.i-i0)) (fun p=>p.f) rfl ⟨⟨i0,4097,C,_⟩,⟨hG,rfl,hR,by simp only;omega,U3 _,rfl,by simp only;omega,by simp only;omega⟩,bD rfl rfl (U3 _)⟩ ?_
  rintro⟨i,fu,C1,c⟩ ⟨hG1,hr1,hw,hiz,hi0i,hfi,hc1,hc2⟩ n0
  simp only at hG1 hr1 hw hiz hi0i hfi hc1 hc2⊢
  have hizc:((i:Int)*(z:Int))=((i*z:Nat):Int):=by omega
  refine aA rfl (aA rfl (bA [30,0,1,2,9,10] rfl rfl rfl fun K hK=>?_))
  simp(disch:=omega) only[Try.f42,go_sem,↓reduceIte,hizc]
  refine hK _ ?_
  refine aB (aW (.tmp 30) rfl rfl rfl (fun h=>?_) (fun h=>?_))
  ·refine aI rfl ?_
   have hlz:i*z<b.length:=by omega
   have his:i<eH C:=Nat.lt_of_mul_lt_mul_right (Nat.lt_of_lt_of_le hlz hbl)
   have hju: ∀(x:Nat) (o:AO),nx≤x→mJ (bO d s m C1 (upd hp x o)) j=some ⟨⟨d,sd,bb,co⟩,s,m,C1⟩:=fun x o hx=>hE (dIn (hJ.upd x o (by omega) (by simp only;omega) (by simp only;omega) (by simp only;omega)) C1)
   have hse1:eH C1=eH C:=by unfold eH;rw[hr1]
   have hr1':1≤C1.rows.length∧C1.rows.length≤4096:=by omega
   have hsz1:=hG1.siz
   have hdz:((b.drop (i*z)).take z).length≤z:=by rw[List.length_take];omega
   have hfu: ∃f',fu=f'+1:=⟨fu-1,by omega⟩
   obtain⟨f',rfl⟩:=hfu
   rw[wlV,J3 (by omega)]at hw
   have hsl2:=dEq z b i
   have hdl:(b.drop (i*z)).length=b.length-i*z:=List.length_drop
   have tdr:(b.drop (i*z)).take (b.length-i*z)=b.drop (i*z):=List.take_of_length_le (by omega)
   have tmn:(b.drop (i*z)).take (min (b.length-i*z) z)=(b.drop (i*z)).take z:=by
    rcases Nat.le_total (b.length-i*z) z with e|e
    ·rw[Nat.min_eq_left e,List.take_of_length_le (by omega),List.take_of_length_le (by omega)]
    rw[Nat.min_eq_right e]
   have hsc:jM (List.replicate z 0#8) 0 ((b.drop (i*z)).take z)=dEr z b i:=rfl
   clear h
   refine aQ rfl (aB (aA rfl (aR 1 rfl rfl (aA rfl (bA [0,1,2,9,10,11] rfl rfl rfl fun K hK=>?_)))))
   simp(disch:=omega) only[Try.f42,go_sem,↓reduceIte,dKc,U2]
   refine hK _ ?_
   refine aB (aA rfl (bA [0,1,2,9,10,11] rfl rfl rfl fun K hK=>?_))
   simp(disch:=omega) only[Try.f42,go_sem,↓reduceIte,hizc,U2,tP,tdr,hdl,rH,aHo,tmn,hsc]
   refine hK _ ?_
   refine aB (aA rfl (aYa (Γ:=bC [(36,.heap dFy),(17,.heap wrG)]) (fun k=>if k=3 then true else if k=6 then true else false) [(3,6)] (fun k=>if k=12 then 0 else if k=6 then 0 else 2) [0,1,2,9,10,12] mixed (aH dKl (aH dRa aO)) rfl rfl rfl (by kernel_rfl) (fun K hK=>?_)))
   simp(maxSteps:=400000) (disch:=omega) only[Try.f42,go_sem,and_self,and_true,true_and,↓reduceIte,h1,hju,hr1',hse1,hsb,hsz1,and_self]
   refine hK _ ?_
   refine aB ?_
   have hGw:=hG1.wr (1+sb+i) (dEr z b i)
   have hrw:=dLo C1 (1+sb+i) (dEr z b i) z
   obtain⟨Wr,hWr⟩: ∃x,wrV C1 (1+sb+i) (dEr z b i) z=x:=⟨_,rfl⟩
   rw[hWr]at hGw hrw hw⊢
   obtain⟨w1,C2⟩:=Wr
   simp only at hGw hrw hw⊢
   by_cases hw0:w1=0
   ·subst hw0
    rw[J3 (by simp)]at hw
    refine aA rfl (bA [56,0,1,2,9,10,12] rfl rfl rfl fun K hK=>?_)
    simp(disch:=omega) only[Try.f42,go_sem,↓reduceIte]
    refine hK _ ?_
    refine aB (eC (.tmp 56) rfl rfl rfl (fun h=>?_) (fun h=>?_))
    ·refine aI rfl ?_
     cases h
    refine aI rfl ?_
    clear h
    refine aQ rfl (bU (aB (bA [0,1,2,9,10] rfl rfl rfl fun K hK=>?_)))
    simp(disch:=omega) only[Try.f42,go_sem,↓reduceIte]
    refine hK _ ?_
    refine bT ?_
    have hsm:(i+1)*z=i*z+z:=Nat.succ_mul i z
    refine⟨⟨i+1,f',C2,_⟩,⟨hGw,by rw[hrw];exact hr1,hw,by simp only;omega,by simp only;omega,by simp only;omega,by simp only;omega,by simp only;omega⟩,by simp only;omega,⟨fun y=> .inr (by simp only[Int.natCast_add,Int.natCast_one]),fun q oo hq=>?_,U3 _⟩⟩
    exact eL (fun a ao ha=>by {have:=hlt a ao ha;rw[bJ,J3 (by omega)];exact ha}) q oo hq
   rw[J4 hw0]at hw
   subst hw
   have dw:decide (w1=0)=false:=J6 hw0
   refine aA rfl (bA [56,0,1,2,9,10,12] rfl rfl rfl fun K hK=>?_)
   simp(disch:=omega) only[Try.f42,go_sem,↓reduceIte,dw,Bool.not_false]
   refine hK _ ?_
   refine aB (eC (.tmp 56) rfl rfl rfl (fun h=>?_) (fun h=>?_))
   ·refine aI rfl (aA rfl (bA [8] rfl rfl rfl fun K hK=>?_))
    simp(disch:=omega) only[Try.f42,go_sem,↓reduceIte]
    refine hK _ ?_
    refine aB (aS rfl (bN (bI (dF (bN (bI ?_))))))
    have hsj:=dEi hJ C2
    simp only at hsj
    simp only[J4 hw0]
    rw[hsj]
    refine⟨rfl,fun q oo hq=>?_,by simp only;omega⟩
    exact eL (fun a ao ha=>by {have:=hlt a ao ha;rw[bJ,J3 (by omega)];exact ha}) q oo hq
   refine aI rfl ?_
   cases h
  refine aI rfl ?_
  have hwR:R=(0,C1):=by
   rw[←hw]
   cases fu with
   |zero=>rfl
   |succ f'=>rw[wlV,J4 (by omega)]
  subst hwR
  clear h
  refine bF 0 rfl rfl (aY (aZ (bE (aB (fF [0,1,2,9] ?_)))))
  simp only[iB,fU,eB,↓reduceIte,Nat.reduceEqDiff]
  rw[J3 (by simp)]
  exact dOr (fun k o' hk=>by have:=hlt _ _ hk;omega) hJ (by omega) (by omega) (by omega) hG1 (by omega)
 cases hg
end Go.AX

namespace Go.AX
open Go
def defH (P:Program) (rs:List ResultVar) (gI:List AV→H→Nat→Option (H×Nat)) (capsA:List AV) (r:AV) (hpF:H) (nxF:Nat):Exit→S→Prop
 | .ret,t=> ∃p,gI capsA t.hp t.cx=some p∧wZ P rs r hpF nxF {t with hp:=p.1,cx:=p.2}
 | .normal,t=> ∃p,gI capsA t.hp t.cx=some p∧wZ P rs r hpF nxF {t with hp:=p.1,cx:=p.2}
 |_,_=>False
section
variable {P : Program} {GL : Nat → Option (List AV)}
theorem dKu {f d:FuncId} {fn:Func} {r0 C:Code} {id:Nat} {k:Tmp} {caps:Array Operand} {ty1 ty2:TypeId} {p1 p2:String} {af1 af2:Array Edge} {gI:List AV→H→Nat→Option (H×Nat)} {g:List AV→H→Nat→Option (AV×H×Nat)} (hf:P.funcs[f]? =some fn)
  (hb:fn.body=some (.seq r0 (.seq (.region id #[{dst:=some k,op:=.makeFunc (.func d) #[] caps,type:=ty1,pos:=p1,after:=af1,guard:=none},{dst:=none,op:=.defer {callee:=.value (.tmp k),args:= #[],argTypes:= #[]},type:=ty2,pos:=p2,after:=af2,guard:=none}] false) C)))
  (hk:k<fn.ntmps) (hd:cJ P d) (hI:bSj P GL d .returning .returning gI)
  (h: ∀args hp nx r hp' nx',g args hp nx=some (r,hp',nx')→args.length≤fn.ntmps∧nx≤nx'∧((∀id,nx≤id→hp id=none)→∃capsA,Awp P GL fn.ntmps r0 (sN args hp nx) (dYy P GL fn.ntmps C k d caps.toList capsA (defH P fn.results.toList gI capsA r hp' nx')))):cQ P GL f g:=by
 intro c0 σ I w hp nx args vals r hp' nx' hGL hi hs hr hg
 obtain⟨hlen,hle,haw⟩:=h args hp nx r hp' nx' hg
 refine⟨hle,?_⟩
 obtain⟨capsA,haw⟩:=haw fun id hid=>hi.none_un hid
 let c:Ctx:= {c0 with nt:=fn.ntmps,u0:=fun id=>id<nx∧σ id=.unset,df:=[]}
 have hi':Inv c σ I w hp (fun id=>nx≤id∨(id<nx∧σ id=.unset)):=
  ⟨hi.ext,hi.imm,hi.iw,hi.os,hi.tape,hi.output,hi.size,hi.old,hi.ilt,hi.own,hi.inj,hi.lim,fun id h=>h.elim (hi.un id) (fun h=>h.2),hi.glob,hi.inew⟩
 refine calls_of_wp_defers hf hb ?_
 refine wp_seq (wp_mono (haw c hGL rfl σ I w {tmps:=vals++Array.replicate (fn.ntmps-vals.size) undef,defers:=[]} w ?_) ?_)
 ·refine⟨⟨σ,I,?_,Grow.refl _ _ _,fun t=>oG hs hr t⟩,rfl,by show _=fn.ntmps;simp[hs];omega,fun k hk=>hk.elim,fun id hid=>⟨hid.1,hid.1⟩⟩
  refine hi'.mono_un fun id hid=>?_
  rcases hid with hid|⟨k,hk,_⟩|hid
  ·exact .inl hid
  ·exact hk.elim
  ·exact .inr hid
 rintro e a0 w0 ⟨t0,hq,hR⟩
 cases e with
 |normal=>
  obtain⟨hcaps,hC⟩:=hq
  refine wp_seq ?_
  refine wp_region_list ?_
  obtain⟨⟨σ1,I1,b1,b2,b3⟩,bd,bs,blt,blt0⟩:=hR
  have c0g:=b2
  obtain⟨V,hV⟩: ∃V,caps.map a0.eval=V:=⟨_,rfl⟩
  have hVs:V.size=capsA.length:=by rw[←hV,←hcaps];simp
  have hVr: ∀i (_h:i<capsA.length),Rel σ1 I1 w0 capsA[i] (V.getD i undef):=by
   subst hcaps
   intro i hi
   have:=aAc (l:=caps.toList) (aJt b1 b3) i (by simpa using hi)
   rw[fI,List.getD_eq_getElem?_getD]at this
   have e:V[i]? =(List.map a0.eval caps.toList)[i]?:=by rw[←hV,←Array.toList_map,Array.getElem?_toList]
   have hcg:c.GL=GL:=hGL
   rw[Array.getD_eq_getD_getElem?,e];rw[hcg]at this;exact this
  let D:Deferred:= {target:=.fn (.func d) V,args:= #[]}
  let a1:Act:=a0.put (some k) (.func (.func d) #[] V)
  let a2:Act:= {a1 with defers:=D::a1.defers}
  have hbs:a0.tmps.size=fn.ntmps:=bs
  have ha1:a1.eval (.tmp k)=.func (.func d) #[] V:=by
   show((a0.tmps.setIfInBounds k _).getD k undef)=_
   rw[Array.getD_eq_getD_getElem?,Array.getElem?_setIfInBounds_self_of_lt (by rw[hbs];exact hk)];rfl
  unfold wpList
  rw[J4 (by simp[Region.wanted])]
  refine .inl ?_
  have e1:(execOp a0.eval {dst:=some k,op:=.makeFunc (.func d) #[] caps,type:=ty1,pos:=p1,after:=af1,guard:=none}).run P w0=.ok (.value (.func (.func d) #[] V)) w0:=by
   rw[←hV]
   simp only[execOp,Instr.makeFunc,Array.map_empty,Sem.run_bind,Sem.run_pure,Result.andThen_ok]
  unfold Oper.wp
  rw[e1]
  show wpList P _ _ _ a1 w0
  unfold wpList
  rw[J4 (by simp[Region.wanted])]
  refine .inl ?_
  have e2:(execOp a1.eval {dst:=none,op:=.defer {callee:=.value (.tmp k),args:= #[],argTypes:= #[]},type:=ty2,pos:=p2,after:=af2,guard:=none}).run P w0=.ok (.defer D) w0:=by
   simp only[execOp,resolve,ha1,Deferred.ofValue,Sem.run_bind,Sem.run_pure,Result.andThen_ok,Array.map_empty,Array.append_empty];rfl
  unfold Oper.wp
  rw[e2]
  show Code.wp P C _ a2 w0
  have hadf:a0.defers=[]:=bd
  have hR2:R {c with df:=[D]} σ1 I1 w0 (fun _=>False) (dBa k d capsA t0) a2 w0:=by
   refine⟨⟨σ1,I1,⟨b1.ext,b1.imm,b1.iw,b1.os,b1.tape,b1.output,b1.size,b1.old,b1.ilt,b1.own,b1.inj,b1.lim,b1.un,b1.glob,b1.inew⟩,Grow.refl _ _ _,?_⟩,?_,?_,fun k hk=>hk.elim,blt0⟩
   ·exact vT (n:=fn.ntmps) (dst:=some k) (x:=.fn d capsA) (v:=.func (.func d) #[] V) hbs (fun d' hd'=>by obtain rfl:=J0 hd';exact hk) (fun _=> .fn d capsA V hVs hVr) b3
   ·show D::a0.defers=[D];rw[hadf]
   ·show(a0.put (some k) _).tmps.size=_;rw[pX];exact hbs
  refine wp_mono (hC {c with df:=[D]} hGL rfl σ1 I1 w0 a2 w0 hR2) ?_
  rintro e a' w' ⟨t,hq,hR'⟩
  have hd':a'.defers=[D]:=hR'.defers
  obtain⟨⟨σ2,I2,c1,c2,c3⟩,_,_,_,clt0⟩:=hR'
  obtain⟨fnd,q1,q2,q3⟩:=hd
  have hinv:(invoke (.fn (.func d) V) #[]).run P w'=.ok (.enter d V) w':=by
   simp only[invoke,Array.empty_append,callFunc,Sem.run_bind,run_program,Result.andThen_ok,q1,q2,q3,Bool.false_eq_true,if_false,Sem.run_pure]
  have hVr2: ∀i (_h:i<capsA.length),Rel σ2 I2 w' capsA[i] (V.getD i undef):=fun i hi=>(hVr i hi).grow c2
  have fin: ∀(p:H×Nat) (σ3:Nat→Loc) (I3:Nat→Prop) (w3:World),wZ P fn.results.toList r hp' nx' {t with hp:=p.1,cx:=p.2}→Inv {c with df:=[D]} σ3 I3 w3 p.1 (fun id=>p.2≤id)→Grow σ2 I2 w' σ3 I3 w3→(∀id,id<t.cx→σ2 id=.unset→σ3 id=.unset)→
    ∃v,(results fn a'.tmps).run P w3=.ok v w3∧∃v' σ' I',Ending.returned v=.returned v'∧Inv c0 σ' I' w3 hp' (fun id=>nx'≤id)∧Rel σ' I' w3 r v'∧Grow σ I w σ' I' w3∧(∀id,id<nx→σ id=.unset→σ' id=.unset):=by
   intro p σ3 I3 w3 hend d1 d2 d3
   obtain⟨q1,q2,q3⟩:=hend
   obtain⟨v,hv,hrel⟩:=eZ (P:=P) (t:= {t with hp:=p.1,cx:=p.2}) d1 (fun k=>(c3 k).grow d2) q1
   have d1':=d1.sub q2
   refine⟨v,hv,v,σ3,I3,rfl,?_,hrel,(c0g.trans c2).trans d2,fun id hid hun=>?_⟩
   ·exact⟨d1'.ext,d1'.imm,d1'.iw,d1'.os,d1'.tape,d1'.output,d1'.size,d1'.old,d1'.ilt,d1'.own,d1'.inj,d1'.lim,fun id h=>d1'.un id (Nat.le_trans q3 h),d1'.glob,d1'.inew⟩
   ·have hu0:c.u0 id:=⟨hid,hun⟩
    exact d3 id (clt0 id hu0).2 (c1.un id (.inr (.inr hu0)))
  have c1':Inv {c with df:=[D]} σ2 I2 w' t.hp (fun id=>t.cx≤id):=c1.mono_un fun id hid=> .inl hid
  have ret:(∃p,gI capsA t.hp t.cx=some p∧wZ P fn.results.toList r hp' nx' {t with hp:=p.1,cx:=p.2})→Leaves P fn a'.tmps (fun e w3=> ∃v' σ' I',e=.returned v'∧Inv c0 σ' I' w3 hp' (fun id=>nx'≤id)∧Rel σ' I' w3 r v'∧Grow σ I w σ' I' w3∧(∀id,id<nx→σ id=.unset→σ' id=.unset)) a'.defers .returning w':=by
   rintro⟨p,hp1,hres⟩
   rw[hd']
   obtain⟨_,hcalls⟩:=hI {c with df:=[D]} σ2 I2 w' t.hp t.cx capsA V p.1 p.2 hGL c1' hVs hVr2 hp1
   refine leaves_cons (by simp) hinv (fun c₀ cs hm=>?_)
   obtain⟨e',u1,w3,fr',hRR,hst⟩:=hcalls c₀ cs hm
   refine⟨e',u1,w3,fr',?_,hst⟩
   obtain⟨v,σ3,I3,rfl,rfl,d1,d2,d3⟩:=hRR
   exact fin p σ3 I3 w3 hres d1 d2 d3
  cases e with
  |ret=>exact ret hq
  |normal=>exact ret hq
  |_=>exact hq.elim
 |_=>exact hq.elim
end
end Go.AX

namespace Go.AX
open Go Go.Proofs
set_option maxRecDepth 8000
def eM:List AV→Option AV
 |[.b true]=>some (.tup [])
 |_=>none
theorem dKp:eM [.b true]=some (.tup []):=(rfl)
attribute [go_sem] dKp
theorem dMa:cL Try.prog GLh 55 eM:=by
 refine cC Try.func55 (aT rfl) ?_
 intro args r hg
 unfold eM at hg
 split at hg
 ·obtain rfl:=J0 hg
  refine⟨J1 rfl,fun nx=>?_⟩
  refine aA rfl (bA [3] rfl rfl rfl fun K hK=>?_)
  simp(disch:=omega) only[Try.f55,go_sem,↓reduceIte]
  refine hK _ ?_
  refine aB (eC (.tmp 3) rfl rfl rfl (fun h=>?_) (fun h=>?_))
  ·refine aI rfl ?_
   cases h
  exact aI rfl (aQ rfl rfl)
 cases hg
theorem dKj:bX Try.prog GLh 55 (.pure true eM):=⟨⟨_,Try.func55,rfl,rfl⟩,dMa⟩
def hN (h:List B8):W64:=mI ((h.drop 9).take 8)
def hC (h:List B8):W64:=mI ((h.drop 17).take 8)
structure OKH (most:Int) (h:List B8):Prop where
 mg:mI (h.take 8)=dFx
 sd:h.getD 8 0#8<2#8
 cr:mI ((h.drop 25).take 4)=BitVec.setWidth 64 (dGd (h.take 25))
 le:hN h≤BitVec.ofInt 64 most
 lt:(hN h).toNat≤100000000
 ln:64≤h.length∧h.length≤4096
noncomputable instance okhDec (most:Int) (h:List B8):Decidable (OKH most h):=Classical.propDecidable _
noncomputable def hdG:List AV→H→Nat→Option (AV×H×Nat)
 |[.op j 0,.sl n xs],hp,nx=>aK (mJ hp j) fun t=>aK (cI xs) fun h=>aK (uK t.C.rows) fun z=>
   aN ((h.length=n∧(1≤t.C.rows.length∧t.C.rows.length≤4096)∧0≤z∧z≤4096)∧OKH ((eH t.C:Int)*z) h)
    (some (.i (hN h).toNat,cS j ⟨⟨t.J.d,(h.getD 8 0#8).toNat,t.J.b,hC h⟩,t.s,t.m,t.C⟩ hp,nx+2000))
 |_,_,_=>none
theorem dPc (j n:Nat) (xs:List AV) (hp:H) (nx:Nat):hdG [.op j 0,.sl n xs] hp nx=aK (mJ hp j) fun t=>aK (cI xs) fun h=>aK (uK t.C.rows) fun z=>
   aN ((h.length=n∧(1≤t.C.rows.length∧t.C.rows.length≤4096)∧0≤z∧z≤4096)∧OKH ((eH t.C:Int)*z) h)
    (some (.i (hN h).toNat,cS j ⟨⟨t.J.d,(h.getD 8 0#8).toNat,t.J.b,hC h⟩,t.s,t.m,t.C⟩ hp,nx+2000)):=(rfl)
attribute [go_sem] dPc
set_option maxHeartbeats 4000000 in
theorem dRh:cQ Try.prog GLh 35 hdG:=by
 refine gF Try.func35 (aT rfl) ?_
 intro args hp nx r hp' nx' hg
 unfold hdG at hg
 split at hg
 ·rename_i j n xs
  replace hg:=aJ hg;obtain⟨⟨⟨d,sd,b,co⟩,s,m,C⟩,hJ,hg⟩:=hg
  replace hg:=aJ hg;obtain⟨h,hh,hg⟩:=hg
  replace hg:=aJ hg;obtain⟨z,hz,hg⟩:=hg
  replace hg:=aP hg;obtain⟨⟨⟨hn,hr,hz0,hz1⟩,hok⟩,hg⟩:=hg
  have:=bW hh;subst this
  have h3:=hJ
  have hJ:=mA hJ
  simp only[Option.some.injEq,Prod.mk.injEq]at hg hJ hr hz hok;obtain⟨rfl,rfl,rfl⟩:=hg
  subst hn
  refine⟨J1 rfl,by omega,fun hnone=>?_⟩
  have h1:=hJ.hj
  have hD:=hJ.hd
  have hne:=hJ.ne
  simp only at h1 hD hne
  obtain⟨e1,e2,e3⟩:=hne
  have hjl:=cA hnone h1
  obtain⟨o1,o2,o3,o4,o6,o5⟩:=hok
  have d1:decide (mI (h.take 8)=8316291910762508337#64)=true:=J5 o1
  have d2:decide (h.getD 8 0#8<2#8)=true:=J5 o2
  have d3:decide (mI ((h.drop 25).take 4)=BitVec.setWidth 64 (dGd (h.take 25)))=true:=J5 o3
  have d4:decide (mI ((h.drop 9).take 8)≤BitVec.ofInt 64 ((eH C:Int)*z))=true:=J5 o4
  have o7:(mI ((h.drop 9).take 8)).toNat≤100000000:=o6
  have l1:(h.take 8).length=8:=by rw[List.length_take];omega
  have l2:((h.drop 25).take 4).length=4:=by rw[List.length_take,List.length_drop];omega
  have l3:(h.take 25).length=25:=by rw[List.length_take];omega
  have l4:((h.drop 9).take 8).length=8:=by rw[List.length_take,List.length_drop];omega
  have l5:((h.drop 17).take 8).length=8:=by rw[List.length_take,List.length_drop];omega
  have g8:(c8 (h.drop 8)).head? =some (.w8 (h.getD 8 0#8)):=aPl h 8 (by omega)
  refine aA rfl (bA [0,1] rfl rfl rfl fun K hK=>?_)
  simp(disch:=omega) only[Try.f35,go_sem,↓reduceIte]
  refine hK _ ?_
  refine aB (aA rfl (aYa (Γ:=bC [(56,.pure true bBg),(10,.pure true dFf),(41,.heap dJm),(55,.pure true eM)]) (fun _=>false) [] (fun k=>if k=29 then 0 else if k=25 then 0 else if k=23 then 0 else if k=16 then 0 else if k=13 then 0 else if k=2 then 0 else 2) [0,1] mixed (aH dIj (aH dHe (aH dNa (aH dKj aO)))) rfl rfl rfl (by kernel_rfl) (fun K hK=>?_)))
  simp(maxSteps:=400000) (disch:=omega) only[Try.f35,go_sem,and_self,and_true,true_and,↓reduceIte,rH,tP,l1,l2,l3,l4,g8,d1,d2,d3,d4,h3,hr,hz,hz0,hz1,true_and,and_self]
  refine hK _ ?_
  refine aB (aA rfl (aYa (Γ:=bC [(56,.pure true bBg)]) (fun _=>false) [] (fun k=>if k=4 then 1 else if k=8 then 1 else 2) [1] mixed (aH dIj aO) rfl rfl rfl (by kernel_rfl) (fun K hK=>?_)))
  simp(maxSteps:=400000) (disch:=omega) only[Try.f35,go_sem,and_self,and_true,true_and,↓reduceIte,h1,rH,tP,l5,g8]
  refine hK _ ?_
  refine aB (aA rfl (aC (Γ:=bC [(56,.pure true bBg)]) [4] (aH dIj aO) rfl rfl rfl (fun K hK=>?_)))
  simp(disch:=omega) only[Try.f35,go_sem,↓reduceIte,rH,tP,l4]
  refine hK _ ?_
  refine aB (aS rfl ?_)
  unfold cS
  simp only
  rw[mC (hD.upd j _ e1 e2 e3)]
  exact⟨rfl,fun q oo hq=>hq,by simp only;omega⟩
 cases hg
theorem dQq:bX Try.prog GLh 35 (.heap hdG):=⟨⟨_,Try.func35,rfl,rfl⟩,dRh⟩
end Go.AX

namespace Go.AX
open Go Go.Proofs Go.RowKit Go.Lib
set_option maxRecDepth 100000
theorem dUs:(Try.prog.info? 5).map (fun i=>(i.zero,i.size,i.bytes))=some (some (.int .u8 0),1,1):=by kernel_rfl
set_option maxHeartbeats 2000000 in
theorem dTo (a:Addr) (c:Nat) (w:World):
  Calls Try.prog 46 #[.slice (some a) 0 c] w fun e w'=> ∃v',e=.returned v'∧w'.ownsRow w.heap.size 5 1 v' 0 []∧v'≠.slice none 0 0∧Below w.heap.size w w':=by
 obtain⟨i0,hi,hz0,hz1,hz2⟩:=info_parts dUs
 have q22: ∀(w:World) (a:Option Addr) (n c n' c':Nat),(binOp .eql 22 (.slice a n c) (.slice none n' c')).run Try.prog w=.ok (.bool a.isNone) w:=fun w a n c n' c'=>Lib.run_eql_slice_nil w _ _ a n c n' c' Try.underlying22
 have u22: ∀w,Sem.run Try.prog (underlying 22) w=.ok (TypeDesc.slice 5) w:=run_underlying Try.underlying22
 go_enter Try.func46,Try.ntmps46
 go_wp2_with (at_builtin;refine wpList_append_own _ rfl _ _ 22 rfl w.heap.size 5 i0 (.int .u8 0) 1 1 Try.underlying22 hi hz0 hz1 hz2 rfl (by decide) _ _ _ rfl (World.ownsRow_made w #[] 0 (U3 _) (Nat.zero_le _) rfl) a 0 c [] rfl rfl (by intro j u hj;simp at hj) (by intro u hu;cases hu) (by unfold maxLen;omega) (by omega) (by simp) ?_)
 intro v' w1 hown hgrow hnil
 go_wp2
 go_ret
 refine⟨v',rfl,by simpa using hown,?_,?_⟩
 ·first|exact hnil|(intro e;exact absurd (hnil.1 e).1 (by simp))
 ·exact((Below.refl _ w).alloc (U3 _) _).grown hgrow (by simp) (by intro k hk;simp[Value.ownBlock]at hk;omega)
def dUt:List AV→Option (Nat×Nat×List AV)
 |[.v (.slice none 0 0)]=>some (0,1,[])
 |_=>none
theorem dTz:dH Try.prog GLh 46 dUt:=by
 refine cT Try.func46 (aT rfl) ?_
 intro args r hg
 unfold dUt at hg
 split at hg
 ·obtain rfl:=J0 hg
  refine⟨J1 rfl,fun nx=>?_⟩
  refine aA rfl (bA [0] rfl rfl rfl fun K hK=>?_)
  simp(disch:=omega) only[Try.f46,go_sem,↓reduceIte]
  refine hK _ ?_
  refine aB (aA rfl (aA rfl (bA [4,0] rfl rfl rfl fun K hK=>?_)))
  simp(disch:=omega) only[Try.f46,go_sem,↓reduceIte,dUr]
  refine hK _ ?_
  refine aB (eC (.tmp 4) rfl rfl rfl (fun h=>?_) (fun h=>?_))
  ·refine aI rfl (aA rfl (bA [2] rfl rfl rfl fun K hK=>?_))
   simp(disch:=omega) only[Try.f46,go_sem,↓reduceIte]
   refine hK _ ?_
   refine aB (aS rfl (bI ?_))
   simp(disch:=omega) only[fE,eO,bV,bK,bQ,Try.f46,go_sem,↓reduceIte]
  refine aI rfl ?_
  cases h
 cases hg
def dSa:List AV→Option (Nat×Nat×List AV)
 |[.sl n xs]=>aK (cI xs) fun l=>aN (l.length=n∧n≤1000000) (some (n,1,c8 l))
 |_=>none
theorem dTe (l:List B8) (n:Nat) (hn:l.length=n) (h:n≤1000000):dSa [.sl n (c8 l)]=some (n,1,c8 l):=by
 simp only[dSa,iA,aX];exact cU _ ⟨hn,h⟩
theorem dTy:dH Try.prog GLh 46 dSa:=by
 intro σ I w nx args vals n e xs h1 h2 h3 h4 h5 hg
 unfold dSa at hg
 split at hg
 ·rename_i m ys
  replace hg:=aJ hg;obtain⟨l,hl,hg⟩:=hg
  replace hg:=aP hg;obtain⟨⟨hlm,hm⟩,hg⟩:=hg
  simp only[Option.some.injEq,Prod.mk.injEq]at hg;obtain⟨rfl,rfl,rfl⟩:=hg
  have:=bW hl
  change ys=c8 l at this
  subst this
  by_cases h0:0<m
  ·exact dLj σ I w nx _ vals _ _ _ h1 h2 h3 h4 h5 (dEw l m hlm ⟨h0,hm⟩)
  obtain rfl:m=0:=by omega
  obtain rfl:=List.eq_nil_of_length_eq_zero hlm
  have hr:Rel σ I w (.sl 0 []) (vals.getD 0 undef):=h5 0 (by simp)
  have hv:vals= #[vals.getD 0 undef]:=by
   apply Array.ext
   ·simpa using h4
   intro i hi hi2
   have:i=0:=by simp at hi2;exact hi2
   subst this
   simp[Array.getD,hi]
  obtain⟨v,hv0⟩: ∃v,vals.getD 0 undef=v:=⟨_,rfl⟩
  rw[hv0]at hr hv
  subst hv
  have key: ∀(a:Addr) (c:Nat),v=.slice (some a) 0 c→Calls Try.prog 46 #[v] w fun e' w'=> ∃v σ' I',e'=.returned v∧w'.os=w.os∧w'.tape=w.tape∧w'.output=w.output∧w.heap.size≤w'.heap.size∧(∀k,k<w.heap.size→w'.heap[k]? =w.heap[k]?)∧
    (∀id,id<nx→σ' id=σ id)∧(∀k,I' k→I k∨w.heap.size≤k)∧(∀k,I' k→k<w'.heap.size)∧
    (((v=.slice none 0 0∨∃a,v=.slice (some a) 0 0)∧0=0∧c8 []=[])∨∃blk base sz cap,v=.slice (some ⟨blk,base,none⟩) 0 cap∧0≤cap∧base+cap*1≤sz∧w.heap.size≤blk∧¬I' blk∧uM σ' I' w' (c8 []) blk base sz):=by
   rintro a c rfl
   refine(dTo a c w).mono ?_
   rintro e' w' ⟨v',rfl,hown,hnn,hb⟩
   refine⟨v',σ,I,rfl,hb.os,hb.tape,hb.output,hb.size,hb.block,fun _ _=>rfl,fun k hk=> .inl hk,fun k hk=>Nat.lt_of_lt_of_le (h2 k hk) hb.size,?_⟩
   rcases hown.2 with⟨q,_⟩|⟨g,cap,cur,q1,q2,q3,q4,q5,q6,q7⟩
   ·exact absurd q hnn
   ·refine .inr ⟨g,0,cur.size,cap,q1,Nat.zero_le _,by omega,q2,fun hk=>by have:=h2 g hk;omega,⟨⟨cur,5,0,0,q3,rfl,Nat.zero_le _,⟨U3 _,fun o _=>by omega⟩,fun i hi=>by simp[c8]at hi⟩,fun i hi=>by simp[c8]at hi⟩⟩
  cases hr with
  |sl _ _ blk o cap f _ _ _ _ _=>exact key _ _ rfl
  |slnil=>exact dTz σ I w nx [.v (.slice none 0 0)] _ _ _ _ h1 h2 h3 rfl (fun i hi=>by
    have:i=0:=by simp at hi;exact hi
    subst this
    exact .v _) rfl
  |slzero a=>exact key _ _ rfl
 cases hg
theorem dUh:bX Try.prog GLh 46 (.fresh true dSa):=⟨⟨_,Try.func46,rfl,rfl⟩,dTy⟩
end Go.AX

namespace Go.AX
open Go Go.Proofs
set_option maxRecDepth 8000
def dFc:Nat→List B8→Option (List (List B8))
 |0,_=>none
 |n+1,l=>if l=[]then some []else if l.length<4∨l.length-4<(mI (l.take 4)).toNat then none
   else aK (dFc n (l.drop (4+(mI (l.take 4)).toNat))) fun r=>some (((l.drop 4).take (mI (l.take 4)).toNat)::r)
theorem dJg {n:Nat} {l:List B8} {q:List (List B8)} (hl:l≠[]) (h:dFc n l=some q):
  ∃n' r,n=n'+1∧4≤l.length∧(mI (l.take 4)).toNat≤l.length-4∧dFc n' (l.drop (4+(mI (l.take 4)).toNat))=some r∧q=((l.drop 4).take (mI (l.take 4)).toNat)::r:=by
 cases n with
 |zero=>cases h
 |succ n=>
  rw[dFc,J3 hl]at h
  split at h
  ·cases h
  ·rename_i hc
   replace h:=aJ h;obtain⟨r,hr,h⟩:=h
   obtain rfl:=J0 h
   exact⟨n,r,rfl,by omega,by omega,hr,rfl⟩
theorem dKd {n:Nat} {q:List (List B8)} (h:dFc n []=some q):q=[]:=by
 cases n with
 |zero=>cases h
 |succ n=>rw[dFc,J4 rfl]at h;exact(J0 h).symm
def dKe:List AV→Option AV
 |[.sl n xs]=>aK (cI xs) fun l=>aN (l.length=n∧n≤1000000) (aK (dFc (l.length+1) l) fun r=>some (.sl r.length (cP r)))
 |_=>none
theorem dLx (n:Nat) (xs:List AV):dKe [.sl n xs]=aK (cI xs) fun l=>aN (l.length=n∧n≤1000000) (aK (dFc (l.length+1) l) fun r=>some (.sl r.length (cP r))):=(rfl)
attribute [go_sem] dLx
structure RCI where
 k:Nat
 id:Nat
 l:List B8
 f:Nat
 c:Nat
theorem dOa (l:List B8) (n:Nat) (hn:l.length=n) (h:n≤1000000):dSa [.sl n (c8 l)]=some (n,1,c8 l):=dTe l n hn h
theorem dJs {α:Type} {r:List α} {k:Nat} {x:α} {t:List α} (h:r.drop k=x::t):k<r.length∧r.drop (k+1)=t∧r.take (k+1)=r.take k++[x]:=by
 have hk:k<r.length:=by
  rcases Nat.lt_or_ge k r.length with e|e
  ·exact e
  rw[List.drop_eq_nil_of_le e]at h;cases h
 rw[List.drop_eq_getElem_cons hk]at h
 obtain⟨h1,h2⟩:=List.cons.inj h
 refine⟨hk,h2,?_⟩
 rw[List.take_add_one,List.getElem?_eq_getElem hk,h1];rfl
set_option maxHeartbeats 4000000 in
theorem dNy:cL Try.prog GLh 39 dKe:=by
 refine cC Try.func39 (aT rfl) ?_
 intro args r hg
 unfold dKe at hg
 split at hg
 ·rename_i n xs
  replace hg:=aJ hg;obtain⟨l0,hl,hg⟩:=hg
  have:=bW hl;subst this
  replace hg:=aP hg;obtain⟨⟨hn,hbig⟩,hg⟩:=hg
  replace hg:=aJ hg;obtain⟨R,hR,hg⟩:=hg
  obtain rfl:=J0 hg
  subst hn
  refine⟨J1 rfl,fun nx=>?_⟩
  refine aA rfl (bA [0] rfl rfl rfl fun K hK=>?_)
  simp(disch:=omega) only[Try.f39,go_sem,↓reduceIte]
  refine hK _ ?_
  refine aB (aA rfl (bA [0,3] rfl rfl rfl fun K hK=>?_))
  simp(disch:=omega) only[Try.f39,go_sem,↓reduceIte]
  refine hK _ ?_
  refine aB (iE 3 1 rfl (fF [0,3] ?_))
  simp only[iB,fU,eB,↓reduceIte,Nat.reduceEqDiff]
  refine aA rfl (aR 0 rfl rfl ?_)
  refine bR (fun p:RCI=> {fr:=[(0,.sl p.l.length (c8 p.l)),(3,.os p.id 0 (R.take p.k).length 1 true)],hp:=upd (fun _=>none) p.id (.cells (cP (R.take p.k)) true),nx:=0,cx:=p.c}) (fun p=>p.k≤R.length∧nx≤p.id∧p.id<p.c∧dFc p.f p.l=some (R.drop p.k)∧p.k+p.l.length≤1000000) (fun p=>p.l.length) rfl ⟨⟨0,_,l0,l0.length+1,_⟩,⟨Nat.zero_le _,by simp only;omega,by simp only;omega,hR,by simp only;omega⟩,bD rfl rfl (U3 _)⟩ ?_
  rintro⟨k,id,l,f,c⟩ ⟨hk,hid,hc,hr,hll⟩ n0
  simp only at hk hid hc hr hll⊢
  refine aA rfl (aA rfl (bA [7,0,3] rfl rfl rfl fun K hK=>?_))
  simp(disch:=omega) only[Try.f39,go_sem,↓reduceIte]
  refine hK _ ?_
  refine aB (aW (.tmp 7) rfl rfl rfl (fun h=>?_) (fun h=>?_))
  ·refine aI rfl ?_
   have hl0:l≠[]:=by intro e;subst e;exact absurd h (by decide)
   obtain⟨f',r',rfl,q1,q2,q4,q5⟩:=dJg hl0 hr
   obtain⟨p1,p2,p3⟩:=dJs q5
   obtain⟨M,hM⟩: ∃M,(mI (l.take 4))=M:=⟨_,rfl⟩
   rw[hM]at q2 q4 q5 p3
   obtain⟨x,hx⟩: ∃x,(l.drop 4).take M.toNat=x:=⟨_,rfl⟩
   rw[hx]at p3 q5
   have hxl:x.length=M.toNat:=by rw[←hx,List.length_take,List.length_drop];omega
   have l4:(l.take 4).length=4:=by rw[List.length_take];omega
   have d1:decide ((4:Int)≤(l.length:Int))=true:=J5 (by omega)
   have hML:M≤BitVec.ofInt 64 ((l.length:Int)-4):=by
    rw[BitVec.le_def,show((l.length:Int)-4)=((l.length-4:Nat):Int)by omega,BitVec.ofInt_natCast,BitVec.toNat_ofNat,Nat.mod_eq_of_lt (by omega)]
    exact q2
   have d2:decide (M≤BitVec.ofInt 64 ((l.length:Int)-4))=true:=J5 hML
   have hld:(l.drop (4+M.toNat)).length=l.length-(4+M.toNat):=List.length_drop
   have hRk:(R.take k).length=k:=by rw[List.length_take];omega
   have e4:(4+(M.toNat:Int)).toNat=4+M.toNat:=by omega
   have hcl:=dOa x M.toNat hxl (by omega)
   have e5:4+M.toNat-4=M.toNat:=by omega
   clear h
   refine aQ rfl (aB (aR 1 rfl rfl (aA rfl (aC (Γ:=bC [(55,.pure true eM)]) [0,3] (aH dKj aO) rfl rfl rfl (fun K hK=>?_)))))
   simp(disch:=omega) only[Try.f39,go_sem,↓reduceIte,d1]
   refine hK _ ?_
   refine aB (aA rfl (aC (Γ:=bC [(56,.pure true bBg)]) [0,3,4] (aH dIj aO) rfl rfl rfl (fun K hK=>?_)))
   simp(disch:=omega) only[Try.f39,go_sem,↓reduceIte,rH,l4,hM]
   refine hK _ ?_
   refine aB (aA rfl (aC (Γ:=bC [(55,.pure true eM)]) [0,3,4] (aH dKj aO) rfl rfl rfl (fun K hK=>?_)))
   simp(disch:=omega) only[Try.f39,go_sem,↓reduceIte,d2]
   refine hK _ ?_
   refine aB (aA rfl (aC (Γ:=bC [(46,.fresh true dSa)]) [0,3,4] (aH dUh aO) rfl rfl rfl (fun K hK=>?_)))
   simp(disch:=omega) only[Try.f39,go_sem,↓reduceIte,rH,tP,iM,e4,e5,hx,hcl,dGs,hxl,hRk]
   refine hK _ ?_
   refine aB (bA [0,3] rfl rfl rfl fun K hK=>?_)
   simp(disch:=omega) only[Try.f39,go_sem,↓reduceIte,tP,e4]
   refine hK _ ?_
   refine bU (bT ?_)
   have hRk1:(R.take (k+1)).length=k+1:=by rw[List.length_take];omega
   have hcP:cP (R.take (k+1))=cP (R.take k)++[.sl M.toNat (c8 x)]:=by rw[p3,←hxl];simp[cP]
   refine⟨⟨k+1,_,l.drop (4+M.toNat),f',_⟩,⟨by simp only;omega,?_,?_,by rw[p2];exact q4,by simp only[hld];omega⟩,by simp only[hld];omega,⟨fun y=> .inr (by simp only[hld,hRk1];rfl),fun q oo hq=>?_,U3 _⟩⟩
   ·simp only;omega
   ·simp only;omega
   simp only[bJ]at hq
   simp only[bJ]
   split at hq
   ·rename_i e;rw[J4 e,←hcP];exact hq
   cases hq
  refine aI rfl ?_
  have hl0:l=[]:=List.eq_nil_of_length_eq_zero (by omega)
  subst hl0
  have hRd:=dKd hr
  have hke:R.length≤k:=List.drop_eq_nil_iff.1 hRd
  rw[List.take_of_length_le hke]
  refine bF 0 rfl rfl (aY (aZ (bE (aB (aA rfl (pS 3 id 0 _ 1 rfl (by rw[bJ,J4 rfl]) (by rw[aTh];omega) ?_))))))
  rw[J9,List.take_of_length_le (by rw[aTh];omega)]
  refine bA [2] rfl rfl rfl fun K hK=>?_
  simp(disch:=omega) only[Try.f39,go_sem,↓reduceIte]
  refine hK _ ?_
  refine aB (aS rfl ?_)
  simp(disch:=omega) only[cN,bV,bK,bQ,Try.f39,go_sem,↓reduceIte]
 cases hg
theorem dQo:bX Try.prog GLh 39 (.pure false dKe):=⟨⟨_,Try.func39,rfl,rfl⟩,dNy⟩
end Go.AX

namespace Go.AX
open Go Go.Proofs
set_option maxRecDepth 8000
theorem dPj {f:FuncId} {n:Nat} (h: ∀(vals:Array Value) (w:World),vals.size=n→CallsD Try.prog f vals .returning w fun e u1 w'=>e=.returned (.tuple #[])∧u1=.returning∧w'=w):bSj Try.prog GLh f .returning .returning (fun args hp nx=>aN (args.length=n) (some (hp,nx))):=by
 intro c σ I w hp nx args vals hp' nx' _ hi hs hr hg
 replace hg:=aP hg;obtain⟨hn,hg⟩:=hg
 simp only[Option.some.injEq,Prod.mk.injEq]at hg;obtain⟨rfl,rfl⟩:=hg
 refine⟨U3 _,fun c₀ cs hm=>?_⟩
 obtain⟨e,u1,w',fr,⟨rfl,rfl,rfl⟩,hst⟩:=h vals w (by rw[hs,hn]) c₀ cs hm
 exact⟨_,_,_,fr,⟨_,σ,I,rfl,rfl,hi,Grow.refl _ _ _,fun _ _ h=>h⟩,hst⟩
set_option maxRecDepth 100000 in
theorem dLk (vals:Array Value) (w:World) (hs:vals.size=1):CallsD Try.prog 54 vals .returning w fun e u1 w'=>e=.returned (.tuple #[])∧u1=.returning∧w'=w:=by
 obtain⟨l⟩:=vals
 match l,hs with
 |[a],_=>
  refine callsD_of_wpS Try.func54 rfl fun c₀ cs hu=>?_
  apply wpS_seq
  apply wpS_region
  simp[wpOpsS,go_sem,recoverD,hu,Try.ntmps54,Exit.thenS]
  apply wpS_seq
  apply wpS_region
  simp[wpOpsS,go_sem,Try.ntmps54,Exit.thenS]
  refine wpS_cond (t:=false) (by simp[Act.eval,Array.replicate]) ?_
  simp only[Bool.false_eq_true,if_false]
  refine wpS_of_wp (wp_skip ?_)
  cases c₀
  simp_all [bodyPostS,results,Try.results54]
theorem dPp:cJ Try.prog 54:=⟨_,Try.func54,rfl,rfl⟩
def fD (n:Nat) (args:List AV) (hp:H) (nx:Nat):Option (H×Nat):=aN (args.length=n) (some (hp,nx))
theorem dGn (a:AV) (hp:H) (nx:Nat):fD 1 [a] hp nx=some (hp,nx):=cU _ rfl
attribute [go_sem] dGn
theorem dRo:bSj Try.prog GLh 54 .returning .returning (fD 1):=dPj dLk
def cl1 (hp:H) (a:Nat):Option AV:=match hp a with
 |some (.cells [x] true)=>some x
 |_=>none
theorem mF {hp:H} {a:Nat} {x:AV} (h:cl1 hp a=some x):hp a=some (.cells [x] true):=by
 unfold cl1 at h
 split at h
 ·rename_i e;obtain rfl:=J0 h;exact e
 cases h
theorem dFk {hp:H} {a:Nat} {x:AV} (h:hp a=some (.cells [x] true)):cl1 hp a=some x:=by unfold cl1;rw[h]
noncomputable def o1H (c:Nat) (h:List B8) (hp:H) (nx:Nat) (j:Nat) (t:JT):Option (AV×H×Nat):=
 aK (uK t.C.rows) fun z=>aN ((((1≤t.C.rows.length∧t.C.rows.length≤4096)∧0≤z∧z≤4096)∧OKH ((eH t.C:Int)*z) h)∧c≠j∧c≠t.J.d∧c≠t.s∧c≠t.m)
  (some (.tup [],upd (cS j ⟨⟨t.J.d,(h.getD 8 0#8).toNat,t.J.b,hC h⟩,t.s,t.m,t.C⟩ hp) c (.cells [.i (hN h).toNat] true),nx+3000))
noncomputable def o1G:List AV→H→Nat→Option (AV×H×Nat)
 |[.op a 0,.op b 0,.op c 0],hp,nx=>aK (cl1 hp a) fun x=>aK (cl1 hp b) fun y=>aK (cl1 hp c) fun _=>
   match x,y with
   | .op j 0,.sl n xs=>aK (cI xs) fun h=>aN (h.length=n) (aK (mJ hp j) fun t=>o1H c h hp nx j t)
   |_,_=>none
 |_,_,_=>none
set_option maxHeartbeats 2000000 in
theorem dRc:cQ Try.prog GLh 34 o1G:=by
 refine gF Try.func34 (aT rfl) ?_
 intro args hp nx r hp' nx' hg
 unfold o1G at hg
 split at hg
 ·rename_i a b c
  replace hg:=aJ hg;obtain⟨x,hx,hg⟩:=hg
  replace hg:=aJ hg;obtain⟨y,hy,hg⟩:=hg
  replace hg:=aJ hg;obtain⟨v,hv,hg⟩:=hg
  split at hg
  ·rename_i j n xs
   replace hg:=aJ hg;obtain⟨h,hh,hg⟩:=hg
   replace hg:=aP hg;obtain⟨hn,hg⟩:=hg
   replace hg:=aJ hg;obtain⟨t,ht,hg⟩:=hg
   unfold o1H at hg
   replace hg:=aJ hg;obtain⟨z,hz,hg⟩:=hg
   replace hg:=aP hg;obtain⟨⟨⟨⟨hr,hz0,hz1⟩,hok⟩,n1,n2,n3,n4⟩,hg⟩:=hg
   have:=bW hh;subst this
   simp only[Option.some.injEq,Prod.mk.injEq]at hg;obtain⟨rfl,rfl,rfl⟩:=hg
   subst hn
   refine⟨J1 rfl,by omega,fun hnone=>?_⟩
   have h1:=mF hx
   have h2:=mF hy
   have h3:=mF hv
   have h4:cS j ⟨⟨t.J.d,(h.getD 8 0#8).toNat,t.J.b,hC h⟩,t.s,t.m,t.C⟩ hp c=some (.cells [v] true):=by
    unfold cS
    rw[mH _ _ _ _ _ _ n2 n3 n4,bJ,J3 n1];exact h3
   refine aC (Γ:=bC [(35,.heap hdG)]) [] (aH dQq aO) rfl rfl rfl (fun K hK=>?_)
   simp(disch:=omega) only[Try.f34,go_sem,↓reduceIte,h1,h2,ht,hz,hr,hz0,hz1,hok,h4,true_and,and_self]
   refine hK _ ?_
   exact⟨rfl,fun q o hq=>hq,by simp only;omega⟩
  cases hg
 cases hg
theorem dQr:bX Try.prog GLh 34 (.heap o1G):=⟨⟨_,Try.func34,rfl,rfl⟩,dRc⟩
end Go.AX

namespace Go.AX
open Go Go.Proofs
set_option maxRecDepth 8000
noncomputable def o2G:List AV→H→Nat→Option (AV×H×Nat)
 |[.op a 0,.op c 0],hp,nx=>aK (cl1 hp a) fun x=>aK (cl1 hp c) fun _=>
   match x with
   | .op j 0=>aK (mJ hp j) fun t=>aN (t.J.b.length≤1000000) (aK (dFc (t.J.b.length+1) t.J.b) fun r=>some (.tup [],upd hp c (.cells [.sl r.length (cP r)] true),nx+100))
   |_=>none
 |_,_,_=>none
set_option maxHeartbeats 2000000 in
theorem dRb:cQ Try.prog GLh 38 o2G:=by
 refine gF Try.func38 (aT rfl) ?_
 intro args hp nx r hp' nx' hg
 unfold o2G at hg
 split at hg
 ·rename_i a c
  replace hg:=aJ hg;obtain⟨x,hx,hg⟩:=hg
  replace hg:=aJ hg;obtain⟨v,hv,hg⟩:=hg
  split at hg
  ·rename_i j
   replace hg:=aJ hg;obtain⟨⟨⟨d,sd,b,co⟩,s,m,C⟩,ht,hg⟩:=hg
   replace hg:=aP hg;obtain⟨hb,hg⟩:=hg
   replace hg:=aJ hg;obtain⟨r0,hr,hg⟩:=hg
   have hJ:=mA ht
   simp only[Option.some.injEq,Prod.mk.injEq]at hg hb hr hJ;obtain⟨rfl,rfl,rfl⟩:=hg
   refine⟨J1 rfl,by omega,fun hnone=>?_⟩
   have h1:=mF hx
   have h3:=mF hv
   have h4:=hJ.hj
   simp only at h4
   refine aC (Γ:=bC [(39,.pure false dKe)]) [] (aH dQo aO) rfl rfl rfl (fun K hK=>?_)
   simp(disch:=omega) only[Try.f38,go_sem,↓reduceIte,h1,h3,h4,hb,hr]
   refine hK _ ?_
   exact⟨rfl,fun q o hq=>hq,by simp only;omega⟩
  cases hg
 cases hg
theorem dQp:bX Try.prog GLh 38 (.heap o2G):=⟨⟨_,Try.func38,rfl,rfl⟩,dRb⟩
theorem dFg {hp:H} {a:Nat} {x:AV} (h:cl1 hp a=some x) (k:Nat) (o:AO) (hk:k≠a):cl1 (upd hp k o) a=some x:=by
 have:=mF h
 exact dFk (by rw[bJ,J3 (Ne.symm hk)];exact this)
noncomputable def dIe:List AV→H→Nat→Option (AV×H×Nat)
 |[.fn 34 [.op a 0,.op b 0,.op c 0]],hp,nx=>aK (o1G [.op a 0,.op b 0,.op c 0] hp nx) fun r=>some (.i 0,r.2.1,nx+5000)
 |[.fn 38 [.op a 0,.op c 0]],hp,nx=>aK (o2G [.op a 0,.op c 0] hp nx) fun r=>some (.i 0,r.2.1,nx+5000)
 |_,_,_=>none
theorem aZo.lt {hp:H} {d s m nx:Nat} {C:DC} (h:aZo hp d s m C) (hl: ∀k o,hp k=some o→k<nx):d<nx∧s<nx∧m<nx:=⟨hl _ _ h.hd,hl _ _ h.hs,hl _ _ h.hm⟩
theorem dOl {a b c nx k nx2:Nat} {hp:H} {r:AV×H×Nat} (hl: ∀k o,hp k=some o→k<nx) (hk:nx≤k) (o:AO) (h:o1G [.op a 0,.op b 0,.op c 0] hp nx=some r):
  ∃v j t,o1G [.op a 0,.op b 0,.op c 0] (upd hp k o) nx2=some (.tup [],upd (upd (cS j t hp) c (.cells [.i v] true)) k o,nx2+3000)∧r.2.1=upd (cS j t hp) c (.cells [.i v] true)∧r.1=.tup []∧∀q oo,r.2.1 q=some oo→q<nx:=by
 unfold o1G at h
 simp only at h
 replace h:=aJ h;obtain⟨x,hx,h⟩:=h
 replace h:=aJ h;obtain⟨y,hy,h⟩:=h
 replace h:=aJ h;obtain⟨w,hw,h⟩:=h
 split at h
 ·rename_i j n xs
  replace h:=aJ h;obtain⟨hd,hh,h⟩:=h
  replace h:=aP h;obtain⟨hn,h⟩:=h
  replace h:=aJ h;obtain⟨t,ht,h⟩:=h
  unfold o1H at h
  replace h:=aJ h;obtain⟨z,hz,h⟩:=h
  replace h:=aP h;obtain⟨hg,h⟩:=h
  obtain rfl:=J0 h
  have hJ:=mA ht
  obtain⟨l1,l2,l3⟩:=hJ.hd.lt hl
  have l4:=hl _ _ hJ.hj
  have la:=hl _ _ (mF hx)
  have lb:=hl _ _ (mF hy)
  have lc:=hl _ _ (mF hw)
  refine⟨_,j,_,?_,rfl,rfl,fun q oo hq=>?_⟩
  rotate_left
  ·simp only[bJ,cS,bO]at hq
   by_cases f1:q=c
   ·omega
   rw[J3 f1]at hq
   by_cases f2:q=t.J.d
   ·omega
   rw[J3 f2]at hq
   by_cases f3:q=t.m
   ·omega
   rw[J3 f3]at hq
   by_cases f4:q=t.s
   ·omega
   rw[J3 f4]at hq
   by_cases f5:q=j
   ·omega
   rw[J3 f5]at hq
   exact hl _ _ hq
  unfold o1G
  simp only
  rw[dFg hx k o (by omega),aX,dFg hy k o (by omega),aX,dFg hw k o (by omega),aX]
  simp only
  rw[hh,aX,cU _ hn,hE (hJ.upd k o (by omega) (by omega) (by omega) (by omega)),aX]
  unfold o1H
  rw[hz,aX,cU _ hg]
  congr 2
  congr 1
  unfold cS
  simp only
  funext q
  simp only[bJ,bO]
  by_cases e:q=c
  ·rw[J4 e,J3 (by omega),J4 e]
  ·rw[J3 e]
   by_cases e2:q=k
   ·rw[J3 (by omega),J3 (by omega),J3 (by omega),J3 (by omega),J4 e2,J4 e2]
   ·rw[J3 e2,J3 e,J3 e2]
 ·cases h
theorem dOk {a c nx k nx2:Nat} {hp:H} {r:AV×H×Nat} (hl: ∀k o,hp k=some o→k<nx) (hk:nx≤k) (o:AO) (h:o2G [.op a 0,.op c 0] hp nx=some r):
  ∃v,o2G [.op a 0,.op c 0] (upd hp k o) nx2=some (.tup [],upd (upd hp c (.cells [v] true)) k o,nx2+100)∧r.2.1=upd hp c (.cells [v] true)∧r.1=.tup []∧∀q oo,r.2.1 q=some oo→q<nx:=by
 unfold o2G at h
 simp only at h
 replace h:=aJ h;obtain⟨x,hx,h⟩:=h
 replace h:=aJ h;obtain⟨w,hw,h⟩:=h
 split at h
 ·rename_i j
  replace h:=aJ h;obtain⟨t,ht,h⟩:=h
  replace h:=aP h;obtain⟨hg,h⟩:=h
  replace h:=aJ h;obtain⟨r0,hr,h⟩:=h
  obtain rfl:=J0 h
  have hJ:=mA ht
  obtain⟨l1,l2,l3⟩:=hJ.hd.lt hl
  have l4:=hl _ _ hJ.hj
  have la:=hl _ _ (mF hx)
  have lc:=hl _ _ (mF hw)
  refine⟨_,?_,rfl,rfl,fun q oo hq=>?_⟩
  rotate_left
  ·simp only[bJ]at hq
   by_cases f1:q=c
   ·omega
   rw[J3 f1]at hq
   exact hl _ _ hq
  unfold o2G
  simp only
  rw[dFg hx k o (by omega),aX,dFg hw k o (by omega),aX]
  simp only
  rw[hE (hJ.upd k o (by omega) (by omega) (by omega) (by omega)),aX,cU _ hg,hr,aX]
  congr 2
  congr 1
  funext q
  simp only[bJ]
  by_cases e:q=c
  ·rw[J4 e,J3 (by omega),J4 e]
  ·rw[J3 e,J3 e]
 ·cases h
end Go.AX

namespace Go.AX
open Go Go.Proofs
set_option maxRecDepth 8000
set_option maxHeartbeats 2000000 in
theorem dPo:cQ Try.prog GLh 33 dIe:=by
 refine dKu (r0:=(cl (aE Try.f33))) (C:=(cr (cr (aE Try.f33)))) (k:=3) (d:=54) (caps:= #[.tmp 2]) Try.func33 rfl (J1 rfl) dPp dRo ?_
 intro args hp nx r hp' nx' hg
 unfold dIe at hg
 split at hg
 ·rename_i a b c
  replace hg:=aJ hg;obtain⟨r0,h0,hg⟩:=hg
  simp only[Option.some.injEq,Prod.mk.injEq]at hg;obtain⟨rfl,rfl,rfl⟩:=hg
  refine⟨J1 rfl,by omega,fun hnone=>⟨[.op nx 0],?_⟩⟩
  have hlt: ∀k o,hp k=some o→k<nx:=fun k o hk=>cA hnone hk
  have hu:=fun(nx2:Nat) (o:AO)=>dOl (k:=nx) (nx2:=nx2) hlt (U3 _) o h0
  refine bA [0,2] rfl rfl rfl fun K hK=>?_
  simp(disch:=omega) only[Try.f33,go_sem,↓reduceIte]
  refine hK _ ?_
  refine⟨rfl,?_⟩
  simp only[dBa]
  obtain⟨v,j,t,u1,u2,u3,u4⟩:=hu (nx+1+2) (.cells [.i 0] true)
  obtain⟨F,hF⟩: ∃x,upd (cS j t hp) c (.cells [.i v] true)=x:=⟨_,rfl⟩
  rw[hF]at u1 u2
  rw[u2]at u4⊢
  refine aA rfl (aC (Γ:=bC [(34,.heap o1G)]) [2] (aH dQr aO) rfl rfl rfl (fun K hK=>?_))
  simp(disch:=omega) only[Try.f33,go_sem,↓reduceIte,u1]
  refine hK _ ?_
  refine aB (aA rfl (bA [2] rfl rfl rfl fun K hK=>?_))
  simp(disch:=omega) only[Try.f33,go_sem,↓reduceIte]
  refine hK _ ?_
  refine aB (aS rfl ?_)
  exact⟨_,dGn _ _ _,by {simp(disch:=omega) only[bV,bK,bQ,Try.f33,go_sem,aV,↓reduceIte];try rfl},fun q oo hq=>by {have:=u4 q oo hq;simp only[bJ];rw[J3 (by omega)];exact hq},by simp only;omega⟩
 ·rename_i a c
  replace hg:=aJ hg;obtain⟨r0,h0,hg⟩:=hg
  simp only[Option.some.injEq,Prod.mk.injEq]at hg;obtain⟨rfl,rfl,rfl⟩:=hg
  refine⟨J1 rfl,by omega,fun hnone=>⟨[.op nx 0],?_⟩⟩
  have hlt: ∀k o,hp k=some o→k<nx:=fun k o hk=>cA hnone hk
  have hu:=fun(nx2:Nat) (o:AO)=>dOk (k:=nx) (nx2:=nx2) hlt (U3 _) o h0
  refine bA [0,2] rfl rfl rfl fun K hK=>?_
  simp(disch:=omega) only[Try.f33,go_sem,↓reduceIte]
  refine hK _ ?_
  refine⟨rfl,?_⟩
  simp only[dBa]
  obtain⟨v,u1,u2,u3,u4⟩:=hu (nx+1+2) (.cells [.i 0] true)
  obtain⟨F,hF⟩: ∃x,upd hp c (.cells [v] true)=x:=⟨_,rfl⟩
  rw[hF]at u1 u2
  rw[u2]at u4⊢
  refine aA rfl (aC (Γ:=bC [(38,.heap o2G)]) [2] (aH dQp aO) rfl rfl rfl (fun K hK=>?_))
  simp(disch:=omega) only[Try.f33,go_sem,↓reduceIte,u1]
  refine hK _ ?_
  refine aB (aA rfl (bA [2] rfl rfl rfl fun K hK=>?_))
  simp(disch:=omega) only[Try.f33,go_sem,↓reduceIte]
  refine hK _ ?_
  refine aB (aS rfl ?_)
  exact⟨_,dGn _ _ _,by {simp(disch:=omega) only[bV,bK,bQ,Try.f33,go_sem,aV,↓reduceIte];try rfl},fun q oo hq=>by {have:=u4 q oo hq;simp only[bJ];rw[J3 (by omega)];exact hq},by simp only;omega⟩
 cases hg
theorem dNb:bX Try.prog GLh 33 (.heap dIe):=⟨⟨_,Try.func33,rfl,rfl⟩,dPo⟩
end Go.AX

namespace Go.AX
open Go Go.Proofs
set_option maxRecDepth 8000
theorem dMn {P:Program} {GL:Nat→Option (List AV)} {f:FuncId} {g:List AV→H→Nat→Option (AV×H×Nat)} (h:cQ P GL f g):cQ P GL f (fun args=>g (args.map nz)):=by
 intro c σ I w hp nx args vals r hp' nx' hGL hi hs hr hg
 exact h c σ I w hp nx _ vals r hp' nx' hGL hi (by simpa using hs) (fun i hi=>by rw[List.getElem_map];exact bJn (hr i (by simpa using hi))) hg
noncomputable def dMf (args:List AV):H→Nat→Option (AV×H×Nat):=dHy (args.map nz)
noncomputable def dHw (j:Nat) (side:Int) (b:List B8) (f:Int) (hp:H) (nx:Nat):Option (AV×H×Nat):=
 aK (mJ hp j) fun t=>aK (uK t.C.rows) fun z=>aN ((0≤side∧side≤1∧0≤f∧f≤b.length)∧DG t.C z.toNat∧(64≤z∧z≤4096)∧b.length≤eH t.C*z.toNat)
  (some (.i (jwV t side b f.toNat z.toNat).1,cS j (jwV t side b f.toNat z.toNat).2 hp,nx+jwN))
theorem dHx (j:Nat) (side f:Int) (b:List B8) (hp:H) (nx:Nat):dMf [.op j 0,.i side,.sl b.length (c8 b),.i f] hp nx=dHw j side b f hp nx:=by
 show(aK (mJ hp j) fun t=>aK (cI (c8 b)) fun b'=>aK (uK t.C.rows) fun z=>
   aN ((b'.length=b.length∧0≤side∧side≤1∧0≤f∧f≤b'.length)∧DG t.C z.toNat∧(64≤z∧z≤4096)∧b'.length≤eH t.C*z.toNat)
    (some (AV.i (jwV t side b' f.toNat z.toNat).1,cS j (jwV t side b' f.toNat z.toNat).2 hp,nx+jwN)))=_
 unfold dHw
 congr 1
 funext t
 rw[iA,aX]
 congr 1
 funext z
 by_cases hc:(0≤side∧side≤1∧0≤f∧f≤b.length)∧DG t.C z.toNat∧(64≤z∧z≤4096)∧b.length≤eH t.C*z.toNat
 ·rw[cU _ hc,cU _ ⟨⟨rfl,hc.1⟩,hc.2⟩]
 unfold aN;rw[J3 hc,J3 (fun q=>hc ⟨q.1.2,q.2⟩)]
theorem dOo (j:Nat) (side f:Int) (hp:H) (nx:Nat):dMf [.op j 0,.i side,.v (.slice none 0 0),.i f] hp nx=dHw j side [] f hp nx:=dHx j side f [] hp nx
attribute [go_sem] dHx dOo
theorem dOh:bX Try.prog GLh 42 (.heap dMf):=⟨⟨_,Try.func42,rfl,rfl⟩,dMn dKr⟩
theorem dJy (j:Nat) (t:JT) (o:AO) (hp:H):cS j t (upd hp j o)=cS j t hp:=by
 unfold cS
 congr 1
 funext q
 simp only[bJ]
 by_cases e:q=j
 ·rw[J4 e,J4 e]
 rw[J3 e,J3 e,J3 e]
@[irreducible] def opN : Nat := 40000000
theorem dHv:opN=40000000:=by unfold opN;rfl
def dGe (t:JT) (z:Nat):Int×JT:=jwV {t with J:= {t.J with com:=t.J.com-1#64}} 0 [] 0 z
def dHr (j:Nat) (e:Int):AV:=if e=0 then .tup [.op j 0,.v (.slice none 0 0),.i 0]else .tup [.v (.pointer none),.v (.slice none 0 0),.i e]
noncomputable def aPt:List AV→H→Nat→Option (AV×H×Nat)
 |[.op j 0],hp,nx=>aK (mJ hp j) fun t=>aK (uK t.C.rows) fun z=>aK (mM t.C 0 t.C.rows.length) fun L=>
   aN ((t.C.dead=false∧DG t.C z.toNat)∧(64≤z∧z≤4096)∧dEs L=true∧t.C.rows.length≤4096)
    (some (dHr j (dGe t z.toNat).1,cS j (dGe t z.toNat).2 hp,nx+opN))
 |_,_,_=>none
set_option maxHeartbeats 4000000 in
theorem cRi:cQ Try.prog GLh 32 aPt:=by
 refine gF Try.func32 (aT rfl) ?_
 intro args hp nx r hp' nx' hg
 unfold aPt at hg
 split at hg
 ·rename_i j
  replace hg:=aJ hg;obtain⟨⟨⟨d,sd,b,co⟩,s,m,C⟩,hJ,hg⟩:=hg
  replace hg:=aJ hg;obtain⟨z0,hz,hg⟩:=hg
  replace hg:=aJ hg;obtain⟨L,hL,hg⟩:=hg
  replace hg:=aP hg;obtain⟨⟨⟨hdd,hG⟩,⟨hz0,hz1⟩,hbk,hrl⟩,hg⟩:=hg
  have h3:=hJ
  have hJ:=mA hJ
  simp only[Option.some.injEq,Prod.mk.injEq]at hg hJ hG hz hrl hL hdd;obtain⟨rfl,rfl,rfl⟩:=hg
  obtain⟨z,rfl⟩:=Int.eq_ofNat_of_zero_le (show 0≤z0 by omega)
  simp only[U2]at*
  have hO:=dHv
  have hN:=dHz
  refine⟨J1 rfl,by omega,fun hnone=>?_⟩
  have h1:=hJ.hj
  have hD:=hJ.hd
  have hne:=hJ.ne
  simp only at h1 hD hne
  obtain⟨e1,e2,e3⟩:=hne
  have h2:=dFt hJ
  simp only at h2
  have hjl:=cA hnone h1
  have hLl:=dEt hL
  have hfr:(0:Int)+(C.rows.length:Int)≤(C.rows.length:Int):=by omega
  refine aA rfl (bA [0] rfl rfl rfl fun K hK=>?_)
  simp(disch:=omega) only[Try.f32,go_sem,↓reduceIte]
  refine hK _ ?_
  refine aB (aA rfl (aC (Γ:=bC [(29,.heap dGz),(30,.heap dIa)]) [0,5,6] (aH ok8 (aH dKn aO)) rfl rfl rfl (fun K hK=>?_)))
  simp(disch:=omega) only[Try.f32,go_sem,↓reduceIte,h1,h2,h3,hdd,hrl,hL,hfr,U2,Int.toNat_zero,true_and,and_self]
  refine hK _ ?_
  refine aB (aA rfl (aA rfl (bA [19,0,5,6] rfl rfl rfl fun K hK=>?_)))
  simp(disch:=omega) only[Try.f32,go_sem,↓reduceIte]
  refine hK _ ?_
  refine aB (eC (.tmp 19) rfl rfl rfl (fun h=>?_) (fun h=>?_))
  ·refine aI rfl ?_
   cases h
  refine aI rfl ?_
  clear h
  refine aQ rfl (aB (aA rfl (aA rfl (aC (Γ:=bC [(31,.pure true dIf)]) [23,0] (aH dKm aO) rfl rfl rfl (fun K hK=>?_)))))
  simp(disch:=omega) only[Try.f32,go_sem,↓reduceIte,hbk,Bool.not_true]
  refine hK _ ?_
  refine aB (eC (.tmp 23) rfl rfl rfl (fun h=>?_) (fun h=>?_))
  ·refine aI rfl ?_
   cases h
  refine aI rfl ?_
  clear h
  refine aQ rfl (aB (aA rfl (bA [0] rfl rfl rfl fun K hK=>?_)))
  simp(disch:=omega) only[Try.f32,go_sem,↓reduceIte,h1]
  refine hK _ ?_
  refine aB ?_
  have hJ2:mE (upd hp j (.cells [.op d 0,.i sd,.sl b.length (c8 b),.w64 (co-1#64)] true)) j ⟨⟨d,sd,b,co-1#64⟩,s,m,C⟩:=⟨by rw[bJ,J4 rfl],hD.upd j _ e1 e2 e3,⟨e1,e2,e3⟩⟩
  have hJr:=hE hJ2
  have hbj:dGe ⟨⟨d,sd,b,co⟩,s,m,C⟩ z=jwV ⟨⟨d,sd,b,co-1#64⟩,s,m,C⟩ 0 [] 0 z:=rfl
  rw[hbj]
  obtain⟨W,hW⟩: ∃x,jwV ⟨⟨d,sd,b,co-1#64⟩,s,m,C⟩ 0 [] 0 z=x:=⟨_,rfl⟩
  rw[hW]
  obtain⟨w1,t'⟩:=W
  have hv:dHw j 0 [] 0 (upd hp j (.cells [.op d 0,.i sd,.sl b.length (c8 b),.w64 (co-1#64)] true)) (nx+3+12+50+500+200*C.rows.length+2+3+8+3)=some (.i w1,cS j t' hp,nx+3+12+50+500+200*C.rows.length+2+3+8+3+jwN):=by
   unfold dHw
   rw[hJr,aX,hz,aX,cU _ ⟨⟨by decide,by decide,by decide,by simp⟩,by simpa using hG,⟨hz0,hz1⟩,Nat.zero_le _⟩]
   show some (AV.i (jwV ⟨⟨d,sd,b,co-1#64⟩,s,m,C⟩ 0 [] 0 z).1,cS j (jwV ⟨⟨d,sd,b,co-1#64⟩,s,m,C⟩ 0 [] 0 z).2 _,_)=_
   rw[hW,dJy]
  refine aA rfl (aA rfl (aC (Γ:=bC [(42,.heap dMf)]) [0,7] (aH dOh aO) rfl rfl rfl (fun K hK=>?_)))
  simp(disch:=omega) only[Try.f32,go_sem,↓reduceIte,hv]
  refine hK _ ?_
  refine aB ?_
  by_cases hw0:w1=0
  ·subst hw0
   refine aA rfl (bA [34,0,7] rfl rfl rfl fun K hK=>?_)
   simp(disch:=omega) only[Try.f32,go_sem,↓reduceIte]
   refine hK _ ?_
   refine aB (eC (.tmp 34) rfl rfl rfl (fun h=>?_) (fun h=>?_))
   ·refine aI rfl ?_
    cases h
   refine aI rfl ?_
   clear h
   refine aQ rfl (aB (aA rfl (bA [2,3,4] rfl rfl rfl fun K hK=>?_)))
   simp(disch:=omega) only[Try.f32,go_sem,↓reduceIte]
   refine hK _ ?_
   refine aB (aS rfl ?_)
   exact⟨rfl,fun q o hq=>hq,by simp only;omega⟩
  have dw:decide (w1=0)=false:=J6 hw0
  refine aA rfl (bA [34,0,7] rfl rfl rfl fun K hK=>?_)
  simp(disch:=omega) only[Try.f32,go_sem,↓reduceIte,dw,Bool.not_false]
  refine hK _ ?_
  refine aB (eC (.tmp 34) rfl rfl rfl (fun h=>?_) (fun h=>?_))
  ·refine aI rfl (aA rfl (bA [2,3,4] rfl rfl rfl fun K hK=>?_))
   simp(disch:=omega) only[Try.f32,go_sem,↓reduceIte]
   refine hK _ ?_
   refine aB (aS rfl (bI ?_))
   refine⟨?_,fun q o hq=>hq,by simp only;omega⟩
   show _=some (dHr j w1)
   rw[dHr,J3 hw0]
   rfl
  refine aI rfl ?_
  cases h
 cases hg
theorem dNc:bX Try.prog GLh 32 (.heap aPt):=⟨⟨_,Try.func32,rfl,rfl⟩,cRi⟩
end Go.AX

namespace Go.AX
open Go Go.Proofs
set_option maxRecDepth 8000
theorem dLz {x:AV} (h:x.isCell=true):(nz x).isCell=true:=by
 unfold nz
 split
 ·rfl
 exact h
theorem Inv.nzc {c:Ctx} {σ:Nat→Loc} {I:Nat→Prop} {w:World} {hp:H} {un:Nat→Prop} (h:Inv c σ I w hp un) {i:Nat} {xs:List AV} (ho:hp i=some (.cells xs true)):
  Inv c σ I w (upd hp i (.cells (xs.map nz) true)) un:=by
 have get: ∀id o,upd hp i (.cells (xs.map nz) true) id=some o→(id=i∧o=.cells (xs.map nz) true)∨(id≠i∧hp id=some o):=by
  intro id o h
  simp only[upd]at h
  split at h
  ·rename_i e;exact .inl ⟨e,(J0 h).symm⟩
  ·rename_i e;exact .inr ⟨e,h⟩
 refine {h with own:=fun id o h1=>?_,inj:=fun id id' oo o' blk base sz base' sz' h1 h2 h3' hne hs=>?_,lim:=fun id oo blk base sz h1 h2 hs=>?_}
 ·rcases get id o h1 with⟨rfl,rfl⟩|⟨_,h2⟩
  ·have h3:=h.own id _ ho
   simp only[cF]at h3⊢
   cases e:σ id with
   |unset=>simp only[e]at h3
   |nil=>simp only[e]at h3⊢;subst h3;rfl
   |at_ blk base sz=>
    simp only[e]at h3⊢
    obtain⟨⟨⟨cs,T,lo,hi,q1,q2,q3,q4,q5⟩,q6⟩,q7⟩:=h3
    refine⟨⟨⟨cs,T,lo,hi,q1,q2,by rw[List.length_map];exact q3,q4,fun i hi'=>?_⟩,fun i hi'=>?_⟩,q7⟩
    ·rw[List.getElem_map];exact bJn (q5 i (by simpa using hi'))
    ·rw[List.getElem_map];exact dLz (q6 i (by simpa using hi'))
  ·exact h.own id o h2
 ·rcases get id _ h1 with⟨rfl,e1⟩|⟨_,h3⟩
  ·rcases get id' _ h3' with⟨e2,_⟩|⟨_,h4⟩
   ·exact absurd e2.symm hne
   ·exact h.inj id id' (.cells xs true) o' blk base sz base' sz' ho rfl h4 hne hs
  ·rcases get id' _ h3' with⟨rfl,_⟩|⟨_,h4⟩
   ·exact h.inj id id' oo (.cells xs true) blk base sz base' sz' h3 h2 ho hne hs
   ·exact h.inj id id' oo o' blk base sz base' sz' h3 h2 h4 hne hs
 ·rcases get id _ h1 with⟨rfl,e1⟩|⟨_,h3⟩
  ·exact h.lim id (.cells xs true) blk base sz ho rfl hs
  ·exact h.lim id oo blk base sz h3 h2 hs
theorem dMx {P:Program} {GL:Nat→Option (List AV)} {nt:Nat} {code:Code} {Q:Exit→S→Prop} {fr:List (Nat×AV)} {hp:H} {nx cx:Nat} (i:Nat) (xs:List AV) (ho:hp i=some (.cells xs true))
  (h:Awp P GL nt code {fr:=fr,hp:=upd hp i (.cells (xs.map nz) true),nx:=nx,cx:=cx} Q):Awp P GL nt code {fr:=fr,hp:=hp,nx:=nx,cx:=cx} Q:=by
 intro c h1 h2 σ0 I0 w0 a w hR
 refine h c h1 h2 σ0 I0 w0 a w ?_
 obtain⟨⟨σ,I,a1,a2,a3⟩,b,d,e1,e0⟩:=hR
 exact⟨⟨σ,I,a1.nzc ho,a2,a3⟩,b,d,e1,e0⟩
end Go.AX

namespace Go.AX
open Go Go.Proofs
set_option maxRecDepth 8000
noncomputable def dJh (C:DC) (d s m z jid:Nat) (hp:H):Option (AV×H):=
 if C.rows.length<8 then some (.tup [.v (.pointer none),.v (.slice none 0 0),.i 91],hp)else
 aK (mM C 0 1) fun h=>
 if dEs h=true then aK (mM C 0 C.rows.length) fun L=>aN (dEs L=true) (some (dHr jid (dGe ⟨⟨d,0,[],0#64⟩,s,m,C⟩ z).1,cS jid (dGe ⟨⟨d,0,[],0#64⟩,s,m,C⟩ z).2 hp))
 else aN (OKH ((eH C:Int)*(z:Int)) h) (aK (mM C (1+(h.getD 8 0#8).toNat*eH C) (((hN h).toNat+z-1)/z)) fun L=>
  aN ((hN h).toNat≤L.length∧(hN h).toNat≤1000000) (aK (dFc ((hN h).toNat+1) (L.take (hN h).toNat)) fun r=>
   some (.tup [.op jid 0,.sl r.length (cP r),.i 0],cS jid ⟨⟨d,(h.getD 8 0#8).toNat,L.take (hN h).toNat,hC h⟩,s,m,C⟩ hp)))
noncomputable def dFi:List AV→H→Nat→Option (AV×H×Nat)
 |[.op d 0],hp,nx=>aK (mB hp d) fun t=>aK (uK t.C.rows) fun z=>aN ((t.C.dead=false∧DG t.C z.toNat)∧64≤z∧z≤4096)
   (aK (dJh t.C d t.s t.m z.toNat (nx+58) hp) fun p=>some (p.1,p.2,nx+100+opN+opN))
 |_,_,_=>none
set_option maxHeartbeats 4000000 in
theorem dOd:cQ Try.prog GLh 13 dFi:=by
 refine gF Try.func13 (aT rfl) ?_
 intro args hp nx r hp' nx' hg
 unfold dFi at hg
 split at hg
 ·rename_i d
  replace hg:=aJ hg;obtain⟨⟨s,m,C⟩,hd,hg⟩:=hg
  replace hg:=aJ hg;obtain⟨z0,hz,hg⟩:=hg
  replace hg:=aP hg;obtain⟨⟨⟨hdd,hG⟩,hz0,hz1⟩,hg⟩:=hg
  replace hg:=aJ hg;obtain⟨⟨a,hp2⟩,hv,hg⟩:=hg
  have hD:=mD hd
  simp only[Option.some.injEq,Prod.mk.injEq]at hg hG hz hdd hv hD;obtain⟨rfl,rfl,rfl⟩:=hg
  obtain⟨z,rfl⟩:=Int.eq_ofNat_of_zero_le (show 0≤z0 by omega)
  simp only[U2]at*
  have hO:=dHv
  refine⟨J1 rfl,by omega,fun hnone=>?_⟩
  have hlt: ∀k o,hp k=some o→k<nx:=fun k o hk=>cA hnone hk
  obtain⟨l1,l2,l3⟩:=hD.lt hlt
  have hrl:=hG.le
  refine aA rfl (bA [0] rfl rfl rfl fun K hK=>?_)
  simp(disch:=omega) only[Try.f13,go_sem,↓reduceIte]
  refine hK _ ?_
  refine aB ?_
  by_cases h8:C.rows.length<8
  ·have d8:decide ((C.rows.length:Int)<8)=true:=J5 (by omega)
   unfold dJh at hv
   rw[J4 h8]at hv
   simp only[Option.some.injEq,Prod.mk.injEq]at hv
   obtain⟨rfl,rfl⟩:=hv
   refine aA rfl (aA rfl (aC (Γ:=bC [(29,.heap dGz)]) [13,0] (aH ok8 aO) rfl rfl rfl (fun K hK=>?_)))
   simp(disch:=omega) only[Try.f13,go_sem,↓reduceIte,hd,d8]
   refine hK _ ?_
   refine aB (eC (.tmp 13) rfl rfl rfl (fun h=>?_) (fun h=>?_))
   ·refine aI rfl (aA rfl (bA [2,3,4] rfl rfl rfl fun K hK=>?_))
    simp(disch:=omega) only[Try.f13,go_sem,↓reduceIte]
    refine hK _ ?_
    refine aB (aS rfl (bI ?_))
    exact⟨rfl,fun q o hq=>hq,by simp only;omega⟩
   refine aI rfl ?_
   cases h
  have d8:decide ((C.rows.length:Int)<8)=false:=J6 (by omega)
  unfold dJh at hv
  rw[J3 h8]at hv
  replace hv:=aJ hv;obtain⟨w,hw,hv⟩:=hv
  refine aA rfl (aA rfl (aC (Γ:=bC [(29,.heap dGz)]) [13,0] (aH ok8 aO) rfl rfl rfl (fun K hK=>?_)))
  simp(disch:=omega) only[Try.f13,go_sem,↓reduceIte,hd,d8]
  refine hK _ ?_
  refine aB (eC (.tmp 13) rfl rfl rfl (fun h=>?_) (fun h=>?_))
  ·refine aI rfl ?_
   cases h
  refine aI rfl ?_
  clear h
  refine aQ rfl (aB (aA rfl (bA [0,5] rfl rfl rfl fun K hK=>?_)))
  simp(disch:=omega) only[Try.f13,go_sem,↓reduceIte]
  refine hK _ ?_
  refine aB ?_
  refine dMx (nx+58) [.op d 0,.i 0,.v (.slice none 0 0),.w64 0#64] (by simp(disch:=omega) only[aV,bY,↓reduceIte,eq_self]<;>rfl) ?_
  simp only[List.map_cons,List.map_nil,cKz,dRe]
  obtain⟨j,hj⟩: ∃j,nx+58=j:=⟨_,rfl⟩
  obtain⟨v,hva⟩: ∃v,nx+59=v:=⟨_,rfl⟩
  have ej:nx+3+3+50+2=j:=by omega
  have ev:nx+3+3+50+3=v:=by omega
  rw[hj]at hv⊢
  clear ej
  rw[ev]
  obtain⟨X0,hX0⟩: ∃x:JC,(⟨d,0,[],0#64⟩:JC)=x:=⟨_,rfl⟩
  refine yK (hp':=upd (upd hp j (.cells [.op d 0,.i 0,.sl 0 [],.w64 0#64] true)) v (.cells [.op j 0] true)) (fun q oo hq=>by
   simp only[bJ]at hq⊢
   by_cases f1:q=j
   ·rw[J4 f1];rw[J3 (by omega),J4 f1]at hq;exact hq
   rw[J3 f1]
   by_cases f2:q=v
   ·rw[J4 f2]at hq⊢;exact hq
   rw[J3 f2,J3 f1]at hq;rw[J3 f2,J3 f1];exact hq) ?_
  have hJ1:mE (upd (upd hp j (.cells [.op d 0,.i 0,.sl 0 [],.w64 0#64] true)) v (.cells [.op j 0] true)) j ⟨⟨d,0,[],0#64⟩,s,m,C⟩:=
   ⟨by rw[bJ,J3 (by omega),bJ,J4 rfl];rfl,(hD.upd j _ (by omega) (by omega) (by omega)).upd v _ (by omega) (by omega) (by omega),⟨by simp only;omega,by simp only;omega,by simp only;omega⟩⟩
  have hH1v:(upd (upd hp j (.cells [.op d 0,.i 0,.sl 0 [],.w64 0#64] true)) v (.cells [.op j 0] true)) v=some (.cells [.op j 0] true):=by rw[bJ,J4 rfl]
  have hH1h: ∀q oo,(upd hp j (.cells [.op d 0,.i 0,.sl 0 [],.w64 0#64] true)) q=some oo→(upd (upd hp j (.cells [.op d 0,.i 0,.sl 0 [],.w64 0#64] true)) v (.cells [.op j 0] true)) q=some oo:=fun q oo hq=>by
   rw[bJ,J3 (fun e=>by
    subst e
    rw[bJ,J3 (by omega)]at hq
    have:=hlt _ _ hq
    omega)]
   exact hq
  have hH1l: ∀q oo,(upd (upd hp j (.cells [.op d 0,.i 0,.sl 0 [],.w64 0#64] true)) v (.cells [.op j 0] true)) q=some oo→q<nx+60:=fun q oo hq=>by
   simp only[bJ]at hq
   by_cases f1:q=v
   ·omega
   rw[J3 f1]at hq
   by_cases f2:q=j
   ·omega
   rw[J3 f2]at hq
   have:=hlt _ _ hq
   omega
  obtain⟨H1,hH1⟩: ∃x,(upd (upd hp j (.cells [.op d 0,.i 0,.sl 0 [],.w64 0#64] true)) v (.cells [.op j 0] true))=x:=⟨_,rfl⟩
  rw[hH1]at hJ1 hH1v hH1h hH1l⊢
  have hjr1:=hE hJ1
  have h01:(0:Int)+1≤(C.rows.length:Int):=by omega
  have ht0:mM C (0:Int).toNat (1:Int).toNat=some w:=hw
  have hwl:=dEt hw
  refine aA rfl (aC (Γ:=bC [(30,.heap dIa)]) [0,5,6,7] (aH dKn aO) rfl rfl rfl (fun K hK=>?_))
  simp(disch:=omega) only[Try.f13,go_sem,↓reduceIte,hH1v,hjr1,hdd,hrl,hw,true_and,and_self]
  refine hK _ ?_
  refine aB (aA rfl (aA rfl (bA [23,0,5,6,7] rfl rfl rfl fun K hK=>?_)))
  simp(disch:=omega) only[Try.f13,go_sem,↓reduceIte]
  refine hK _ ?_
  refine aB (eC (.tmp 23) rfl rfl rfl (fun h=>?_) (fun h=>?_))
  ·refine aI rfl ?_
   cases h
  refine aI rfl ?_
  clear h
  refine aQ rfl (aB (aA rfl (aA rfl ?_)))
  obtain⟨u,hu⟩: ∃u,nx+66=u:=⟨_,rfl⟩
  rw[hu]
  have hJ2:=hJ1.upd u (.cells [.sl w.length (c8 w)] true) (by omega) (by simp only;omega) (by simp only;omega) (by simp only;omega)
  have hH2v:(upd H1 u (.cells [.sl w.length (c8 w)] true)) v=some (.cells [.op j 0] true):=by rw[bJ,J3 (by omega)];exact hH1v
  have hH2u:(upd H1 u (.cells [.sl w.length (c8 w)] true)) u=some (.cells [.sl w.length (c8 w)] true):=by rw[bJ,J4 rfl]
  have hH2h: ∀q oo,(upd hp j (.cells [.op d 0,.i 0,.sl 0 [],.w64 0#64] true)) q=some oo→(upd H1 u (.cells [.sl w.length (c8 w)] true)) q=some oo:=fun q oo hq=>by
   have h1:=hH1h q oo hq
   have h2:=hH1l q oo h1
   rw[bJ,J3 (by omega)];exact h1
  have hH2l: ∀q oo,(upd H1 u (.cells [.sl w.length (c8 w)] true)) q=some oo→q<nx+67:=fun q oo hq=>by
   rw[bJ]at hq
   by_cases f1:q=u
   ·omega
   rw[J3 f1]at hq
   have:=hH1l _ _ hq
   omega
  obtain⟨H2,hH2⟩: ∃x,(upd H1 u (.cells [.sl w.length (c8 w)] true))=x:=⟨_,rfl⟩
  rw[hH2]at hJ2 hH2v hH2u hH2h hH2l⊢
  have hjr2:=hE hJ2
  have hwl2:w.length≤1000000000:=by omega
  by_cases hbk:dEs w=true
  ·rw[J4 hbk]at hv
   refine aC (Γ:=bC [(31,.pure true dIf)]) [26,0,5,6] (aH dKm aO) rfl rfl rfl (fun K hK=>?_)
   simp(disch:=omega) only[Try.f13,go_sem,↓reduceIte,hH2u,hbk,hwl2,iA]
   refine hK _ ?_
   refine aB (eC (.tmp 26) rfl rfl rfl (fun h=>?_) (fun h=>?_))
   ·refine aI rfl ?_
    clear h
    replace hv:=aJ hv;obtain⟨L,hL,hv⟩:=hv
    replace hv:=aP hv;obtain⟨hLb,hv⟩:=hv
    obtain⟨W,hW⟩: ∃x,dGe ⟨⟨d,0,[],0#64⟩,s,m,C⟩ z=x:=⟨_,rfl⟩
    rw[hW]at hv
    simp only[Option.some.injEq,Prod.mk.injEq]at hv
    obtain⟨rfl,rfl⟩:=hv
    have hbg: ∀nx2,aPt [.op j 0] H2 nx2=some (dHr j W.1,cS j W.2 H2,nx2+opN):=fun nx2=>by
     show(aK (mJ H2 j) fun t=>aK (uK t.C.rows) fun z=>aK (mM t.C 0 t.C.rows.length) fun L=>aN ((t.C.dead=false∧DG t.C z.toNat)∧(64≤z∧z≤4096)∧dEs L=true∧t.C.rows.length≤4096)
      (some (dHr j (dGe t z.toNat).1,cS j (dGe t z.toNat).2 H2,nx2+opN)))=_
     rw[hjr2,aX]
     simp only
     rw[hz,aX,hL,aX,cU _ ⟨⟨hdd,by simpa using hG⟩,⟨hz0,hz1⟩,hLb,hrl⟩,U2,hW]
    have hin: ∀q oo,cS j W.2 hp q=some oo→cS j W.2 H2 q=some oo:=fun q oo hq=>by
     unfold cS at hq⊢
     refine eL (fun a ao ha=>?_) q oo hq
     rw[bJ]at ha⊢
     by_cases f1:a=j
     ·rw[J4 f1]at ha⊢;exact ha
     rw[J3 f1]at ha⊢
     exact hH2h a ao (by rw[bJ,J3 f1];exact ha)
    by_cases hw0:W.1=0
    ·have hbA:dHr j W.1=.tup [.op j 0,.v (.slice none 0 0),.i 0]:=J4 hw0
     refine aA rfl (aC (Γ:=bC [(32,.heap aPt)]) [2,3,4] (aH dNc aO) rfl rfl rfl (fun K hK=>?_))
     simp(disch:=omega) only[Try.f13,go_sem,↓reduceIte,hH2v,hbg,hbA]
     refine hK _ ?_
     refine aB (aS rfl (bI ?_))
     rw[hbA]
     exact⟨rfl,hin,by simp only;omega⟩
    have hbA:dHr j W.1=.tup [.v (.pointer none),.v (.slice none 0 0),.i W.1]:=J3 hw0
    refine aA rfl (aC (Γ:=bC [(32,.heap aPt)]) [2,3,4] (aH dNc aO) rfl rfl rfl (fun K hK=>?_))
    simp(disch:=omega) only[Try.f13,go_sem,↓reduceIte,hH2v,hbg,hbA]
    refine hK _ ?_
    refine aB (aS rfl (bI ?_))
    rw[hbA]
    exact⟨rfl,hin,by simp only;omega⟩
   refine aI rfl ?_
   cases h
  rw[J3 hbk]at hv
  have hbk2:dEs w=false:=by simpa using hbk
  refine aC (Γ:=bC [(31,.pure true dIf)]) [26,0,5,6] (aH dKm aO) rfl rfl rfl (fun K hK=>?_)
  simp(disch:=omega) only[Try.f13,go_sem,↓reduceIte,hH2u,hbk2,hwl2,iA]
  refine hK _ ?_
  refine aB (eC (.tmp 26) rfl rfl rfl (fun h=>?_) (fun h=>?_))
  ·refine aI rfl ?_
   cases h
  refine aI rfl ?_
  clear h
  refine aQ rfl (aB (aA rfl (bA [0,5,6,8] rfl rfl rfl fun K hK=>?_)))
  simp(disch:=omega) only[Try.f13,go_sem,↓reduceIte]
  refine hK _ ?_
  refine aB ?_
  replace hv:=aP hv;obtain⟨hok,hv⟩:=hv
  replace hv:=aJ hv;obtain⟨L,hL,hv⟩:=hv
  replace hv:=aP hv;obtain⟨⟨hnL,hn6⟩,hv⟩:=hv
  replace hv:=aJ hv;obtain⟨R,hR,hv⟩:=hv
  simp only[Option.some.injEq,Prod.mk.injEq]at hv
  obtain⟨rfl,rfl⟩:=hv
  have hsd2:(w.getD 8 0#8).toNat<2:=by have:=hok.sd;rw[BitVec.lt_def]at this;exact this
  obtain⟨y,hy⟩: ∃y,nx+773=y:=⟨_,rfl⟩
  rw[hy]
  have hJ3:=hJ2.upd y (.cells [.i 0] true) (by omega) (by simp only;omega) (by simp only;omega) (by simp only;omega)
  have hH3v:(upd H2 y (.cells [.i 0] true)) v=some (.cells [.op j 0] true):=by rw[bJ,J3 (by omega)];exact hH2v
  have hH3u:(upd H2 y (.cells [.i 0] true)) u=some (.cells [.sl w.length (c8 w)] true):=by rw[bJ,J3 (by omega)];exact hH2u
  have hH3y:(upd H2 y (.cells [.i 0] true)) y=some (.cells [.i 0] true):=by rw[bJ,J4 rfl]
  have hH3h: ∀q oo,(upd hp j (.cells [.op d 0,.i 0,.sl 0 [],.w64 0#64] true)) q=some oo→(upd H2 y (.cells [.i 0] true)) q=some oo:=fun q oo hq=>by
   have h1:=hH2h q oo hq
   have h2:=hH2l q oo h1
   rw[bJ,J3 (by omega)];exact h1
  obtain⟨H3,hH3⟩: ∃x,(upd H2 y (.cells [.i 0] true))=x:=⟨_,rfl⟩
  rw[hH3]at hJ3 hH3v hH3u hH3y hH3h⊢
  have hjr3:=hE hJ3
  obtain⟨sd,hsd⟩: ∃x,(w.getD 8 0#8).toNat=x:=⟨_,rfl⟩
  obtain⟨n,hn⟩: ∃x,(hN w).toNat=x:=⟨_,rfl⟩
  rw[hsd]at hL hsd2⊢
  rw[hn]at hL hnL hn6 hR⊢
  have hca: ∀nx2,dIe [.fn 34 [.op v 0,.op u 0,.op y 0]] H3 nx2=some (.i 0,upd (cS j ⟨⟨d,sd,[],hC w⟩,s,m,C⟩ H3) y (.cells [.i n] true),nx2+5000):=fun nx2=>by
   show(aK (o1G [.op v 0,.op u 0,.op y 0] H3 nx2) fun r=>some (AV.i 0,r.2.1,nx2+5000))=_
   unfold o1G
   simp only
   rw[dFk hH3v,aX,dFk hH3u,aX,dFk hH3y,aX]
   simp only
   rw[iA,aX,cU _ rfl,hjr3,aX]
   unfold o1H
   simp only
   rw[hz,aX,cU _ ⟨⟨⟨⟨by omega,by omega⟩,by omega,by omega⟩,hok⟩,by omega,by omega,by omega,by omega⟩,aX,hsd,hn]
  have hJ4:mE (upd (cS j ⟨⟨d,sd,[],hC w⟩,s,m,C⟩ H3) y (.cells [.i n] true)) j ⟨⟨d,sd,[],hC w⟩,s,m,C⟩:=
   (dFb H3 j ⟨⟨d,sd,[],hC w⟩,s,m,C⟩ hD.ne.1 hD.ne.2.1 hD.ne.2.2.1 hJ3.ne).upd y _ (by omega) (by simp only;omega) (by simp only;omega) (by simp only;omega)
  have hsJ: ∀q,q≠j→q≠d→q≠s→q≠m→cS j ⟨⟨d,sd,[],hC w⟩,s,m,C⟩ H3 q=H3 q:=fun q f1 f2 f3 f4=>by
   unfold cS
   rw[mH _ _ _ _ _ _ f2 f3 f4,bJ,J3 f1]
  have hH4v:(upd (cS j ⟨⟨d,sd,[],hC w⟩,s,m,C⟩ H3) y (.cells [.i n] true)) v=some (.cells [.op j 0] true):=by
   rw[bJ,J3 (by omega),hsJ v (by omega) (by omega) (by omega) (by omega)];exact hH3v
  have hH4y:(upd (cS j ⟨⟨d,sd,[],hC w⟩,s,m,C⟩ H3) y (.cells [.i n] true)) y=some (.cells [.i n] true):=by rw[bJ,J4 rfl]
  have hH4h: ∀q oo,q≠j→hp q=some oo→(upd (cS j ⟨⟨d,sd,[],hC w⟩,s,m,C⟩ H3) y (.cells [.i n] true)) q=some oo:=fun q oo f1 hq=>by
   have h0:=hlt _ _ hq
   rw[bJ,J3 (by omega)]
   have hs1:bO d s m C hp q=some oo:=by rw[mC hD];exact hq
   unfold cS
   refine eL (fun a ao ha=>?_) q oo hs1
   have h1:=hlt _ _ ha
   rw[bJ,J3 (by omega)]
   exact hH3h a ao (by rw[bJ,J3 (by omega)];exact ha)
  obtain⟨H4,hH4⟩: ∃x,(upd (cS j ⟨⟨d,sd,[],hC w⟩,s,m,C⟩ H3) y (.cells [.i n] true))=x:=⟨_,rfl⟩
  rw[hH4]at hJ4 hH4v hH4y hH4h
  simp only[hH4]at hca
  have hjr4:=hE hJ4
  have hj4:=hJ4.hj
  have hd4:=dFt hJ4
  simp only at hj4 hd4
  refine aA rfl (aA rfl (aC (Γ:=bC [(33,.heap dIe)]) [0,5,7,8] (aH dNb aO) rfl rfl rfl (fun K hK=>?_)))
  simp(disch:=omega) only[Try.f13,go_sem,↓reduceIte,hca]
  refine hK _ ?_
  refine aB (aA rfl (bA [35,0,5,7,8] rfl rfl rfl fun K hK=>?_))
  simp(disch:=omega) only[Try.f13,go_sem,↓reduceIte]
  refine hK _ ?_
  refine aB (eC (.tmp 35) rfl rfl rfl (fun h=>?_) (fun h=>?_))
  ·refine aI rfl ?_
   cases h
  refine aI rfl ?_
  clear h
  refine aQ rfl (aB (aA rfl ?_))
  have hsec:eH C≤2048:=by unfold eH;omega
  have hsz:eH C*z≤2048*4096:=Nat.mul_le_mul hsec (by omega)
  have hmost:n≤eH C*z:=by
   have h1:=hok.le
   rw[BitVec.le_def,hn,show((eH C:Int)*(z:Int))=((eH C*z:Nat):Int)from(Int.natCast_mul _ _).symm,BitVec.ofInt_natCast,BitVec.toNat_ofNat,Nat.mod_eq_of_lt (by omega)]at h1
   exact h1
  have hcnt:(n+z-1)/z≤eH C:=by
   have:(n+z-1)/z<eH C+1:=(Nat.div_lt_iff_lt_mul (by omega)).2 (by rw[Nat.add_mul,Nat.one_mul];omega)
   omega
  have hsb:sd*eH C≤eH C:=by
   rcases(by omega:sd=0∨sd=1)with rfl|rfl<;>omega
  have esd:(sd:Int)*(eH C:Int)=((sd*eH C:Nat):Int):=(Int.natCast_mul _ _).symm
  have edv:((n:Int)+(z:Int)-1).tdiv (z:Int)=(((n+z-1)/z:Nat):Int):=by
   rw[show(n:Int)+(z:Int)-1=((n+z-1:Nat):Int)by omega];rfl
  have hs2:2*eH C+1≤C.rows.length:=by unfold eH;omega
  obtain⟨sb,hsbe⟩: ∃x,sd*eH C=x:=⟨_,rfl⟩
  obtain⟨cn,hcn⟩: ∃x,(n+z-1)/z=x:=⟨_,rfl⟩
  rw[hsbe]at hL hsb esd
  rw[hcn]at hL hcnt edv
  have hz0': ¬((z:Int)=0):=by omega
  have t1:(1+(sb:Int)).toNat=1+sb:=by omega
  have g1:1≤C.rows.length∧C.rows.length≤4096:=by omega
  have g2:(1+(sb:Int))+(cn:Int)≤(C.rows.length:Int):=by omega
  have hLl:=dEt hL
  have hLn:(L.take n).length=n:=by rw[List.length_take];omega
  refine aYa (Γ:=bC [(36,.heap dFy),(37,.heap dGx),(30,.heap dIa)]) (fun k=>if k=0 then true else if k=1 then true else if k=4 then true else if k=5 then true else if k=6 then true else if k=9 then true else if k=11 then true else if k=15 then true else false) [(0,1),(0,4),(0,5),(1,5),(4,5),(0,6),(1,6),(4,6),(0,9),(1,9),(4,9),(5,9),(6,9),(0,11),(1,11),(4,11),(9,11),(0,15),(1,15),(4,15),(9,15)] (fun k=>if k=17 then 0 else if k=15 then 0 else if k=11 then 0 else if k=6 then 0 else 2) [5,7,8,9] mixed (aH dKl (aH ok9 (aH dKn aO))) rfl rfl rfl (by kernel_rfl) (fun K hK=>?_)
  simp(maxSteps:=400000) (disch:=omega) only[Try.f13,go_sem,and_self,and_true,true_and,↓reduceIte,hH4v,hj4,hjr4,hd4,hH4y,hz,g1,esd,edv,hz0',hdd,g2,t1,U2,hL,true_and,and_self]
  refine hK _ ?_
  refine aB (aA rfl (aA rfl (bA [59,5,7,8,9] rfl rfl rfl fun K hK=>?_)))
  simp(disch:=omega) only[Try.f13,go_sem,↓reduceIte]
  refine hK _ ?_
  refine aB (eC (.tmp 59) rfl rfl rfl (fun h=>?_) (fun h=>?_))
  ·refine aI rfl ?_
   cases h
  refine aI rfl ?_
  clear h
  refine aQ rfl (aB (aA rfl (aYa (Γ:=aL) (fun k=>if k=0 then true else if k=2 then true else false) [(0,2)] (fun _=>2) [5] mixed (aD _ _) rfl rfl rfl (by kernel_rfl) (fun K hK=>?_))))
  simp(maxSteps:=400000) (disch:=omega) only[Try.f13,go_sem,and_self,and_true,true_and,↓reduceIte,hH4v,hj4,hH4y,U2,rH,Nat.sub_zero]
  refine hK _ ?_
  refine aB ?_
  obtain⟨X,hX⟩: ∃x,L.take n=x:=⟨_,rfl⟩
  rw[hX]at hLn hR⊢
  have hJ5:mE (upd H4 j (.cells [.op d 0,.i sd,.sl n (c8 X),.w64 (hC w)] true)) j ⟨⟨d,sd,X,hC w⟩,s,m,C⟩:=
   ⟨by rw[bJ,J4 rfl,←hLn],hJ4.hd.upd j _ (by simp only;omega) (by simp only;omega) (by simp only;omega),hJ4.ne⟩
  have hH5v:(upd H4 j (.cells [.op d 0,.i sd,.sl n (c8 X),.w64 (hC w)] true)) v=some (.cells [.op j 0] true):=by rw[bJ,J3 (by omega)];exact hH4v
  have hH5h: ∀q oo,(upd hp j (.cells [.op d 0,.i sd,.sl n (c8 X),.w64 (hC w)] true)) q=some oo→(upd H4 j (.cells [.op d 0,.i sd,.sl n (c8 X),.w64 (hC w)] true)) q=some oo:=fun q oo hq=>by
   rw[bJ]at hq⊢
   by_cases f1:q=j
   ·rw[J4 f1]at hq⊢;exact hq
   rw[J3 f1]at hq⊢;exact hH4h q oo f1 hq
  obtain⟨H5,hH5⟩: ∃x,(upd H4 j (.cells [.op d 0,.i sd,.sl n (c8 X),.w64 (hC w)] true))=x:=⟨_,rfl⟩
  rw[hH5]at hJ5 hH5v hH5h⊢
  obtain⟨p,hp0⟩: ∃p,y+2+3+5000+2+23+100+50+50+500+200*cn+2+7=p:=⟨_,rfl⟩
  rw[hp0]
  refine aA rfl (bA [5,10] rfl rfl rfl fun K hK=>?_)
  simp(disch:=omega) only[Try.f13,go_sem,↓reduceIte]
  refine hK _ ?_
  refine aB ?_
  have hJ6:=hJ5.upd p (.cells [.v (.slice none 0 0)] true) (by omega) (by simp only;omega) (by simp only;omega) (by simp only;omega)
  have hjr6:=hE hJ6
  have hH6v:(upd H5 p (.cells [.v (.slice none 0 0)] true)) v=some (.cells [.op j 0] true):=by rw[bJ,J3 (by omega)];exact hH5v
  have hH6p:(upd H5 p (.cells [.v (.slice none 0 0)] true)) p=some (.cells [.v (.slice none 0 0)] true):=by rw[bJ,J4 rfl]
  have hcb: ∀nx2,dIe [.fn 38 [.op v 0,.op p 0]] (upd H5 p (.cells [.v (.slice none 0 0)] true)) nx2=some (.i 0,upd (upd H5 p (.cells [.v (.slice none 0 0)] true)) p (.cells [.sl R.length (cP R)] true),nx2+5000):=fun nx2=>by
   show(aK (o2G [.op v 0,.op p 0] (upd H5 p (.cells [.v (.slice none 0 0)] true)) nx2) fun r=>some (AV.i 0,r.2.1,nx2+5000))=_
   unfold o2G
   simp only
   rw[dFk hH6v,aX,dFk hH6p,aX]
   simp only
   rw[hjr6,aX,cU _ (by simp only;omega)]
   simp only
   rw[hLn,hR,aX,aX]
  refine aA rfl (aA rfl (aC (Γ:=bC [(33,.heap dIe)]) [5,7,10] (aH dNb aO) rfl rfl rfl (fun K hK=>?_)))
  simp(disch:=omega) only[Try.f13,go_sem,↓reduceIte,hcb]
  refine hK _ ?_
  refine aB (aA rfl (bA [70,5,7,10] rfl rfl rfl fun K hK=>?_))
  simp(disch:=omega) only[Try.f13,go_sem,↓reduceIte]
  refine hK _ ?_
  refine aB (eC (.tmp 70) rfl rfl rfl (fun h=>?_) (fun h=>?_))
  ·refine aI rfl ?_
   cases h
  refine aI rfl ?_
  clear h
  refine aQ rfl (aB (aA rfl ?_))
  have hH7v:(upd (upd H5 p (.cells [.v (.slice none 0 0)] true)) p (.cells [.sl R.length (cP R)] true)) v=some (.cells [.op j 0] true):=by rw[bJ,J3 (by omega)];exact hH6v
  refine aYa (Γ:=aL) (fun k=>if k=0 then true else if k=1 then true else false) [(0,1)] (fun _=>2) [2,3,4] mixed (aD _ _) rfl rfl rfl (by kernel_rfl) (fun K hK=>?_)
  simp(maxSteps:=400000) (disch:=omega) only[Try.f13,go_sem,and_self,and_true,true_and,↓reduceIte,hH5v]
  refine hK _ ?_
  refine aB (aS rfl ?_)
  have hd5:cS j ⟨⟨d,sd,X,hC w⟩,s,m,C⟩ hp=upd hp j (.cells [.op d 0,.i sd,.sl n (c8 X),.w64 (hC w)] true):=by
   unfold cS
   simp only
   rw[hLn,mC (hD.upd j _ (by omega) (by omega) (by omega))]
  rw[hd5]
  refine⟨rfl,fun q oo hq=>?_,by simp only;omega⟩
  have hqn:q<nx+59:=by
   rw[bJ]at hq
   by_cases f1:q=j
   ·omega
   rw[J3 f1]at hq
   have:=hlt _ _ hq
   omega
  simp only[bJ]
  rw[J3 (by omega)]
  exact hH5h q oo hq
 cases hg
theorem dKo:bX Try.prog GLh 13 (.heap dFi):=⟨⟨_,Try.func13,rfl,rfl⟩,dOd⟩
end Go.AX

namespace Go.AX
open Go Go.Proofs
set_option maxRecDepth 8000
def dPd (g:List AV→H→Nat→Option (AV×H×Nat)):List AV→H→Nat→Option (AV×H×Nat)
 |[a,b,x,d],hp,nx=>aK (dW hp x) fun y=>g [a,b,y.1,d] y.2 nx
 |_,_,_=>none
theorem dJo {P:Program} {GL:Nat→Option (List AV)} {f:FuncId} {g:List AV→H→Nat→Option (AV×H×Nat)} (h:cQ P GL f g):cQ P GL f (dPd g):=by
 intro c σ I w hp nx args vals r hp' nx' hGL hi hs hr hg
 unfold dPd at hg
 split at hg
 ·rename_i a b x d
  replace hg:=aJ hg;obtain⟨⟨y,hp1⟩,hy,hg⟩:=hg
  have hah:fV hp [x]=some ([y],hp1):=by simp only[fV,hy,aX]
  obtain⟨I1,b1,b2,b3,b4⟩:=pO (c:=c) (σ:=σ) (w:=w) [x] (I:=I) (fun _=>vals.getD 2 undef) hah hi (fun i hi'=>by
   have:i=0:=by simp at hi';exact hi'
   subst this
   exact hr 2 (by simp))
  have hy2:Rel σ I1 w y (vals.getD 2 undef):=b4 0 (by simp)
  have hm: ∀i (hi':i<[a,b,y,d].length),Rel σ I1 w [a,b,y,d][i] (vals.getD i undef):=fun i hi'=>by
   have g0:=hr 0 (by simp)
   have g1:=hr 1 (by simp)
   have g3:=hr 3 (by simp)
   have hg1:Grow σ I w σ I1 w:=⟨fun _ _=>rfl,b1,fun _ _=>rfl⟩
   match i,hi' with
   |0,_=>exact g0.grow hg1
   |1,_=>exact g1.grow hg1
   |2,_=>exact hy2
   |3,_=>exact g3.grow hg1
  obtain⟨e1,hc⟩:=h c σ I1 w hp1 nx [a,b,y,d] vals r hp' nx' hGL b2 (by rw[hs];rfl) hm hg
  refine⟨e1,hc.mono ?_⟩
  rintro e w' ⟨v,σ',I',q1,q2,q3,q4,q5⟩
  exact⟨v,σ',I',q1,q2,q3,(⟨fun _ _=>rfl,b1,fun _ _=>rfl⟩:Grow σ I w σ I1 w).trans q4,q5⟩
 cases hg
noncomputable def dOq:List AV→H→Nat→Option (AV×H×Nat):=dPd dHy
theorem dMg (j:Nat) (side f:Int) (x:AV) (hp:H) (nx:Nat):dOq [.op j 0,.i side,x,.i f] hp nx=aK (dW hp x) fun y=>dHy [.op j 0,.i side,y.1,.i f] y.2 nx:=(rfl)
attribute [go_sem] dMg
theorem dOp (j:Nat) (side f:Int) (b:List B8) (hp:H) (nx:Nat):dHy [.op j 0,.i side,.sl b.length (c8 b),.i f] hp nx=dHw j side b f hp nx:=dHx j side f b hp nx
theorem dOi:bX Try.prog GLh 42 (.heap dOq):=⟨⟨_,Try.func42,rfl,rfl⟩,dJo dKr⟩
theorem dIv: ∀ {l:List (List B8)} {rm:Int},dEo l rm=true→0≤rm→(uL l:Int)≤rm
 |[],rm,_,h0=>by simpa [uL]using h0
 |x::r,rm,h,h0=>by
  rw[dEo]at h
  split at h
  ·cases h
  have:=dIv h (by omega)
  rw[uL];omega
theorem dPf (m:Nat) (b:Bool) (G):fpC m (some (.fresh b G))=.all:=(rfl)
attribute [go_sem] dPf
@[irreducible] def cmN : Nat := 50000000
theorem dLi:cmN=50000000:=by unfold cmN;rfl
def cmJ (t:JT) (l:List (List B8)) (z:Nat):Int×JT:=
 if dEo l ((eH t.C:Int)*z-t.J.b.length)=true then jwV t t.J.side (t.J.b++eR l) t.J.b.length z else(90,t)
noncomputable def cmG:List AV→H→Nat→Option (AV×H×Nat)
 |[.op j 0,.sl n xs],hp,nx=>aK (mJ hp j) fun t=>aK (unP xs) fun l=>aK (uK t.C.rows) fun z=>
   aN ((l.length=n∧n≤1000000∧uL l≤900000)∧(0≤t.J.side∧t.J.side≤1)∧DG t.C z.toNat∧(64≤z∧z≤4096)∧t.J.b.length≤100000∧t.J.b.length≤eH t.C*z.toNat)
    (some (.i (cmJ t l z.toNat).1,cS j (cmJ t l z.toNat).2 hp,nx+cmN))
 |_,_,_=>none
set_option maxHeartbeats 4000000 in
theorem dRm:cQ Try.prog GLh 14 cmG:=by
 refine gF Try.func14 (aT rfl) ?_
 intro args hp nx r hp' nx' hg
 unfold cmG at hg
 split at hg
 ·rename_i j n xs
  replace hg:=aJ hg;obtain⟨⟨⟨d,sd,b,co⟩,s,m,C⟩,hJ0,hg⟩:=hg
  replace hg:=aJ hg;obtain⟨l,hl,hg⟩:=hg
  replace hg:=aJ hg;obtain⟨z0,hz,hg⟩:=hg
  replace hg:=aP hg;obtain⟨⟨⟨hn,hn6,hlb⟩,hside,hG,⟨hz0,hz1⟩,hb5,hbz⟩,hg⟩:=hg
  have:=aIb hl;subst this
  have hJ:=mA hJ0
  simp only[Option.some.injEq,Prod.mk.injEq]at hg hJ hG hz hbz hside hb5;obtain⟨rfl,rfl,rfl⟩:=hg
  subst hn
  obtain⟨z,rfl⟩:=Int.eq_ofNat_of_zero_le (show 0≤z0 by omega)
  simp only[U2]at*
  have hO:=dLi
  have hN:=dHz
  refine⟨J1 rfl,by omega,fun hnone=>?_⟩
  have hlt: ∀k o,hp k=some o→k<nx:=fun k o hk=>cA hnone hk
  have h1:=hJ.hj
  have hD:=hJ.hd
  simp only at h1 hD
  obtain⟨l1,l2,l3⟩:=hD.lt hlt
  have hjl:=hlt _ _ h1
  have hrl:=hG.le
  have hrn:=hG.ne
  have g1:1≤C.rows.length∧C.rows.length≤4096:=by omega
  have hsec:eH C≤2048:=by unfold eH;omega
  have hsz:eH C*z≤2048*4096:=Nat.mul_le_mul hsec (by omega)
  have esz:(eH C:Int)*(z:Int)=((eH C*z:Nat):Int):=(Int.natCast_mul _ _).symm
  obtain⟨mo,hmo⟩: ∃x,eH C*z=x:=⟨_,rfl⟩
  unfold cmJ
  simp only
  rw[esz]
  rw[hmo]at hbz hsz esz⊢
  have hfl:=dFd l
  have g4:uL l≤100000000:=by omega
  have g5:uL l≤1000000000:=by omega
  refine aA rfl (bA [0,1] rfl rfl rfl fun K hK=>?_)
  simp(disch:=omega) only[Try.f14,go_sem,↓reduceIte]
  refine hK _ ?_
  refine aB (aA rfl (aA rfl (aYa (Γ:=bC [(41,.heap dJm),(40,.pure true dHl)]) (fun k=>if k=2 then true else if k=6 then true else false) [(2,6)] (fun k=>if k=9 then 0 else if k=2 then 0 else 2) [15,0,1] mixed (aH dNa (aH dQn aO)) rfl rfl rfl (by kernel_rfl) (fun K hK=>?_))))
  simp(maxSteps:=400000) (disch:=omega) only[Try.f14,go_sem,and_self,and_true,true_and,↓reduceIte,h1,hJ0,hz,g1,hz1,esz,hn6,g5,true_and,and_self]
  refine hK _ ?_
  refine aB ?_
  by_cases hf:dEo l ((mo:Int)-(b.length:Int))=true
  ·rw[J4 hf]
   simp only[hf,Bool.not_true]
   have hfl2:=dIv hf (by omega)
   obtain⟨F,hF⟩: ∃x,eR l=x:=⟨_,rfl⟩
   rw[hF]at hfl⊢
   have hbF:(b++F).length=b.length+F.length:=List.length_append
   have hcon:dEv [.sl 2 [.sl b.length (c8 b),.sl F.length (c8 F)]]=some ((b++F).length,1,c8 (b++F)):=by
    have h1:unP [.sl b.length (c8 b),.sl F.length (c8 F)]=some [b,F]:=bFj [b,F]
    have h2:gO [b,F]=b++F:=by simp[gO]
    rw[dGa,h1,aX,h2,cU _ ⟨rfl,by decide,by omega⟩]
   refine eC (.tmp 15) rfl rfl rfl (fun h=>?_) (fun h=>?_)
   ·refine aI rfl ?_
    cases h
   refine aI rfl ?_
   clear h
   refine aQ rfl (aB (aA rfl ?_))
   obtain⟨R,hR⟩: ∃x,jwV ⟨⟨d,sd,b,co⟩,s,m,C⟩ sd (b++F) b.length z=x:=⟨_,rfl⟩
   rw[hR]
   have hjw: ∀(k1 k2:Nat) (o1 o2:AO) (nx2:Nat),nx≤k1→nx≤k2→dHy [.op j 0,.i sd,.sl (b.length+F.length) (c8 (b++F)),.i b.length] (upd (upd hp k1 o1) k2 o2) nx2=some (.i R.1,cS j R.2 (upd (upd hp k1 o1) k2 o2),nx2+jwN):=fun k1 k2 o1 o2 nx2 q1 q2=>by
    rw[←hbF,dOp]
    unfold dHw
    rw[hE ((hJ.upd k1 o1 (by omega) (by simp only;omega) (by simp only;omega) (by simp only;omega)).upd k2 o2 (by omega) (by simp only;omega) (by simp only;omega) (by simp only;omega)),aX]
    simp only
    rw[hz,aX,cU _ ⟨⟨hside.1,hside.2,by omega,by omega⟩,by simpa using hG,⟨hz0,hz1⟩,by simp only[U2];rw[hmo];omega⟩,U2,U2,hR]
   refine aYa (Γ:=bC [(44,.pure false dLa),(43,.fresh true dEv),(42,.heap dOq)]) (fun k=>if k=4 then true else if k=8 then true else if k=11 then true else if k=12 then true else if k=16 then true else false) [(4,8),(4,11),(4,12),(4,16),(8,16),(11,16),(12,16)] (fun k=>if k=18 then 0 else if k=12 then 0 else if k=10 then 1 else 2) [4] mixed (aH dQm (aH ok76 (aH dOi aO))) rfl rfl rfl (by kernel_rfl) (fun K hK=>?_)
   simp(maxSteps:=400000) (disch:=omega) only[Try.f14,go_sem,and_self,and_true,true_and,ne_eq,not_false_eq_true,↓reduceIte,h1,hn6,g4,hF,hcon,hjw,dGs,iM,bFj,true_and,and_self]
   refine hK _ ?_
   refine aB (aS rfl ?_)
   refine⟨rfl,fun q oo hq=>?_,by simp only;omega⟩
   unfold cS at hq⊢
   refine eL (fun a ao ha=>?_) q oo hq
   simp only[bJ]at ha⊢
   by_cases f1:a=j
   ·rw[J4 f1]at ha⊢;exact ha
   rw[J3 f1]at ha⊢
   have:=hlt _ _ ha
   rw[J3 (by omega),J3 (by omega)];exact ha
  rw[J3 hf]
  have hf2:dEo l ((mo:Int)-(b.length:Int))=false:=by simpa using hf
  simp only[hf2,Bool.not_false]
  refine eC (.tmp 15) rfl rfl rfl (fun h=>?_) (fun h=>?_)
  ·refine aI rfl (aA rfl (bA [4] rfl rfl rfl fun K hK=>?_))
   simp(disch:=omega) only[Try.f14,go_sem,↓reduceIte]
   refine hK _ ?_
   refine aB (aS rfl (bI ?_))
   have hsj:cS j ⟨⟨d,sd,b,co⟩,s,m,C⟩ hp=hp:=by
    have h1:=dEi hJ C
    simp only at h1
    rw[h1,mC hD]
   rw[hsj]
   exact⟨rfl,fun q o hq=>hq,by simp only;omega⟩
  refine aI rfl ?_
  cases h
 cases hg
theorem dUe:bX Try.prog GLh 14 (.heap cmG):=⟨⟨_,Try.func14,rfl,rfl⟩,dRm⟩
end Go.AX

namespace Go.AX
open Go Go.Proofs
set_option maxRecDepth 8000
def dJq:List AV→Option AV
 |[.sl n xs,.sl m ys]=>aK (cI xs) fun l=>aK (cI ys) fun l2=>aN (l.length=n∧l2.length=m) (some (.b (decide (l=l2))))
 |_=>none
theorem cvb5 (hp hp2:H) (cx id:Nat) (x:AV) (sd:Bool):cvF hp hp2 cx id x Try.prog.underlying sd (some (.slice 5)) (some .string)=aK (fG hp2 1 x) fun nl=>aK (cI nl.2) fun l=>some (.s l,hp,cx):=aXn _ _ _ _ _ _ _ _ Try.underlying5
attribute [go_sem] cvb5
theorem dMr (n m:Nat) (xs ys:List AV):dJq [.sl n xs,.sl m ys]=aK (cI xs) fun l=>aK (cI ys) fun l2=>aN (l.length=n∧l2.length=m) (some (.b (decide (l=l2)))):=(rfl)
attribute [go_sem] dMr
theorem dPg:cL Try.prog GLh 51 dJq:=by
 refine cC Try.func51 (aT rfl) ?_
 intro args r hg
 unfold dJq at hg
 split at hg
 ·rename_i n xs m ys
  replace hg:=aJ hg;obtain⟨a,ha,hg⟩:=hg
  replace hg:=aJ hg;obtain⟨b,hb,hg⟩:=hg
  replace hg:=aP hg;obtain⟨⟨rfl,rfl⟩,hg⟩:=hg
  obtain rfl:=J0 hg
  have:=bW ha
  change xs=c8 a at this
  subst this
  have:=bW hb
  change ys=c8 b at this
  subst this
  refine⟨J1 rfl,fun nx=>?_⟩
  refine aA rfl (bA [0,1] rfl rfl rfl fun K hK=>?_)
  simp(disch:=omega) only[Try.f51,go_sem,↓reduceIte]
  refine hK _ ?_
  refine aB (aA rfl (bA [4] rfl rfl rfl fun K hK=>?_))
  simp(disch:=omega) only[Try.f51,go_sem,↓reduceIte,iM,Nat.mul_one,iA]
  refine hK _ ?_
  refine aB (aS rfl ?_)
  simp(disch:=omega) only[cN,bV,bK,bQ,Try.f51,go_sem,↓reduceIte]
 cases hg
theorem dMz:bX Try.prog GLh 51 (.pure true dJq):=⟨⟨_,Try.func51,rfl,rfl⟩,dPg⟩
def dLl:List AV→Option AV
 |[.sl n xs,.sl m ys]=>aK (unP xs) fun a=>aK (unP ys) fun b=>aN (a.length=n∧b.length=m∧n≤1000000∧m≤1000000) (some (.b (decide (a=b))))
 |_=>none
theorem dMw (n m:Nat) (xs ys:List AV):dLl [.sl n xs,.sl m ys]=aK (unP xs) fun a=>aK (unP ys) fun b=>aN (a.length=n∧b.length=m∧n≤1000000∧m≤1000000) (some (.b (decide (a=b)))):=(rfl)
attribute [go_sem] dMw
theorem dHt {a b:List (List B8)} {k:Nat} (ha:k<a.length) (hb:k<b.length) (h:a.take k=b.take k) (e:a.getD k []=b.getD k []):a.take (k+1)=b.take (k+1):=by
 rw[List.getD_eq_getElem?_getD,List.getD_eq_getElem?_getD,List.getElem?_eq_getElem ha,List.getElem?_eq_getElem hb]at e
 simp only[Option.getD_some]at e
 rw[List.take_add_one,List.take_add_one,h,List.getElem?_eq_getElem ha,List.getElem?_eq_getElem hb,e]
set_option maxHeartbeats 1000000 in
theorem dPr:cL Try.prog GLh 21 dLl:=by
 refine cC Try.func21 (aT rfl) ?_
 intro args r hg
 unfold dLl at hg
 split at hg
 ·rename_i n xs m ys
  replace hg:=aJ hg;obtain⟨a,ha,hg⟩:=hg
  replace hg:=aJ hg;obtain⟨b,hb,hg⟩:=hg
  replace hg:=aP hg;obtain⟨⟨hn,hm,hbig,hbig2⟩,hg⟩:=hg
  obtain rfl:=J0 hg
  have:=aIb ha;subst this
  have:=aIb hb;subst this
  subst hn;subst hm
  clear hg ha hb
  refine⟨J1 rfl,fun nx=>?_⟩
  refine aA rfl (bA [0,1] rfl rfl rfl fun K hK=>?_)
  simp(disch:=omega) only[Try.f21,go_sem,↓reduceIte]
  refine hK _ ?_
  refine aB (aA rfl (aA rfl (bA [10,0,1] rfl rfl rfl fun K hK=>?_)))
  simp(disch:=omega) only[Try.f21,go_sem,↓reduceIte]
  refine hK _ ?_
  refine aB (xF (.tmp 10) rfl rfl rfl (fun h=>?_) (fun h=>?_))
  ·refine aI rfl ?_
   have hl:decide (a=b)=false:=J6 (fun e=>h (by rw[e]))
   refine aA rfl (bA [4] rfl rfl rfl fun K hK=>?_)
   simp(disch:=omega) only[Try.f21,go_sem,↓reduceIte]
   refine hK _ ?_
   refine aB (aS rfl (bI ?_))
   simp(disch:=omega) only[cN,bV,bK,bQ,Try.f21,go_sem,↓reduceIte,hl]
  refine aI rfl ?_
  have hab:a.length=b.length:=by omega
  clear h
  refine aQ rfl (aB (aA rfl (aA rfl (bA [0,1,5] rfl rfl rfl fun K hK=>?_))))
  simp(disch:=omega) only[Try.f21,go_sem,↓reduceIte]
  refine hK _ ?_
  refine aB (aR 0 rfl rfl (bR (fun p:KC=> {fr:=[(0,.sl a.length (cP a)),(1,.sl b.length (cP b)),(5,.i p.k)],hp:=fun _=>none,nx:=0,cx:=p.c}) (fun p=>p.k≤a.length∧a.take p.k=b.take p.k) (fun p=>a.length-p.k) rfl ⟨⟨0,_⟩,⟨Nat.zero_le _,rfl⟩,bD rfl rfl (U3 _)⟩ ?_))
  rintro⟨k,c⟩ ⟨hk,ht⟩ n0
  simp only at hk ht⊢
  refine aA rfl (aA rfl (bA [14,0,1,5] rfl rfl rfl fun K hK=>?_))
  simp(disch:=omega) only[Try.f21,go_sem,↓reduceIte]
  refine hK _ ?_
  refine aB (aW (.tmp 14) rfl rfl rfl (fun h=>?_) (fun h=>?_))
  ·refine aI rfl ?_
   have hka:k<a.length:=by omega
   have hkb:k<b.length:=by omega
   have h1:=aXs a k hka
   have h2:=aXs b k hkb
   obtain⟨x,hx⟩: ∃x,a.getD k []=x:=⟨_,rfl⟩
   obtain⟨y,hy⟩: ∃x,b.getD k []=x:=⟨_,rfl⟩
   clear h
   refine aQ rfl (aB (aA rfl (aR 1 rfl rfl (aA rfl ?_))))
   by_cases hxy:x=y
   ·have dxy:decide (x=y)=true:=J5 hxy
    refine bB (Γ:=bC [(51,.pure true dJq)]) (fun k=>if k=8 then 0 else 2) [26,0,1,5] mixed (aH dMz aO) rfl rfl rfl (by kernel_rfl) (fun K hK=>?_)
    simp(disch:=omega) only[Try.f21,go_sem,↓reduceIte,hx,hy,iA,dxy,Bool.not_true]
    refine hK _ ?_
    refine aB (eC (.tmp 26) rfl rfl rfl (fun h=>?_) (fun h=>?_))
    ·refine aI rfl ?_
     cases h
    refine aI rfl ?_
    clear h
    refine aQ rfl (bU (aB (bA [0,1,5] rfl rfl rfl fun K hK=>?_)))
    simp(disch:=omega) only[Try.f21,go_sem,↓reduceIte]
    refine hK _ ?_
    refine bT ?_
    refine⟨⟨k+1,_⟩,⟨by simp only;omega,dHt hka hkb ht (by rw[hx,hy,hxy])⟩,by simp only;omega,bD ?_ rfl (U3 _)⟩
    simp only[Int.natCast_add,Int.natCast_one]
   have dxy:decide (x=y)=false:=J6 hxy
   refine bB (Γ:=bC [(51,.pure true dJq)]) (fun k=>if k=8 then 0 else 2) [26,0,1,5] mixed (aH dMz aO) rfl rfl rfl (by kernel_rfl) (fun K hK=>?_)
   simp(disch:=omega) only[Try.f21,go_sem,↓reduceIte,hx,hy,iA,dxy,Bool.not_false]
   refine hK _ ?_
   refine aB (eC (.tmp 26) rfl rfl rfl (fun h=>?_) (fun h=>?_))
   ·refine aI rfl ?_
    have hl:decide (a=b)=false:=J6 (fun e=>hxy (by rw[←hx,←hy,e]))
    refine aA rfl (bA [4] rfl rfl rfl fun K hK=>?_)
    simp(disch:=omega) only[Try.f21,go_sem,↓reduceIte]
    refine hK _ ?_
    refine aB (aS rfl (bN (bI (dF (bN (bI ?_))))))
    simp(disch:=omega) only[cN,bV,bK,bQ,Try.f21,go_sem,↓reduceIte,hl]
   refine aI rfl ?_
   cases h
  refine aI rfl ?_
  obtain rfl:k=a.length:=by omega
  have hl:decide (a=b)=true:=J5 (by rw[List.take_length,hab,List.take_length]at ht;exact ht)
  refine bF 0 rfl rfl (aY (aZ (bE (aB (aA rfl (bA [4] rfl rfl rfl fun K hK=>?_))))))
  simp(disch:=omega) only[Try.f21,go_sem,↓reduceIte]
  refine hK _ ?_
  refine aB (aS rfl ?_)
  simp(disch:=omega) only[cN,bV,bK,bQ,Try.f21,go_sem,↓reduceIte,hl]
 cases hg
theorem dQt:bX Try.prog GLh 21 (.pure true dLl):=⟨⟨_,Try.func21,rfl,rfl⟩,dPr⟩
end Go.AX

namespace Go.AX
open Go Go.Proofs
set_option maxRecDepth 8000
def QC (rows:List (List B8)):DC:=⟨rows,true,[],-1,false⟩
theorem dQa (i:Int):srt [i]=[i]:=List.mergeSort_singleton _
theorem dPt (rows:List (List B8)):mL (QC rows)=(0,QC rows):=(rfl)
theorem dIy (rows:List (List B8)) (i:Int) (b:List B8):mL ⟨rows,true,[(i,b)],-1,false⟩=(0,QC (rows.set i.toNat b)):=by
 have e:dFn (fun _=>true) ⟨rows,true,[(i,b)],-1,false⟩=QC (rows.set i.toNat b):=by
  unfold dFn
  simp only[List.map_cons,List.map_nil,dQa,List.length_cons,List.length_nil]
  simp[mG,iK,QC]
 show(0,dFn (fun _=>true) ⟨rows,true,[(i,b)],-1,false⟩)=_
 rw[e]
theorem dRs (rows:List (List B8)) (i:Nat) (h:i<rows.length):atV (QC rows) i=0:=by
 unfold atV
 rw[J3 (by simp[QC]),J3 (by simp only[QC];omega)]
theorem dNg (rows:List (List B8)) (i:Nat) (b:List B8) (z:Nat) (h:i<rows.length) (hb:b.length=z):wrV (QC rows) i b z=(0,⟨rows,true,[((i:Int),b)],-1,false⟩):=by
 unfold wrV
 rw[J4 (dRs rows i h),J4 (by omega)]
 rfl
theorem dLm (d s m:Nat) (sd side:Int) (bb b:List B8) (co:W64) (rows:List (List B8)) (z:Nat) (hz:64≤z) (hr:0<rows.length):
  dGi ⟨⟨d,sd,bb,co⟩,s,m,QC rows⟩ side b z=(0,⟨⟨d,side,b,co+1#64⟩,s,m,QC (rows.set 0 (hdV z side b.length co))⟩):=by
 have hw:=dNg rows 0 (hdV z side b.length co) z hr (dEm hz side b.length co)
 have h0:((0:Nat):Int)=0:=rfl
 rw[h0]at hw
 unfold dGi
 simp only[hw]
 rw[J3 (by simp),dIy]
 simp
theorem dPu (d s m:Nat) (sd side:Int) (bb b:List B8) (co:W64) (rows:List (List B8)) (z:Nat) (hz:64≤z) (hr:0<rows.length):
  dFm ⟨⟨d,sd,bb,co⟩,s,m,QC rows⟩ side b z=(0,⟨⟨d,side,b,co+1#64⟩,s,m,QC (rows.set 0 (hdV z side b.length co))⟩):=by
 unfold dFm
 simp only[dPt]
 rw[J3 (by simp)]
 exact dLm d s m sd side bb b co rows z hz hr
theorem dMy (d s m:Nat) (sd side:Int) (bb b:List B8) (co:W64) (rows:List (List B8)) (i:Int) (x:List B8) (z:Nat) (hz:64≤z) (hr:0<rows.length):
  dFm ⟨⟨d,sd,bb,co⟩,s,m,⟨rows,true,[(i,x)],-1,false⟩⟩ side b z=(0,⟨⟨d,side,b,co+1#64⟩,s,m,QC ((rows.set i.toNat x).set 0 (hdV z side b.length co))⟩):=by
 unfold dFm
 simp only[dIy]
 rw[J3 (by simp)]
 exact dLm d s m sd side bb b co _ z hz (by rw[List.length_set];exact hr)
theorem dRr (d s m:Nat) (sd side:Int) (bb:List B8) (co:W64) (rows:List (List B8)) (z:Nat) (hz:64≤z) (hr:0<rows.length):
  jwV ⟨⟨d,sd,bb,co⟩,s,m,QC rows⟩ side [] 0 z=(0,⟨⟨d,side,[],co+1#64⟩,s,m,QC (rows.set 0 (hdV z side 0 co))⟩):=by
 have e:wlV z (1+side*eH (QC rows)) [] 4097 (QC rows) (0/z)=(0,QC rows):=by
  rw[show(4097:Nat)=4096+1 from rfl,wlV,J4 (by simp)]
 unfold jwV
 simp only[e]
 rw[J3 (by simp)]
 exact dPu d s m sd side bb [] co rows z hz hr
theorem dRq (d s m:Nat) (sd:Int) (b:List B8) (co:W64) (rows:List (List B8)) (z:Nat) (hz:64≤z) (hr:1<rows.length) (hb:0<b.length) (hbz:b.length≤z):
  jwV ⟨⟨d,sd,[],co⟩,s,m,QC rows⟩ 0 b 0 z=(0,⟨⟨d,0,b,co+1#64⟩,s,m,QC ((rows.set 1 (dEr z b 0)).set 0 (hdV z 0 b.length co))⟩):=by
 have e:wlV z (1+0*eH (QC rows)) b 4097 (QC rows) (0/z)=(0,⟨rows,true,[((1:Int),dEr z b 0)],-1,false⟩):=by
  have hw:=dNg rows 1 (dEr z b 0) z hr (dEq z b 0)
  rw[Nat.zero_div,Int.zero_mul,show(4097:Nat)=4095+1+1 from rfl,wlV,J3 (by omega)]
  have h1:(1:Int)+0+((0:Nat):Int)=((1:Nat):Int):=rfl
  rw[h1,hw,J3 (by simp),wlV,J4 (by omega)]
  rfl
 unfold jwV
 simp only[e]
 rw[J3 (by simp)]
 exact dMy d s m sd 0 [] b co rows 1 (dEr z b 0) z hz (by omega)
theorem dJb {rows:List (List B8)} {z:Nat} (h0:0<rows.length) (h1: ∀r∈rows,r.length=z) (h2:rows.length≤4096):DG (QC rows) z:=
 ⟨h0,h1,fun p hp=>(by cases hp),fun p hp=>(by cases hp),List.nodup_nil,h2⟩
theorem dNh (rows:List (List B8)) (i:Nat):rdV (QC rows) i=rows[i]?:=(rfl)
theorem dGt (rows:List (List B8)) (i:Nat) {b:List B8} (h:rows[i]? =some b) (hb:0<b.length∧b.length≤4096):mM (QC rows) i 1=some b:=by
 rw[mM,mM,aX,Nat.add_zero,dNh,h,aX,cU _ hb]
 rfl
theorem dIx: ∀n k:Nat,ixN (List.replicate n 0#8) k= -1
 |0,_=>rfl
 |n+1,k=>by rw[List.replicate_succ,ixN,J4 rfl];exact dIx n (k+1)
theorem dHq (n:Nat):dEs (List.replicate n 0#8)=true:=by unfold dEs;rw[dIx];rfl
theorem dIz (N z:Nat) (hz:0<z∧z≤4096): ∀n,n≤N→mM (QC (List.replicate N (List.replicate z 0#8))) 0 n=some (List.replicate (n*z) 0#8)
 |0,_=>by rw[Nat.zero_mul];rfl
 |n+1,h=>by
  rw[mM,dIz N z hz n (by omega),aX,Nat.zero_add,dNh,List.getElem?_replicate,J4 (by omega),aX,cU _ (by rw[List.length_replicate];exact hz),List.replicate_append_replicate,Nat.succ_mul]
end Go.AX

namespace Go.AX
open Go Go.Proofs
set_option maxRecDepth 8000
theorem Inv.deep {c:Ctx} {σ:Nat→Loc} {I:Nat→Prop} {w:World} {hp hp':H} {un:Nat→Prop} (h:Inv c σ I w hp un) {i:Nat} {xs ys:List AV} (ho:hp i=some (.cells xs true)) (hf:uU hp xs=some (ys,hp')) (hk:hp' i=some (.cells xs true)):
  ∃I',Inv c σ I' w (upd hp' i (.cells ys true)) un∧Grow σ I w σ I' w:=by
 have h3:=h.own i _ ho
 simp only[cF]at h3
 have hr: ∃us:Nat→Value,∀k (_h:k<xs.length),xs[k].isCell=true∧Rel σ I w xs[k] (us k):=by
  cases e:σ i with
  |unset=>simp only[e]at h3
  |nil=>simp only[e]at h3;subst h3;exact⟨fun _=>undef,fun k hk=>by simp at hk⟩
  |at_ blk base sz=>
   simp only[e]at h3
   obtain⟨⟨⟨cs,T,lo,hi,q1,q2,q3,q4,q5⟩,q6⟩,q7⟩:=h3
   exact⟨fun k=>cs.getD (base+k) undef,fun k hk=>⟨q6 k hk,q5 k hk⟩⟩
 clear hr
 have key: ∀us:Nat→Value,(∀k (_h:k<xs.length),xs[k].isCell=true∧Rel σ I w xs[k] (us k))→∃I',Inv c σ I' w hp' un∧Grow σ I w σ I' w∧ys.length=xs.length∧(∀k (_h:k<ys.length),ys[k].isCell=true∧Rel σ I' w ys[k] (us k)):=fun us hus=>aCx hf h hus
 have get: ∀id o,upd hp' i (.cells ys true) id=some o→(id=i∧o=.cells ys true)∨(id≠i∧hp' id=some o):=by
  intro id o h
  simp only[upd]at h
  split at h
  ·rename_i e;exact .inl ⟨e,(J0 h).symm⟩
  ·rename_i e;exact .inr ⟨e,h⟩
 have fin: ∀I',Inv c σ I' w hp' un→cF σ I' w i (.cells ys true)→Inv c σ I' w (upd hp' i (.cells ys true)) un:=by
  intro I' g hown
  refine {g with own:=fun id o h1=>?_,inj:=fun id id' oo o' blk base sz base' sz' h1 h2 h3' hne hs=>?_,lim:=fun id oo blk base sz h1 h2 hs=>?_}
  ·rcases get id o h1 with⟨rfl,rfl⟩|⟨_,h2⟩
   ·exact hown
   ·exact g.own id o h2
  ·rcases get id _ h1 with⟨rfl,e1⟩|⟨_,g3⟩
   ·rcases get id' _ h3' with⟨e2,_⟩|⟨_,h4⟩
    ·exact absurd e2.symm hne
    ·exact g.inj id id' (.cells xs true) o' blk base sz base' sz' hk rfl h4 hne hs
   ·rcases get id' _ h3' with⟨rfl,_⟩|⟨_,h4⟩
    ·exact g.inj id id' oo (.cells xs true) blk base sz base' sz' g3 h2 hk hne hs
    ·exact g.inj id id' oo o' blk base sz base' sz' g3 h2 h4 hne hs
  ·rcases get id _ h1 with⟨rfl,e1⟩|⟨_,g3⟩
   ·exact g.lim id (.cells xs true) blk base sz hk rfl hs
   ·exact g.lim id oo blk base sz g3 h2 hs
 cases e:σ i with
 |unset=>simp only[e]at h3
 |nil=>
  simp only[e]at h3
  subst h3
  obtain⟨I',a1,a2,a3,a4⟩:=key (fun _=>undef) (fun k hk=>by simp at hk)
  refine⟨I',fin I' a1 ?_,a2⟩
  simp only[cF,e]
  exact List.eq_nil_of_length_eq_zero a3
 |at_ blk base sz=>
  simp only[e]at h3
  obtain⟨⟨⟨cs,T,lo,hi,q1,q2,q3,q4,q5⟩,q6⟩,q7⟩:=h3
  obtain⟨I',a1,a2,a3,a4⟩:=key (fun k=>cs.getD (base+k) undef) (fun k hk=>⟨q6 k hk,q5 k hk⟩)
  refine⟨I',fin I' a1 ?_,a2⟩
  have h4:=a1.own i _ hk
  simp only[cF,e]at h4⊢
  obtain⟨_,p7⟩:=h4
  exact⟨⟨⟨cs,T,lo,hi,q1,q2,by omega,q4,fun k hk'=>(a4 k hk').2⟩,fun k hk'=>(a4 k hk').1⟩,p7⟩
open Classical in
noncomputable def dHn (g:List AV→H→Nat→Option (AV×H×Nat)):List AV→H→Nat→Option (AV×H×Nat)
 |[a,.os id off n e gg],hp,nx=>aK (hp id) fun o=>match o with
  | .cells xs true=>aK (uU hp xs) fun y=>aK (y.2 id) fun o2=>match o2 with
   | .cells zs true=>if zs=xs then aK (dW (upd y.2 id (.cells y.1 true)) (.os id off n e gg)) fun x=>g [a,x.1] x.2 nx else none
   |_=>none
  |_=>none
 |[a,x],hp,nx=>g [a,x] hp nx
 |_,_,_=>none
theorem dIb {P:Program} {GL:Nat→Option (List AV)} {f:FuncId} {g:List AV→H→Nat→Option (AV×H×Nat)} (h:cQ P GL f g):cQ P GL f (dHn g):=by
 intro c σ I w hp nx args vals r hp' nx' hGL hi hs hr hg
 unfold dHn at hg
 split at hg
 ·rename_i a id off n e gg
  replace hg:=aJ hg;obtain⟨o,ho,hg⟩:=hg
  split at hg
  ·rename_i xs
   replace hg:=aJ hg;obtain⟨⟨ys,hp1⟩,hy,hg⟩:=hg
   replace hg:=aJ hg;obtain⟨o2,ho2,hg⟩:=hg
   simp only at ho2 hg
   split at hg
   ·rename_i zs
    split at hg
    ·rename_i hz
     subst hz
     replace hg:=aJ hg;obtain⟨⟨y,hp2⟩,hx,hg⟩:=hg
     obtain⟨I1,b1,b2⟩:=hi.deep ho hy ho2
     have g0:=(hr 0 (by simp)).grow b2
     have g1:=(hr 1 (by simp)).grow b2
     have hah:fV (upd hp1 id (.cells ys true)) [.os id off n e gg]=some ([y],hp2):=by simp only[fV,hx,aX]
     obtain⟨I2,c1,c2,c3,c4⟩:=pO (c:=c) (σ:=σ) (w:=w) [.os id off n e gg] (I:=I1) (fun _=>vals.getD 1 undef) hah b1 (fun i hi'=>by
      have:i=0:=by simp at hi';exact hi'
      subst this
      exact g1)
     have hy2:Rel σ I2 w y (vals.getD 1 undef):=c4 0 (by simp)
     have hg2:Grow σ I1 w σ I2 w:=⟨fun _ _=>rfl,c1,fun _ _=>rfl⟩
     have hm: ∀i (hi':i<[a,y].length),Rel σ I2 w [a,y][i] (vals.getD i undef):=fun i hi'=>by
      match i,hi' with
      |0,_=>exact g0.grow hg2
      |1,_=>exact hy2
     obtain⟨e1,hc⟩:=h c σ I2 w hp2 nx [a,y] vals r hp' nx' hGL c2 (by rw[hs];rfl) hm hg
     refine⟨e1,hc.mono ?_⟩
     rintro e w' ⟨v,σ',I',q1,q2,q3,q4,q5⟩
     exact⟨v,σ',I',q1,q2,q3,(b2.trans hg2).trans q4,q5⟩
    cases hg
   cases hg
  cases hg
 ·exact h c σ I w hp nx _ vals r hp' nx' hGL hi hs hr hg
 cases hg
end Go.AX

namespace Go.AX
open Go Go.Proofs
set_option maxRecDepth 8000
theorem dFp (A M:List B8) (k:Nat):jM (A++List.replicate k 0#8) A.length M=A++M++List.replicate (k-M.length) 0#8:=by
 unfold jM
 rw[List.take_left,←List.drop_drop,List.drop_left,List.drop_replicate]
theorem dLv (A:List B8) (k:Nat) (x:B8):(A++List.replicate (k+1) 0#8).set A.length x=A++[x]++List.replicate k 0#8:=by
 rw[List.set_append_right _ _ (U3 _),Nat.sub_self,List.replicate_succ,List.set_cons_zero,List.append_assoc]
 rfl
def hA1 (side:Int):List B8:=aMv 8 dFx++[BitVec.ofInt 8 side]
def hA2 (side:Int) (n:Nat):List B8:=hA1 side++aMv 8 (BitVec.ofInt 64 n)
def hdA (side:Int) (n:Nat) (co:W64):List B8:=hA2 side n++aMv 8 (co+1#64)
def hdC (side:Int) (n:Nat) (co:W64):List B8:=aMv 4 (BitVec.setWidth 64 (dGd (hdA side n co)))
theorem dIs (side:Int):(hA1 side).length=9:=by rw[hA1,List.length_append,bH];rfl
theorem dIr (side:Int) (n:Nat):(hA2 side n).length=17:=by rw[hA2,List.length_append,bH,dIs]
theorem dFr (side:Int) (n:Nat) (co:W64):(hdA side n co).length=25:=by rw[hdA,List.length_append,bH,dIr]
theorem dRj {k:Nat} (side:Int) (n:Nat) (co:W64):hd4 (k+29) side n co=hdA side n co++List.replicate (k+4) 0#8:=by
 have h1:hd1 (k+29)=aMv 8 dFx++List.replicate (k+20+1) 0#8:=by
  have:=dFp [] (aMv 8 dFx) (k+29)
  rw[bH]at this
  exact this
 have h2:hd2 (k+29) side=hA1 side++List.replicate (k+20) 0#8:=by
  have:=dLv (aMv 8 dFx) (k+20) (BitVec.ofInt 8 side)
  rw[bH]at this
  rw[hd2,h1]
  exact this
 have h3:hd3 (k+29) side n=hA2 side n++List.replicate (k+12) 0#8:=by
  have:=dFp (hA1 side) (aMv 8 (BitVec.ofInt 64 n)) (k+20)
  rw[dIs,bH]at this
  rw[hd3,h2]
  exact this
 have:=dFp (hA2 side n) (aMv 8 (co+1#64)) (k+12)
 rw[dIr,bH]at this
 rw[hd4,h3]
 exact this
theorem dKw {k:Nat} (side:Int) (n:Nat) (co:W64):hdV (k+29) side n co=hdA side n co++hdC side n co++List.replicate k 0#8:=by
 have h4:=@dRj k side n co
 have ht:(hd4 (k+29) side n co).take 25=hdA side n co:=by rw[h4,←dFr side n co,List.take_left]
 have:=dFp (hdA side n co) (hdC side n co) (k+4)
 rw[dFr,show(hdC side n co).length=4 from bH _ _]at this
 rw[hdV,ht,h4]
 exact this
theorem sh8 (w:W64):(w>>>8) <<<8|||BitVec.setWidth 64 (BitVec.setWidth 8 w)=w:=by
 apply BitVec.eq_of_getLsbD_eq
 intro i hi
 by_cases h:i<8
 ·simp[h,hi]
 simp[h,hi,show 8+(i-8)=i by omega]
theorem dHb (n:Nat) (v:W64) (h0:v>>>(8*n)=0#64): ∀k,k≤n→mI ((aMv n v).take k)=v>>>(8*(n-k))
 |0,_=>by rw[U1,Nat.sub_zero,h0];rfl
 |k+1,h=>by
  have hd:(aMv n v).getD k 0#8=BitVec.setWidth 8 (v>>>(8*(n-(k+1)))):=by
   rw[aMv,List.getD_eq_getElem?_getD,List.getElem?_map,List.getElem?_range (by omega)]
   show dHu n v k=_
   rw[dHu,show n-1-k=n-(k+1)by omega]
  have hr:=dHb n v h0 k (by omega)
  unfold mI at hr⊢
  rw[dGj _ _ _ (by rw[bH];omega),hr,hd,show 8*(n-k)=8*(n-(k+1))+8 by omega,BitVec.shiftRight_add]
  exact sh8 _
theorem dIt (n:Nat) (v:W64) (h0:v>>>(8*n)=0#64):mI (aMv n v)=v:=by
 have:=dHb n v h0 n (U3 _)
 rw[List.take_of_length_le (Nat.le_of_eq (bH n v)),Nat.sub_self,Nat.mul_zero,BitVec.ushiftRight_zero]at this
 exact this
theorem dQc (v:W64) (n:Nat) (h:v.toNat<2^n):v>>>n=0#64:=by
 apply BitVec.eq_of_toNat_eq
 rw[BitVec.toNat_ushiftRight,Nat.shiftRight_eq_div_pow,Nat.div_eq_of_lt h]
 rfl
theorem dFz (v:W64):mI (aMv 8 v)=v:=dIt 8 v (dQc v 64 v.isLt)
theorem dHj (v:W64) (h:v.toNat<4294967296):mI (aMv 4 v)=v:=dIt 4 v (dQc v 32 h)
theorem dOx {z:Nat} (hz:64≤z) (side:Int) (n:Nat) (co:W64):(hdV z side n co).take 25=hdA side n co:=by
 obtain⟨k,rfl⟩: ∃k,z=k+29:=⟨z-29,by omega⟩
 rw[dKw,List.append_assoc,←dFr side n co,List.take_left]
theorem dPb {z:Nat} (hz:64≤z) (side:Int) (n:Nat) (co:W64):((hdV z side n co).drop 25).take 4=hdC side n co:=by
 obtain⟨k,rfl⟩: ∃k,z=k+29:=⟨z-29,by omega⟩
 rw[dKw,List.append_assoc,←dFr side n co,List.drop_left,show 4=(hdC side n co).length from(bH _ _).symm,List.take_left]
theorem dKv {z:Nat} (hz:64≤z) (side:Int) (n:Nat) (co:W64): ∃r,hdV z side n co=aMv 8 dFx++([BitVec.ofInt 8 side]++(aMv 8 (BitVec.ofInt 64 n)++(aMv 8 (co+1#64)++r))):=by
 obtain⟨k,rfl⟩: ∃k,z=k+29:=⟨z-29,by omega⟩
 refine⟨hdC side n co++List.replicate k 0#8,?_⟩
 rw[dKw,hdA,hA2,hA1]
 simp only[List.append_assoc]
theorem dJw {A B:List B8} {k:Nat} (h:A.length=k):(A++B).take k=A:=by rw[←h,List.take_left]
theorem dPi {A B:List B8} {k:Nat} (h:A.length=k):(A++B).drop k=B:=by rw[←h,List.drop_left]
theorem dIp {z:Nat} (hz:64≤z) (side:Int) (n:Nat) (co:W64):(hdV z side n co).take 8=aMv 8 dFx∧(hdV z side n co).getD 8 0#8=BitVec.ofInt 8 side∧((hdV z side n co).drop 9).take 8=aMv 8 (BitVec.ofInt 64 n)∧((hdV z side n co).drop 17).take 8=aMv 8 (co+1#64):=by
 obtain⟨r,hr⟩:=dKv hz side n co
 have l8:(aMv 8 dFx).length=8:=bH _ _
 have d9:(hdV z side n co).drop 9=aMv 8 (BitVec.ofInt 64 n)++(aMv 8 (co+1#64)++r):=by
  rw[hr,show 9=8+1 from rfl,←List.drop_drop,dPi l8];rfl
 refine⟨by rw[hr,dJw l8],?_,?_,?_⟩
 ·rw[List.getD_eq_getElem?_getD,hr,List.getElem?_append_right (by omega),l8];rfl
 ·rw[d9,dJw (bH _ _)]
 rw[show 17=9+8 from rfl,←List.drop_drop,d9,dPi (bH _ _),dJw (bH _ _)]
theorem dKx {z:Nat} (hz:64≤z) (side:Int) (n:Nat) (co:W64) (hn:n<18446744073709551616):(hN (hdV z side n co)).toNat=n:=by
 rw[hN,(dIp hz side n co).2.2.1,dFz,BitVec.ofInt_natCast,BitVec.toNat_ofNat,Nat.mod_eq_of_lt hn]
theorem dRi {z:Nat} (hz:64≤z) (side:Int) (n:Nat) (co:W64):hC (hdV z side n co)=co+1#64:=by
 rw[hC,(dIp hz side n co).2.2.2,dFz]
theorem dOz {z:Nat} (hz:64≤z) (hz2:z≤4096) (side:Int) (n:Nat) (co:W64) (hs:side=0∨side=1) {mo:Nat} (hn:n≤mo) (hm:mo≤100000000):OKH (mo:Int) (hdV z side n co):=by
 obtain⟨f1,f2,f3,f4⟩:=dIp hz side n co
 refine⟨by rw[f1,dFz],?_,?_,?_,?_,?_⟩
 ·rw[f2];rcases hs with rfl|rfl<;>decide
 ·rw[dPb hz,dOx hz,hdC,dHj _ (by have:=(dGd (hdA side n co)).isLt;rw[BitVec.toNat_setWidth];omega)]
 ·rw[BitVec.le_def,dKx hz _ _ _ (by omega),BitVec.ofInt_natCast,BitVec.toNat_ofNat,Nat.mod_eq_of_lt (by omega)];exact hn
 ·rw[dKx hz _ _ _ (by omega)];omega
 rw[dEm hz];omega
theorem dOy {z:Nat} (hz:64≤z) (side:Int) (n:Nat) (co:W64) (hs:side=0∨side=1):(((hdV z side n co).getD 8 0#8).toNat:Int)=side:=by
 rw[(dIp hz side n co).2.1]
 rcases hs with rfl|rfl<;>rfl
theorem dPa {z:Nat} (hz:64≤z) (side:Int) (n:Nat) (co:W64):dEs (hdV z side n co)=false:=by
 obtain⟨r,hr⟩:=dKv hz side n co
 rw[hr]
 have:aMv 8 dFx=0x73#8::(aMv 8 dFx).tail:=by decide
 rw[this]
 unfold dEs
 rfl
theorem dHa: ∀(l:List (List B8)) (n:Nat),l.length<n→(∀x∈l,x.length<4294967296)→dFc n (eR l)=some l
 |[],n,h,_=>by
  obtain⟨m,rfl⟩: ∃m,n=m+1:=⟨n-1,by simp at h;omega⟩
  rw[dFc];exact J4 rfl
 |x::r,n,h,hx=>by
  obtain⟨m,rfl⟩: ∃m,n=m+1:=⟨n-1,by simp at h;omega⟩
  have h1:=hx x (List.mem_cons_self ..)
  have hr:=dHa r m (by simp at h;omega) (fun y hy=>hx y (List.mem_cons_of_mem _ hy))
  have e:eR (x::r)=aMv 4 (BitVec.ofInt 64 x.length)++(x++eR r):=by
   simp only[eR,List.flatMap_cons,dKg,List.append_assoc]
  have g4:mI ((eR (x::r)).take 4)=BitVec.ofInt 64 x.length:=by
   rw[e,dJw (bH _ _),dHj]
   rw[BitVec.ofInt_natCast,BitVec.toNat_ofNat,Nat.mod_eq_of_lt (by omega)];exact h1
  have gn:(mI ((eR (x::r)).take 4)).toNat=x.length:=by
   rw[g4,BitVec.ofInt_natCast,BitVec.toNat_ofNat,Nat.mod_eq_of_lt (by omega)]
  have hl:(eR (x::r)).length=4+(x.length+(eR r).length):=by rw[e,List.length_append,bH,List.length_append]
  rw[dFc,J3 (fun q=>by rw[q]at hl;simp at hl;omega),J3 (by rw[gn];omega),gn,←List.drop_drop,e,dPi (bH _ _),List.drop_left,List.take_left,hr]
  rfl
end Go.AX

namespace Go.AX
open Go Go.Proofs
set_option maxRecDepth 8000
def KZ:List B8:=List.replicate 512 0#8
def KR0:List (List B8):=List.replicate 40 KZ
def KR1:List (List B8):=KR0.set 0 (hdV 512 0 0 (0#64-1#64))
def KL:List (List B8):=[[97#8],[98#8,99#8]]
def KR2:List (List B8):=(KR1.set 1 (dEr 512 (eR KL) 0)).set 0 (hdV 512 0 11 0#64)
theorem dLn:KZ.length=512:=List.length_replicate
theorem dEn:KR0.length=40:=List.length_replicate
theorem dDs:KR1.length=40:=by rw[KR1,List.length_set,dEn]
theorem dFh:KR2.length=40:=by rw[KR2,List.length_set,List.length_set,dDs]
theorem dGv: ∀r∈KR0,r.length=512:=fun r h=>by rw[List.eq_of_mem_replicate h,dLn]
theorem dGl {l:List (List B8)} {z:Nat} (h: ∀r∈l,r.length=z) (i:Nat) {x:List B8} (hx:x.length=z): ∀r∈l.set i x,r.length=z:=fun r hr=>by
 rcases List.mem_or_eq_of_mem_set hr with h1|rfl
 ·exact h r h1
 exact hx
theorem dGu: ∀r∈KR1,r.length=512:=dGl dGv 0 (dEm (by decide) _ _ _)
theorem dJa: ∀r∈KR2,r.length=512:=dGl (dGl dGu 1 (dEq _ _ _)) 0 (dEm (by decide) _ _ _)
theorem dFa {l:List (List B8)} {z:Nat} (h: ∀r∈l,r.length=z) (h0:0<l.length):uK l=some (z:Int):=by
 cases l with
 |nil=>simp at h0
 |cons a r=> 
  have:=h a (List.mem_cons_self ..)
  simp only[uK,this]
theorem dGc:(eR KL).length=11:=by rw[dFd];rfl
theorem K40:nwC 40 512=QC KR0:=by
 unfold nwC dGw
 rw[show(wit 40 1 4096).toNat=40 by decide,show(wit 512 64 4096).toNat=512 by decide]
 rfl
theorem dOg {hp:H} {d s m:Nat} (nx:Nat) (h:aZo hp d s m (QC KR0)):dFi [.op d 0] hp nx=some (.tup [.op (nx+58) 0,.v (.slice none 0 0),.i 0],cS (nx+58) ⟨⟨d,0,[],0#64⟩,s,m,QC KR1⟩ hp,nx+100+opN+opN):=by
 unfold dFi
 simp only
 rw[mK h,aX]
 simp only
 rw[show(QC KR0).rows=KR0 from rfl,dFa dGv (by rw[dEn];decide),aX,cU _ ⟨⟨rfl,dJb (by rw[dEn];decide) dGv (by rw[dEn];decide)⟩,by decide,by decide⟩]
 have hb:dEs KZ=true:=dHq 512
 have hL:mM (QC KR0) 0 40=some (List.replicate (40*512) 0#8):=dIz 40 512 (by decide) 40 (by decide)
 have h0:KR0[0]? =some KZ:=by rw[KR0,List.getElem?_replicate];exact J4 (by decide)
 have hB:dGe ⟨⟨d,0,[],0#64⟩,s,m,QC KR0⟩ 512=(0,⟨⟨d,0,[],0#64⟩,s,m,QC KR1⟩):=by
  unfold dGe
  simp only
  rw[dRr d s m 0 0 [] _ _ _ (by decide) (by rw[dEn];decide)]
  simp only[KR1]
  rfl
 unfold dJh
 rw[U2,J3 (by show¬KR0.length<8;rw[dEn];decide),dGt KR0 0 h0 (by rw[dLn];decide),aX,J4 hb,show(QC KR0).rows.length=40 from dEn,hL,aX,cU _ (dHq _),aX,hB]
 rfl
theorem dRn {hp:H} {j d s m:Nat} (nx:Nat) (h:mE hp j ⟨⟨d,0,[],0#64⟩,s,m,QC KR1⟩):cmG [.op j 0,.sl 2 (cP KL)] hp nx=some (.i 0,cS j ⟨⟨d,0,eR KL,1#64⟩,s,m,QC KR2⟩ hp,nx+cmN):=by
 unfold cmG
 simp only
 rw[hE h,aX,bFj,aX]
 simp only
 rw[show(QC KR1).rows=KR1 from rfl,dFa dGu (by rw[dDs];decide),aX,cU _ ⟨by decide,by decide,dJb (by rw[dDs];decide) dGu (by rw[dDs];decide),by decide,by decide,by simp⟩]
 unfold cmJ
 have hs:eH (QC KR1)=19:=by unfold eH;rw[show(QC KR1).rows=KR1 from rfl,dDs]
 simp only[hs]
 rw[J4 (by decide),List.nil_append,show List.length ([]:List B8)=0 from rfl,dRq d s m 0 _ _ _ _ (by decide) (by rw[dDs];decide) (by rw[dGc];decide) (by rw[dGc];decide),dGc]
 rfl
theorem dOf {hp:H} {d s m:Nat} (nx:Nat) (h:aZo hp d s m (QC KR2)):dFi [.op d 0] hp nx=some (.tup [.op (nx+58) 0,.sl 2 (cP KL),.i 0],cS (nx+58) ⟨⟨d,0,eR KL,1#64⟩,s,m,QC KR2⟩ hp,nx+100+opN+opN):=by
 unfold dFi
 simp only
 rw[mK h,aX]
 simp only
 rw[show(QC KR2).rows=KR2 from rfl,dFa dJa (by rw[dFh];decide),aX,cU _ ⟨⟨rfl,dJb (by rw[dFh];decide) dJa (by rw[dFh];decide)⟩,by decide,by decide⟩]
 have hs:eH (QC KR2)=19:=by unfold eH;rw[show(QC KR2).rows=KR2 from rfl,dFh]
 have h0:KR2[0]? =some (hdV 512 0 11 0#64):=by rw[KR2,List.getElem?_set_self (by rw[List.length_set,dDs];decide)]
 have h1:KR2[1]? =some (dEr 512 (eR KL) 0):=by rw[KR2,List.getElem?_set_ne (by decide),List.getElem?_set_self (by rw[dDs];decide)]
 have hz:(64:Nat)≤512:=by decide
 unfold dJh
 rw[J3 (by show¬KR2.length<8;rw[dFh];decide),dGt KR2 0 h0 (by rw[dEm hz];decide),aX,J3 (by rw[dPa hz];decide),hs]
 have hok:OKH (((19:Nat):Int)*((512:Nat):Int)) (hdV 512 0 11 0#64):=dOz hz (by decide) 0 11 0#64 (.inl rfl) (mo:=9728) (by decide) (by decide)
 have hsd:((hdV 512 0 11 0#64).getD 8 0#8).toNat=0:=by have:=dOy hz 0 11 0#64 (.inl rfl);omega
 rw[U2,cU _ hok,hsd,dKx hz _ _ _ (by decide),dRi hz]
 have hL:(dEr 512 (eR KL) 0).take 11=eR KL:=by
  unfold dEr
  rw[jM,U1,List.nil_append]
  have:((eR KL).drop (0*512)).take 512=eR KL:=by rw[Nat.zero_mul,J9,List.take_of_length_le (by rw[dGc];decide)]
  rw[this,dJw dGc]
 rw[show 1+0*19=1 from rfl,show(11+512-1)/512=1 by decide,dGt KR2 1 h1 (by rw[dEq];decide),aX,cU _ (by rw[dEq];decide),hL,dHa KL _ (by decide) (by decide),aX]
 rfl
def KR3:List (List B8):=[List.replicate 64 0#8]
theorem K13:nwC 1 64=QC KR3:=by
 unfold nwC dGw
 rw[show(wit 1 1 4096).toNat=1 by decide,show(wit 64 64 4096).toNat=64 by decide]
 rfl
theorem dOe {hp:H} {d s m:Nat} (nx:Nat) (h:aZo hp d s m (QC KR3)):dFi [.op d 0] hp nx=some (.tup [.v (.pointer none),.v (.slice none 0 0),.i 91],hp,nx+100+opN+opN):=by
 have ha: ∀r∈KR3,r.length=64:=fun r hr=>by rw[List.mem_singleton.1 hr];exact List.length_replicate
 unfold dFi
 simp only
 rw[mK h,aX]
 simp only
 rw[show(QC KR3).rows=KR3 from rfl,dFa ha (by decide),aX,cU _ ⟨⟨rfl,dJb (by decide) ha (by decide)⟩,by decide,by decide⟩]
 unfold dJh
 rw[J4 (by show KR3.length<8;decide),aX]
theorem dRk:dGd [49#8,50#8,51#8,52#8,53#8,54#8,55#8,56#8,57#8]=0xcbf43926#32:=by decide
end Go.AX

namespace Go.AX
open Go Go.Proofs
set_option maxRecDepth 8000
open Classical in
theorem dLg (g:List AV→H→Nat→Option (AV×H×Nat)) (a:AV) (id off n e:Nat) (gg:Bool) (hp:H) (nx:Nat):dHn g [a,.os id off n e gg] hp nx=aK (hp id) fun o=>match o with
  | .cells xs true=>aK (uU hp xs) fun y=>aK (y.2 id) fun o2=>match o2 with
   | .cells zs true=>if zs=xs then aK (dW (upd y.2 id (.cells y.1 true)) (.os id off n e gg)) fun x=>g [a,x.1] x.2 nx else none
   |_=>none
  |_=>none:=(rfl)
attribute [go_sem] dLg
theorem dOj:bX Try.prog GLh 14 (.heap (dHn cmG)):=⟨⟨_,Try.func14,rfl,rfl⟩,dIb dRm⟩
theorem dRg:fM Try.prog 30=true:=by kernel_rfl
theorem dId (hp:H):nT hp []=some ([],hp):=(rfl)
theorem dIc (hp:H) (i off n e:Nat) (g:Bool) (r:List AV):nT hp (.os i off n e g::r)=aK (hp i) fun o=>match o with
  | .cells xs _=>aN (off+n*e≤xs.length) (aK (nT (upd hp i (.cells xs false)) r) fun p=>some (.sl n ((xs.drop off).take (n*e))::p.1,p.2))
  |_=>none:=by
 simp only[nT]
 cases hp i<;>rfl
theorem rep9:rep 9 [AV.w8 0#8]=[.w8 0#8,.w8 0#8,.w8 0#8,.w8 0#8,.w8 0#8,.w8 0#8,.w8 0#8,.w8 0#8,.w8 0#8]:=(rfl)
def dKq:List AV→Option AV
 |[]=>some (.b true)
 |_=>none
theorem dMb:dKq []=some (.b true):=(rfl)
attribute [go_sem] dMb
theorem w40:(wit 40 1 4096).toNat=40:=by decide
theorem w1:(wit 1 1 4096).toNat=1:=by decide
set_option maxHeartbeats 4000000 in
theorem dJj:cL Try.prog GLh 9 dKq:=by
 refine cC Try.func9 (aT rfl) ?_
 intro args r hg
 unfold dKq at hg
 split at hg
 ·obtain rfl:=J0 hg
  refine⟨J1 rfl,fun nx=>?_⟩
  have hO:=dHv
  have hN:=dLi
  refine aA rfl (bA [] rfl rfl rfl fun K hK=>?_)
  simp(disch:=omega) only[Try.f9,go_sem]
  refine hK _ ?_
  refine aB (aA rfl (aC (Γ:=bC [(12,.heap bKg)]) [1] (aH ok7 aO) rfl rfl rfl (fun K hK=>?_)))
  simp(disch:=omega) only[Try.f9,go_sem,↓reduceIte,w40,K40]
  refine hK _ ?_
  refine aB ?_
  obtain⟨d,hd⟩: ∃x,nx+1+2+3=x:=⟨_,rfl⟩
  obtain⟨s,hs⟩: ∃x,nx+1+2+640+3=x:=⟨_,rfl⟩
  obtain⟨m,hm⟩: ∃x,nx+1+2+1=x:=⟨_,rfl⟩
  rw[hd,hs,hm]
  have hD0:aZo (bO d s m (QC KR0) fun _=>none) d s m (QC KR0):=dEp (by omega) (by omega) (by omega)
  have hl0: ∀q o,(bO d s m (QC KR0) fun _=>none) q=some o→q<nx+693:=fun q o hq=>by
   simp only[bO,bJ]at hq
   by_cases f1:q=d
   ·omega
   rw[J3 f1]at hq
   by_cases f2:q=m
   ·omega
   rw[J3 f2]at hq
   by_cases f3:q=s
   ·omega
   rw[J3 f3]at hq
   cases hq
  obtain⟨H0,hH0⟩: ∃x,(bO d s m (QC KR0) fun _=>none)=x:=⟨_,rfl⟩
  rw[hH0]at hD0 hl0⊢
  have hop0:=fun nx=>dOg nx hD0
  refine aA rfl (aC (Γ:=bC [(13,.heap dFi)]) [1,2,3,4] (aH dKo aO) rfl rfl rfl (fun K hK=>?_))
  simp(disch:=omega) only[Try.f9,go_sem,↓reduceIte,hop0]
  refine hK _ ?_
  refine aB ?_
  obtain⟨j,hj⟩: ∃x,nx+1+2+640+50+9+58=x:=⟨_,rfl⟩
  rw[hj]
  have hJ1:mE (cS j ⟨⟨d,0,[],0#64⟩,s,m,QC KR1⟩ H0) j ⟨⟨d,0,[],0#64⟩,s,m,QC KR1⟩:=dFb _ _ _ hD0.ne.1 hD0.ne.2.1 hD0.ne.2.2.1 (by simp only;omega)
  obtain⟨H1,hH1⟩: ∃x,cS j ⟨⟨d,0,[],0#64⟩,s,m,QC KR1⟩ H0=x:=⟨_,rfl⟩
  rw[hH1]at hJ1⊢
  have hcm: ∀(k1 k2 k3 k4 k5 k6:Nat) (o1 o2 o3 o4 o5 o6:AO) (nx2:Nat),nx+800≤k1→nx+800≤k2→nx+800≤k3→nx+800≤k4→nx+800≤k5→nx+800≤k6→
    cmG [.op j 0,.sl 2 [.sl 1 [.w8 97#8],.sl 2 [.w8 98#8,.w8 99#8]]] (upd (upd (upd (upd (upd (upd H1 k1 o1) k2 o2) k3 o3) k4 o4) k5 o5) k6 o6) nx2=some (.i 0,cS j ⟨⟨d,0,eR KL,1#64⟩,s,m,QC KR2⟩ (upd (upd (upd (upd (upd (upd H1 k1 o1) k2 o2) k3 o3) k4 o4) k5 o5) k6 o6),nx2+cmN):=fun k1 k2 k3 k4 k5 k6 o1 o2 o3 o4 o5 o6 nx2 q1 q2 q3 q4 q5 q6=>by
   have hu: ∀ {X:H} (k:Nat) (o:AO),nx+800≤k→mE X j ⟨⟨d,0,[],0#64⟩,s,m,QC KR1⟩→mE (upd X k o) j ⟨⟨d,0,[],0#64⟩,s,m,QC KR1⟩:=fun k o q h=>h.upd k o (by omega) (by simp only;omega) (by simp only;omega) (by simp only;omega)
   exact dRn nx2 (hu k6 o6 q6 (hu k5 o5 q5 (hu k4 o4 q4 (hu k3 o3 q3 (hu k2 o2 q2 (hu k1 o1 q1 hJ1))))))
  refine aA rfl (aA rfl (aC (Γ:=bC [(14,.heap (dHn cmG))]) [38,1] (aH dOj aO) rfl rfl rfl (fun K hK=>?_)))
  simp(disch:=omega) only[Try.f9,go_sem,↓reduceIte,dRg,dIc,dId,hcm]
  refine hK _ ?_
  refine aB ?_
  obtain⟨X,hX⟩: ∃x,(upd (upd (upd (upd (upd (upd H1 (nx+1+2+640+50+9+100+opN+opN+13) (AO.cells [AV.w8 97#8] true))
          (nx+1+2+640+50+9+100+opN+opN+15) (AO.cells [AV.w8 98#8,AV.w8 99#8] true))
         (nx+1+2+640+50+9+100+opN+opN+17)
         (AO.cells
          [AV.os (nx+1+2+640+50+9+100+opN+opN+13) 0 1 1 true,
           AV.os (nx+1+2+640+50+9+100+opN+opN+15) 0 2 1 true]
          true))
        (nx+1+2+640+50+9+100+opN+opN+13) (AO.cells [AV.w8 97#8] false))
       (nx+1+2+640+50+9+100+opN+opN+15) (AO.cells [AV.w8 98#8,AV.w8 99#8] false))
      (nx+1+2+640+50+9+100+opN+opN+17)
      (AO.cells [AV.sl 1 [AV.w8 97#8],AV.sl 2 [AV.w8 98#8,AV.w8 99#8]] false))=x:=⟨_,rfl⟩
  rw[hX]
  clear hX
  have hJ2:mE (cS j ⟨⟨d,0,eR KL,1#64⟩,s,m,QC KR2⟩ X) j ⟨⟨d,0,eR KL,1#64⟩,s,m,QC KR2⟩:=dFb _ _ _ hD0.ne.1 hD0.ne.2.1 hD0.ne.2.2.1 (by simp only;omega)
  obtain⟨H2,hH2⟩: ∃x,cS j ⟨⟨d,0,eR KL,1#64⟩,s,m,QC KR2⟩ X=x:=⟨_,rfl⟩
  rw[hH2]at hJ2⊢
  refine eC (.tmp 38) rfl rfl rfl (fun h=>?_) (fun h=>?_)
  ·refine aI rfl ?_
   cases h
  refine aI rfl ?_
  clear h
  refine aQ rfl (aB (aA rfl ?_))
  have hop2:=fun nx=>dOf nx hJ2.hd
  refine aC (Γ:=bC [(13,.heap dFi)]) [5,6,7] (aH dKo aO) rfl rfl rfl (fun K hK=>?_)
  simp(disch:=omega) only[Try.f9,go_sem,↓reduceIte,hop2]
  refine hK _ ?_
  refine aB ?_
  obtain⟨k,hk⟩: ∃x,nx+1+2+640+50+9+100+opN+opN+21+cmN+9+58=x:=⟨_,rfl⟩
  rw[hk]
  have hJ3:mE (cS k ⟨⟨d,0,eR KL,1#64⟩,s,m,QC KR2⟩ H2) k ⟨⟨d,0,eR KL,1#64⟩,s,m,QC KR2⟩:=dFb _ _ _ hD0.ne.1 hD0.ne.2.1 hD0.ne.2.2.1 (by simp only;omega)
  obtain⟨H3,hH3⟩: ∃x,cS k ⟨⟨d,0,eR KL,1#64⟩,s,m,QC KR2⟩ H2=x:=⟨_,rfl⟩
  rw[hH3]at hJ3⊢
  have hop3: ∀(k1 k2 k3 nx2:Nat),k1≠k2→k1≠k3→k2≠k3→dFi [.op k1 0] (bO k1 k2 k3 (QC KR3) H3) nx2=some (.tup [.v (.pointer none),.v (.slice none 0 0),.i 91],bO k1 k2 k3 (QC KR3) H3,nx2+100+opN+opN):=fun k1 k2 k3 nx2 q1 q2 q3=>dOe nx2 (dEp q1 q2 q3)
  refine aA rfl (aC (Γ:=bC [(12,.heap bKg),(13,.heap dFi)]) [5,6,7,10] (aH ok7 (aH dKo aO)) rfl rfl rfl (fun K hK=>?_))
  simp(disch:=omega) only[Try.f9,go_sem,↓reduceIte,w1,K13,hop3]
  refine hK _ ?_
  refine aB ?_
  have hco: ∀(a b c k1 k2 k3:Nat) (o1 o2 o3:AO) (nx2:Nat),k<a→k<b→k<c→k<k1→k<k2→k<k3→dJn [.op k 0] (bO a b c (QC KR3) (upd (upd (upd H3 k1 o1) k2 o2) k3 o3)) nx2=some (.w64 1#64,bO a b c (QC KR3) (upd (upd (upd H3 k1 o1) k2 o2) k3 o3),nx2+100):=fun a b c k1 k2 k3 o1 o2 o3 nx2 p1 p2 p3 q1 q2 q3=>by
   have hu: ∀ {X:H} (i:Nat) (o:AO),k<i→mE X k ⟨⟨d,0,eR KL,1#64⟩,s,m,QC KR2⟩→mE (upd X i o) k ⟨⟨d,0,eR KL,1#64⟩,s,m,QC KR2⟩:=fun i o q h=>h.upd i o (by omega) (by simp only;omega) (by simp only;omega) (by simp only;omega)
   have hh:=hu a (.cells [.os b 0 (QC KR3).rows.length 1 (QC KR3).g,.mp c,.i (QC KR3).cut,.b (QC KR3).dead] true) p1 (hu c (.mapo (dEz (QC KR3).dirty) true) p3 (hu b (.cells ((QC KR3).rows.map zP) true) p2 (hu k3 o3 q3 (hu k2 o2 q2 (hu k1 o1 q1 hJ3)))))
   rw[dIo,hE (hp:=bO a b c (QC KR3) (upd (upd (upd H3 k1 o1) k2 o2) k3 o3)) hh,aX]
  have kl2:decide (KL=[[97#8],[98#8,99#8]])=true:=by decide
  have crd:decide (dGd [49#8,50#8,51#8,52#8,53#8,54#8,55#8,56#8,57#8]=3421780262#32)=true:=J5 dRk
  have kl1:KL.length=2:=rfl
  refine aA rfl (aC (Γ:=bC [(21,.pure true dLl),(25,.heap dJn),(10,.pure true dFf)]) [0] (aH dQt (aH dQs (aH dHe aO))) rfl rfl rfl (fun K hK=>?_))
  simp(maxSteps:=400000) (disch:=omega) only[Try.f9,go_sem,↓reduceIte,dRg,hco,kl1,kl2,rep9,List.length_cons,List.length_nil,cK,List.nil_append,List.cons_append,U0,U1,J7,J9]
  refine hK _ ?_
  refine aB (aS rfl ?_)
  simp(disch:=omega) only[cN,bV,bK,bQ,Try.f9,go_sem,↓reduceIte]
  rw[crd]
 cases hg
theorem okj9:bX Try.prog GLh 9 (.pure true dKq):=⟨⟨_,Try.func9,rfl,rfl⟩,dJj⟩
end Go.AX

namespace Go.AX
open Go Go.Proofs
set_option maxRecDepth 8000
end Go.AX

namespace Go.AX
open Go Go.Proofs
set_option maxRecDepth 8000
def rsJ (t:JT) (l:List (List B8)) (z:Nat):Int×JT:=
 if dEo l ((eH t.C:Int)*z)=true then jwV t (1-t.J.side) (eR l) 0 z else(90,t)
noncomputable def rsG:List AV→H→Nat→Option (AV×H×Nat)
 |[.op j 0,.sl n xs],hp,nx=>aK (mJ hp j) fun t=>aK (unP xs) fun l=>aK (uK t.C.rows) fun z=>
   aN ((l.length=n∧n≤1000000∧uL l≤900000)∧(0≤t.J.side∧t.J.side≤1)∧DG t.C z.toNat∧(64≤z∧z≤4096)∧t.J.b.length≤100000000)
    (some (.i (rsJ t l z.toNat).1,cS j (rsJ t l z.toNat).2 hp,nx+cmN))
 |_,_,_=>none
end Go.AX

namespace Go.AX
open Go Go.Proofs
set_option maxRecDepth 8000
theorem jK (i:Int) (b:List B8) (q:Int): ∀l:List (Int×List B8),iK q (kT i b l)=if q=i then some b else iK q l
 |[]=>by simp only[kT,iK]
 |p::r=>by
  simp only[kT]
  by_cases e:i=p.1
  ·rw[J4 e]
   simp only[iK]
   by_cases h:q=i
   ·rw[J4 h,J4 h]
   rw[J3 h,J3 h,J3 (by rw[←e];exact h)]
  rw[J3 e]
  simp only[iK]
  by_cases h:q=p.1
  ·rw[J4 h,J3 (by rw[h];exact fun f=>e f.symm),J4 h]
  rw[J3 h,jK i b q r,J3 h]
theorem dSe (kept:Nat→Bool) {ks:List Int} {dirty:List (Int×List B8)} (hk: ∀i∈ks,0≤i∧∃b,iK i dirty=some b) (rows:List (List B8)): ∀k,k≤ks.length→∀q:Nat,
  (mG kept ks dirty rows k)[q]? =rows[q]?∨∃b,iK (q:Int) dirty=some b∧(mG kept ks dirty rows k)[q]? =some b
 |0,_,q=> .inl rfl
 |k+1,h,q=>by
  have ih:=dSe kept hk rows k (by omega) q
  simp only[mG]
  split
  ·have hm:ks.getD k 0∈ks:=by rw[List.getD_eq_getElem?_getD,List.getElem?_eq_getElem (by omega),Option.getD_some];exact List.getElem_mem _
   obtain⟨h0,b,hb⟩:=hk _ hm
   obtain⟨i,hi⟩: ∃i,ks.getD k 0=i:=⟨_,rfl⟩
   rw[hi]at h0 hb⊢
   rw[hb,Option.getD_some]
   by_cases e:i.toNat=q
   ·have:(q:Int)=i:=by omega
    rw[List.getElem?_set,J4 e]
    split
    ·exact .inr ⟨b,by rw[this];exact hb,rfl⟩
    ·rename_i hl
     refine .inl (List.getElem?_eq_none ?_).symm
     have:=dEk kept ks dirty rows k
     omega
   ·rw[List.getElem?_set_ne e];exact ih
  ·exact ih
theorem dSf {ks:List Int} {dirty:List (Int×List B8)} {rows:List (List B8)} (hk: ∀i∈ks,0≤i∧i<(rows.length:Int)∧∃b,iK i dirty=some b): ∀k,k≤ks.length→∀j,j<k→∀b,iK (ks.getD j 0) dirty=some b→
  (mG (fun _=>true) ks dirty rows k)[(ks.getD j 0).toNat]? =some b
 |0,_,j,hj,b,hb=>by omega
 |k+1,h,j,hj,b,hb=>by
  simp only[mG,if_true]
  have hm: ∀j,j≤k→ks.getD j 0∈ks:=fun j hj=>by rw[List.getD_eq_getElem?_getD,List.getElem?_eq_getElem (by omega),Option.getD_some];exact List.getElem_mem _
  obtain⟨h0,h1,b2,hb2⟩:=hk _ (hm k (U3 _))
  obtain⟨p0,p1,b3,hb3⟩:=hk _ (hm j (by omega))
  rw[hb2,Option.getD_some,List.getElem?_set]
  split
  ·rename_i e
   have:ks.getD k 0=ks.getD j 0:=by omega
   rw[this]at hb2
   rw[hb]at hb2
   rw[J4 (by rw[dEk];omega),←hb2]
  ·rename_i e
   exact dSf hk k (by omega) j (by
    by_cases q:j<k
    ·exact q
    ·exact absurd (by rw[show j=k by omega]) e) b hb
theorem dSu (ks:List Int) (i:Int):i∈srt ks↔i∈ks:=(List.mergeSort_perm ks _).mem_iff
theorem DG.keys {C:DC} {z:Nat} (h:DG C z): ∀i∈srt (C.dirty.map (·.1)),0≤i∧i<(C.rows.length:Int)∧∃b,iK i C.dirty=some b:=fun i hi=>by
 rw[dSu]at hi
 obtain⟨p,hp,e⟩:=List.mem_map.1 hi
 obtain⟨h0,h1⟩:=h.ok p hp
 rw[e]at h0 h1
 exact⟨h0,h1,wH hi⟩
theorem dSd (C:DC):(srt (C.dirty.map (·.1))).length=C.dirty.length:=by rw[dFo,List.length_map]
theorem dTs {C:DC} {z:Nat} (h:DG C z) (kept:Nat→Bool) (q:Nat):(dFn kept C).rows[q]? =C.rows[q]?∨∃b,iK (q:Int) C.dirty=some b∧(dFn kept C).rows[q]? =some b:=
 dSe kept (fun i hi=>⟨(h.keys i hi).1,(h.keys i hi).2.2⟩) C.rows _ (Nat.le_of_eq (dSd C).symm) q
theorem dTt {C:DC} {z:Nat} (h:DG C z) (q:Nat) {b:List B8} (hb:iK (q:Int) C.dirty=some b):(dFn (fun _=>true) C).rows[q]? =some b:=by
 have hm:(q:Int)∈srt (C.dirty.map (·.1)):=(dSu _ _).2 (List.mem_map.2 ⟨_,dIu hb,rfl⟩)
 obtain⟨j,hj,e⟩:=List.getElem_of_mem hm
 have e2:(srt (C.dirty.map (·.1))).getD j 0=(q:Int):=by rw[List.getD_eq_getElem?_getD,List.getElem?_eq_getElem hj,Option.getD_some,e]
 have:=dSf (dirty:=C.dirty) (rows:=C.rows) h.keys C.dirty.length (Nat.le_of_eq (dSd C).symm) j (by rw[←dSd];exact hj) b (by rw[e2];exact hb)
 rw[e2]at this
 exact this
end Go.AX

namespace Go.AX
open Go Go.Proofs
set_option maxRecDepth 8000
structure JS (rows:List (List B8)) (z side:Nat) (b:List B8) (co:W64):Prop where
 n:8≤rows.length∧rows.length≤4096
 all: ∀r∈rows,r.length=z
 zz:64≤z∧z≤4096
 sd:side<2
 hd:rows[0]? =some (hdV z side b.length (co-1#64))
 le:b.length≤(rows.length-1)/2*z
 sec: ∀i,i*z<b.length→∃r,rows[1+side*((rows.length-1)/2)+i]? =some r∧r.take (b.length-i*z)=(b.drop (i*z)).take z
theorem dUb (n:Nat) {z:Nat} (hz:0<z):n≤(n+z-1)/z*z:=by
 have:=Nat.lt_div_mul_add (a:=n+z-1) hz
 omega
end Go.AX

namespace Go.AX
open Go Go.Proofs
set_option maxRecDepth 8000
structure WH (rows:List (List B8)) (z side:Nat) (b:List B8) (co:W64) (s2:Nat) (b2:List B8) (k0:Nat):Prop where
 js:JS rows z side b co
 sl:s2<2
 le:b2.length≤(rows.length-1)/2*z
 kind:(s2=side∧k0=b.length/z∧∃F,b2=b++F)∨(s2≠side∧k0=0)
structure Mix (rows rows':List (List B8)) (z s2:Nat) (b2:List B8) (k0:Nat):Prop where
 n:rows'.length=rows.length
 all: ∀r∈rows',r.length=z
 at_: ∀q:Nat,rows'[q]? =rows[q]?∨∃i,k0≤i∧i*z<b2.length∧q=1+s2*((rows.length-1)/2)+i∧rows'[q]? =some (dEr z b2 i)
theorem dSv (z:Nat) (b:List B8) (i:Nat):(dEr z b i).take (b.length-i*z)=(b.drop (i*z)).take z:=by
 obtain⟨X,hX⟩: ∃X,(b.drop (i*z)).take z=X:=⟨_,rfl⟩
 have hl:X.length=min z (b.length-i*z):=by rw[←hX,List.length_take,List.length_drop]
 unfold dEr
 rw[hX,jM,U1,List.nil_append,List.drop_replicate]
 by_cases h:b.length-i*z≤z
 ·rw[List.take_append_of_le_length (by omega),List.take_of_length_le (by omega)]
 rw[List.take_of_length_le (by rw[List.length_append,List.length_replicate];omega),show z-(0+X.length)=0 by omega,List.replicate_zero,List.append_nil]
theorem dUg {α:Type} (A F:List α) (z:Nat):((A++F).take z).take A.length=A.take z:=by
 rw[List.take_take,List.take_append_of_le_length (by omega),Nat.min_comm,←List.take_take,List.take_of_length_le (U3 _)]
theorem dRz {i z n s:Nat} (h:i*z<n) (hn:n≤s*z):i<s:=by
 by_cases hi:i<s
 ·exact hi
 have:=Nat.mul_le_mul_right z (Nat.le_of_not_lt hi)
 omega
theorem WH.old {rows rows':List (List B8)} {z side s2 k0:Nat} {b b2:List B8} {co:W64} (h:WH rows z side b co s2 b2 k0) (hm:Mix rows rows' z s2 b2 k0):JS rows' z side b co:=by
 have hj:=h.js
 refine⟨by rw[hm.n];exact hj.n,hm.all,hj.zz,hj.sd,?_,by rw[hm.n];exact hj.le,fun i hi=>?_⟩
 ·rcases hm.at_ 0 with e|⟨i,_,_,e,_⟩
  ·rw[e];exact hj.hd
  omega
 rw[hm.n]
 rcases hm.at_ (1+side*((rows.length-1)/2)+i)with e|⟨i',h1,h2,e,h3⟩
 ·rw[e];exact hj.sec i hi
 have a1:=dRz hi hj.le
 have a2:=dRz h2 h.le
 rcases h.kind with⟨rfl,_,F,rfl⟩|⟨hne,_⟩
 ·obtain rfl:i'=i:=by omega
  refine⟨_,h3,?_⟩
  have ht:=dSv z (b++F) i'
  have hd:(b++F).drop (i'*z)=b.drop (i'*z)++F:=List.drop_append_of_le_length (by omega)
  have hl:(b.drop (i'*z)).length=b.length-i'*z:=List.length_drop
  have h4:(dEr z (b++F) i').take (b.length-i'*z)=((dEr z (b++F) i').take ((b++F).length-i'*z)).take (b.length-i'*z):=by
   rw[List.take_take,List.length_append,Nat.min_eq_left (by omega)]
  rw[h4,ht,hd,←hl,dUg]
 have hs:=h.sl
 have hs2:=hj.sd
 rcases(by omega:(side=0∧s2=1)∨(side=1∧s2=0))with⟨rfl,rfl⟩|⟨rfl,rfl⟩<;>omega
theorem WH.new {rows rows':List (List B8)} {z side s2 k0:Nat} {b b2:List B8} {co:W64} (h:WH rows z side b co s2 b2 k0) (hm:Mix rows rows' z s2 b2 k0)
  (ha: ∀i,k0≤i→i*z<b2.length→rows'[1+s2*((rows.length-1)/2)+i]? =some (dEr z b2 i)):JS (rows'.set 0 (hdV z s2 b2.length co)) z s2 b2 (co+1#64):=by
 have hj:=h.js
 have ho:=h.old hm
 have hz:=hj.zz
 have hl:(rows'.set 0 (hdV z s2 b2.length co)).length=rows.length:=by rw[List.length_set,hm.n]
 have hn:=hj.n
 have hne: ∀q,(rows'.set 0 (hdV z s2 b2.length co))[q+1]? =rows'[q+1]?:=fun q=>List.getElem?_set_ne (by omega)
 refine⟨by rw[hl];exact hn,dGl hm.all 0 (dEm hz.1 _ _ _),hz,h.sl,?_,by rw[hl];exact h.le,fun i hi=>?_⟩
 ·rw[List.getElem?_set_self (by rw[hm.n];omega),show co+1#64-1#64=co by bv_omega]
 ·rw[hl,show 1+s2*((rows.length-1)/2)+i=s2*((rows.length-1)/2)+i+1 by omega,hne,show s2*((rows.length-1)/2)+i+1=1+s2*((rows.length-1)/2)+i by omega]
  by_cases hk:k0≤i
  ·exact⟨_,ha i hk hi,dSv z b2 i⟩
  ·rcases h.kind with⟨rfl,hk0,F,rfl⟩|⟨_,hk0⟩
   ·have h1:(i+1)*z≤b.length:=(Nat.le_div_iff_mul_le (by omega)).1 (by omega)
    rw[Nat.succ_mul]at h1
    obtain⟨r,h2,h3⟩:=ho.sec i (by omega)
    rw[hm.n]at h2
    have hr:r.length=z:=hm.all r (List.mem_of_getElem? h2)
    refine⟨r,h2,?_⟩
    rw[List.take_of_length_le (by omega)]at h3
    have hd:(b++F).drop (i*z)=b.drop (i*z)++F:=List.drop_append_of_le_length (by omega)
    rw[List.take_of_length_le (by rw[List.length_append];omega),hd,List.take_append_of_le_length (by rw[List.length_drop];omega)]
    exact h3
   ·omega
end Go.AX

namespace Go.AX
open Go Go.Proofs
set_option maxRecDepth 8000
theorem dSo (C:DC):((pwV C).1=0∧(pwV C).2.dead=C.dead∧(C.cut<0→(pwV C).2.cut<0))∨((pwV C).1=82∧(pwV C).2.dead=true∧¬C.cut<0):=by
 unfold pwV
 by_cases h:C.cut=0
 ·rw[J4 h];exact .inr ⟨rfl,rfl,by omega⟩
 rw[J3 h]
 by_cases h2:0<C.cut
 ·rw[J4 h2];exact .inl ⟨rfl,rfl,fun h3=>by omega⟩
 rw[J3 h2];exact .inl ⟨rfl,rfl,fun h3=>h3⟩
theorem dSm {C:DC} {z:Nat} (_:DG C z) (hd:C.dead=false) {q:Nat} (hq:q<C.rows.length) {b:List B8} (hb:b.length=z):
  ((wrV C q b z).1=0∧(wrV C q b z).2.dead=false∧(wrV C q b z).2.dirty=kT (q:Int) b C.dirty∧(C.cut<0→(wrV C q b z).2.cut<0))∨((wrV C q b z).1=82∧(wrV C q b z).2.dead=true∧(wrV C q b z).2.dirty=C.dirty∧¬C.cut<0):=by
 have ha:atV C q=0:=by unfold atV;rw[J3 (by simp[hd]),J3 (by omega)]
 unfold wrV
 rw[J4 ha,J4 (by omega)]
 rcases dSo C with⟨h1,h2,h3⟩|⟨h1,h2,h3⟩
 ·rw[J4 h1];exact .inl ⟨rfl,h2.trans hd,by simp only[dFv],h3⟩
 ·rw[J3 (by omega)];exact .inr ⟨h1,h2,dFv C,h3⟩
theorem dSg {C:DC} {z:Nat} (_:DG C z) (hd:C.dead=false):
  ((mL C).1=0∧(mL C).2.dead=false∧(mL C).2.dirty=[]∧(mL C).2.rows=(dFn (fun _=>true) C).rows∧(C.cut<0→(mL C).2.cut<0))∨((mL C).1=82∧(mL C).2.dead=true∧(mL C).2.dirty=C.dirty∧(mL C).2.rows=C.rows∧¬C.cut<0):=by
 unfold mL
 rw[J3 (by simp[hd])]
 rcases dSo C with⟨h1,h2,h3⟩|⟨h1,h2,h3⟩
 ·rw[J4 h1]
  refine .inl ⟨rfl,h2.trans hd,rfl,?_,h3⟩
  simp only[dFn,dEu,dFv]
 ·rw[J3 (by omega)];exact .inr ⟨h1,h2,dFv C,dEu C,h3⟩
structure PH (C0:DC) (z base k0:Nat) (b2:List B8) (k:Nat) (C:DC):Prop where
 rows:C.rows=C0.rows
 dg:DG C z
 lo: ∀q v,iK q C.dirty=some v→∃i,k0≤i∧i<k∧q=((base+i:Nat):Int)∧v=dEr z b2 i
 hi: ∀i,k0≤i→i<k→iK ((base+i:Nat):Int) C.dirty=some (dEr z b2 i)
 ct:C0.cut<0→C.cut<0
theorem dUd {C0:DC} {z base k0:Nat} {b2:List B8} (hr: ∀i,i*z<b2.length→base+i<C0.rows.length): ∀n k C,PH C0 z base k0 b2 k C→C.dead=false→k0≤k→b2.length≤(k+n)*z→(∀i,k0≤i→i<k→i*z<b2.length)→
  ∃k',(∀i,k0≤i→i<k'→i*z<b2.length)∧PH C0 z base k0 b2 k' (wlV z base b2 n C k).2∧
   (((wlV z base b2 n C k).1=0∧(wlV z base b2 n C k).2.dead=false∧b2.length≤k'*z)∨((wlV z base b2 n C k).1=82∧(wlV z base b2 n C k).2.dead=true∧¬C0.cut<0))
 |0,k,C,hp,hd,hk,hn,hb=>⟨k,hb,hp,.inl ⟨rfl,hd,hn⟩⟩
 |n+1,k,C,hp,hd,hk,hn,hb=>by
  rw[wlV]
  by_cases he:b2.length≤k*z
  ·rw[J4 he];exact⟨k,hb,hp,.inl ⟨rfl,hd,he⟩⟩
  ·rw[J3 he]
   have hq:base+k<C.rows.length:=by rw[hp.rows];exact hr k (by omega)
   have hw:=dSm hp.dg hd hq (dEq z b2 k)
   have hrw:=dLo C ((base+k:Nat):Int) (dEr z b2 k) z
   have hdg:=hp.dg.wr ((base+k:Nat):Int) (dEr z b2 k)
   rw[show((base:Nat):Int)+(k:Int)=((base+k:Nat):Int)by omega]
   obtain⟨W,hW⟩: ∃W,wrV C ((base+k:Nat):Int) (dEr z b2 k) z=W:=⟨_,rfl⟩
   rw[hW]at hw hrw hdg⊢
   rcases hw with⟨h1,h2,h3,h4⟩|⟨h1,h2,h3,h4⟩
   ·rw[J3 (by omega)]
    refine dUd hr n (k+1) W.2 ⟨hrw.trans hp.rows,hdg,fun q v hv=>?_,fun i h5 h6=>?_,fun h=>h4 (hp.ct h)⟩ h2 (by omega) (by rw[show k+1+n=k+(n+1)by omega];exact hn) (fun i h5 h6=>?_)
    ·rw[h3,jK]at hv
     split at hv
     ·rename_i e
      exact⟨k,hk,by omega,e,(J0 hv).symm⟩
     ·obtain⟨i,a1,a2,a3,a4⟩:=hp.lo q v hv
      exact⟨i,a1,by omega,a3,a4⟩
    ·rw[h3,jK]
     by_cases e:i=k
     ·rw[J4 (by omega),e]
     ·rw[J3 (by omega)];exact hp.hi i h5 (by omega)
    ·by_cases e:i=k
     ·rw[e];omega
     ·exact hb i h5 (by omega)
   ·rw[J4 (by omega)]
    refine⟨k,hb,⟨hrw.trans hp.rows,hdg,fun q v hv=>hp.lo q v (by rw[←h3];exact hv),fun i h5 h6=>by rw[h3];exact hp.hi i h5 h6,fun h=>absurd (hp.ct h) h4⟩,.inr ⟨h1,h2,fun h=>h4 (hp.ct h)⟩⟩
theorem PH.mix {C0 C:DC} {z s2 k0 k:Nat} {b2:List B8} (h:PH C0 z (1+s2*eH C0) k0 b2 k C) (hk: ∀i,k0≤i→i<k→i*z<b2.length) (kept:Nat→Bool):Mix C0.rows (dFn kept C).rows z s2 b2 k0:=by
 refine⟨by rw[dSt,h.rows],(h.dg.stl kept).row,fun q=>?_⟩
 rcases dTs h.dg kept q with e|⟨v,h1,h2⟩
 ·exact .inl (by rw[e,h.rows])
 obtain⟨i,a1,a2,a3,rfl⟩:=h.lo _ _ h1
 refine .inr ⟨i,a1,hk i a1 a2,?_,h2⟩
 have:q=1+s2*eH C0+i:=by omega
 exact this
end Go.AX

namespace Go.AX
open Go Go.Proofs
set_option maxRecDepth 8000
theorem JS.dg {C:DC} {z side:Nat} {b:List B8} {co:W64} (h:JS C.rows z side b co) (hd:C.dirty=[]):DG C z:=
 ⟨by have:=h.n;omega,h.all,fun p hp=>by rw[hd]at hp;(cases hp),fun p hp=>by rw[hd]at hp;(cases hp),by rw[hd];exact List.nodup_nil,h.n.2⟩
theorem dRy (kept:Nat→Bool) (C:DC) (hd:C.dirty=[]):(dFn kept C).rows=C.rows:=by
 simp only[dFn,hd,List.map_nil,List.length_nil,mG]
theorem dTj {s2 sec i n:Nat} (h2:s2<2) (hi:i<sec) (hn:2*sec+1≤n):1+s2*sec+i<n:=by
 rcases(by omega:s2=0∨s2=1)with rfl|rfl<;>omega
theorem dTw {t:JT} {z side s2 k0 fr:Nat} {b2:List B8} (h:WH t.C.rows z side t.J.b t.J.com s2 b2 k0) (hd:t.C.dirty=[]) (hdead:t.C.dead=false) (hfr:fr/z=k0):
  (∃C',jwV t s2 b2 fr z=(0,⟨⟨t.J.d,s2,b2,t.J.com+1#64⟩,t.s,t.m,C'⟩)∧C'.dirty=[]∧C'.dead=false∧C'.rows.length=t.C.rows.length∧(t.C.cut<0→C'.cut<0)∧JS C'.rows z s2 b2 (t.J.com+1#64))∨
  (∃C',jwV t s2 b2 fr z=(82,{t with C:=C'})∧C'.dead=true∧¬t.C.cut<0∧DG C' z∧C'.rows.length=t.C.rows.length∧∀kept,JS (dFn kept C').rows z side t.J.b t.J.com∨JS (dFn kept C').rows z s2 b2 (t.J.com+1#64)):=by
 have hj:=h.js
 have hz:=hj.zz
 have hn:=hj.n
 have hG:=hj.dg hd
 have hsec:eH t.C=(t.C.rows.length-1)/2:=rfl
 have hle:=h.le
 have hbs:(1:Int)+(s2:Int)*(eH t.C:Int)=((1+s2*eH t.C:Nat):Int):=by rw[Int.natCast_add,Int.natCast_mul];rfl
 have hr: ∀i,i*z<b2.length→1+s2*eH t.C+i<t.C.rows.length:=fun i hi=>dTj h.sl (by rw[hsec];exact dRz hi hle) (by omega)
 have hfuel:b2.length≤(k0+4097)*z:=Nat.le_trans hle (Nat.mul_le_mul_right z (by omega))
 have hw:=dUd hr 4097 k0 t.C ⟨rfl,hG,fun q v hv=>by rw[hd]at hv;(cases hv),fun i h1 h2=>by omega,fun h=>h⟩ hdead (U3 _) hfuel (fun i h1 h2=>by omega)
 unfold jwV
 rw[hbs,hfr]
 obtain⟨W,hW⟩: ∃W,wlV z ((1+s2*eH t.C:Nat):Int) b2 4097 t.C k0=W:=⟨_,rfl⟩
 rw[hW]at hw⊢
 obtain⟨k',hk',hP,hw⟩:=hw
 have hmix:=hP.mix hk'
 have hlen: ∀kept,(dFn kept W.2).rows.length=t.C.rows.length:=fun kept=>by rw[dSt,hP.rows]
 rcases hw with⟨h1,h2,h3⟩|⟨h1,h2,h3⟩
 ·rw[J3 (by omega)]
  unfold dFm
  simp only
  have hall: ∀i,k0≤i→i*z<b2.length→(dFn (fun _=>true) W.2).rows[1+s2*eH t.C+i]? =some (dEr z b2 i):=fun i h4 h5=>by
   refine dTt hP.dg _ (hP.hi i h4 ?_)
   by_cases h6:i<k'
   ·exact h6
   ·have:=Nat.mul_le_mul_right z (Nat.le_of_not_lt h6)
    omega
  rcases dSg hP.dg h2 with⟨a1,a2,a3,a4,a5⟩|⟨a1,a2,a3,a4,a5⟩
  ·obtain⟨Y,hY⟩: ∃Y,mL W.2=Y:=⟨_,rfl⟩
   rw[hY]at a1 a2 a3 a4 a5⊢
   rw[J3 (by omega)]
   have hold:JS Y.2.rows z side t.J.b t.J.com:=by rw[a4];exact h.old (hmix _)
   have hyl:Y.2.rows.length=t.C.rows.length:=by rw[a4];exact hlen _
   have hnew:JS (Y.2.rows.set 0 (hdV z s2 b2.length t.J.com)) z s2 b2 (t.J.com+1#64):=by rw[a4];exact h.new (hmix _) hall
   have hyG:=hold.dg a3
   have hyc:t.C.cut<0→Y.2.cut<0:=fun h=>a5 (hP.ct h)
   unfold dGi
   simp only
   have hv:=dSm hyG a2 (q:=0) (by omega) (b:=hdV z s2 b2.length t.J.com) (dEm hz.1 _ _ _)
   have hvr:=dLo Y.2 ((0:Nat):Int) (hdV z s2 b2.length t.J.com) z
   have hvG:=hyG.wr ((0:Nat):Int) (hdV z s2 b2.length t.J.com)
   rw[show((0:Nat):Int)=0 from rfl]at hv hvr hvG
   obtain⟨V,hV⟩: ∃V,wrV Y.2 0 (hdV z s2 b2.length t.J.com) z=V:=⟨_,rfl⟩
   rw[hV]at hv hvr hvG⊢
   rcases hv with⟨c1,c2,c3,c4⟩|⟨c1,c2,c3,c4⟩
   ·rw[J3 (by omega)]
    rw[a3]at c3
    have hst: ∀kept,(dFn kept V.2).rows=Y.2.rows∨(dFn kept V.2).rows=Y.2.rows.set 0 (hdV z s2 b2.length t.J.com):=fun kept=>by
     simp only[dFn,c3,kT,List.map_cons,List.map_nil,dQa,List.length_cons,List.length_nil,mG,hvr]
     split
     ·exact .inr (by simp[iK])
     ·exact .inl rfl
    have hst1:(dFn (fun _=>true) V.2).rows=Y.2.rows.set 0 (hdV z s2 b2.length t.J.com):=by
     simp[dFn,c3,kT,dQa,mG,hvr,iK]
    rcases dSg hvG c2 with⟨e1,e2,e3,e4,e5⟩|⟨e1,e2,e3,e4,e5⟩
    ·rw[J3 (by omega)]
     exact .inl ⟨_,rfl,e3,e2,by rw[e4,hst1,List.length_set,hyl],fun h=>e5 (c4 (hyc h)),by rw[e4,hst1];exact hnew⟩
    ·rw[J4 (by omega),e1]
     refine .inr ⟨_,rfl,e2,fun h=>e5 (c4 (hyc h)),hvG.eq e4 e3,by rw[e4,hvr,hyl],fun kept=>?_⟩
     have:(dFn kept (mL V.2).2).rows=(dFn kept V.2).rows:=by simp only[dFn,e3,e4]
     rw[this]
     rcases hst kept with q|q
     ·rw[q];exact .inl hold
     ·rw[q];exact .inr hnew
   ·rw[J4 (by omega),c1]
    refine .inr ⟨_,rfl,c2,fun h=>c4 (hyc h),hvG,by rw[hvr,hyl],fun kept=> .inl ?_⟩
    rw[dRy kept _ (c3.trans a3),hvr];exact hold
  ·rw[J4 (by omega),a1]
   refine .inr ⟨_,rfl,a2,fun h=>a5 (hP.ct h),hP.dg.eq a4 a3,by rw[a4,hP.rows],fun kept=> .inl ?_⟩
   have:(dFn kept (mL W.2).2).rows=(dFn kept W.2).rows:=by simp only[dFn,a3,a4]
   rw[this]
   exact h.old (hmix kept)
 ·rw[J4 (by omega),h1]
  exact .inr ⟨_,rfl,h2,h3,hP.dg,by rw[hP.rows],fun kept=> .inl (h.old (hmix kept))⟩
end Go.AX

namespace Go.AX
open Go Go.Proofs
set_option maxRecDepth 8000
def dSc (i:Int) (k n:Nat):List B8:=(List.range n).map fun j:Nat=>BitVec.ofInt 8 (31*i+7*(k:Int)+(j:Int))
def dRw (i:Int) (l:List B8):List (List B8):=(List.range l.length).map fun k=>dSc i k (l.getD k 0#8).toNat
theorem dSb (i:Int) (k n:Nat):(dSc i k n).length=n:=by simp[dSc]
theorem dRu (i:Int) (l:List B8):(dRw i l).length=l.length:=by simp[dRw]
theorem dTi (i:Int) (k j:Nat):dSc i k (j+1)=dSc i k j++[BitVec.ofInt 8 (31*i+7*(k:Int)+(j:Int))]:=by
 simp only[dSc,List.range_succ,List.map_append,List.map_cons,List.map_nil]
theorem dTh (i:Int) (l:List B8) (k:Nat) (h:k<l.length):(dRw i l).take (k+1)=(dRw i l).take k++[dSc i k (l.getD k 0#8).toNat]:=by
 have hk:k<(dRw i l).length:=by rw[dRu];exact h
 have e:(dRw i l)[k]=dSc i k (l.getD k 0#8).toNat:=by simp[dRw]
 rw[List.take_succ_eq_append_getElem hk,e]
def dSk (i:Int) (k j r:Nat):List B8:=dSc i k j++List.replicate r 0#8
theorem dTp (i:Int) (k j r:Nat):(dSk i k j r).length=j+r:=by rw[dSk,List.length_append,dSb,List.length_replicate]
theorem dTg (i:Int) (k j r:Nat):(dSk i k j (r+1)).set j (BitVec.ofInt 8 (31*i+7*(k:Int)+(j:Int)))=dSk i k (j+1) r:=by
 have:=dLv (dSc i k j) r (BitVec.ofInt 8 (31*i+7*(k:Int)+(j:Int)))
 rw[dSb]at this
 rw[dSk,this,dSk,dTi]
theorem dTq (i:Int) (k n:Nat):dSk i k n 0=dSc i k n:=by rw[dSk,List.replicate_zero,List.append_nil]
theorem dUk (a:List (List B8)) (x:List B8):cP (a++[x])=cP a++[.sl x.length (c8 x)]:=by simp[cP]
def dSs:List AV→Option AV
 |[.i i,.sl n xs]=>aK (cI xs) fun l=>aN (l.length=n∧n≤6∧0≤i∧i≤1000) (some (.sl n (cP (dRw i l))))
 |_=>none
theorem dSl (i:Int) (n:Nat) (xs:List AV):dSs [.i i,.sl n xs]=aK (cI xs) fun l=>aN (l.length=n∧n≤6∧0≤i∧i≤1000) (some (.sl n (cP (dRw i l)))):=(rfl)
attribute [go_sem] dSl
structure BTI where
 k:Nat
 id:Nat
 c:Nat
structure BTJ where
 j:Nat
 r:Nat
 c:Nat
set_option maxHeartbeats 4000000 in
theorem dUl:cL Try.prog GLh 15 dSs:=by
 refine cC Try.func15 (aT rfl) ?_
 intro args r hg
 unfold dSs at hg
 split at hg
 ·rename_i i n xs
  replace hg:=aJ hg;obtain⟨l,hl,hg⟩:=hg
  have:=bW hl;subst this
  replace hg:=aP hg;obtain⟨⟨hn,h6,hi0,hi1⟩,hg⟩:=hg
  obtain rfl:=J0 hg
  subst hn
  clear hl hg
  refine⟨J1 rfl,fun nx=>?_⟩
  refine aA rfl (bA [0,1] rfl rfl rfl fun K hK=>?_)
  simp(disch:=omega) only[Try.f15,go_sem,↓reduceIte]
  refine hK _ ?_
  refine aB (aA rfl (bA [0,1,5] rfl rfl rfl fun K hK=>?_))
  simp(disch:=omega) only[Try.f15,go_sem,↓reduceIte]
  refine hK _ ?_
  refine aB (iE 5 1 rfl (fF [0,1,5] ?_))
  simp only[iB,fU,eB,↓reduceIte,Nat.reduceEqDiff]
  refine aA rfl (aA rfl (bA [0,1,5,6] rfl rfl rfl fun K hK=>?_))
  simp(disch:=omega) only[Try.f15,go_sem,↓reduceIte]
  refine hK _ ?_
  refine aB (aR 0 rfl rfl ?_)
  refine bR (fun p:BTI=> {fr:=[(0,.i i),(1,.sl l.length (c8 l)),(5,.os p.id 0 p.k 1 true),(6,.i p.k)],hp:=upd (fun _=>none) p.id (.cells (cP ((dRw i l).take p.k)) true),nx:=0,cx:=p.c}) (fun p=>p.k≤l.length∧p.id<p.c) (fun p=>l.length-p.k) rfl ⟨⟨0,_,_⟩,⟨Nat.zero_le _,by simp only;omega⟩,bD rfl rfl (U3 _)⟩ ?_
  rintro⟨k,id,c⟩ ⟨hk,hid⟩ n0
  simp only at hk hid⊢
  refine aA rfl (aA rfl (bA [12,0,1,5,6] rfl rfl rfl fun K hK=>?_))
  simp(disch:=omega) only[Try.f15,go_sem,↓reduceIte]
  refine hK _ ?_
  refine aB (aW (.tmp 12) rfl rfl rfl (fun h=>?_) (fun h=>?_))
  ·refine aI rfl ?_
   have hkl:k<l.length:=by omega
   have hd8:=oC l k hkl
   obtain⟨x,hx⟩: ∃x,l.getD k 0#8=x:=⟨_,rfl⟩
   have hbn:=dTh i l k hkl
   rw[hx]at hbn
   have hx8:=x.isLt
   clear h
   refine aQ rfl (aB (aA rfl (aR 1 rfl rfl (aA rfl (bA [0,1,5,6,7] rfl rfl rfl fun K hK=>?_)))))
   simp(disch:=omega) only[Try.f15,go_sem,↓reduceIte,hx]
   refine hK _ ?_
   refine aB ?_
   obtain⟨w,hw⟩: ∃w,c+4+5=w:=⟨_,rfl⟩
   rw[hw,dKc]
   refine aA rfl (aA rfl (bA [0,1,5,6,7,8] rfl rfl rfl fun K hK=>?_))
   simp(disch:=omega) only[Try.f15,go_sem,↓reduceIte]
   refine hK _ ?_
   refine aB (aR 2 rfl rfl ?_)
   refine bR (fun q:BTJ=> {fr:=[(0,.i i),(1,.sl l.length (c8 l)),(5,.os id 0 k 1 true),(6,.i k),(7,.os w 0 x.toNat 1 true),(8,.i q.j)],hp:=upd (upd (fun _=>none) id (.cells (cP ((dRw i l).take k)) true)) w (.cells (c8 (dSk i k q.j q.r)) true),nx:=0,cx:=q.c}) (fun q=>q.j+q.r=x.toNat∧w<q.c) (fun q=>q.r) rfl ⟨⟨0,x.toNat,_⟩,⟨Nat.zero_add _,by simp only;omega⟩,bD rfl rfl (U3 _)⟩ ?_
   rintro⟨j,r,c2⟩ ⟨hj,hc2⟩ n0
   simp only at hj hc2⊢
   refine aA rfl (aA rfl (bA [24,0,1,5,6,7,8] rfl rfl rfl fun K hK=>?_))
   simp(disch:=omega) only[Try.f15,go_sem,↓reduceIte]
   refine hK _ ?_
   refine aB (aW (.tmp 24) rfl rfl rfl (fun h=>?_) (fun h=>?_))
   ·refine aI rfl ?_
    obtain⟨r2,rfl⟩: ∃r2,r=r2+1:=⟨r-1,by omega⟩
    have hn2:=dTg i k j r2
    have hl2:=dTp i k j (r2+1)
    clear h
    refine aQ rfl (aB (aA rfl (aR 3 rfl rfl (bA [0,1,5,6,7,8] rfl rfl rfl fun K hK=>?_))))
    simp(disch:=omega) only[Try.f15,go_sem,↓reduceIte,iM,hl2,yB,hn2]
    refine hK _ ?_
    refine bU (aB (bA [0,1,5,6,7,8] rfl rfl rfl fun K hK=>?_))
    simp(disch:=omega) only[Try.f15,go_sem,↓reduceIte]
    refine hK _ ?_
    refine bT ?_
    refine⟨⟨j+1,r2,_⟩,⟨by simp only;omega,by simp only;omega⟩,by simp only;omega,bD ?_ rfl (U3 _)⟩
    simp only[Int.natCast_add,Int.natCast_one]
   refine aI rfl ?_
   obtain rfl:r=0:=by omega
   obtain rfl:j=x.toNat:=by omega
   rw[dTq]
   have hbl:=dSb i k x.toNat
   obtain⟨B,hB⟩: ∃B,dSc i k x.toNat=B:=⟨_,rfl⟩
   rw[hB]at hbn hbl⊢
   clear h
   refine bF 2 rfl rfl (aY (aZ (bE (aB ?_))))
   have hkt:((dRw i l).take k).length=k:=by rw[List.length_take,dRu];omega
   refine bA [0,1,5,6] rfl rfl rfl fun K hK=>?_
   simp(disch:=omega) only[Try.f15,go_sem,↓reduceIte,iM,hbl,hkt]
   refine hK _ ?_
   refine bU (aB (bA [0,1,5,6] rfl rfl rfl fun K hK=>?_))
   simp(disch:=omega) only[Try.f15,go_sem,↓reduceIte]
   refine hK _ ?_
   refine bT ?_
   refine⟨⟨k+1,c2+4+3,_⟩,⟨by simp only;omega,by simp only;omega⟩,by simp only;omega,⟨fun _=> .inr ?_,fun q oo hq=>?_,U3 _⟩⟩
   ·simp only[Int.natCast_add,Int.natCast_one]
   simp only[hbn,dUk,hbl]at hq
   simp only
   rw[bJ]at hq⊢
   by_cases f1:q=c2+4+3
   ·rw[J4 f1]at hq⊢;exact hq
   rw[J3 f1]at hq;cases hq
  refine aI rfl ?_
  obtain rfl:k=l.length:=by omega
  rw[List.take_of_length_le (by rw[dRu];exact U3 _)]
  refine bF 0 rfl rfl (aY (aZ (bE (aB (aA rfl (pS 5 id 0 _ 1 rfl (by rw[bJ,J4 rfl]) (by rw[aTh,dRu];omega) ?_))))))
  rw[J9,List.take_of_length_le (by rw[aTh,dRu];omega)]
  refine bA [4] rfl rfl rfl fun K hK=>?_
  simp(disch:=omega) only[Try.f15,go_sem,↓reduceIte]
  refine hK _ ?_
  refine aB (aS rfl ?_)
  simp(disch:=omega) only[cN,bV,bK,bQ,Try.f15,go_sem,↓reduceIte]
 cases hg
theorem dUn:bX Try.prog GLh 15 (.pure false dSs):=⟨⟨_,Try.func15,rfl,rfl⟩,dUl⟩
end Go.AX

namespace Go.AX
open Go Go.Proofs
set_option maxRecDepth 8000
theorem dSy: ∀ {l:List (List B8)} {rm:Int},(uL l:Int)≤rm→dEo l rm=true
 |[],rm,_=>rfl
 |x::r,rm,h=>by
  rw[uL]at h
  rw[dEo,J3 (by omega)]
  exact dSy (by omega)
theorem dSx {m:Nat}: ∀ {l:List (List B8)},(∀x∈l,x.length≤m)→uL l≤(4+m)*l.length
 |[],_=>Nat.zero_le _
 |x::r,h=>by
  have h1:=h x (List.mem_cons_self ..)
  have h2:=dSx (l:=r) (fun y hy=>h y (List.mem_cons_of_mem _ hy))
  rw[uL,List.length_cons,Nat.mul_succ]
  omega
theorem dSj (i:Int) (l:List B8): ∀x∈dRw i l,x.length≤255:=fun x hx=>by
 obtain⟨k,_,rfl⟩:=List.mem_map.1 hx
 rw[dSb]
 have:=(l.getD k 0#8).isLt
 omega
theorem dTc (i:Int) (l:List B8):uL (dRw i l)≤259*l.length:=by
 have:=dSx (dSj i l)
 rwa [dRu]at this
def nwR (N z:Nat):List (List B8):=(List.replicate N (List.replicate z 0#8)).set 0 (hdV z 0 0 (0#64-1#64))
theorem dSi (N z:Nat):(nwR N z).length=N:=by rw[nwR,List.length_set,List.length_replicate]
theorem dUi {N z:Nat} (hN:8≤N∧N≤4096) (hz:64≤z∧z≤4096):JS (nwR N z) z 0 [] 0#64:=
 ⟨by rw[dSi];exact hN,dGl (fun r hr=>by rw[List.eq_of_mem_replicate hr];exact List.length_replicate) 0 (dEm hz.1 _ _ _),hz,by decide,
  by rw[nwR,List.getElem?_set_self (by rw[List.length_replicate];omega)];rfl,Nat.zero_le _,fun i hi=>by simp at hi⟩
theorem dUq {N z:Nat} (hN:1≤N∧N≤4096) (hz:64≤z∧z≤4096):nwC N z=QC (List.replicate N (List.replicate z 0#8)):=by
 unfold nwC dGw
 have h1:(wit (N:Int) 1 4096).toNat=N:=by unfold wit;rw[J3 (by rw[J3 (by omega)];omega),J3 (by omega)];omega
 have h2:(wit (z:Int) 64 4096).toNat=z:=by unfold wit;rw[J3 (by rw[J3 (by omega)];omega),J3 (by omega)];omega
 rw[h1,h2]
 rfl
theorem dTu {N z:Nat} (hN:8≤N∧N≤4096) (hz:64≤z∧z≤4096) {hp:H} {d s m:Nat} (nx:Nat) (h:aZo hp d s m (QC (List.replicate N (List.replicate z 0#8)))):
  dFi [.op d 0] hp nx=some (.tup [.op (nx+58) 0,.v (.slice none 0 0),.i 0],cS (nx+58) ⟨⟨d,0,[],0#64⟩,s,m,QC (nwR N z)⟩ hp,nx+100+opN+opN):=by
 have hall: ∀r∈List.replicate N (List.replicate z 0#8),r.length=z:=fun r hr=>by rw[List.eq_of_mem_replicate hr];exact List.length_replicate
 obtain⟨R,hR⟩: ∃R,List.replicate N (List.replicate z 0#8)=R:=⟨_,rfl⟩
 have hRl:R.length=N:=by rw[←hR];exact List.length_replicate
 have hL:mM (QC R) 0 N=some (List.replicate (N*z) 0#8):=by rw[←hR];exact dIz N z (by omega) N (U3 _)
 have h0:R[0]? =some (List.replicate z 0#8):=by rw[←hR,List.getElem?_replicate];exact J4 (by omega)
 have hnw:nwR N z=R.set 0 (hdV z 0 0 (0#64-1#64)):=by rw[←hR];rfl
 rw[hR]at h hall
 have hB:dGe ⟨⟨d,0,[],0#64⟩,s,m,QC R⟩ z=(0,⟨⟨d,0,[],0#64⟩,s,m,QC (nwR N z)⟩):=by
  unfold dGe
  simp only
  rw[dRr d s m 0 0 [] _ _ _ hz.1 (by omega),hnw]
  rfl
 unfold dFi
 simp only
 rw[mK h,aX]
 simp only
 rw[show(QC R).rows=R from rfl,dFa hall (by omega),aX,cU _ ⟨⟨rfl,dJb (by omega) hall (by omega)⟩,by omega,by omega⟩]
 unfold dJh
 rw[U2,J3 (by show¬R.length<8;omega),dGt R 0 h0 (by rw[List.length_replicate];omega),aX,J4 (dHq z),show(QC R).rows.length=N from hRl,hL,aX,cU _ (dHq _),aX,hB]
 rfl
theorem dUf {t:JT} {z side:Nat} {l:List (List B8)} (hj:JS t.C.rows z side t.J.b t.J.com) (hd:t.C.dirty=[]) (hs:t.J.side=side) (hb:t.J.b.length≤100000) (hl:l.length≤1000000∧uL l≤900000) {hp:H} {j:Nat} (nx:Nat) (h:mE hp j t):
  cmG [.op j 0,.sl l.length (cP l)] hp nx=some (.i (cmJ t l z).1,cS j (cmJ t l z).2 hp,nx+cmN):=by
 have hz:=hj.zz
 have hsd:=hj.sd
 have hG:=hj.dg hd
 have hle:=hj.le
 unfold cmG
 simp only
 rw[hE h,aX,bFj,aX,hG.siz,aX,cU _ ⟨⟨rfl,hl.1,hl.2⟩,by omega,by simpa using hG,by omega,hb,by simpa [eH]using hle⟩,U2]
theorem dVa {t:JT} {z side:Nat} {l:List (List B8)} (hj:JS t.C.rows z side t.J.b t.J.com) (hd:t.C.dirty=[]) (hs:t.J.side=side) (hb:t.J.b.length≤100000) (hl:l.length≤1000000∧uL l≤900000) {hp:H} {j:Nat} (nx:Nat) (h:mE hp j t):
  rsG [.op j 0,.sl l.length (cP l)] hp nx=some (.i (rsJ t l z).1,cS j (rsJ t l z).2 hp,nx+cmN):=by
 have hz:=hj.zz
 have hsd:=hj.sd
 have hG:=hj.dg hd
 unfold rsG
 simp only
 rw[hE h,aX,bFj,aX,hG.siz,aX,cU _ ⟨⟨rfl,hl.1,hl.2⟩,by omega,by simpa using hG,by omega,by omega⟩,U2]
def dTr (t:JT) (z side s2:Nat) (b2:List B8) (R:Int×JT):Prop:=
 (∃C',R=(0,⟨⟨t.J.d,s2,b2,t.J.com+1#64⟩,t.s,t.m,C'⟩)∧C'.dirty=[]∧C'.dead=false∧C'.rows.length=t.C.rows.length∧(t.C.cut<0→C'.cut<0)∧JS C'.rows z s2 b2 (t.J.com+1#64))∨
  (∃C',R=(82,{t with C:=C'})∧C'.dead=true∧¬t.C.cut<0∧DG C' z∧C'.rows.length=t.C.rows.length∧∀kept,JS (dFn kept C').rows z side t.J.b t.J.com∨JS (dFn kept C').rows z s2 b2 (t.J.com+1#64))
theorem dTb {t:JT} {z side:Nat} (l:List (List B8)) (hj:JS t.C.rows z side t.J.b t.J.com) (hd:t.C.dirty=[]) (hdd:t.C.dead=false) (hs:t.J.side=side):
  (cmJ t l z=(90,t)∧¬t.J.b.length+uL l≤eH t.C*z)∨(t.J.b.length+uL l≤eH t.C*z∧dTr t z side side (t.J.b++eR l) (cmJ t l z)):=by
 have hle:t.J.b.length≤eH t.C*z:=hj.le
 have esz:(eH t.C:Int)*(z:Int)=((eH t.C*z:Nat):Int):=(Int.natCast_mul _ _).symm
 unfold cmJ
 rw[esz]
 by_cases hf:dEo l (((eH t.C*z:Nat):Int)-t.J.b.length)=true
 ·rw[J4 hf,hs]
  have:=dIv hf (by omega)
  refine .inr ⟨by omega,dTw ⟨hj,hj.sd,?_,.inl ⟨rfl,rfl,_,rfl⟩⟩ hd hdd rfl⟩
  rw[List.length_append,dFd]
  show _≤eH t.C*z
  omega
 ·rw[J3 hf]
  refine .inl ⟨rfl,fun h=>hf (dSy (by omega))⟩
theorem dUv {t:JT} {z side:Nat} (l:List (List B8)) (hj:JS t.C.rows z side t.J.b t.J.com) (hd:t.C.dirty=[]) (hdd:t.C.dead=false) (hs:t.J.side=side):
  (rsJ t l z=(90,t)∧¬uL l≤eH t.C*z)∨(uL l≤eH t.C*z∧dTr t z side (1-side) (eR l) (rsJ t l z)):=by
 have hsd:=hj.sd
 have esz:(eH t.C:Int)*(z:Int)=((eH t.C*z:Nat):Int):=(Int.natCast_mul _ _).symm
 unfold rsJ
 rw[esz]
 by_cases hf:dEo l ((eH t.C*z:Nat):Int)=true
 ·rw[J4 hf,hs,show(1:Int)-(side:Int)=((1-side:Nat):Int)by omega]
  have:=dIv hf (by omega)
  refine .inr ⟨by omega,dTw ⟨hj,by omega,?_,.inr ⟨by omega,rfl⟩⟩ hd hdd (Nat.zero_div _)⟩
  rw[dFd]
  show _≤eH t.C*z
  omega
 ·rw[J3 hf]
  refine .inl ⟨rfl,fun h=>hf (dSy (by omega))⟩
end Go.AX

namespace Go.AX
open Go Go.Proofs
set_option maxRecDepth 8000
theorem dTr.any {t:JT} {z side s2:Nat} {b2:List B8} {R:Int×JT} (h:dTr t z side s2 b2 R):
  (R.1=0∨R.1=82)∧R.2.J.d=t.J.d∧R.2.s=t.s∧R.2.m=t.m∧DG R.2.C z∧R.2.C.rows.length=t.C.rows.length∧∀kept,JS (dFn kept R.2.C).rows z s2 b2 (t.J.com+1#64)∨(R.1≠0∧JS (dFn kept R.2.C).rows z side t.J.b t.J.com):=by
 rcases h with⟨C,rfl,h1,h2,h3,h4,h5⟩|⟨C,rfl,h1,h2,h3,h4,h5⟩
 ·exact⟨.inl rfl,rfl,rfl,rfl,h5.dg h1,h3,fun kept=> .inl (by rw[dRy kept C h1];exact h5)⟩
 ·exact⟨.inr rfl,rfl,rfl,rfl,h3,h4,fun kept=>(h5 kept).elim (fun h=> .inr ⟨by simp only;decide,h⟩) .inl⟩
theorem n10:(10#8=0#8)=False:=eq_false (by decide)
theorem n6:(6#8=0#8)=False:=eq_false (by decide)
end Go.AX

namespace Go.AX
open Go Go.Proofs
set_option maxRecDepth 8000
structure JG (hp:H) (j d s m z N:Nat) (sd:Nat) (b:List B8) (co:W64) (C:DC):Prop where
 has:mE hp j ⟨⟨d,(sd:Int),b,co⟩,s,m,C⟩
 js:JS C.rows z sd b co
 di:C.dirty=[]
 de:C.dead=false
 cu:C.cut<0
 n:C.rows.length=N
theorem JG.sec {hp:H} {j d s m z N sd:Nat} {b:List B8} {co:W64} {C:DC} (h:JG hp j d s m z N sd b co C):eH C=(N-1)/2:=by unfold eH;rw[h.n]
theorem JG.cm {hp:H} {j d s m z N sd:Nat} {b:List B8} {co:W64} {C:DC} (h:JG hp j d s m z N sd b co C) (l:List (List B8)) (hb:b.length≤100000) (hl:l.length≤1000000∧uL l≤900000):
  (¬b.length+uL l≤(N-1)/2*z∧∀nx,cmG [.op j 0,.sl l.length (cP l)] hp nx=some (.i 90,hp,nx+cmN))∨
  (b.length+uL l≤(N-1)/2*z∧∃h2 C2,(∀nx,cmG [.op j 0,.sl l.length (cP l)] hp nx=some (.i 0,h2,nx+cmN))∧JG h2 j d s m z N sd (b++eR l) (co+1#64) C2):=by
 have hc:=fun nx=>dUf (t:=⟨⟨d,(sd:Int),b,co⟩,s,m,C⟩) h.js h.di rfl hb hl nx h.has
 have hg:=dTb (t:=⟨⟨d,(sd:Int),b,co⟩,s,m,C⟩) l h.js h.di h.de rfl
 simp only[h.sec]at hg
 rcases hg with⟨e,hf⟩|⟨hf,hg⟩
 ·refine .inl ⟨hf,fun nx=>?_⟩
  have h1:=dEi h.has C
  simp only at h1
  rw[hc nx,e]
  simp only
  rw[h1,mC h.has.hd]
 ·rcases hg with⟨C1,e1,c1d,c1e,c1l,c1c,c1j⟩|⟨_,_,_,hcut,_⟩
  ·refine .inr ⟨hf,_,C1,fun nx=>by rw[hc nx,e1],dFb _ _ _ h.has.hd.ne.1 h.has.hd.ne.2.1 h.has.hd.ne.2.2.1 h.has.ne,c1j,c1d,c1e,c1c h.cu,c1l.trans h.n⟩
  ·exact absurd h.cu hcut
theorem JG.rs {hp:H} {j d s m z N sd:Nat} {b:List B8} {co:W64} {C:DC} (h:JG hp j d s m z N sd b co C) (l:List (List B8)) (hb:b.length≤100000) (hl:l.length≤1000000∧uL l≤900000):
  (¬uL l≤(N-1)/2*z∧∀nx,rsG [.op j 0,.sl l.length (cP l)] hp nx=some (.i 90,hp,nx+cmN))∨
  (uL l≤(N-1)/2*z∧∃h2 C2,(∀nx,rsG [.op j 0,.sl l.length (cP l)] hp nx=some (.i 0,h2,nx+cmN))∧JG h2 j d s m z N (1-sd) (eR l) (co+1#64) C2):=by
 have hc:=fun nx=>dVa (t:=⟨⟨d,(sd:Int),b,co⟩,s,m,C⟩) h.js h.di rfl hb hl nx h.has
 have hg:=dUv (t:=⟨⟨d,(sd:Int),b,co⟩,s,m,C⟩) l h.js h.di h.de rfl
 simp only[h.sec]at hg
 rcases hg with⟨e,hf⟩|⟨hf,hg⟩
 ·refine .inl ⟨hf,fun nx=>?_⟩
  have h1:=dEi h.has C
  simp only at h1
  rw[hc nx,e]
  simp only
  rw[h1,mC h.has.hd]
 ·rcases hg with⟨C1,e1,c1d,c1e,c1l,c1c,c1j⟩|⟨_,_,_,hcut,_⟩
  ·refine .inr ⟨hf,_,C1,fun nx=>by rw[hc nx,e1],dFb _ _ _ h.has.hd.ne.1 h.has.hd.ne.2.1 h.has.hd.ne.2.2.1 h.has.ne,c1j,c1d,c1e,c1c h.cu,c1l.trans h.n⟩
  ·exact absurd h.cu hcut
theorem JG.len {hp:H} {j d s m z N sd:Nat} {b:List B8} {co:W64} {C:DC} (h:JG hp j d s m z N sd b co C):b.length≤(N-1)/2*z:=by
 have:=h.js.le
 rw[h.n]at this
 exact this
end Go.AX

namespace Go.AX
open Go Go.Proofs
set_option maxRecDepth 8000
theorem hv {σ:Nat→Loc} {I:Nat→Prop} {w:World} {v:Value} (h:Rel σ I w (.v (.slice none 0 0)) v):Rel σ I w (.sl 0 []) v:=by
 cases h
 exact .slnil
end Go.AX

namespace Go.AX
open Go Go.Proofs
set_option maxRecDepth 8000
theorem dVq (M n:Nat):dQe (M:Int) n=((M-n-4:Nat):Int):=by
 unfold dQe;split<;>omega
theorem JG.room {hp:H} {j d s m z N sd:Nat} {b:List B8} {co:W64} {C:DC} (h:JG hp j d s m z N sd b co C) (hb:b.length≤1000000000) (nx:Nat):
  dVi [.op j 0] hp nx=some (.i ((N-1)/2*z-b.length-4:Nat),hp,nx+600):=by
 have hG:=h.js.dg h.di
 have hz:=h.js.zz
 have hn:=h.js.n
 rw[dVo,hE h.has,aX]
 simp only
 rw[hG.siz,aX,cU _ ⟨⟨⟨hG.ne,hn.2⟩,by omega,by omega⟩,hb⟩,show(eH C:Int)*(z:Int)=((eH C*z:Nat):Int)from(Int.natCast_mul _ _).symm,h.sec,dVq]
theorem aZo.delj {hp:H} {d s m:Nat} {C:DC} (h:aZo hp d s m C) (i:Nat) (h1:i≠d) (h2:i≠s) (h3:i≠m):aZo (del hp i) d s m C:=
 ⟨by rw[eV,J3 (Ne.symm h1)];exact h.hd,by rw[eV,J3 (Ne.symm h2)];exact h.hs,by rw[eV,J3 (Ne.symm h3)];exact h.hm,h.ne⟩
theorem mE.delj {hp:H} {j:Nat} {t:JT} (h:mE hp j t) (i:Nat) (h0:i≠j) (h1:i≠t.J.d) (h2:i≠t.s) (h3:i≠t.m):mE (del hp i) j t:=
 ⟨by rw[eV,J3 (Ne.symm h0)];exact h.hj,h.hd.delj i h1 h2 h3,h.ne⟩
end Go.AX

namespace Go.AX
open Go Go.Proofs
set_option maxRecDepth 8000
section
variable {P : Program} {GL : Nat → Option (List AV)} {nt : Nat} {Q : Exit → S → Prop} {s t : S} {ι : Type} {st : ι → S} {inv : ι → Prop}
end
structure JK (hp:H) (j d s m z N sd:Nat) (b:List B8) (co:W64) (C:DC):Prop where
 has:mE hp j ⟨⟨d,(sd:Int),b,co⟩,s,m,C⟩
 js:JS C.rows z sd b co
 di:C.dirty=[]
 de:C.dead=false
 n:C.rows.length=N
theorem JK.sec {hp:H} {j d s m z N sd:Nat} {b:List B8} {co:W64} {C:DC} (h:JK hp j d s m z N sd b co C):eH C=(N-1)/2:=by unfold eH;rw[h.n]
theorem JK.cut {hp:H} {j d s m z N sd:Nat} {b:List B8} {co:W64} {C:DC} (h:JK hp j d s m z N sd b co C) (n:Int):JK (bO d s m (dRt C n) hp) j d s m z N sd b co (dRt C n):=
 ⟨dIn h.has (dRt C n),h.js,h.di,h.de,h.n⟩
theorem JK.upd {hp:H} {j d s m z N sd:Nat} {b:List B8} {co:W64} {C:DC} (h:JK hp j d s m z N sd b co C) (i:Nat) (o:AO) (h0:i≠j) (h1:i≠d) (h2:i≠s) (h3:i≠m):JK (upd hp i o) j d s m z N sd b co C:= {h with has:=h.has.upd i o h0 h1 h2 h3}
theorem JK.del {hp:H} {j d s m z N sd:Nat} {b:List B8} {co:W64} {C:DC} (h:JK hp j d s m z N sd b co C) (i:Nat) (h0:i≠j) (h1:i≠d) (h2:i≠s) (h3:i≠m):JK (del hp i) j d s m z N sd b co C:= {h with has:=h.has.delj i h0 h1 h2 h3}
def dWo (j d s m z N:Nat) (b b2:List B8) (f:Int) (h2:H):Prop:=
 f=90∨(f=0∧∃sd2 co2 C2,JK h2 j d s m z N sd2 b2 co2 C2)∨
  (f=82∧∃C2,aZo h2 d s m C2∧C2.dead=true∧DG C2 z∧C2.rows.length=N∧∀kept,∃sd2 co2 b3,(b3=b∨b3=b2)∧JS (dFn kept C2).rows z sd2 b3 co2)
theorem JK.out {hp:H} {j d s m z N sd s2:Nat} {b b2:List B8} {co:W64} {C:DC} (h:JK hp j d s m z N sd b co C) {R:Int×JT} (hg:dTr ⟨⟨d,(sd:Int),b,co⟩,s,m,C⟩ z sd s2 b2 R):dWo j d s m z N b b2 R.1 (cS j R.2 hp):=by
 have hne:=h.has.hd.ne
 have hj:=h.has.ne
 rcases hg with⟨C',rfl,h1,h2,h3,h4,h5⟩|⟨C',rfl,h1,h2,h3,h4,h5⟩
 ·exact .inr (.inl ⟨rfl,s2,co+1#64,C',⟨dFb _ _ _ hne.1 hne.2.1 hne.2.2.1 hj,h5,h1,h2,h3.trans h.n⟩⟩)
 refine .inr (.inr ⟨rfl,C',(dFb hp j ⟨⟨d,(sd:Int),b,co⟩,s,m,C'⟩ hne.1 hne.2.1 hne.2.2.1 hj).hd,h1,h3,h4.trans h.n,fun kept=>?_⟩)
 rcases h5 kept with h|h
 ·exact⟨_,_,_,.inl rfl,h⟩
 exact⟨_,_,_,.inr rfl,h⟩
theorem JK.cm {hp:H} {j d s m z N sd:Nat} {b:List B8} {co:W64} {C:DC} (h:JK hp j d s m z N sd b co C) (l:List (List B8)) (hb:b.length≤100000) (hl:l.length≤1000000∧uL l≤900000):
  ∃f h2,(∀nx,cmG [.op j 0,.sl l.length (cP l)] hp nx=some (.i f,h2,nx+cmN))∧dWo j d s m z N b (b++eR l) f h2:=by
 have hc:=fun nx=>dUf (t:=⟨⟨d,(sd:Int),b,co⟩,s,m,C⟩) h.js h.di rfl hb hl nx h.has
 have hg:=dTb (t:=⟨⟨d,(sd:Int),b,co⟩,s,m,C⟩) l h.js h.di h.de rfl
 refine⟨_,_,hc,?_⟩
 rcases hg with⟨e,_⟩|⟨_,hg⟩
 ·rw[e];exact .inl rfl
 ·exact h.out hg
theorem JK.rs {hp:H} {j d s m z N sd:Nat} {b:List B8} {co:W64} {C:DC} (h:JK hp j d s m z N sd b co C) (l:List (List B8)) (hb:b.length≤100000) (hl:l.length≤1000000∧uL l≤900000):
  ∃f h2,(∀nx,rsG [.op j 0,.sl l.length (cP l)] hp nx=some (.i f,h2,nx+cmN))∧dWo j d s m z N b (eR l) f h2:=by
 have hc:=fun nx=>dVa (t:=⟨⟨d,(sd:Int),b,co⟩,s,m,C⟩) h.js h.di rfl hb hl nx h.has
 have hg:=dUv (t:=⟨⟨d,(sd:Int),b,co⟩,s,m,C⟩) l h.js h.di h.de rfl
 refine⟨_,_,hc,?_⟩
 rcases hg with⟨e,_⟩|⟨_,hg⟩
 ·rw[e];exact .inl rfl
 ·exact h.out hg
end Go.AX

namespace Go.AX
open Go Go.Proofs
set_option maxRecDepth 8000
def chM:List PanicEntry:=[{v:=.iface 84 (.agg #[]),recovered:=false}]
theorem dXo (P:Program) (t:TypeId) (v:Value) (w:World):(Instr.panic (.iface t v)).run P w=.halt (.panic (.iface t v)) w:=rfl
theorem dXw (w:World):Calls Try.prog 55 #[.bool false] w fun e w'=>e=.panicked chM∧w'=w:=by
 go_enter Try.func55,Try.ntmps55
 go_wp2
 simp only[dXo]
 exact⟨rfl,rfl,rfl⟩
theorem dXi {P:Program} {GL:Nat→Option (List AV)} {f:FuncId} {ch:List PanicEntry} {g:List AV→H→Nat→Option (H×Nat)} (h: ∀args hp nx hp' nx',g args hp nx=some (hp',nx')→hp'=hp∧nx'=nx∧∀(σ:Nat→Loc) (I:Nat→Prop) (w:World) (vals:Array Value),vals.size=args.length→(∀i (_h:i<args.length),Rel σ I w args[i] (vals.getD i undef))→Calls P f vals w fun e w'=>e=.panicked ch∧w'=w):dE P GL f ch g:=by
 intro c σ I w hp nx args vals hp' nx' _ hi hs hr hg
 obtain⟨rfl,rfl,hc⟩:=h args hp nx hp' nx' hg
 refine⟨U3 _,(hc σ I w vals hs hr).mono ?_⟩
 rintro e w' ⟨rfl,rfl⟩
 exact⟨σ,I,rfl,hi,Grow.refl _ _ _,fun _ _ h=>h⟩
theorem dXv {σ:Nat→Loc} {I:Nat→Prop} {w:World} {x:AV} {vals:Array Value} (hs:vals.size=[x].length) (hr: ∀i (_h:i<[x].length),Rel σ I w [x][i] (vals.getD i undef)): ∃v,vals= #[v]∧Rel σ I w x v:=by
 have h0:=hr 0 (by simp)
 obtain⟨l⟩:=vals
 simp only[List.size_toArray,List.length_cons,List.length_nil,Nat.zero_add]at hs
 match l,hs with
 |[v],_=>exact⟨v,rfl,h0⟩
def dXl:List AV→H→Nat→Option (H×Nat)
 |[.b false],hp,nx=>some (hp,nx)
 |_,_,_=>none
theorem bG (fr:List (Nat×AV)):gdS fr none=some true:=(rfl)
theorem dXk (hp:H) (nx:Nat):dXl [.b false] hp nx=some (hp,nx):=(rfl)
attribute [go_sem] dXk cSi dXs
theorem fC:dE Try.prog GLh 55 chM dXl:=by
 refine dXi fun args hp nx hp' nx' hg=>?_
 unfold dXl at hg
 split at hg
 ·simp only[Option.some.injEq,Prod.mk.injEq]at hg;obtain⟨rfl,rfl⟩:=hg
  refine⟨rfl,rfl,fun σ I w vals hs hr=>?_⟩
  obtain⟨v,rfl,hv⟩:=dXv hs hr
  obtain rfl:=bQs hv
  exact dXw w
 cases hg
theorem dWt:cJ Try.prog 55:=⟨_,Try.func55,rfl,rfl⟩
theorem dYu:cJ Try.prog 35:=⟨_,Try.func35,rfl,rfl⟩
theorem dYs:cJ Try.prog 39:=⟨_,Try.func39,rfl,rfl⟩
theorem dYv:cJ Try.prog 34:=⟨_,Try.func34,rfl,rfl⟩
theorem dYt:cJ Try.prog 38:=⟨_,Try.func38,rfl,rfl⟩
def HDQ (most:Int) (h:List B8):Prop:=mI (h.take 8)=dFx∧h.getD 8 0#8<2#8∧mI ((h.drop 25).take 4)=BitVec.setWidth 64 (dGd (h.take 25))∧hN h≤BitVec.ofInt 64 most
noncomputable instance hdqDec (most:Int) (h:List B8):Decidable (HDQ most h):=Classical.propDecidable _
noncomputable def hdP:List AV→H→Nat→Option (H×Nat)
 |[.op j 0,.sl n xs],hp,nx=>aK (mJ hp j) fun t=>aK (cI xs) fun h=>aK (uK t.C.rows) fun z=>
   aN ((h.length=n∧(1≤t.C.rows.length∧t.C.rows.length≤4096)∧0≤z∧z≤4096)∧(64≤h.length∧h.length≤4096)∧¬HDQ ((eH t.C:Int)*z) h)
    (some (hp,nx+2000))
 |_,_,_=>none
theorem dXm (j n:Nat) (xs:List AV) (hp:H) (nx:Nat):hdP [.op j 0,.sl n xs] hp nx=aK (mJ hp j) fun t=>aK (cI xs) fun h=>aK (uK t.C.rows) fun z=>
   aN ((h.length=n∧(1≤t.C.rows.length∧t.C.rows.length≤4096)∧0≤z∧z≤4096)∧(64≤h.length∧h.length≤4096)∧¬HDQ ((eH t.C:Int)*z) h)
    (some (hp,nx+2000)):=(rfl)
attribute [go_sem] dXm
set_option maxHeartbeats 4000000 in
theorem dYr:dE Try.prog GLh 35 chM hdP:=by
 refine cJs Try.func35 (aT rfl) ?_
 intro args hp nx hp' nx' hg
 unfold hdP at hg
 split at hg
 ·rename_i j n xs
  replace hg:=aJ hg;obtain⟨⟨⟨d,sd,b,co⟩,s,m,C⟩,hJ,hg⟩:=hg
  replace hg:=aJ hg;obtain⟨h,hh,hg⟩:=hg
  replace hg:=aJ hg;obtain⟨z,hz,hg⟩:=hg
  replace hg:=aP hg;obtain⟨⟨⟨hn,hr,hz0,hz1⟩,hln,hok⟩,hg⟩:=hg
  have:=bW hh;subst this
  have h3:=hJ
  have hJ:=mA hJ
  simp only[Option.some.injEq,Prod.mk.injEq]at hg hJ hr hz hok;obtain⟨rfl,rfl⟩:=hg
  subst hn
  refine⟨J1 rfl,by omega,fun hnone=>?_⟩
  have l1:(h.take 8).length=8:=by rw[List.length_take];omega
  have l2:((h.drop 25).take 4).length=4:=by rw[List.length_take,List.length_drop];omega
  have l3:(h.take 25).length=25:=by rw[List.length_take];omega
  have l4:((h.drop 9).take 8).length=8:=by rw[List.length_take,List.length_drop];omega
  have g8:(c8 (h.drop 8)).head? =some (.w8 (h.getD 8 0#8)):=aPl h 8 (by omega)
  have hend: ∀fr nx2 cx2,cx2≤nx+2000→dYi chM hp (nx+2000) (.panic chM) {fr:=fr,hp:=hp,nx:=nx2,cx:=cx2}:=fun fr nx2 cx2 hc=>⟨rfl,fun _ _ h=>h,hc⟩
  refine aA rfl (bA [0,1] rfl rfl rfl fun K hK=>?_)
  simp(disch:=omega) only[Try.f35,go_sem,↓reduceIte]
  refine hK _ ?_
  refine aB ?_
  by_cases o1:mI (h.take 8)=8316291910762508337#64
  ·have d1:decide (mI (h.take 8)=8316291910762508337#64)=true:=J5 o1
   by_cases o2:h.getD 8 0#8<2#8
   ·have d2:decide (h.getD 8 0#8<2#8)=true:=J5 o2
    by_cases o3:mI ((h.drop 25).take 4)=BitVec.setWidth 64 (dGd (h.take 25))
    ·have d3:decide (mI ((h.drop 25).take 4)=BitVec.setWidth 64 (dGd (h.take 25)))=true:=J5 o3
     have d4:decide (mI ((h.drop 9).take 8)≤BitVec.ofInt 64 ((eH C:Int)*z))=false:=J6 fun e=>hok ⟨o1,o2,o3,e⟩
     refine aA rfl (dCo (Γ:=bC [(56,.pure true bBg),(10,.pure true dFf),(41,.heap dJm),(55,.pure true eM)]) 29 (fun k=>if k=25 then 0 else 2) mixed (fC) dWt (aH dIj (aH dHe (aH dNa (aH dKj aO)))) rfl rfl rfl (by kernel_rfl) rfl (by kernel_rfl) (fun Z hZ=>?_))
     simp(disch:=omega) only[Try.f35,U0,U1,go_sem,↓reduceIte,bG,eq_self,true_and,and_true,bP,List.map_cons,List.map_nil,List.append_nil,rH,tP,l1,l2,l3,l4,g8,d1,d2,d3,d4,h3,hr,hz,hz0,hz1,true_and,and_self]
     refine hZ _ ?_;clear hZ Z
     exact hend _ _ _ (by omega)
    have d3:decide (mI ((h.drop 25).take 4)=BitVec.setWidth 64 (dGd (h.take 25)))=false:=J6 o3
    refine aA rfl (dCo (Γ:=bC [(56,.pure true bBg),(10,.pure true dFf),(41,.heap dJm),(55,.pure true eM)]) 29 (fun k=>if k=25 then 0 else 2) mixed (fC) dWt (aH dIj (aH dHe (aH dNa (aH dKj aO)))) rfl rfl rfl (by kernel_rfl) rfl (by kernel_rfl) (fun Z hZ=>?_))
    simp(disch:=omega) only[Try.f35,U0,U1,go_sem,↓reduceIte,bG,eq_self,true_and,and_true,bP,List.map_cons,List.map_nil,List.append_nil,rH,tP,l1,l2,l3,g8,d1,d2,d3,true_and,and_self]
    refine hZ _ ?_;clear hZ Z
    exact hend _ _ _ (by omega)
   have d2:decide (h.getD 8 0#8<2#8)=false:=J6 o2
   refine aA rfl (dCo (Γ:=bC [(56,.pure true bBg),(10,.pure true dFf),(41,.heap dJm),(55,.pure true eM)]) 29 (fun k=>if k=25 then 0 else 2) mixed (fC) dWt (aH dIj (aH dHe (aH dNa (aH dKj aO)))) rfl rfl rfl (by kernel_rfl) rfl (by kernel_rfl) (fun Z hZ=>?_))
   simp(disch:=omega) only[Try.f35,U0,U1,go_sem,↓reduceIte,bG,eq_self,true_and,and_true,bP,List.map_cons,List.map_nil,List.append_nil,rH,tP,l1,g8,d1,d2,true_and,and_self]
   refine hZ _ ?_;clear hZ Z
   exact hend _ _ _ (by omega)
  have d1:decide (mI (h.take 8)=8316291910762508337#64)=false:=J6 o1
  refine aA rfl (dCo (Γ:=bC [(56,.pure true bBg),(10,.pure true dFf),(41,.heap dJm),(55,.pure true eM)]) 29 (fun k=>if k=25 then 0 else 2) mixed (fC) dWt (aH dIj (aH dHe (aH dNa (aH dKj aO)))) rfl rfl rfl (by kernel_rfl) rfl (by kernel_rfl) (fun Z hZ=>?_))
  simp(disch:=omega) only[Try.f35,U0,U1,go_sem,↓reduceIte,bG,eq_self,true_and,and_true,bP,List.map_cons,List.map_nil,List.append_nil,rH,tP,l1,d1,true_and,and_self]
  refine hZ _ ?_;clear hZ Z
  exact hend _ _ _ (by omega)
 cases hg
end Go.AX

namespace Go.AX
open Go Go.Proofs
set_option maxRecDepth 8000
theorem dXq {n:Nat} {l:List B8} (hl:l≠[]) (h:dFc n l=none) (hn:l.length<n):
  ∃n',n=n'+1∧(l.length<4∨(4≤l.length∧l.length-4<(mI (l.take 4)).toNat)∨(4≤l.length∧(mI (l.take 4)).toNat≤l.length-4∧dFc n' (l.drop (4+(mI (l.take 4)).toNat))=none)):=by
 cases n with
 |zero=>omega
 |succ n=>
  refine⟨n,rfl,?_⟩
  rw[dFc,J3 hl]at h
  split at h
  ·omega
  ·rename_i hc
   refine .inr (.inr ⟨by omega,by omega,?_⟩)
   unfold aK at h
   split at h
   ·cases h
   ·assumption
theorem dYg (n:Nat):dFc (n+1) []=some []:=by rw[dFc,J4 rfl]
noncomputable def dYh:List AV→H→Nat→Option (H×Nat)
 |[.sl n xs],hp,nx=>aK (cI xs) fun l=>aN (l.length=n∧n≤1000000∧dFc (l.length+1) l=none) (some (hp,nx+opN))
 |_,_,_=>none
theorem dXr (n:Nat) (xs:List AV) (hp:H) (nx:Nat):dYh [.sl n xs] hp nx=aK (cI xs) fun l=>aN (l.length=n∧n≤1000000∧dFc (l.length+1) l=none) (some (hp,nx+opN)):=(rfl)
attribute [go_sem] dXr
structure RPI where
 k:Nat
 id:Nat
 l:List B8
 M:List (List B8)
 f:Nat
 c:Nat
set_option maxHeartbeats 4000000 in
theorem dXp:dE Try.prog GLh 39 chM dYh:=by
 refine cJs Try.func39 (aT rfl) ?_
 intro args hp nx hp' nx' hg
 unfold dYh at hg
 split at hg
 ·rename_i n xs
  replace hg:=aJ hg;obtain⟨l0,hl,hg⟩:=hg
  have:=bW hl;subst this
  replace hg:=aP hg;obtain⟨⟨hn,hbig,hR⟩,hg⟩:=hg
  simp only[Option.some.injEq,Prod.mk.injEq]at hg;obtain⟨rfl,rfl⟩:=hg
  subst hn
  have hO:=dHv
  refine⟨J1 rfl,by omega,fun hnone=>?_⟩
  have hlt: ∀k o,hp k=some o→k<nx:=fun k o hk=>cA hnone hk
  have hend: ∀fr h2 nx2 cx2,cx2≤nx+opN→(∀q o,hp q=some o→h2 q=some o)→dYi chM hp (nx+opN) (.panic chM) {fr:=fr,hp:=h2,nx:=nx2,cx:=cx2}:=fun fr h2 nx2 cx2 hc hs=>⟨rfl,hs,hc⟩
  refine aA rfl (bA [0] rfl rfl rfl fun K hK=>?_)
  simp(disch:=omega) only[Try.f39,go_sem,↓reduceIte]
  refine hK _ ?_
  refine aB (aA rfl (bA [0,3] rfl rfl rfl fun K hK=>?_))
  simp(disch:=omega) only[Try.f39,go_sem,↓reduceIte]
  refine hK _ ?_
  refine aB (iE 3 1 rfl (fF [0,3] ?_))
  simp only[iB,fU,eB,↓reduceIte,Nat.reduceEqDiff]
  refine aA rfl (aR 0 rfl rfl ?_)
  refine bR (fun p:RPI=> {fr:=[(0,.sl p.l.length (c8 p.l)),(3,.os p.id 0 p.M.length 1 true)],hp:=upd hp p.id (.cells (cP p.M) true),nx:=0,cx:=p.c}) (fun p=>(nx≤p.id∧p.id<p.c∧p.M.length=p.k)∧dFc p.f p.l=none∧p.l.length<p.f∧4*p.k+p.l.length≤1000000∧p.c≤nx+100+100*p.k) (fun p=>p.l.length) rfl ⟨⟨0,_,l0,[],l0.length+1,_⟩,⟨⟨by simp only;omega,by simp only;omega,rfl⟩,hR,by simp only;omega,by simp only;omega,by simp only;omega⟩,bD rfl rfl (U3 _)⟩ ?_
  rintro⟨k,id,l,M,f,c⟩ ⟨hid,hr,hlf,hll,hc⟩ n0
  simp only at hid hr hlf hll hc⊢
  have hl0:l≠[]:=by
   intro e;subst e
   obtain⟨f',rfl⟩: ∃f',f=f'+1:=⟨f-1,by simp only[List.length_nil]at hlf;omega⟩
   rw[dYg]at hr;cases hr
  have hlp:0<l.length:=List.length_pos_iff.2 hl0
  obtain⟨f',rfl,hcs⟩:=dXq hl0 hr hlf
  refine aA rfl (aA rfl (bA [7,0,3] rfl rfl rfl fun K hK=>?_))
  simp(disch:=omega) only[Try.f39,go_sem,↓reduceIte]
  refine hK _ ?_
  refine aB (aW (.tmp 7) rfl rfl rfl (fun h=>?_) (fun h=>?_))
  ·refine aI rfl ?_
   clear h
   refine aQ rfl (aB (aR 1 rfl rfl (aA rfl ?_)))
   rcases hcs with h4|⟨h4,h5⟩|⟨h4,h5,h6⟩
   ·have d1:decide ((4:Int)≤(l.length:Int))=false:=J6 (by omega)
    refine dCn (Γ:=bC [(55,.pure true eM)]) 3 (fC) dWt (aH dKj aO) rfl rfl rfl (fun Z hZ=>?_)
    simp(disch:=omega) only[Try.f39,U0,U1,go_sem,↓reduceIte,bG,eq_self,true_and,bP,List.map_cons,List.map_nil,List.append_nil,d1]
    refine hZ _ ?_;clear hZ Z
    refine hend _ _ _ _ (by omega) fun q o hq=>?_
    have:=hlt _ _ hq
    rw[bJ,J3 (by omega)];exact hq
   ·have d1:decide ((4:Int)≤(l.length:Int))=true:=J5 (by omega)
    have l4:(l.take 4).length=4:=by rw[List.length_take];omega
    obtain⟨G,hG⟩: ∃G,(mI (l.take 4))=G:=⟨_,rfl⟩
    rw[hG]at h5
    have hML: ¬G≤BitVec.ofInt 64 ((l.length:Int)-4):=by
     rw[BitVec.le_def,show((l.length:Int)-4)=((l.length-4:Nat):Int)by omega,BitVec.ofInt_natCast,BitVec.toNat_ofNat,Nat.mod_eq_of_lt (by omega)]
     omega
    have d2:decide (G≤BitVec.ofInt 64 ((l.length:Int)-4))=false:=J6 hML
    refine aC (Γ:=bC [(55,.pure true eM)]) [0,3] (aH dKj aO) rfl rfl rfl (fun K hK=>?_)
    simp(disch:=omega) only[Try.f39,go_sem,↓reduceIte,d1]
    refine hK _ ?_
    refine aB (aA rfl (aC (Γ:=bC [(56,.pure true bBg)]) [0,3,4] (aH dIj aO) rfl rfl rfl (fun K hK=>?_)))
    simp(disch:=omega) only[Try.f39,go_sem,↓reduceIte,rH,l4,hG]
    refine hK _ ?_
    refine aB (aA rfl (dCn (Γ:=bC [(55,.pure true eM)]) 6 (fC) dWt (aH dKj aO) rfl rfl rfl (fun Z hZ=>?_)))
    simp(disch:=omega) only[Try.f39,U0,U1,go_sem,↓reduceIte,bG,eq_self,true_and,bP,List.map_cons,List.map_nil,List.append_nil,d2]
    refine hZ _ ?_;clear hZ Z
    refine hend _ _ _ _ (by omega) fun q o hq=>?_
    have:=hlt _ _ hq
    rw[bJ,J3 (by omega)];exact hq
   have d1:decide ((4:Int)≤(l.length:Int))=true:=J5 (by omega)
   have l4:(l.take 4).length=4:=by rw[List.length_take];omega
   obtain⟨G,hG⟩: ∃G,(mI (l.take 4))=G:=⟨_,rfl⟩
   rw[hG]at h5 h6
   have hML:G≤BitVec.ofInt 64 ((l.length:Int)-4):=by
    rw[BitVec.le_def,show((l.length:Int)-4)=((l.length-4:Nat):Int)by omega,BitVec.ofInt_natCast,BitVec.toNat_ofNat,Nat.mod_eq_of_lt (by omega)]
    exact h5
   have d2:decide (G≤BitVec.ofInt 64 ((l.length:Int)-4))=true:=J5 hML
   obtain⟨x,hx⟩: ∃x,(l.drop 4).take G.toNat=x:=⟨_,rfl⟩
   have hxl:x.length=G.toNat:=by rw[←hx,List.length_take,List.length_drop];omega
   have hld:(l.drop (4+G.toNat)).length=l.length-(4+G.toNat):=List.length_drop
   have e4:(4+(G.toNat:Int)).toNat=4+G.toNat:=by omega
   have hcl:=dOa x G.toNat hxl (by omega)
   have e5:4+G.toNat-4=G.toNat:=by omega
   refine aC (Γ:=bC [(55,.pure true eM)]) [0,3] (aH dKj aO) rfl rfl rfl (fun K hK=>?_)
   simp(disch:=omega) only[Try.f39,go_sem,↓reduceIte,d1]
   refine hK _ ?_
   refine aB (aA rfl (aC (Γ:=bC [(56,.pure true bBg)]) [0,3,4] (aH dIj aO) rfl rfl rfl (fun K hK=>?_)))
   simp(disch:=omega) only[Try.f39,go_sem,↓reduceIte,rH,l4,hG]
   refine hK _ ?_
   refine aB (aA rfl (aC (Γ:=bC [(55,.pure true eM)]) [0,3,4] (aH dKj aO) rfl rfl rfl (fun K hK=>?_)))
   simp(disch:=omega) only[Try.f39,go_sem,↓reduceIte,d2]
   refine hK _ ?_
   refine aB (aA rfl (aC (Γ:=bC [(46,.fresh true dSa)]) [0,3,4] (aH dUh aO) rfl rfl rfl (fun K hK=>?_)))
   simp(disch:=omega) only[Try.f39,go_sem,↓reduceIte,rH,tP,iM,e4,e5,hx,hcl,dGs,hxl]
   refine hK _ ?_
   refine aB (bA [0,3] rfl rfl rfl fun K hK=>?_)
   simp(disch:=omega) only[Try.f39,go_sem,↓reduceIte,tP,e4]
   refine hK _ ?_
   refine bU (bT ?_)
   have hcP:cP (M++[x])=cP M++[.sl G.toNat (c8 x)]:=by rw[←hxl];simp[cP]
   have hMl:(M++[x]).length=M.length+1:=by simp
   refine⟨⟨k+1,_,l.drop (4+G.toNat),M++[x],f',_⟩,⟨⟨?_,?_,by simp only[hMl];omega⟩,h6,by simp only[hld];omega,by simp only[hld];omega,?_⟩,by simp only[hld];omega,⟨fun y=> .inr (by simp only[hld,hMl];rfl),fun q oo hq=>?_,U3 _⟩⟩
   ·simp only;omega
   ·simp only;omega
   ·simp only;omega
   simp only[bJ]at hq
   simp only[bJ,eV]
   split at hq
   ·rename_i e;rw[J4 e,←hcP];exact hq
   rename_i e
   have:=hlt _ _ hq
   rw[J3 e]
   simp(disch:=omega) only[bY,↓reduceIte]
   exact hq
  exact aI rfl (absurd h (by omega))
 cases hg
noncomputable def o1P:List AV→H→Nat→Option (H×Nat)
 |[.op a 0,.op b 0,.op _ 0],hp,nx=>aK (cl1 hp a) fun x=>aK (cl1 hp b) fun y=>
   match x,y with
   | .op j 0,.sl n xs=>aK (hdP [.op j 0,.sl n xs] hp nx) fun _=>some (hp,nx+3000)
   |_,_=>none
 |_,_,_=>none
set_option maxHeartbeats 2000000 in
theorem dYp:dE Try.prog GLh 34 chM o1P:=by
 refine cJs Try.func34 (aT rfl) ?_
 intro args hp nx hp' nx' hg
 unfold o1P at hg
 split at hg
 ·rename_i a b c
  replace hg:=aJ hg;obtain⟨x,hx,hg⟩:=hg
  replace hg:=aJ hg;obtain⟨y,hy,hg⟩:=hg
  split at hg
  ·rename_i j n xs
   replace hg:=aJ hg;obtain⟨u,hu,hg⟩:=hg
   have hu2: ∀nx2,hdP [.op j 0,.sl n xs] hp nx2=some (hp,nx2+2000):=fun nx2=>by
    unfold hdP at hu⊢
    simp only at hu⊢
    replace hu:=aJ hu;obtain⟨t,ht,hu⟩:=hu
    replace hu:=aJ hu;obtain⟨h,hh,hu⟩:=hu
    replace hu:=aJ hu;obtain⟨z,hz,hu⟩:=hu
    replace hu:=aP hu;obtain⟨hg2,hu⟩:=hu
    rw[ht,aX,hh,aX,hz,aX,cU _ hg2]
   simp only[Option.some.injEq,Prod.mk.injEq]at hg;obtain⟨rfl,rfl⟩:=hg
   refine⟨J1 rfl,by omega,fun hnone=>?_⟩
   have h1:=mF hx
   have h2:=mF hy
   refine dCn (Γ:=bC [(35,.heap hdG)]) 2 (dYr) dYu (aH dQq aO) rfl rfl rfl (fun Z hZ=>?_)
   simp(disch:=omega) only[Try.f34,U0,U1,go_sem,↓reduceIte,bG,eq_self,true_and,bP,List.map_cons,List.map_nil,List.append_nil,h1,h2,hu2]
   refine hZ _ ?_;clear hZ Z
   exact⟨rfl,fun q o hq=>hq,by simp only;omega⟩
  cases hg
 cases hg
noncomputable def o2P:List AV→H→Nat→Option (H×Nat)
 |[.op a 0,.op _ 0],hp,nx=>aK (cl1 hp a) fun x=>
   match x with
   | .op j 0=>aK (mJ hp j) fun t=>aN (t.J.b.length≤1000000∧dFc (t.J.b.length+1) t.J.b=none) (some (hp,nx+opN+100))
   |_=>none
 |_,_,_=>none
set_option maxHeartbeats 2000000 in
theorem dYn:dE Try.prog GLh 38 chM o2P:=by
 refine cJs Try.func38 (aT rfl) ?_
 intro args hp nx hp' nx' hg
 unfold o2P at hg
 split at hg
 ·rename_i a c
  replace hg:=aJ hg;obtain⟨x,hx,hg⟩:=hg
  split at hg
  ·rename_i j
   replace hg:=aJ hg;obtain⟨⟨⟨d,sd,b,co⟩,s,m,C⟩,ht,hg⟩:=hg
   replace hg:=aP hg;obtain⟨⟨hb,hr⟩,hg⟩:=hg
   have hJ:=mA ht
   simp only[Option.some.injEq,Prod.mk.injEq]at hg hb hr hJ;obtain⟨rfl,rfl⟩:=hg
   refine⟨J1 rfl,by omega,fun hnone=>?_⟩
   have h1:=mF hx
   have h4:=hJ.hj
   simp only at h4
   refine dCn (Γ:=bC [(39,.pure false dKe)]) 4 (dXp) dYs (aH dQo aO) rfl rfl rfl (fun Z hZ=>?_)
   simp(disch:=omega) only[Try.f38,U0,U1,go_sem,↓reduceIte,bG,eq_self,true_and,bP,List.map_cons,List.map_nil,List.append_nil,h1,h4,hb,hr,true_and,and_self]
   refine hZ _ ?_;clear hZ Z
   exact⟨rfl,fun q o hq=>hq,by simp only;omega⟩
  cases hg
 cases hg
end Go.AX

namespace Go.AX
open Go Go.Proofs
set_option maxRecDepth 8000
def dYe (P:Program) (rs:List ResultVar) (ch:List PanicEntry) (gI gP:List AV→H→Nat→Option (H×Nat)) (capsA:List AV) (r:AV) (hpF:H) (nxF:Nat):Exit→S→Prop
 | .ret,t=> ∃p,gI capsA t.hp t.cx=some p∧wZ P rs r hpF nxF {t with hp:=p.1,cx:=p.2}
 | .normal,t=> ∃p,gI capsA t.hp t.cx=some p∧wZ P rs r hpF nxF {t with hp:=p.1,cx:=p.2}
 | .panic c,t=>c=ch∧∃p,gP capsA t.hp t.cx=some p∧wZ P rs r hpF nxF {t with hp:=p.1,cx:=p.2}
 |_,_=>False
theorem dWw {P:Program} {rs:List ResultVar} {ch:List PanicEntry} {gI gP:List AV→H→Nat→Option (H×Nat)} {capsA:List AV} {r:AV} {hpF:H} {nxF:Nat} {t:S} {p:H×Nat} (h1:gP capsA t.hp t.cx=some p) (h2:wZ P rs r hpF nxF {t with hp:=p.1,cx:=p.2}):dYe P rs ch gI gP capsA r hpF nxF (.panic ch) t:=⟨rfl,p,h1,h2⟩
section
variable {P : Program} {GL : Nat → Option (List AV)}
theorem dXe {f d:FuncId} {fn:Func} {r0 C:Code} {id:Nat} {k:Tmp} {caps:Array Operand} {ty1 ty2:TypeId} {p1 p2:String} {af1 af2:Array Edge} {ch:List PanicEntry} {u':FrameMode} {gI gP:List AV→H→Nat→Option (H×Nat)} {g:List AV→H→Nat→Option (AV×H×Nat)} (hf:P.funcs[f]? =some fn)
  (hb:fn.body=some (.seq r0 (.seq (.region id #[{dst:=some k,op:=.makeFunc (.func d) #[] caps,type:=ty1,pos:=p1,after:=af1,guard:=none},{dst:=none,op:=.defer {callee:=.value (.tmp k),args:= #[],argTypes:= #[]},type:=ty2,pos:=p2,after:=af2,guard:=none}] false) C)))
  (hk:k<fn.ntmps) (hd:cJ P d) (hI:bSj P GL d .returning .returning gI) (hP:bSj P GL d (.panicking ch) u' gP) (hu:settle u'=.returning)
  (h: ∀args hp nx r hp' nx',g args hp nx=some (r,hp',nx')→args.length≤fn.ntmps∧nx≤nx'∧((∀id,nx≤id→hp id=none)→∃capsA,Awp P GL fn.ntmps r0 (sN args hp nx) (dYy P GL fn.ntmps C k d caps.toList capsA (dYe P fn.results.toList ch gI gP capsA r hp' nx')))):cQ P GL f g:=by
 intro c0 σ I w hp nx args vals r hp' nx' hGL hi hs hr hg
 obtain⟨hlen,hle,haw⟩:=h args hp nx r hp' nx' hg
 refine⟨hle,?_⟩
 obtain⟨capsA,haw⟩:=haw fun id hid=>hi.none_un hid
 let c:Ctx:= {c0 with nt:=fn.ntmps,u0:=fun id=>id<nx∧σ id=.unset,df:=[]}
 have hi':Inv c σ I w hp (fun id=>nx≤id∨(id<nx∧σ id=.unset)):=
  ⟨hi.ext,hi.imm,hi.iw,hi.os,hi.tape,hi.output,hi.size,hi.old,hi.ilt,hi.own,hi.inj,hi.lim,fun id h=>h.elim (hi.un id) (fun h=>h.2),hi.glob,hi.inew⟩
 refine calls_of_wp_defers hf hb ?_
 refine wp_seq (wp_mono (haw c hGL rfl σ I w {tmps:=vals++Array.replicate (fn.ntmps-vals.size) undef,defers:=[]} w ?_) ?_)
 ·refine⟨⟨σ,I,?_,Grow.refl _ _ _,fun t=>oG hs hr t⟩,rfl,by show _=fn.ntmps;simp[hs];omega,fun k hk=>hk.elim,fun id hid=>⟨hid.1,hid.1⟩⟩
  refine hi'.mono_un fun id hid=>?_
  rcases hid with hid|⟨k,hk,_⟩|hid
  ·exact .inl hid
  ·exact hk.elim
  ·exact .inr hid
 rintro e a0 w0 ⟨t0,hq,hR⟩
 cases e with
 |normal=>
  obtain⟨hcaps,hC⟩:=hq
  refine wp_seq ?_
  refine wp_region_list ?_
  obtain⟨⟨σ1,I1,b1,b2,b3⟩,bd,bs,blt,blt0⟩:=hR
  have c0g:=b2
  obtain⟨V,hV⟩: ∃V,caps.map a0.eval=V:=⟨_,rfl⟩
  have hVs:V.size=capsA.length:=by rw[←hV,←hcaps];simp
  have hVr: ∀i (_h:i<capsA.length),Rel σ1 I1 w0 capsA[i] (V.getD i undef):=by
   subst hcaps
   intro i hi
   have:=aAc (l:=caps.toList) (aJt b1 b3) i (by simpa using hi)
   rw[fI,List.getD_eq_getElem?_getD]at this
   have e:V[i]? =(List.map a0.eval caps.toList)[i]?:=by rw[←hV,←Array.toList_map,Array.getElem?_toList]
   have hcg:c.GL=GL:=hGL
   rw[Array.getD_eq_getD_getElem?,e];rw[hcg]at this;exact this
  let D:Deferred:= {target:=.fn (.func d) V,args:= #[]}
  let a1:Act:=a0.put (some k) (.func (.func d) #[] V)
  let a2:Act:= {a1 with defers:=D::a1.defers}
  have hbs:a0.tmps.size=fn.ntmps:=bs
  have ha1:a1.eval (.tmp k)=.func (.func d) #[] V:=by
   show((a0.tmps.setIfInBounds k _).getD k undef)=_
   rw[Array.getD_eq_getD_getElem?,Array.getElem?_setIfInBounds_self_of_lt (by rw[hbs];exact hk)];rfl
  unfold wpList
  rw[J4 (by simp[Region.wanted])]
  refine .inl ?_
  have e1:(execOp a0.eval {dst:=some k,op:=.makeFunc (.func d) #[] caps,type:=ty1,pos:=p1,after:=af1,guard:=none}).run P w0=.ok (.value (.func (.func d) #[] V)) w0:=by
   rw[←hV]
   simp only[execOp,Instr.makeFunc,Array.map_empty,Sem.run_bind,Sem.run_pure,Result.andThen_ok]
  unfold Oper.wp
  rw[e1]
  show wpList P _ _ _ a1 w0
  unfold wpList
  rw[J4 (by simp[Region.wanted])]
  refine .inl ?_
  have e2:(execOp a1.eval {dst:=none,op:=.defer {callee:=.value (.tmp k),args:= #[],argTypes:= #[]},type:=ty2,pos:=p2,after:=af2,guard:=none}).run P w0=.ok (.defer D) w0:=by
   simp only[execOp,resolve,ha1,Deferred.ofValue,Sem.run_bind,Sem.run_pure,Result.andThen_ok,Array.map_empty,Array.append_empty];rfl
  unfold Oper.wp
  rw[e2]
  show Code.wp P C _ a2 w0
  have hadf:a0.defers=[]:=bd
  have hR2:R {c with df:=[D]} σ1 I1 w0 (fun _=>False) (dBa k d capsA t0) a2 w0:=by
   refine⟨⟨σ1,I1,⟨b1.ext,b1.imm,b1.iw,b1.os,b1.tape,b1.output,b1.size,b1.old,b1.ilt,b1.own,b1.inj,b1.lim,b1.un,b1.glob,b1.inew⟩,Grow.refl _ _ _,?_⟩,?_,?_,fun k hk=>hk.elim,blt0⟩
   ·exact vT (n:=fn.ntmps) (dst:=some k) (x:=.fn d capsA) (v:=.func (.func d) #[] V) hbs (fun d' hd'=>by obtain rfl:=J0 hd';exact hk) (fun _=> .fn d capsA V hVs hVr) b3
   ·show D::a0.defers=[D];rw[hadf]
   ·show(a0.put (some k) _).tmps.size=_;rw[pX];exact hbs
  refine wp_mono (hC {c with df:=[D]} hGL rfl σ1 I1 w0 a2 w0 hR2) ?_
  rintro e a' w' ⟨t,hq,hR'⟩
  have hd':a'.defers=[D]:=hR'.defers
  obtain⟨⟨σ2,I2,c1,c2,c3⟩,_,_,_,clt0⟩:=hR'
  obtain⟨fnd,q1,q2,q3⟩:=hd
  have hinv:(invoke (.fn (.func d) V) #[]).run P w'=.ok (.enter d V) w':=by
   simp only[invoke,Array.empty_append,callFunc,Sem.run_bind,run_program,Result.andThen_ok,q1,q2,q3,Bool.false_eq_true,if_false,Sem.run_pure]
  have hVr2: ∀i (_h:i<capsA.length),Rel σ2 I2 w' capsA[i] (V.getD i undef):=fun i hi=>(hVr i hi).grow c2
  have fin: ∀(p:H×Nat) (σ3:Nat→Loc) (I3:Nat→Prop) (w3:World),wZ P fn.results.toList r hp' nx' {t with hp:=p.1,cx:=p.2}→Inv {c with df:=[D]} σ3 I3 w3 p.1 (fun id=>p.2≤id)→Grow σ2 I2 w' σ3 I3 w3→(∀id,id<t.cx→σ2 id=.unset→σ3 id=.unset)→
    ∃v,(results fn a'.tmps).run P w3=.ok v w3∧∃v' σ' I',Ending.returned v=.returned v'∧Inv c0 σ' I' w3 hp' (fun id=>nx'≤id)∧Rel σ' I' w3 r v'∧Grow σ I w σ' I' w3∧(∀id,id<nx→σ id=.unset→σ' id=.unset):=by
   intro p σ3 I3 w3 hend d1 d2 d3
   obtain⟨q1,q2,q3⟩:=hend
   obtain⟨v,hv,hrel⟩:=eZ (P:=P) (t:= {t with hp:=p.1,cx:=p.2}) d1 (fun k=>(c3 k).grow d2) q1
   have d1':=d1.sub q2
   refine⟨v,hv,v,σ3,I3,rfl,?_,hrel,(c0g.trans c2).trans d2,fun id hid hun=>?_⟩
   ·exact⟨d1'.ext,d1'.imm,d1'.iw,d1'.os,d1'.tape,d1'.output,d1'.size,d1'.old,d1'.ilt,d1'.own,d1'.inj,d1'.lim,fun id h=>d1'.un id (Nat.le_trans q3 h),d1'.glob,d1'.inew⟩
   ·have hu0:c.u0 id:=⟨hid,hun⟩
    exact d3 id (clt0 id hu0).2 (c1.un id (.inr (.inr hu0)))
  have c1':Inv {c with df:=[D]} σ2 I2 w' t.hp (fun id=>t.cx≤id):=c1.mono_un fun id hid=> .inl hid
  have ret:(∃p,gI capsA t.hp t.cx=some p∧wZ P fn.results.toList r hp' nx' {t with hp:=p.1,cx:=p.2})→Leaves P fn a'.tmps (fun e w3=> ∃v' σ' I',e=.returned v'∧Inv c0 σ' I' w3 hp' (fun id=>nx'≤id)∧Rel σ' I' w3 r v'∧Grow σ I w σ' I' w3∧(∀id,id<nx→σ id=.unset→σ' id=.unset)) a'.defers .returning w':=by
   rintro⟨p,hp1,hres⟩
   rw[hd']
   obtain⟨_,hcalls⟩:=hI {c with df:=[D]} σ2 I2 w' t.hp t.cx capsA V p.1 p.2 hGL c1' hVs hVr2 hp1
   refine leaves_cons (by simp) hinv (fun c₀ cs hm=>?_)
   obtain⟨e',u1,w3,fr',hRR,hst⟩:=hcalls c₀ cs hm
   refine⟨e',u1,w3,fr',?_,hst⟩
   obtain⟨v,σ3,I3,rfl,rfl,d1,d2,d3⟩:=hRR
   exact fin p σ3 I3 w3 hres d1 d2 d3
  cases e with
  |ret=>exact ret hq
  |normal=>exact ret hq
  |panic ch'=>
   obtain⟨rfl,p,hp1,hres⟩:=hq
   show Leaves P fn a'.tmps _ a'.defers (.panicking ch') w'
   rw[hd']
   obtain⟨_,hcalls⟩:=hP {c with df:=[D]} σ2 I2 w' t.hp t.cx capsA V p.1 p.2 hGL c1' hVs hVr2 hp1
   refine leaves_cons (by simp) hinv (fun c₀ cs hm=>?_)
   obtain⟨e',u1,w3,fr',hRR,hst⟩:=hcalls c₀ cs hm
   refine⟨e',u1,w3,fr',?_,hst⟩
   obtain⟨v,σ3,I3,rfl,rfl,d1,d2,d3⟩:=hRR
   show Leaves P fn a'.tmps _ [] (settle u1) w3
   rw[hu]
   exact fin p σ3 I3 w3 hres d1 d2 d3
  |_=>exact hq.elim
 |_=>exact hq.elim
end
def eS:Option AO→Bool
 |some (.cells [_] true)=>true
 |_=>false
theorem eG {o:Option AO} (h:eS o=true): ∃x,o=some (.cells [x] true):=by
 unfold eS at h
 split at h
 ·exact⟨_,rfl⟩
 cases h
theorem dXx (x:AV):eS (some (.cells [x] true))=true:=(rfl)
theorem dYl (t:TypeId) (v:Value):ofV (.iface t v)=.v (.iface t v):=(rfl)
theorem dYm:ofV (.agg #[])=.agg []:=(rfl)
theorem isi84:uG Try.prog 84=false:=by kernel_rfl
theorem zc84:cG Try.prog 84=some []:=by kernel_rfl
attribute [go_sem] dXx dYl dYm isi84 zc84
theorem dXh {hp:H} {nx m i1:Nat} {a c1:AO} (hno: ∀id,nx≤id→hp id=none) (hm:nx≤m) (id:Nat) (o:AO) (h:upd hp i1 c1 id=some o):upd (upd hp m a) i1 c1 id=some o:=by
 simp only[bJ]at h⊢
 split
 ·rename_i e;rw[J4 e]at h;exact h
 rename_i e;rw[J3 e]at h
 split
 ·rename_i e;rw[e,hno m hm]at h;cases h
 exact h
def dYw:List AV→H→Nat→Option (H×Nat)
 |[.op i1 0],hp,nx=>aN (eS (hp i1)=true∧i1<nx) (some (upd hp i1 (.cells [.i 91] true),nx+30))
 |_,_,_=>none
theorem dYb (i1 nx:Nat) (hp:H):dYw [.op i1 0] hp nx=aN (eS (hp i1)=true∧i1<nx) (some (upd hp i1 (.cells [.i 91] true),nx+30)):=(rfl)
attribute [go_sem] dYb
set_option maxHeartbeats 4000000 in
theorem dYa:bSj Try.prog GLh 54 (.panicking chM) (.panicking [{v:=.iface 84 (.agg #[]),recovered:=true}]) dYw:=by
 refine fZ (rest:=(cr (aE Try.f54))) (rv:=.iface 84 (.agg #[])) (a:=4) (b:=1) Try.func54 rfl (.inl rfl) ⟨J1 rfl,J1 rfl⟩ ?_
 intro args hp nx hp' nx' hg
 unfold dYw at hg
 split at hg
 ·rename_i i1
  replace hg:=aP hg;obtain⟨⟨o1,l1⟩,hg⟩:=hg
  simp only[Option.some.injEq,Prod.mk.injEq]at hg;obtain⟨rfl,rfl⟩:=hg
  obtain⟨x0,h1⟩:=eG o1
  refine⟨J1 rfl,Nat.le_add_right _ _,fun hno=>?_⟩
  simp only[aOo]
  refine aA rfl (bA [6,0,1] rfl rfl rfl fun K hK=>?_)
  simp(disch:=omega) only[Try.f54,go_sem,↓reduceIte]
  refine hK _ ?_
  refine aB (eC (.tmp 6) rfl rfl rfl (fun h=>?_) (fun h=>?_))
  ·refine aI rfl (aA rfl (aA rfl (bA [0,1,3] rfl rfl rfl fun K hK=>?_)))
   simp(disch:=omega) only[Try.f54,go_sem,↓reduceIte]
   refine hK _ ?_
   refine aB (aA rfl (bA [13,0,1] rfl rfl rfl fun K hK=>?_))
   simp(disch:=omega) only[Try.f54,go_sem,↓reduceIte]
   refine hK _ ?_
   refine aB (eC (.tmp 13) rfl rfl rfl (fun h=>?_) (fun h=>?_))
   ·refine aI rfl ?_
    cases h
   refine aI rfl ?_
   clear h
   refine aQ rfl (aB (bA [] rfl rfl rfl fun K hK=>?_))
   simp(disch:=omega) only[Try.f54,go_sem,↓reduceIte,h1]
   refine hK _ ?_
   exact⟨rfl,dXh hno (by omega),by simp only;omega⟩
  refine aI rfl ?_
  cases h
 cases hg
noncomputable def dXc:List AV→H→Nat→Option (AV×H×Nat)
 |[.fn 34 [.op a 0,.op b 0,.op c 0]],hp,nx=>aK (o1P [.op a 0,.op b 0,.op c 0] hp nx) fun _=>some (.i 91,hp,nx+5000)
 |[.fn 38 [.op a 0,.op c 0]],hp,nx=>aK (o2P [.op a 0,.op c 0] hp nx) fun _=>some (.i 91,hp,nx+opN+5000)
 |_,_,_=>none
theorem dYq {a b c nx k nx2:Nat} {hp:H} {r:H×Nat} (hl: ∀k o,hp k=some o→k<nx) (hk:nx≤k) (o:AO) (h:o1P [.op a 0,.op b 0,.op c 0] hp nx=some r):
  o1P [.op a 0,.op b 0,.op c 0] (upd hp k o) nx2=some (upd hp k o,nx2+3000):=by
 unfold o1P at h⊢
 try simp only at h⊢
 replace h:=aJ h;obtain⟨x,hx,h⟩:=h
 replace h:=aJ h;obtain⟨y,hy,h⟩:=h
 have la:=hl _ _ (mF hx)
 have lb:=hl _ _ (mF hy)
 rw[dFg hx k o (by omega),aX,dFg hy k o (by omega),aX]
 split at h
 ·rename_i j n xs
  replace h:=aJ h;obtain⟨u,hu,h⟩:=h
  unfold hdP at hu⊢
  simp only at hu⊢
  replace hu:=aJ hu;obtain⟨t,ht,hu⟩:=hu
  replace hu:=aJ hu;obtain⟨hh,hhh,hu⟩:=hu
  replace hu:=aJ hu;obtain⟨z,hz,hu⟩:=hu
  replace hu:=aP hu;obtain⟨hg2,hu⟩:=hu
  have hJ:=mA ht
  obtain⟨l1,l2,l3⟩:=hJ.hd.lt hl
  have l4:=hl _ _ hJ.hj
  rw[hE (hJ.upd k o (by omega) (by omega) (by omega) (by omega)),aX,hhh,aX,hz,aX,cU _ hg2,aX]
 ·cases h
theorem dYo {a c nx k nx2:Nat} {hp:H} {r:H×Nat} (hl: ∀k o,hp k=some o→k<nx) (hk:nx≤k) (o:AO) (h:o2P [.op a 0,.op c 0] hp nx=some r):
  o2P [.op a 0,.op c 0] (upd hp k o) nx2=some (upd hp k o,nx2+opN+100):=by
 unfold o2P at h⊢
 try simp only at h⊢
 replace h:=aJ h;obtain⟨x,hx,h⟩:=h
 have la:=hl _ _ (mF hx)
 rw[dFg hx k o (by omega),aX]
 split at h
 ·rename_i j
  replace h:=aJ h;obtain⟨t,ht,h⟩:=h
  replace h:=aP h;obtain⟨hg2,h⟩:=h
  have hJ:=mA ht
  obtain⟨l1,l2,l3⟩:=hJ.hd.lt hl
  have l4:=hl _ _ hJ.hj
  rw[hE (hJ.upd k o (by omega) (by omega) (by omega) (by omega)),aX,cU _ hg2]
 ·cases h
set_option maxHeartbeats 2000000 in
theorem dXz:cQ Try.prog GLh 33 dXc:=by
 refine dXe (r0:=(cl (aE Try.f33))) (C:=(cr (cr (aE Try.f33)))) (k:=3) (d:=54) (caps:= #[.tmp 2]) Try.func33 rfl (J1 rfl) dPp dRo dYa rfl ?_
 intro args hp nx r hp' nx' hg
 unfold dXc at hg
 split at hg
 ·rename_i a b c
  replace hg:=aJ hg;obtain⟨r0,h0,hg⟩:=hg
  simp only[Option.some.injEq,Prod.mk.injEq]at hg;obtain⟨rfl,rfl,rfl⟩:=hg
  refine⟨J1 rfl,by omega,fun hnone=>⟨[.op nx 0],?_⟩⟩
  have hlt: ∀k o,hp k=some o→k<nx:=fun k o hk=>cA hnone hk
  have hu:=fun(nx2:Nat) (o:AO)=>dYq (k:=nx) (nx2:=nx2) hlt (U3 _) o h0
  refine bA [0,2] rfl rfl rfl fun K hK=>?_
  simp(disch:=omega) only[Try.f33,go_sem,↓reduceIte]
  refine hK _ ?_
  refine⟨rfl,?_⟩
  simp only[dBa]
  refine aA rfl (dCn (Γ:=aL) 1 (dYp) dYv (aD _ _) rfl rfl rfl (fun Z hZ=>?_))
  simp(disch:=omega) only[Try.f33,U0,U1,go_sem,↓reduceIte,bG,eq_self,true_and,bP,List.map_cons,List.map_nil,hu]
  refine hZ _ ?_;clear hZ Z
  refine dWw (gI:=fD 1) (p:=_) (by simp(disch:=omega) only[go_sem,aV,↓reduceIte];rfl) ?_
  exact⟨by {simp(disch:=omega) only[bV,bK,bQ,Try.f33,go_sem,aV,↓reduceIte];try rfl},fun q oo hq=>by {have:=hlt q oo hq;simp only[bJ];rw[J3 (by omega)];exact hq},by simp only;omega⟩
 ·rename_i a c
  replace hg:=aJ hg;obtain⟨r0,h0,hg⟩:=hg
  simp only[Option.some.injEq,Prod.mk.injEq]at hg;obtain⟨rfl,rfl,rfl⟩:=hg
  refine⟨J1 rfl,by omega,fun hnone=>⟨[.op nx 0],?_⟩⟩
  have hlt: ∀k o,hp k=some o→k<nx:=fun k o hk=>cA hnone hk
  have hu:=fun(nx2:Nat) (o:AO)=>dYo (k:=nx) (nx2:=nx2) hlt (U3 _) o h0
  refine bA [0,2] rfl rfl rfl fun K hK=>?_
  simp(disch:=omega) only[Try.f33,go_sem,↓reduceIte]
  refine hK _ ?_
  refine⟨rfl,?_⟩
  simp only[dBa]
  refine aA rfl (dCn (Γ:=aL) 1 (dYn) dYt (aD _ _) rfl rfl rfl (fun Z hZ=>?_))
  simp(disch:=omega) only[Try.f33,U0,U1,go_sem,↓reduceIte,bG,eq_self,true_and,bP,List.map_cons,List.map_nil,hu]
  refine hZ _ ?_;clear hZ Z
  refine dWw (gI:=fD 1) (p:=_) (by simp(disch:=omega) only[go_sem,aV,↓reduceIte];rfl) ?_
  exact⟨by {simp(disch:=omega) only[bV,bK,bQ,Try.f33,go_sem,aV,↓reduceIte];try rfl},fun q oo hq=>by {have:=hlt q oo hq;simp only[bJ];rw[J3 (by omega)];exact hq},by simp only;omega⟩
 cases hg
theorem dXj:bX Try.prog GLh 33 (.heap dXc):=⟨⟨_,Try.func33,rfl,rfl⟩,dXz⟩
end Go.AX
