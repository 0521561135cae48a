/-
  Data, part T: numbers put, bytes held against each other, places. AX, part AyJ: an own object that is no more written becomes a plain one. Data, part U: a DNSKEY's bytes. Data, part R2: from calls over abstract values to the given rows. Data, part T2: the lift of a statement's call to its row. Sort, part A: rows of numbers of sixteen bits, as the sort's plain text has them. Data, part yA: numbers put behind own bytes. Data, part yB: slices.Grow from nothing, slices.Concat. Data, part V: the canonical form of data. AX, part AyK: a region that draws its order, in which one pair of operations that don't wait for each other meets: two orders are walked. Data, part yC: a SOA's and a RRSIG's bytes. Data, part yD: a RRSIG's bytes. Data, part yE: a RRSIG's data read. Sort, part B: comparing, sorting by insertion, at numbers of sixteen bits. Sort, part C: the heap's sort, at numbers of sixteen bits. Sort, part D: choosing a pivot, at numbers of sixteen bits. Sort, part E: turning a range about, breaking patterns, at numbers of sixteen bits. Sort, part F: parting a range, at numbers of sixteen bits. Sort, part G: sorting a little, at numbers of sixteen bits.
-/
import Derived.Test.YtndohkbppgmbjaaBC
import Derived.Test.YtndohkbppgmbjaaRows
import Derived.ProofKit
import Derived.LaidMore
import Derived.OpenShut
import Derived.Stop.Joined
import Derived.WideKeyArgs
import Derived.SevenTiedAt
import Derived.Below
import Derived.ChangeSame
import Derived.Test.YtndohkbppgmbjaaBB
import Derived.Sort.AssemblyPlain
namespace Go.AX
open Go Go.Proofs
def aIu:List AV→Option (Nat×Nat×List AV)
 |[.v (.slice none 0 0),.w32 n,.i k]=>aN (0≤k∧k≤8) (some (k.toNat,1,c8 (beL n k.toNat k.toNat)))
 |_=>none
theorem bVb (n:W32) (k:Int):aIu [.v (.slice none 0 0),.w32 n,.i k]=aN (0≤k∧k≤8) (some (k.toNat,1,c8 (beL n k.toNat k.toNat))):=(rfl)
attribute [go_sem] bVb
set_option maxHeartbeats 4000000 in
theorem bUz:dH Try.prog GLh 53 aIu:=by
 refine cT Try.func53 (aT rfl) ?_
 intro args r hg
 unfold aIu at hg
 split at hg
 ·rename_i n k0
  replace hg:=aP hg;obtain⟨⟨hk1,hk8⟩,hg⟩:=hg
  obtain rfl:=J0 hg
  obtain⟨k,rfl⟩:=Int.eq_ofNat_of_zero_le (show 0≤k0 by omega)
  simp only[U2]at*
  clear hg
  refine⟨J1 rfl,fun nx=>?_⟩
  refine aA rfl (aW [0,1,2] rfl rfl rfl fun K hK=>?_)
  simp(disch:=omega) only[Try.f53,go_sem,↓reduceIte]
  refine hK _ ?_
  refine aB (aA rfl (aA rfl (aW [0,1,7] rfl rfl rfl fun K hK=>?_)))
  simp(disch:=omega) only[Try.f53,go_sem,↓reduceIte]
  refine hK _ ?_
  refine aB (iE 0 1 rfl (fF [0,1,7] ?_))
  simp only[iB,fU,eW,↓reduceIte,Nat.reduceEqDiff]
  refine aR 0 rfl rfl ?_
  refine bR (fun p:KIC=> {fr:=[(0,.os p.id 0 p.k 1 true),(1,.w32 n),(7,.i ((k:Int)-1-(p.k:Int)))],hp:=upd (fun _=>none) p.id (.cells (c8 (beL n k p.k)) true),nx:=0,cx:=p.c}) (fun p=>p.k≤k∧p.id<p.c) (fun p=>k-p.k) rfl ⟨⟨0,_,_⟩,⟨Nat.zero_le _,by simp only;omega⟩,bD (by simp only[Int.natCast_zero,Int.sub_zero]) rfl (U3 _)⟩ ?_
  rintro⟨j,id,c⟩ ⟨hj,hid⟩ n0
  simp only at hj hid⊢
  refine aA rfl (aA rfl (aW [11,0,1,7] rfl rfl rfl fun K hK=>?_))
  simp(disch:=omega) only[Try.f53,go_sem,↓reduceIte]
  refine hK _ ?_
  refine aB (bA (.tmp 11) rfl rfl rfl (fun h=>?_) (fun h=>?_))
  ·refine aI rfl ?_
   have e1:(BitVec.ofInt 64 (8*((k:Int)-1-(j:Int)))).toNat=8*(k-1-j):=by rw[BitVec.toNat_ofInt];omega
   have hl:=cZ n k j
   refine aQ rfl (aB (aA rfl (aR 1 rfl rfl (aW [0,1,7] rfl rfl rfl fun K hK=>?_))))
   simp(disch:=omega) only[Try.f53,go_sem,↓reduceIte,e1,hl]
   refine hK _ ?_
   refine bU (aB (aW [0,1,7] rfl rfl rfl fun K hK=>?_))
   simp(disch:=omega) only[Try.f53,go_sem,↓reduceIte]
   refine hK _ ?_
   refine bT ?_
   have e2:(k:Int)-1-((j:Int)+1)=(k:Int)-1-(j:Int)-1:=by omega
   have e4:beL n k (j+1)=beL n k j++[(n>>>(8*(k-1-j))).setWidth 8]:=rfl
   refine⟨⟨j+1,c+2+8,_⟩,⟨by simp only;omega,by simp only;omega⟩,by simp only;omega,⟨fun _=> .inr ?_,fun j o h=>?_,U3 _⟩⟩
   ·simp only[Int.natCast_add,Int.natCast_one,e2]
   simp only at h
   exact bS (by simp(disch:=omega) only[aV,↓reduceIte,eq_self,e4]) (cB) j o h
  refine aI rfl (bF 0 rfl rfl (aY (aZ (bE (aB (aA rfl ?_))))))
  obtain rfl:j=k:=by omega
  have hl:=cZ n j j
  refine aW [6] rfl rfl rfl fun K hK=>?_
  simp(disch:=omega) only[Try.f53,go_sem,↓reduceIte]
  refine hK _ ?_
  refine aB (aS rfl ?_)
  simp(disch:=omega) only[fE,eO,bV,bK,bQ,Try.f53,go_sem,↓reduceIte,fQ,hl]
 cases hg
theorem cWo:bX Try.prog GLh 53 (.fresh false aIu):=⟨⟨_,Try.func53,rfl,rfl⟩,bUz⟩
set_option maxHeartbeats 4000000 in
theorem bHn:dH Try.prog GLh 16 aIu:=by
 refine cT Try.func16 (aT rfl) ?_
 intro args r hg
 unfold aIu at hg
 split at hg
 ·rename_i n k0
  replace hg:=aP hg;obtain⟨⟨hk1,hk8⟩,hg⟩:=hg
  obtain rfl:=J0 hg
  obtain⟨k,rfl⟩:=Int.eq_ofNat_of_zero_le (show 0≤k0 by omega)
  simp only[U2]at*
  clear hg
  refine⟨J1 rfl,fun nx=>?_⟩
  refine aA rfl (aW [0,1,2] rfl rfl rfl fun K hK=>?_)
  simp(disch:=omega) only[Try.f16,go_sem,↓reduceIte]
  refine hK _ ?_
  refine aB (aA rfl (aA rfl (aW [0,1,7] rfl rfl rfl fun K hK=>?_)))
  simp(disch:=omega) only[Try.f16,go_sem,↓reduceIte]
  refine hK _ ?_
  refine aB (iE 0 1 rfl (fF [0,1,7] ?_))
  simp only[iB,fU,eW,↓reduceIte,Nat.reduceEqDiff]
  refine aR 0 rfl rfl ?_
  refine bR (fun p:KIC=> {fr:=[(0,.os p.id 0 p.k 1 true),(1,.w32 n),(7,.i ((k:Int)-1-(p.k:Int)))],hp:=upd (fun _=>none) p.id (.cells (c8 (beL n k p.k)) true),nx:=0,cx:=p.c}) (fun p=>p.k≤k∧p.id<p.c) (fun p=>k-p.k) rfl ⟨⟨0,_,_⟩,⟨Nat.zero_le _,by simp only;omega⟩,bD (by simp only[Int.natCast_zero,Int.sub_zero]) rfl (U3 _)⟩ ?_
  rintro⟨j,id,c⟩ ⟨hj,hid⟩ n0
  simp only at hj hid⊢
  refine aA rfl (aA rfl (aW [11,0,1,7] rfl rfl rfl fun K hK=>?_))
  simp(disch:=omega) only[Try.f16,go_sem,↓reduceIte]
  refine hK _ ?_
  refine aB (bA (.tmp 11) rfl rfl rfl (fun h=>?_) (fun h=>?_))
  ·refine aI rfl ?_
   have e1:(8*((k:Int)-1-(j:Int))).toNat=8*(k-1-j):=by omega
   have hl:=cZ n k j
   refine aQ rfl (aB (aA rfl (aR 1 rfl rfl (aW [0,1,7] rfl rfl rfl fun K hK=>?_))))
   simp(disch:=omega) only[Try.f16,go_sem,↓reduceIte,e1,hl]
   refine hK _ ?_
   refine bU (aB (aW [0,1,7] rfl rfl rfl fun K hK=>?_))
   simp(disch:=omega) only[Try.f16,go_sem,↓reduceIte]
   refine hK _ ?_
   refine bT ?_
   have e2:(k:Int)-1-((j:Int)+1)=(k:Int)-1-(j:Int)-1:=by omega
   have e4:beL n k (j+1)=beL n k j++[(n>>>(8*(k-1-j))).setWidth 8]:=rfl
   refine⟨⟨j+1,c+2+7,_⟩,⟨by simp only;omega,by simp only;omega⟩,by simp only;omega,⟨fun _=> .inr ?_,fun j o h=>?_,U3 _⟩⟩
   ·simp only[Int.natCast_add,Int.natCast_one,e2]
   simp only at h
   exact bS (by simp(disch:=omega) only[aV,↓reduceIte,eq_self,e4]) (cB) j o h
  refine aI rfl (bF 0 rfl rfl (aY (aZ (bE (aB (aA rfl ?_))))))
  obtain rfl:j=k:=by omega
  have hl:=cZ n j j
  refine aW [6] rfl rfl rfl fun K hK=>?_
  simp(disch:=omega) only[Try.f16,go_sem,↓reduceIte]
  refine hK _ ?_
  refine aB (aS rfl ?_)
  simp(disch:=omega) only[fE,eO,bV,bK,bQ,Try.f16,go_sem,↓reduceIte,fQ,hl]
 cases hg
theorem dUo:bX Try.prog GLh 16 (.fresh false aIu):=⟨⟨_,Try.func16,rfl,rfl⟩,bHn⟩
def eNv:List AV→Option AV
 |[.sl n xs,.sl m ys]=>aK (cI xs) fun a=>aK (cI ys) fun b=>aN (a.length=n∧b.length=m) (some (.b (decide (a=b))))
 |_=>none
theorem fAy (n m:Nat) (xs ys:List AV):eNv [.sl n xs,.sl m ys]=aK (cI xs) fun a=>aK (cI ys) fun b=>aN (a.length=n∧b.length=m) (some (.b (decide (a=b)))):=(rfl)
attribute [go_sem] fAy
set_option maxHeartbeats 2000000 in
theorem eTe:cL Try.prog GLh 11 eNv:=by
 refine cC Try.func11 (aT rfl) ?_
 intro args r hg
 unfold eNv at hg
 split at hg
 ·rename_i n xs m ys
  replace hg:=aJ hg;obtain⟨a,ha,hg⟩:=hg
  replace hg:=aJ hg;obtain⟨b,hb,hg⟩:=hg
  replace hg:=aP hg;obtain⟨⟨hn,hm⟩,hg⟩:=hg
  obtain rfl:=J0 hg
  have:=bW ha;subst this
  have:=bW hb;subst this
  subst hn;subst hm
  refine⟨J1 rfl,fun nx=>?_⟩
  clear hg ha hb
  refine aA rfl (aW [0,1] rfl rfl rfl fun K hK=>?_)
  simp(disch:=omega) only[Try.f11,go_sem,↓reduceIte]
  refine hK _ ?_
  refine aB (aA rfl (aW [4] rfl rfl rfl fun K hK=>?_))
  simp(disch:=omega) only[Try.f11,go_sem,↓reduceIte,iA]
  refine hK _ ?_
  refine aB (aS rfl ?_)
  simp(disch:=omega) only[cN,bV,bK,bQ,Try.f11,go_sem,↓reduceIte]
 cases hg
theorem dQz:bX Try.prog GLh 11 (.pure true eNv):=⟨⟨_,Try.func11,rfl,rfl⟩,eTe⟩
end Go.AX

namespace Go.AX
open Go
theorem lW {P:Program} {GL:Nat→Option (List AV)} {nt:Nat} {code:Code} {Q:Exit→S→Prop} {fr:List (Nat×AV)} {hp:H} {nx cx:Nat} (t id off:Nat) {xs:List AV} {mt:Bool} (hn:dG fr t=.op id off) (ho:hp id=some (.cells xs mt))
  (h:Awp P GL nt code {fr:=(t,.rp (xs.drop off))::fr,hp:=upd hp id (.cells xs false),nx:=nx,cx:=cx} Q):Awp P GL nt code {fr:=fr,hp:=hp,nx:=nx,cx:=cx} Q:=by
 intro c h1 h2 σ0 I0 w0 a w hR
 refine h c h1 h2 σ0 I0 w0 a w ?_
 obtain⟨⟨σ,I,a1,a2,a3⟩,b,d,e1,e0⟩:=hR
 have ht:=a3 t
 simp only at a1 a3 ht
 rw[hn]at ht
 obtain⟨I1,b1,b2,b3⟩:=gN (x:=.op id off) (p:=(.rp (xs.drop off),upd hp id (.cells xs false))) (by simp only[dW,ho,aX]) a1 ht
 have hg:Grow σ I w σ I1 w:=⟨fun _ _=>rfl,b1,fun _ _=>rfl⟩
 refine⟨⟨σ,I1,b2,a2.trans hg,fun k=>?_⟩,b,d,e1,e0⟩
 simp only[dG]
 split
 ·rename_i e;subst e;exact b3
 ·exact(a3 k).grow hg
theorem pS {P:Program} {GL:Nat→Option (List AV)} {nt:Nat} {code:Code} {Q:Exit→S→Prop} {fr:List (Nat×AV)} {hp:H} {nx cx:Nat} (t id off n e:Nat) {g:Bool} {xs:List AV} {mt:Bool} (hn:dG fr t=.os id off n e g) (ho:hp id=some (.cells xs mt)) (hl:off+n*e≤xs.length)
  (h:Awp P GL nt code {fr:=(t,.sl n ((xs.drop off).take (n*e)))::fr,hp:=upd hp id (.cells xs false),nx:=nx,cx:=cx} Q):Awp P GL nt code {fr:=fr,hp:=hp,nx:=nx,cx:=cx} Q:=by
 intro c h1 h2 σ0 I0 w0 a w hR
 refine h c h1 h2 σ0 I0 w0 a w ?_
 obtain⟨⟨σ,I,a1,a2,a3⟩,b,d,e1,e0⟩:=hR
 have ht:=a3 t
 simp only at a1 a3 ht
 rw[hn]at ht
 obtain⟨I1,b1,b2,b3⟩:=gN (x:=.os id off n e g) (p:=(.sl n ((xs.drop off).take (n*e)),upd hp id (.cells xs false))) (by simp only[dW,ho,aX];rw[cU _ hl]) a1 ht
 have hg:Grow σ I w σ I1 w:=⟨fun _ _=>rfl,b1,fun _ _=>rfl⟩
 refine⟨⟨σ,I1,b2,a2.trans hg,fun k=>?_⟩,b,d,e1,e0⟩
 simp only[dG]
 split
 ·rename_i e;subst e;exact b3
 ·exact(a3 k).grow hg
end Go.AX

namespace Go.AX
open Go Go.Proofs
theorem cTh (t:BitVec 16):beL (t.setWidth 32) 2 2=[(t>>>8).setWidth 8,t.setWidth 8]:=by
 have e:(t.setWidth 32>>>8).setWidth 8=(t>>>8).setWidth 8:=by
  apply BitVec.eq_of_toNat_eq
  have:=t.isLt
  simp only[BitVec.toNat_setWidth,BitVec.toNat_ushiftRight,Nat.shiftRight_eq_div_pow];omega
 have e2:(t.setWidth 32>>>0).setWidth 8=t.setWidth 8:=by
  apply BitVec.eq_of_toNat_eq
  have:=t.isLt
  simp only[BitVec.toNat_setWidth,BitVec.toNat_ushiftRight,Nat.shiftRight_eq_div_pow];omega
 simp only[beL,List.nil_append,List.cons_append,Nat.reduceSub,Nat.reduceMul,e,e2]
theorem bOx (f:FuncId) (args:List AV) (nx n:Nat) (hp:H) (id cx:Nat) (g:List AV→Option (Nat×Nat×List AV)):uI f args 2 nx n hp id cx (some (.fresh false g))=aK (fW (fun _=>none) args) fun as_=>aK (g as_) fun r=>some (.os id 0 r.1 r.2.1 true,upd hp id (.cells r.2.2 true),cx):=(rfl)
theorem dr_s (x:AV) (l:List AV) (k:Nat):List.drop (k+1) (x::l)=List.drop k l:=(rfl)
attribute [go_sem] bOx dr_s
def wF (f:BitVec 16) (p a:B8) (k:List B8):List B8:=[(f>>>8).setWidth 8,f.setWidth 8]++[p,a]++k
def qG:List AV→Option (Nat×Nat×List AV)
 |[.agg [.w16 f,.w8 p,.w8 a,.sl n xs]]=>aK (cI xs) fun k=>aN (k.length=n∧n≤100000) (some ((wF f p a k).length,1,c8 (wF f p a k)))
 |_=>none
theorem bMg (f:BitVec 16) (p a:B8) (n:Nat) (xs:List AV):qG [.agg [.w16 f,.w8 p,.w8 a,.sl n xs]]=aK (cI xs) fun k=>aN (k.length=n∧n≤100000) (some ((wF f p a k).length,1,c8 (wF f p a k))):=(rfl)
attribute [go_sem] bMg
set_option maxHeartbeats 4000000 in
theorem bYm:dH Try.prog GLh 34 qG:=by
 refine cT Try.func34 (aT rfl) ?_
 intro args r hg
 unfold qG at hg
 split at hg
 ·rename_i f p a n xs
  replace hg:=aJ hg;obtain⟨k,hk,hg⟩:=hg
  replace hg:=aP hg;obtain⟨⟨rfl,hn⟩,hg⟩:=hg
  obtain rfl:=J0 hg
  have:=bW hk;subst this
  clear hg hk
  refine⟨J1 rfl,fun nx=>?_⟩
  have e2:=cTh f
  have ekb:[(f>>>8).setWidth 8,f.setWidth 8]++[p,a]++k=wF f p a k:=rfl
  have ekl:(wF f p a k).length=4+k.length:=by rw[←ekb];simp;omega
  refine aA rfl (aW [1] rfl rfl rfl fun K hK=>?_)
  simp(disch:=omega) only[Try.f34,go_sem,↓reduceIte]
  refine hK _ ?_
  refine aB (lW 1 nx 0 rfl (by simp only[aV,if_true];rfl) ?_)
  refine aA rfl (bB (Γ:=bC [(53,.fresh false aIu)]) (fun k=>if k=1 then 1 else if k=5 then 1 else if k=7 then 1 else if k=11 then 1 else 2) [2] bZ (aH cWo aO) rfl rfl rfl (by kernel_rfl) (fun K hK=>?_))
  simp(disch:=omega) only[Try.f34,go_sem,↓reduceIte,e2]
  refine hK _ ?_
  refine aB (aS rfl ?_)
  simp(disch:=omega) only[fE,eO,bV,bK,bQ,Try.f34,go_sem,↓reduceIte,ekl]
  rfl
 cases hg
theorem ok34:bX Try.prog GLh 34 (.fresh true qG):=⟨⟨_,Try.func34,rfl,rfl⟩,bYm⟩
end Go.AX

namespace Go.AX
open Go Go.Proofs Go.RowKit Go.WideShapes Go.ChangeShapes
section
variable {H : Type} {enc : TypeId × Value → H} {P : Program}
theorem uC (hl:laidOutB P=true) {W W':World} {sp:Nat→Bool}: ∀ {ts:List TypeId} {vs:List Value} {ds:List (DataW H)} {ps:List MemPlace},(ts.all fun t=>P.readableRec t&&decide (t<P.types.size))=true→
  DataW.TrodAll enc P W 0 (fun _=>true) true ts vs ds ps→(∀p∈ps,W.sameAt W' p)→(∀p∈ps,sp p.block=true)→DataW.TrodAll enc P W' 0 sp true ts vs ds ps
 |[],[],[],_,_,h,_,_=>h
 |t::ts,v::vs,d::ds,ps,ha,h,hs,hp=>by
  obtain⟨p,q,h1,h2,e⟩:=h
  simp only[List.all_cons,Bool.and_eq_true,decide_eq_true_eq]at ha
  refine⟨p,q,WideElems.Trod_stays hl ha.1.1 ha.1.2 h1 (fun x hx=>hs x (by rw[e];exact List.mem_append_left _ hx)) (fun x hx=>hp x (by rw[e];exact List.mem_append_left _ hx)),?_,e⟩
  exact uC hl (by simpa using ha.2) h2 (fun x hx=>hs x (by rw[e];exact List.mem_append_right _ hx)) (fun x hx=>hp x (by rw[e];exact List.mem_append_right _ hx))
 |[],_::_,_,_,_,h,_,_=>h.elim
 |[],[],_::_,_,_,h,_,_=>h.elim
 |_::_,[],_,_,_,h,_,_=>h.elim
 |_::_,_::_,[],_,_,h,_,_=>h.elim
theorem aZq {f:Func} {s:ChangeSpec} {apart fresh handsOn again:Bool} {W W':World} {args:Array Value} {ds gs:List (DataW H)} {before:List MemPlace} {tb:TypeId}
  (hl:laidOutB P=true) (hro:(f.params.toList.all fun t=>P.readableRec t&&decide (t<P.types.size))=true) (hrt:f.resultTypes= #[tb]) (htb:P.underlying tb=some .bool) (hvs:s.vars=[])
  (hfn:s.fn H (ds++gs)= {results:=[.lit (.bool true)],args:=ds})
  (hW:DataW.Whole enc P f.params.toList s.vars apart W args.toList ds gs before) (hb:Below W.heap.size W W'):
  s.post enc P f apart fresh handsOn again W args (.bool true) W':=by
 have hlt: ∀p∈before,p.block<W.heap.size:=fun p hp=>hW.lt p hp
 have hW':=hW
 obtain⟨p,q,hA,hV,hpq,hz,hn⟩:=hW
 have hq:q=[]∧gs=[]:=by
  rw[hvs]at hV
  cases gs with
  |nil=>exact⟨hV,rfl⟩
  |cons g r=>exact hV.elim
 obtain⟨rfl,rfl⟩:=hq
 rw[List.append_nil]at hpq
 subst hpq
 have hargs: ∀sp:Nat→Bool,(∀p∈before,sp p.block=true)→DataW.TrodAll enc P W' 0 sp true f.params.toList args.toList (s.fn H (ds++[])).args before:=by
  intro sp hsp
  rw[hfn]
  exact uC hl hro hA (fun x hx=>hb.same (hlt x hx)) hsp
 have hres: ∀(b:Nat) (sp:Nat→Bool) (hd:Bool),DataW.TrodAll enc P W' b sp hd f.resultTypes.toList ((Value.bool true).resultList f.resultTypes.size) (s.fn H (ds++[])).results []:=by
  intro b sp hd
  rw[hfn,hrt]
  exact trodAll_mk1 (shut_bool htb true)
 have hvars: ∀sp:Nat→Bool,(∀p∈before,sp p.block=true)→DataW.TrodVars enc P W' sp s.vars (s.fn H (ds++[])).vars []:=by
  intro sp _
  rw[hfn,hvs];rfl
 have hold: ∀p∈before,(fun b=>decide (b<W.heap.size)) p.block=true:=fun p hp=>by simpa using hlt p hp
 refine⟨ds,[],before,[],before,[],hW',hres _ _ _,hargs _ hold,hvars _ hold,World.keptBut_mono (fun p hp=>⟨hp,?_⟩) (hb.frame (· ∈before)),fun _=>?_⟩
 ·exact Or.inr (by simpa using hp)
 ·refine⟨ok_one hrt rfl (okWide_bool_mk htb true),_,_,([]++before)++[],⟨[]++before,[],trodAll_append (hargs _ (fun _ _=>rfl)) (hres _ _ _),hvars _ (fun _ _=>rfl),rfl,?_,?_⟩,?_⟩
  ·intro b off hp
   have hin:MemPlace.cell b off∈before:=by simpa using hp
   rw[hb.frozen (hlt _ hin)]
   exact hz b off hin
  ·intro ha
   have:=hn ha
   simpa using this
  ·intro p hp _
   simpa using hp
end
section
variable {H : Type} {enc : TypeId × Value → H} {P : Program} {W : World} {σ : Nat → Loc}
def nQ (enc:TypeId×Value→H) (P:Program) (W:World) (σ:Nat→Loc) (t:TypeId) (Q:AV→Prop):Prop:=
 ∀(m:Nat) (cs:List Value) (x:DataW H×List MemPlace),DataW.trod enc P W 0 (fun _=>true) true m t cs=some x→∃v y,cs=[v]∧Q y∧y.isCell=true∧Rel σ (fun k=>k<W.heap.size) W y v
theorem uZ {k:IntKind} {n:Int} (h:(Lit.int k n).wf=true):k.min≤n∧n≤k.max:=by
 simpa [Lit.wf]using h
theorem vX {t:TypeId} (ht:P.underlying t=some (.int .u8)):nQ enc P W σ t (fun y=> ∃b:B8,y=.w8 b):=by
 intro m cs x h
 obtain⟨n,rfl,_,hw⟩:=DataW.trod_int ht h
 have hb:=uZ hw
 have e1:IntKind.min .u8=0:=by decide
 have e2:IntKind.max .u8=255:=by decide
 rw[e1,e2]at hb
 refine⟨_,.w8 (BitVec.ofInt 8 n),rfl,⟨_,rfl⟩,rfl,?_⟩
 have e:((BitVec.ofInt 8 n).toNat:Int)=n:=by simp[BitVec.toNat_ofInt];omega
 have:=Rel.w8 (σ:=σ) (I:=fun k=>k<W.heap.size) (w:=W) (BitVec.ofInt 8 n)
 rwa [e]at this
theorem aZu {t:TypeId} (ht:P.underlying t=some (.int .u16)):nQ enc P W σ t (fun y=> ∃b:BitVec 16,y=.w16 b):=by
 intro m cs x h
 obtain⟨n,rfl,_,hw⟩:=DataW.trod_int ht h
 have hb:=uZ hw
 have e1:IntKind.min .u16=0:=by decide
 have e2:IntKind.max .u16=65535:=by decide
 rw[e1,e2]at hb
 refine⟨_,.w16 (BitVec.ofInt 16 n),rfl,⟨_,rfl⟩,rfl,?_⟩
 have e:((BitVec.ofInt 16 n).toNat:Int)=n:=by simp[BitVec.toNat_ofInt];omega
 have:=Rel.w16 (σ:=σ) (I:=fun k=>k<W.heap.size) (w:=W) (BitVec.ofInt 16 n)
 rwa [e]at this
theorem bVs {t:TypeId} (ht:P.underlying t=some .string):nQ enc P W σ t (fun y=> ∃l:List B8,y=.s l∧l.length≤9223372036854775807):=by
 intro m cs x h
 obtain⟨s,rfl,_,hs⟩:=DataW.trod_string ht h
 refine⟨_,.s (s.data.toList.map UInt8.toBitVec),rfl,⟨_,rfl,?_⟩,rfl,?_⟩
 ·rw[List.length_map,Array.length_toList]
  unfold maxLen at hs
  have:s.data.size=s.size:=rfl
  omega
 have e:dA (s.data.toList.map UInt8.toBitVec)=s:=by simp[dA,List.map_map,Function.comp_def]
 have:=Rel.s (σ:=σ) (I:=fun k=>k<W.heap.size) (w:=W) (s.data.toList.map UInt8.toBitVec)
 rwa [e]at this
theorem bOq {base:Nat} {a:Addr} {l:List Value} (h:W.cells? base a 1=some l): ∃v,l=[v]∧W.cell? a=some v:=by
 unfold World.cells? at h
 split at h
 ·simp only[List.range_one,List.mapM_cons,List.mapM_nil,bind,Option.bind_eq_some_iff,pure,Option.some.injEq]at h
  obtain⟨v,hv,l',rfl,rfl⟩:=h
  exact⟨v,rfl,by simpa [Addr.add]using hv⟩
 cases h
theorem ePq {t e:TypeId} {Q:AV→Prop} (ht:P.underlying t=some (.slice e)) (hc:P.cellsOf e=1) (he:nQ enc P W σ e Q):
  nQ enc P W σ t (fun y=> ∃xs:List AV,y=.sl xs.length xs∧(∀z∈xs,Q z)∧xs.length≤9223372036854775807):=by
 intro m cs x h
 rcases DataW.trod_slice ht h with⟨rfl,_⟩|⟨a,len,cap,elems,rest,n,rfl,rfl,rfl,hb,hl,hm,hlen,hel,hsp,_⟩
 ·exact⟨_,.sl 0 [],rfl,⟨[],rfl,by simp,by simp⟩,rfl,.slnil⟩
 ·have hmax:len≤9223372036854775807:=by unfold maxLen at hm;omega
  have get: ∀i,i<len→∃v y,W.cell? (a.add i)=some v∧Q y∧y.isCell=true∧Rel σ (fun k=>k<W.heap.size) W y v:=by
   intro i hi
   have h1:=hel i hi
   rw[hc,Nat.mul_one]at h1
   rw[List.getElem?_eq_getElem (by omega:i<elems.length)]at h1
   obtain⟨l,hl1,hl2⟩:=Option.bind_eq_some_iff.1 h1
   obtain⟨v,rfl,hv⟩:=bOq hl1
   obtain⟨v',y,e1,hq,hcell,hr⟩:=he _ _ _ hl2
   obtain rfl:v=v':=by simpa using e1
   exact⟨v,y,hv,hq,hcell,hr⟩
  by_cases h0:len=0
  ·subst h0
   by_cases hcap:cap=0
   ·subst hcap
    exact⟨_,.sl 0 [],rfl,⟨[],rfl,by simp,by simp⟩,rfl,.slzero a⟩
   ·obtain⟨hr1,hr2⟩:=hsp rfl
    have h1:=hr2 0 (by omega)
    rw[hc,List.getElem?_eq_getElem (by omega:0<rest.length)]at h1
    obtain⟨l,hl1,_⟩:=Option.bind_eq_some_iff.1 h1
    obtain⟨v,rfl,hv⟩:=bOq hl1
    have hspot:a.spot=none:=by
     have:=World.cell?_spot hv
     simpa [Addr.add]using this
    have hblk:a.block<W.heap.size:=by
     simp only[World.cell?,Addr.add]at hv
     split at hv
     ·rename_i hh;exact(Array.getElem?_eq_some_iff.1 hh).1
     ·cases hv
    obtain⟨blk,off,spot⟩:=a
    subst hspot
    exact⟨_,.sl 0 [],rfl,⟨[],rfl,by simp,by simp⟩,rfl,.sl 0 [] blk off cap (fun _=>undef) hblk (by omega) (fun i hi=>by simp at hi) (fun i hi=>by simp at hi) (fun i hi=>by simp at hi)⟩
  ·have hex: ∀i:Fin len,∃p:Value×AV,W.cell? (a.add i.1)=some p.1∧Q p.2∧p.2.isCell=true∧Rel σ (fun k=>k<W.heap.size) W p.2 p.1:=by
    intro i
    obtain⟨v,y,h⟩:=get i.1 i.2
    exact⟨(v,y),h⟩
   obtain⟨F,hF⟩:=Classical.axiomOfChoice hex
   have hv0:=(hF ⟨0,by omega⟩).1
   simp only[Addr.add,if_true]at hv0
   have hspot:a.spot=none:=World.cell?_spot hv0
   have hblk:a.block<W.heap.size:=by
    simp only[World.cell?]at hv0
    split at hv0
    ·rename_i hh;exact(Array.getElem?_eq_some_iff.1 hh).1
    ·cases hv0
   obtain⟨blk,off,spot⟩:=a
   subst hspot
   have hlx:(List.ofFn fun i=>(F i).2).length=len:=List.length_ofFn
   refine⟨_,.sl len (List.ofFn fun i=>(F i).2),rfl,⟨_,by rw[hlx],?_,by rw[hlx];exact hmax⟩,rfl,?_⟩
   ·intro z hz
    rw[List.mem_ofFn]at hz
    obtain⟨i,rfl⟩:=hz
    exact(hF i).2.1
   ·refine .sl len _ blk off cap (fun i=>if h:i<len then(F ⟨i,h⟩).1 else undef) hblk hl (fun i hi=>?_) (fun i hi=>?_) (fun i hi=>?_)
    ·rw[hlx]at hi
     rw[dif_pos hi];have:=(hF ⟨i,hi⟩).1;rwa [eE]at this
    ·rw[hlx]at hi
     rw[List.getElem_ofFn];exact(hF ⟨i,hi⟩).2.2.1
    ·rw[hlx]at hi
     rw[dif_pos hi,List.getElem_ofFn];exact(hF ⟨i,hi⟩).2.2.2
end
end Go.AX

namespace Go.AX
open Go Go.Proofs Go.RowKit Go.WideShapes Go.ChangeShapes Go.Proofs.Ytndohkbppgmbjaa
theorem bLx:laidOutB Try.prog=true:=by kernel_rfl
theorem ownT:ownKnob Try.prog.godebug=none:=by kernel_rfl
theorem c9:Try.prog.cellsOf 9=1:=by kernel_rfl
theorem bAx {f:Nat} {g:List AV→Option AV} (hf:cL Try.prog GLh f g) {W:World} {args:List AV} {vals:Array Value} (hs:vals.size=args.length)
  (hr: ∀i (_h:i<args.length),Rel (fun _=> .unset) (fun k=>k<W.heap.size) W args[i] (vals.getD i undef)) (hg:g args=some (.b true)):
  Calls Try.prog f vals W fun e W'=>e=.returned (.bool true)∧Below W.heap.size W W':=by
 refine(hf (fun _=> .unset) (fun k=>k<W.heap.size) W 0 args vals _ (fun _ _=>rfl) (fun _ h=>h) (fun g xs h=>by cases h) hs hr hg).mono ?_
 rintro e w' ⟨v,σ',I',rfl,a1,a2,a3,a4,a5,_,_,_,a9⟩
 cases a9
 exact⟨rfl,a1,a2,a3,a4,a5⟩
theorem aTx {H:Type} {enc:TypeId×Value→H} {P:Program} {W:World} {σ:Nat→Loc} {t:TypeId} {Q:AV→Prop} {v:Value} {d:DataW H} {ps:List MemPlace} (ho:nQ enc P W σ t Q) (hv:v.cells.toList=[v]) (h:DataW.Trod enc P W 0 (fun _=>true) true t v d ps):
  ∃y,Q y∧Rel σ (fun k=>k<W.heap.size) W y v:=by
 obtain⟨m,h⟩:=h
 obtain⟨v',y,e,hq,_,hr⟩:=ho m _ _ h
 rw[hv]at e
 obtain rfl:v=v':=by simpa using e
 exact⟨y,hq,hr⟩
theorem bEs {H:Type} {enc:TypeId×Value→H} {P:Program} {W W2:World} {σ:Nat→Loc} {t e:TypeId} {Q:AV→Prop} {v:Value} {d:DataW H} {ps:List MemPlace} {r:Reach} {b:Nat} (ht:P.underlying t=some (.slice e)) (hval:Value.okWide P W2 r b t v) (ho:nQ enc P W σ t Q) (h:DataW.Trod enc P W 0 (fun _=>true) true t v d ps):
  ∃y,Q y∧Rel σ (fun k=>k<W.heap.size) W y v:=by
 obtain⟨a,len,cap,rfl⟩:=okWide_slice ht hval
 exact aTx ho rfl h
theorem cDy {H:Type} {enc:TypeId×Value→H} {P:Program} {W W2:World} {σ:Nat→Loc} {t:TypeId} {k:IntKind} {Q:AV→Prop} {v:Value} {d:DataW H} {ps:List MemPlace} {r:Reach} {b:Nat} (ht:P.underlying t=some (.int k)) (hval:Value.okWide P W2 r b t v) (ho:nQ enc P W σ t Q) (h:DataW.Trod enc P W 0 (fun _=>true) true t v d ps):
  ∃y,Q y∧Rel σ (fun k=>k<W.heap.size) W y v:=by
 obtain⟨n,rfl⟩:=okWide_int ht hval
 exact aTx ho rfl h
end Go.AX

namespace Go.AX
open Go Go.Proofs
abbrev T16:=BitVec 16
def ltN (x y:T16):Bool:=decide (x.toNat<y.toNat)
def cA (d:Array T16):List AV:=d.toList.map .w16
theorem cQr (d:Array T16):(cA d).length=d.size:=by simp[cA]
theorem aXt (d:Array T16) (k:Nat) (h:k<d.size):((cA d).drop k).head? =some (.w16 d[k]!):=by
 rw[List.head?_drop,cA,List.getElem?_map,Array.getElem?_toList,Array.getElem?_eq_getElem h,getElem!_pos d k h];rfl
theorem aTi (d:Array T16) (k:Nat) (x:T16):(cA d).set k (.w16 x)=cA (d.setIfInBounds k x):=by
 simp[cA,List.map_set]
theorem dZ (d:Array T16):AV.noMem.noMemL (cA d)=true:=by
 unfold cA
 generalize d.toList=l
 induction l with
 |nil=>rfl
 |cons x l ih=>show(AV.noMem (.w16 x)&&AV.noMem.noMemL (l.map .w16))=true;rw[ih];rfl
theorem bPh (d:Array T16):dB (cA d)=true:=by
 simp only[dB,cA,List.all_eq_true,List.mem_map]
 rintro _ ⟨x,_,rfl⟩;rfl
def unA:List AV→Option (List T16)
 |[]=>some []
 | .w16 x::r=>aK (unA r) fun l=>some (x::l)
 |_=>none
theorem dO: ∀ {xs:List AV} {l:List T16},unA xs=some l→xs=cA l.toArray
 |[],l,h=>by obtain rfl:=J0 h;rfl
 |x::r,l,h=>by
  cases x<;>simp only[unA]at h<;>first|(cases h;done)|skip
  replace h:=aJ h;obtain⟨m,hm,h⟩:=h
  obtain rfl:=J0 h
  have:=dO hm
  rw[this];simp[cA]
theorem bFk (d:Array T16):unA (cA d)=some d.toList:=by
 unfold cA
 generalize d.toList=l
 induction l with
 |nil=>rfl
 |cons x l ih=>show aK (unA (l.map .w16)) (fun l=>some (x::l))=_;rw[ih,aX]
theorem cW (d:Array T16) (i j:Nat):(Sort.swp d i j).size=d.size:=by simp[Sort.swp]
attribute [go_sem] Array.size_setIfInBounds cW cQr aXt aTi dZ bPh bFk
end Go.AX

namespace Go.AX
open Go Go.Proofs
theorem eXy {hp:H} {id0 i b n nx:Nat} {a1 c1 c2:AO} (hno: ∀id,nx≤id→hp id=none) (hi:i=id0∨nx≤i) (hb:nx≤b): ∀j o,upd (del hp id0) n c2 j=some o→upd (del (upd (upd (del hp id0) i a1) b c1) i) n c2 j=some o:=by
 intro j o h
 simp only[bJ,eV]at h⊢
 split
 ·rename_i e;rw[J4 e]at h;exact h
 rename_i e;rw[J3 e]at h
 split at h
 ·cases h
 rename_i e2
 split
 ·rename_i e3
  rcases hi with hi|hi
  ·exact absurd (e3.trans hi) e2
  rw[hno j (by omega)]at h;cases h
 split
 ·rename_i e4;rw[hno j (by omega)]at h;cases h
 exact h
theorem eUj {hp:H} {id0:Nat} {c:AO} (ho:hp id0=some c): ∀j o,upd (del hp id0) id0 c j=some o→hp j=some o:=by
 intro j o h
 simp only[bJ,eV]at h
 split at h
 ·rename_i e;rw[e,ho];exact h
 first|exact h|(rename_i e;rw[J3 e]at h;exact h)
def eLu (id0 nx:Nat):Nat→Nat
 |0=>id0
 |j+1=>nx+4+15*j+10
theorem eOt (id0 nx j:Nat):eLu id0 nx (j+1)=nx+4+15*j+10:=rfl
theorem fBx (id0 nx j:Nat):eLu id0 nx j=id0∨nx≤eLu id0 nx j:=by
 cases j with
 |zero=>exact .inl rfl
 |succ j=>rw[eOt];omega
def eRn (id n:Nat) (x:W32) (k:Int) (hp:H) (nx:Nat):AO→Option (AV×H×Nat)
 | .cells xs mt=>aK (cI xs) fun l=>aN (mt=true∧l.length=n∧n≤1000000∧1≤k∧k≤8∧id<nx)
   (some (.os (eLu id nx k.toNat) 0 (n+k.toNat) 1 true,upd (del hp id) (eLu id nx k.toNat) (.cells (c8 (l++beL x k.toNat k.toNat)) true),nx+4+15*k.toNat+4))
 | .mapo _ _=>none
def aRl:List AV→H→Nat→Option (AV×H×Nat)
 |[.os id 0 n 1 true,.w32 x,.i k],hp,nx=>aK (hp id) (eRn id n x k hp nx)
 |_,_,_=>none
theorem eYj (id n nx:Nat) (x:W32) (k:Int) (hp:H):aRl [.os id 0 n 1 true,.w32 x,.i k] hp nx=aK (hp id) (eRn id n x k hp nx):=(rfl)
theorem eRm (id n nx:Nat) (x:W32) (k:Int) (hp:H) (xs:List AV) (mt:Bool):eRn id n x k hp nx (.cells xs mt)=aK (cI xs) fun l=>aN (mt=true∧l.length=n∧n≤1000000∧1≤k∧k≤8∧id<nx)
   (some (.os (eLu id nx k.toNat) 0 (n+k.toNat) 1 true,upd (del hp id) (eLu id nx k.toNat) (.cells (c8 (l++beL x k.toNat k.toNat)) true),nx+4+15*k.toNat+4)):=(rfl)
attribute [go_sem] eYj eRm
set_option maxHeartbeats 4000000 in
theorem eYi:cQ Try.prog GLh 53 aRl:=by
 refine gF Try.func53 (aT rfl) ?_
 intro args hp nx r hp' nx' hg
 unfold aRl at hg
 split at hg
 ·rename_i id n x k0
  replace hg:=aJ hg;obtain⟨o,ho,hg⟩:=hg
  obtain⟨xs,mt,rfl⟩: ∃a b,o=AO.cells a b:=by cases o<;>first|exact⟨_,_,rfl⟩|(simp[eRn]at hg)
  rw[eRm]at hg
  replace hg:=aJ hg;obtain⟨l,hl,hg⟩:=hg
  replace hg:=aP hg;obtain⟨⟨rfl,rfl,hn,hk1,hk8,hid⟩,hg⟩:=hg
  simp only[Option.some.injEq,Prod.mk.injEq]at hg;obtain⟨rfl,rfl,rfl⟩:=hg
  have:=bW hl;subst this
  obtain⟨k,rfl⟩:=Int.eq_ofNat_of_zero_le (show 0≤k0 by omega)
  simp only[U2]at*
  clear hl
  refine⟨J1 rfl,by omega,fun hno=>?_⟩
  refine aA rfl (aW [0,1,2] rfl rfl rfl fun K hK=>?_)
  simp(disch:=omega) only[Try.f53,go_sem,↓reduceIte]
  refine hK _ ?_
  refine aB (aA rfl (aA rfl (aW [0,1,7] rfl rfl rfl fun K hK=>?_)))
  simp(disch:=omega) only[Try.f53,go_sem,↓reduceIte]
  refine hK _ ?_
  refine aB (aR 0 rfl rfl ?_)
  refine bR (fun p:Nat=> {fr:=[(0,.os (eLu id nx p) 0 (l.length+p) 1 true),(1,.w32 x),(7,.i ((k:Int)-1-(p:Int)))],hp:=upd (del hp id) (eLu id nx p) (.cells (c8 (l++beL x k p)) true),nx:=0,cx:=nx+4+15*p}) (fun p=>p≤k) (fun p=>k-p) rfl ⟨0,Nat.zero_le _,⟨fun _=> .inr (by simp only[Int.natCast_zero,Int.sub_zero,eLu,Nat.add_zero]),by simp only[eLu,beL,List.append_nil];exact eUj ho,U3 _⟩⟩ ?_
  rintro j hj n0
  simp only at hj⊢
  refine aA rfl (aA rfl (aW [11,0,1,7] rfl rfl rfl fun K hK=>?_))
  simp(disch:=omega) only[Try.f53,go_sem,↓reduceIte]
  refine hK _ ?_
  refine aB (bA (.tmp 11) rfl rfl rfl (fun h=>?_) (fun h=>?_))
  ·refine aI rfl ?_
   have e1:(BitVec.ofInt 64 (8*((k:Int)-1-(j:Int)))).toNat=8*(k-1-j):=by rw[BitVec.toNat_ofInt];omega
   have hlj:=cZ x k j
   have hpi:=fBx id nx j
   have hlen:(l++beL x k j).length=l.length+j:=by rw[List.length_append,hlj]
   have hpib:eLu id nx j<nx+4+15*j:=by cases j with
    |zero=>show id<_;omega
    |succ j=>rw[eOt];omega
   refine aQ rfl (aB (aA rfl (aR 1 rfl rfl (aW [0,1,7] rfl rfl rfl fun K hK=>?_))))
   simp(disch:=omega) only[Try.f53,go_sem,↓reduceIte,e1,hlen]
   refine hK _ ?_
   refine bU (aB (aW [0,1,7] rfl rfl rfl fun K hK=>?_))
   simp(disch:=omega) only[Try.f53,go_sem,↓reduceIte]
   refine hK _ ?_
   refine bT ?_
   have e2:(k:Int)-1-((j:Int)+1)=(k:Int)-1-(j:Int)-1:=by omega
   have e4:l++beL x k (j+1)=l++beL x k j++[(x>>>(8*(k-1-j))).setWidth 8]:=by rw[List.append_assoc];rfl
   have ei:eLu id nx (j+1)=nx+4+15*j+2+8:=by rw[eOt]
   refine⟨j+1,by omega,by omega,⟨fun _=> .inr ?_,?_,by simp only;omega⟩⟩
   ·simp only[ei,Int.natCast_add,Int.natCast_one,e2,Nat.add_assoc]
   simp only[ei,e4]
   exact eXy hno hpi (by omega)
  refine aI rfl (bF 0 rfl rfl (aY (aZ (bE (aB (aA rfl ?_))))))
  obtain rfl:j=k:=by omega
  refine aW [6] rfl rfl rfl fun K hK=>?_
  simp(disch:=omega) only[Try.f53,go_sem,↓reduceIte]
  refine hK _ ?_
  refine aB (aS rfl ?_)
  exact⟨by simp(disch:=omega) only[bV,bK,bQ,Try.f53,go_sem],fun _ _ h=>h,by simp only;omega⟩
 cases hg
end Go.AX

namespace Go.AX
open Go Go.Proofs
theorem aIb: ∀ {xs:List AV} {ps:List (List B8)},unP xs=some ps→xs=cP ps
 |[],ps,h=>by obtain rfl:=J0 h;rfl
 |x::r,ps,h=>by
  cases x<;>simp only[unP]at h<;>first|(cases h;done)|skip
  replace h:=aJ h;obtain⟨b,hb,h⟩:=h
  replace h:=aP h;obtain⟨hn,h⟩:=h
  replace h:=aJ h;obtain⟨l,hl,h⟩:=h
  obtain rfl:=J0 h
  rw[iX _ hb,aIb hl,←hn];rfl
def dHi:List AV→H→Nat→Option (AV×H×Nat)
 |[.v (.slice none 0 0),.i n],hp,nx=>aN (0<n∧n≤1000000) (some (.os (nx+1+2+8+2+5) 0 0 1 true,upd hp (nx+1+2+8+2+5) (.cells [] true),nx+1+2+8+2+10+2))
 |_,_,_=>none
theorem dKy (n:Int) (hp:H) (nx:Nat):dHi [.v (.slice none 0 0),.i n] hp nx=aN (0<n∧n≤1000000) (some (.os (nx+1+2+8+2+5) 0 0 1 true,upd hp (nx+1+2+8+2+5) (.cells [] true),nx+1+2+8+2+10+2)):=(rfl)
attribute [go_sem] dKy bTw
set_option maxHeartbeats 1000000 in
theorem dMo:cQ Try.prog GLh 73 dHi:=by
 refine gF Try.func73 (aT rfl) ?_
 intro args hp nx r hp' nx' hg
 unfold dHi at hg
 split at hg
 ·rename_i n
  replace hg:=aP hg;obtain⟨⟨h0,hbig⟩,hg⟩:=hg
  simp only[Option.some.injEq,Prod.mk.injEq]at hg;obtain⟨rfl,rfl,rfl⟩:=hg
  refine⟨J1 rfl,by omega,fun hnone=>?_⟩
  refine aA rfl (aW [0,1] rfl rfl rfl fun K hK=>?_)
  simp(disch:=omega) only[Try.f73,go_sem,↓reduceIte]
  refine hK _ ?_
  refine aB (aA rfl (aA rfl (aW [6,0,1] rfl rfl rfl fun K hK=>?_)))
  simp(disch:=omega) only[Try.f73,go_sem,↓reduceIte]
  refine hK _ ?_
  refine aB (bA (.tmp 6) rfl rfl rfl (fun h=>?_) (fun h=>?_))
  ·refine aI rfl ?_
   omega
  refine aI rfl ?_
  have e1:n-(0-0)=n:=by omega
  refine aQ rfl (aB (aA rfl (aA rfl (aW [0,1] rfl rfl rfl fun K hK=>?_))))
  simp(disch:=omega) only[Try.f73,go_sem,↓reduceIte,Int.sub_zero]
  refine hK _ ?_
  refine aB (aA rfl (aW [16,0,1] rfl rfl rfl fun K hK=>?_))
  simp(disch:=omega) only[Try.f73,go_sem,↓reduceIte]
  refine hK _ ?_
  refine aB (bA (.tmp 16) rfl rfl rfl (fun h=>?_) (fun h=>?_))
  ·refine aI rfl (aW [0] rfl rfl rfl fun K hK=>?_)
   simp(disch:=omega) only[Try.f73,go_sem,↓reduceIte]
   refine hK _ ?_
   refine aB (cSp (nx+1+2+8+2+5) 0 _ (by simp only[upd,↓reduceIte];rfl) ?_)
   simp only[U1]
   refine aA rfl (aW [4] rfl rfl rfl fun K hK=>?_)
   simp(disch:=omega) only[Try.f73,go_sem,↓reduceIte]
   refine hK _ ?_
   refine aB (aS rfl (⟨rfl,fun j o h=>?_,U3 _⟩))
   simp only at h⊢
   grind [bJ]
  refine aI rfl ?_
  omega
 cases hg
theorem ok73:bX Try.prog GLh 73 (.heap dHi):=⟨⟨_,Try.func73,rfl,rfl⟩,dMo⟩
def gO (ps:List (List B8)):List B8:=ps.flatten
theorem dFj (ps:List (List B8)) (k:Nat) (h:k<ps.length):gO (ps.take (k+1))=gO (ps.take k)++ps.getD k []:=by
 have e:ps.take (k+1)=ps.take k++[ps.getD k []]:=by rw[List.take_succ_eq_append_getElem h];simp[List.getD,List.getElem?_eq_getElem h,-List.take_append_getElem]
 rw[e];unfold gO;rw[List.flatten_append];simp only[List.flatten_cons,List.flatten_nil,List.append_nil]
theorem dGr (ps:List (List B8)) (k:Nat):(gO (ps.take k)).length≤(gO ps).length:=by
 have e:gO ps=gO (ps.take k)++gO (ps.drop k):=by unfold gO;rw[←List.flatten_append,List.take_append_drop]
 rw[e,List.length_append];omega
theorem dHk (ps:List (List B8)) (k:Nat) (h:k<ps.length):(gO (ps.take k)).length+(ps.getD k []).length≤(gO ps).length:=by
 rw[←List.length_append,←dFj ps k h];exact dGr ps (k+1)
def dEv:List AV→Option (Nat×Nat×List AV)
 |[.sl n xs]=>aK (unP xs) fun ps=>aN (ps.length=n∧n≤1000000∧0<(gO ps).length∧(gO ps).length≤1000000) (some ((gO ps).length,1,c8 (gO ps)))
 |_=>none
theorem dGa (n:Nat) (xs:List AV):dEv [.sl n xs]=aK (unP xs) fun ps=>aN (ps.length=n∧n≤1000000∧0<(gO ps).length∧(gO ps).length≤1000000) (some ((gO ps).length,1,c8 (gO ps))):=(rfl)
attribute [go_sem] dGa
set_option maxHeartbeats 1000000 in
theorem dJt:dH Try.prog GLh 52 dEv:=by
 refine cT Try.func52 (aT rfl) ?_
 intro args r hg
 unfold dEv at hg
 split at hg
 ·rename_i n xs
  replace hg:=aJ hg;obtain⟨ps,hb,hg⟩:=hg
  replace hg:=aP hg;obtain⟨⟨hn,hbig,hpos,hbig2⟩,hg⟩:=hg
  obtain rfl:=J0 hg
  have:=aIb hb;subst this
  subst hn
  clear hg hb
  refine⟨J1 rfl,fun nx=>?_⟩
  refine aA rfl (aW [0] rfl rfl rfl fun K hK=>?_)
  simp(disch:=omega) only[Try.f52,go_sem,↓reduceIte]
  refine hK _ ?_
  refine aB (aA rfl (aW [0,3] rfl rfl rfl fun K hK=>?_))
  simp(disch:=omega) only[Try.f52,go_sem,↓reduceIte]
  refine hK _ ?_
  refine aB (aA rfl (aA rfl (aW [0,3,9,10,11] rfl rfl rfl fun K hK=>?_)))
  simp(disch:=omega) only[Try.f52,go_sem,↓reduceIte]
  refine hK _ ?_
  refine aB (aR 0 rfl rfl (bR (fun p:KC=> {fr:=[(0,.sl ps.length (cP ps)),(3,.i (gO (ps.take p.k)).length),(9,.sl ps.length (cP ps)),(10,.i ps.length),(11,.i p.k)],hp:=fun _=>none,nx:=0,cx:=p.c}) (fun p=>p.k≤ps.length) (fun p=>ps.length-p.k) rfl ⟨⟨0,_⟩,Nat.zero_le _,bD rfl rfl (U3 _)⟩ ?_))
  rintro⟨k,c⟩ hk n0
  simp only at hk⊢
  refine aA rfl (aW [12,0,3,9,10,11] rfl rfl rfl fun K hK=>?_)
  simp(disch:=omega) only[Try.f52,go_sem,↓reduceIte]
  refine hK _ ?_
  refine aB (aA rfl (bA (.tmp 12) rfl rfl rfl (fun h=>?_) (fun h=>?_)))
  ·refine aI rfl ?_
   have hkl:k<ps.length:=by omega
   have ht:=dGr ps k
   have hm:=dHk ps k hkl
   have e6:=dFj ps k hkl
   obtain⟨l,hl⟩: ∃l,ps.getD k []=l:=⟨_,rfl⟩
   rw[hl]at hm e6
   refine aQ rfl (aB (aA rfl (aR 1 rfl rfl (aA rfl (aW [0,3,5,9,10,11] rfl rfl rfl fun K hK=>?_)))))
   simp(disch:=omega) only[Try.f52,go_sem,↓reduceIte,hl]
   refine hK _ ?_
   refine aB (aA rfl (aW [0,3,9,10,11] rfl rfl rfl fun K hK=>?_))
   simp(disch:=omega) only[Try.f52,go_sem,↓reduceIte]
   refine hK _ ?_
   refine aB (aA rfl (aW [20,0,3,9,10,11] rfl rfl rfl fun K hK=>?_))
   simp(disch:=omega) only[Try.f52,go_sem,↓reduceIte]
   refine hK _ ?_
   refine aB (bA (.tmp 20) rfl rfl rfl (fun h=>?_) (fun h=>?_))
   ·refine aI rfl ?_
    omega
   refine aI rfl (aQ rfl (bU (aB (aW [0,3,9,10,11] rfl rfl rfl fun K hK=>?_))))
   simp(disch:=omega) only[Try.f52,go_sem,↓reduceIte]
   refine hK _ ?_
   refine bT ?_
   refine⟨⟨k+1,_⟩,by simp only;omega,by simp only;omega,bD ?_ rfl (U3 _)⟩
   simp only[e6,List.length_append,Int.natCast_add,Int.natCast_one]
  refine aI rfl (bF 0 rfl rfl (aY (aZ (bE (aB (aA rfl ?_))))))
  obtain rfl:k=ps.length:=by omega
  have e8:ps.take ps.length=ps:=List.take_length
  refine aC (Γ:=bC [(73,.heap dHi)]) [0,6] (aH ok73 aO) rfl rfl rfl (fun K hK=>?_)
  simp(disch:=omega) only[Try.f52,go_sem,↓reduceIte,e8]
  refine hK _ ?_
  refine aB (aA rfl (aA rfl (aW [6,25,26,27] rfl rfl rfl fun K hK=>?_)))
  simp(disch:=omega) only[Try.f52,go_sem,↓reduceIte]
  refine hK _ ?_
  refine aB ?_
  clear hk h
  refine aR 2 rfl rfl ?_
  refine bR (fun p:KIC=> {fr:=[(6,.os p.id 0 (gO (ps.take p.k)).length 1 true),(25,.sl ps.length (cP ps)),(26,.i ps.length),(27,.i p.k)],hp:=upd (fun _=>none) p.id (.cells (c8 (gO (ps.take p.k))) true),nx:=0,cx:=p.c}) (fun p=>p.k≤ps.length∧p.id<p.c) (fun p=>ps.length-p.k) rfl ⟨⟨0,_,_⟩,⟨Nat.zero_le _,by simp only;omega⟩,bD rfl rfl (U3 _)⟩ ?_
  rintro⟨k,id,c⟩ ⟨hk,hid⟩ n0
  simp only at hk hid⊢
  refine aA rfl (aW [28,6,25,26,27] rfl rfl rfl fun K hK=>?_)
  simp(disch:=omega) only[Try.f52,go_sem,↓reduceIte]
  refine hK _ ?_
  refine aB (aA rfl (bA (.tmp 28) rfl rfl rfl (fun h=>?_) (fun h=>?_)))
  ·refine aI rfl ?_
   have hkl:k<ps.length:=by omega
   have ht:=dGr ps k
   have hm:=dHk ps k hkl
   have e6:=dFj ps k hkl
   obtain⟨l,hl⟩: ∃l,ps.getD k []=l:=⟨_,rfl⟩
   rw[hl]at hm e6
   have e7:(gO (ps.take (k+1))).length=(gO (ps.take k)).length+l.length:=by rw[e6,List.length_append]
   refine aQ rfl (aB (aA rfl (aR 3 rfl rfl (aA rfl (aW [6,8,25,26,27] rfl rfl rfl fun K hK=>?_)))))
   simp(disch:=omega) only[Try.f52,go_sem,↓reduceIte,hl]
   refine hK _ ?_
   refine aB (aW [6,25,26,27] rfl rfl rfl fun K hK=>?_)
   simp(disch:=omega) only[Try.f52,go_sem,↓reduceIte]
   refine hK _ ?_
   refine bU (aB (aW [6,25,26,27] rfl rfl rfl fun K hK=>?_))
   simp(disch:=omega) only[Try.f52,go_sem,↓reduceIte]
   refine hK _ ?_
   refine bT ?_
   trace_state
   refine⟨⟨k+1,c+1+3+2,_⟩,⟨by simp only;omega,by simp only;omega⟩,by simp only;omega,⟨fun _=> .inr ?_,fun j o h=>?_,U3 _⟩⟩
   ·simp only[e7,Int.natCast_add,Int.natCast_one]
   simp only at h
   exact bS (by simp(disch:=omega) only[aV,↓reduceIte,eq_self,e6]) (cB) j o h
  refine aI rfl (bF 2 rfl rfl (aY (aZ (bE (aB (aA rfl ?_))))))
  obtain rfl:k=ps.length:=by omega
  refine aW [2] rfl rfl rfl fun K hK=>?_
  simp(disch:=omega) only[Try.f52,go_sem,↓reduceIte,e8]
  refine hK _ ?_
  refine aB (aS rfl ?_)
  simp(disch:=omega) only[fE,eO,bV,bK,bQ,Try.f52,go_sem,↓reduceIte,fQ]
 cases hg
theorem fFl:bX Try.prog GLh 52 (.fresh true dEv):=⟨⟨_,Try.func52,rfl,rfl⟩,dJt⟩
end Go.AX

namespace Go.AX
open Go Go.Proofs
theorem fS (n:Nm):(eF n).length+1=wl n:=by
 induction n with
 |nil=>rfl
 |cons l r ih=>rw[gX,eKu];omega
theorem eLv {b:List B8} {n:Nm} {s:Nat} (h:nmO b=some (n,s)):wl n=s∧wl n≤255∧(∀l∈n,gZ l):=by
 unfold nmO at h
 rcases ho:opN (b.length+1) b with _|⟨m,q⟩
 ·rw[ho]at h;cases h
 rw[ho]at h
 simp only at h
 split at h
 ·cases h
 simp only[Option.some.injEq,Prod.mk.injEq]at h
 obtain⟨rfl,rfl⟩:=h
 obtain⟨a1,a2,_⟩:=eOv _ _ _ _ ho
 exact⟨a2,by omega,a1⟩
theorem eUa {t:BitVec 16} (h:tgT t): ¬t=6#16∧¬t=48#16∧¬t=1#16∧¬t=28#16∧¬t=46#16∧¬t=50#16:=by
 rcases h with rfl|rfl|rfl<;>decide
theorem fBu {t:BitVec 16} (h:tgT t) (l:List B8):shp t l=if ahd t≤l.length then nmE l (ahd t)else none:=by
 rcases h with rfl|rfl|rfl<;>simp[shp,ahd]
theorem fDj {t:BitVec 16} {l:List B8} (h:tgT t) (h0:eZs t l=0): ∃n s,nmO (l.drop (ahd t))=some (n,s)∧ahd t+s=l.length∧eMt t l=.tup [.sl n.length (cS n),.i 0]:=by
 obtain⟨a1,a2,_⟩:=eUa h
 unfold eZs at h0
 split at h0
 ·cases h0
 rw[fBu h]at h0
 split at h0
 rotate_left
 ·cases h0
 rename_i hle
 unfold nmE at h0
 rcases hn:nmO (l.drop (ahd t))with _|⟨n,s⟩
 ·rw[hn]at h0;cases h0
 rw[hn]at h0
 have hp:((ahd t+s:Nat):Int)=(l.length:Int):=by
  by_cases hp:((ahd t+s:Nat):Int)=(l.length:Int)
  ·exact hp
  have:rdE l.length (eKo l (some (ahd t+s)))=50:=eLn _ _ hp
  simp only[Option.map_some]at h0
  rw[this]at h0;cases h0
 refine⟨n,s,rfl,by omega,?_⟩
 unfold eMt
 rw[J4 h]
 unfold eKp
 rw[J4 hle,eMp hn,fO _ _ _ hp]
def nmN (t:BitVec 16) (l:List B8):Nm:=match nmO (l.drop (ahd t))with
 |some (n,_)=>n
 |none=>[]
end Go.AX

namespace Go.AX
open Go
def aRu (P:Program) (Γ:Env) (md:Nat→Nat) (ops:Array Oper) (c d j i:Nat):Bool:=
 ((Region.before ops).getD i 0).testBit j||(j==c&&i==d)||match ops[j]?,ops[i]? with
  |some y,some x=>y.apart ops x&&eEq j i (tI P Γ (md j) y.op) (tI P Γ (md i) x.op)
  |_,_=>false
def aAb (P:Program) (Γ:Env) (md:Nat→Nat) (ops:Array Oper) (c d:Nat):List Nat→Bool
 |[]=>true
 |j::r=>(r.all fun i=>aRu P Γ md ops c d j i&&j !=i)&&aAb P Γ md ops c d r
def tJ (ops:Array Oper):Bool:=(List.range ops.size).all fun j=>match ops[j]? with
 |none=>true
 |some y=>y.after.all fun e=> !Region.binds .any e||decide (e.on<j)
def okL (P:Program) (Γ:Env) (md:Nat→Nat) (ops:Array Oper) (c d:Nat) (l:List Nat):Bool:=
 aAb P Γ md ops c d l&&((List.range ops.size).all fun i=>l.contains i)&&l.all fun i=>decide (i<ops.size)
theorem aCc {P:Program} {Γ:Env} {md:Nat→Nat} {ops:Array Oper} {c d:Nat}: ∀ {l:List Nat},aAb P Γ md ops c d l=true→l.Pairwise fun j i=>aRu P Γ md ops c d j i=true∧j≠i
 |[],_=> .nil
 |j::r,h=>by
  simp only[aAb,Bool.and_eq_true,List.all_eq_true]at h
  refine .cons (fun i hi=>?_) (aCc h.2)
  have:=h.1 i hi
  exact⟨this.1,by simpa using this.2⟩
section
variable {P : Program} {Γ : Env} {c : Ctx} {σ0 : Nat → Loc} {I0 : Nat → Prop} {w0 : World} {md : Nat → Nat} {ops : Array Oper}
def pT (listed:Array Bool) (i:Nat):Bool:= !listed.getD i true
theorem aAs {listed:Array Bool} {i:Nat}:pT listed i=true↔listed.getD i true=false:=by simp[pT]
theorem uQ (he:tJ ops=true) (listed:Array Bool) (hsz:listed.size=ops.size) (hr:Region.ready .any ops listed=[]): ∀i,i<ops.size→listed.getD i true=true:=by
 intro i
 induction i using Nat.strongRecOn with
 |_ i ih=>
  intro hlt
  cases hun:listed.getD i true with
  |true=>rfl
  |false=>
   have:i∈Region.ready .any ops listed:=by
    rw[mem_ready]
    refine⟨hun,ops[i],Array.getElem?_eq_getElem hlt,fun e he' hb=>?_⟩
    have h1:=List.all_eq_true.1 he i (List.mem_range.2 hlt)
    simp only[Array.getElem?_eq_getElem hlt]at h1
    have h2:=Array.all_eq_true_iff_forall_mem.1 h1 e he'
    have hlt':e.on<i:=by simpa [hb]using h2
    have h3:=ih e.on hlt' (by omega)
    have hs2:e.on<listed.size:=by omega
    rw[Array.getD_eq_getD_getElem?,Array.getElem?_eq_getElem hs2]at h3⊢
    exact h3
   rw[hr]at this;cases this
def uY (ops:Array Oper) (listed:Array Bool):Prop:= ∀m o,listed.getD m false=true→ops[m]? =some o→∀e∈o.after,Region.binds .any e=true→listed.getD e.on false=true
theorem aUa {listed:Array Bool} (hdc:uY ops listed) {m j:Nat} (ha:Anc ops m j) (h: ∀o,ops[m]? =some o→∀e∈o.after,Region.binds .any e=true→listed.getD e.on false=true):listed.getD j false=true:=by
 induction ha with
 |edge ho he hb=>exact h _ ho _ he hb
 |step ho he hb _ ih2=>exact ih2 fun o ho' e' he' hb'=>hdc _ o (h _ ho _ he hb) ho' e' he' hb'
theorem uY.set {listed:Array Bool} (hdc:uY ops listed) {i:Nat} {x:Oper} (hx:ops[i]? =some x) (hall: ∀e∈x.after,Region.binds .any e=true→listed.getD e.on false=true):uY ops (listed.setIfInBounds i true):=by
 intro m o hm ho e he hb
 by_cases hmi:m=i
 ·subst hmi
  rw[hx]at ho;obtain rfl:=J0 ho
  exact getD_set_true (hall e he hb)
 rw[getD_set_ne false (Ne.symm hmi)]at hm
 exact getD_set_true (hdc m o hm ho e he hb)
theorem qI {l:List Nat} {a0 b0:Nat} (hl:okL P Γ md ops a0 b0 l=true) {listed:Array Bool} (hsz:listed.size=ops.size) (hdc:uY ops listed) {i:Nat} (hi:i∈Region.ready .any ops listed) (hab:listed.getD a0 true=true∨i≠b0) {s sf:S}
  (hrun:dQ P Γ c.GL md ops (l.filter (pT listed)) s=some sf): ∃x s1 sf1,ops[i]? =some x∧kA P Γ c.GL md ops i x s=some s1∧dQ P Γ c.GL md ops (l.filter (pT (listed.setIfInBounds i true))) s1=some sf1∧gC sf sf1:=by
 obtain⟨hun,x,hx,hall⟩:=mem_ready.1 hi
 have hlt:=(Array.getElem?_eq_some_iff.1 hx).1
 simp only[okL,Bool.and_eq_true,List.all_eq_true]at hl
 obtain⟨⟨h1,h2⟩,h3⟩:=hl
 have hpw:=(aCc h1).filter (pT listed)
 have hmem:i∈l.filter (pT listed):=List.mem_filter.2 ⟨by simpa using h2 i (List.mem_range.2 hlt),aAs.2 hun⟩
 obtain⟨p,q,hpq⟩:=List.append_of_mem hmem
 rw[hpq]at hpw hrun
 have hpi:=fun j (hj:j∈p)=>(List.pairwise_append.1 hpw).2.2 j hj i (by simp)
 have hiq:=fun j (hj:j∈q)=>(List.pairwise_cons.1 (List.pairwise_append.1 hpw).2.1).1 j hj
 obtain⟨s1,sf1,f1,f2,f3⟩:=wK hx p q (fun j hj=>by
  obtain⟨g1,g2⟩:=hpi j hj
  have hjm:j∈l.filter (pT listed):=by rw[hpq];simp[hj]
  have hjun:=aAs.1 (List.mem_filter.1 hjm).2
  have hjlt:j<ops.size:=by simpa using h3 j (List.mem_filter.1 hjm).1
  refine⟨g2,ops[j],Array.getElem?_eq_getElem hjlt,?_⟩
  simp only[aRu,Bool.or_eq_true,Bool.and_eq_true,beq_iff_eq,Array.getElem?_eq_getElem hjlt,hx]at g1
  rcases g1 with(g1|⟨rfl,rfl⟩)|g1
  ·have:=aUa hdc (oR ops i j g1) (fun o ho e he hb=>by rw[hx]at ho;obtain rfl:=J0 ho;exact hall e he hb)
   have hs2:j<listed.size:=by omega
   rw[Array.getD_eq_getD_getElem?,Array.getElem?_eq_getElem hs2]at hjun this
   simp only[Option.getD_some]at hjun this
   rw[hjun]at this;cases this
  ·rcases hab with h|h
   ·rw[h]at hjun;cases hjun
   ·exact absurd rfl h
  ·exact g1) hrun
 refine⟨x,s1,sf1,hx,f1,?_,f3⟩
 have hnew:l.filter (pT (listed.setIfInBounds i true))=p++q:=by
  have e1:l.filter (pT (listed.setIfInBounds i true))=(l.filter (pT listed)).filter (fun k=>k !=i):=by
   rw[List.filter_filter]
   refine List.filter_congr fun k hk=>?_
   by_cases hki:k=i
   ·subst hki
    unfold pT
    rw[Array.getD_eq_getD_getElem?,Array.getElem?_setIfInBounds_self_of_lt (by omega)];simp
   ·unfold pT
    rw[getD_set_ne true (Ne.symm hki)]
    simp[hki]
  rw[e1,hpq,List.filter_append,List.filter_cons]
  simp only[bne_self_eq_false,Bool.false_eq_true,if_false]
  congr 1
  ·exact List.filter_eq_self.2 fun k hk=>by simpa using(hpi k hk).2
  ·exact List.filter_eq_self.2 fun k hk=>by simpa using(hiq k hk).2.symm
 rw[hnew];exact f2
theorem aHn {l:List Nat} {a0 b0:Nat} (hl:okL P Γ md ops a0 b0 l=true) {listed:Array Bool} (hall: ∀i,i<ops.size→listed.getD i true=true):l.filter (pT listed)=[]:=by
 simp only[okL,Bool.and_eq_true,List.all_eq_true]at hl
 refine List.filter_eq_nil_iff.2 fun j hj=>?_
 have:=hall j (by simpa using hl.2 j hj)
 simp[pT,this]
theorem wQ (hΓ:eJ P c.GL Γ) {Q:Exit→Act→World→Prop} (hdst:fK c.nt ops.toList=true) (he:tJ ops=true) {l:List Nat} {a0 b0:Nat} (hl:okL P Γ md ops a0 b0 l=true) {s':S}
  (hQ: ∀a' w',R c σ0 I0 w0 (fun _=>False) s' a' w'→Q .normal a' w'):
  ∀(fuel:Nat) (listed:Array Bool) (s sf:S) (a:Act) (w:World),listed.size=ops.size→listed.getD a0 true=true→(unl ops.size listed).length≤fuel→uY ops listed→
   dQ P Γ c.GL md ops (l.filter (pT listed)) s=some sf→gC s' sf→R c σ0 I0 w0 (fun k=>k∈unl ops.size listed) s a w→wpAny P .any ops Q fuel listed a w:=by
 have fin: ∀(listed:Array Bool) (s sf:S) (a:Act) (w:World),listed.size=ops.size→Region.ready .any ops listed=[]→dQ P Γ c.GL md ops (l.filter (pT listed)) s=some sf→gC s' sf→R c σ0 I0 w0 (fun k=>k∈unl ops.size listed) s a w→Q .normal a w:=by
  intro listed s sf a w hsz hr hrun heq hR
  rw[aHn hl (uQ he listed hsz hr)]at hrun
  obtain rfl:=J0 hrun
  exact hQ _ _ ((hR.un fun k hk=>hk.elim).eqv heq.symm)
 intro fuel
 induction fuel with
 |zero=>
  intro listed s sf a w hsz ha0 hlen hdc hrun heq hR
  have hun0:unl ops.size listed=[]:=List.eq_nil_of_length_eq_zero (by omega)
  have hr:Region.ready .any ops listed=[]:=by
   refine List.eq_nil_iff_forall_not_mem.2 fun i hi=>?_
   obtain⟨h1,o,ho,_⟩:=mem_ready.1 hi
   have:i∈unl ops.size listed:=by unfold unl;rw[List.mem_filter,List.mem_range];exact⟨(Array.getElem?_eq_some_iff.1 ho).1,by rw[h1];rfl⟩
   rw[hun0]at this;cases this
  exact⟨hr,fin listed s sf a w hsz hr hrun heq hR⟩
 |succ fuel ih=>
  intro listed s sf a w hsz ha0 hlen hdc hrun heq hR
  refine⟨fun hr=>fin listed s sf a w hsz hr hrun heq hR,fun i hi=>?_⟩
  obtain⟨x,s1,sf1,hx,f1,f2,f3⟩:=qI hl hsz hdc hi (.inl ha0) hrun
  obtain⟨hun,x',hx',hall⟩:=mem_ready.1 hi
  rw[hx]at hx';obtain rfl:=J0 hx'
  have hlt:=(Array.getElem?_eq_some_iff.1 hx).1
  have hmem:i∈unl ops.size listed:=by unfold unl;rw[List.mem_filter,List.mem_range];exact⟨hlt,by rw[hun];rfl⟩
  have hsub: ∀k,k∈unl ops.size (listed.setIfInBounds i true)→k∈unl ops.size listed∧k≠i:=by
   intro k hk
   simp only[unl,List.mem_filter,List.mem_range]at hk⊢
   by_cases hki:k=i
   ·subst hki
    rw[Array.getD_eq_getD_getElem?,Array.getElem?_setIfInBounds_self_of_lt (by omega)]at hk
    simp at hk
   ·rw[getD_set_ne true (Ne.symm hki)]at hk
    exact⟨hk,hki⟩
  have hlen2:(unl ops.size (listed.setIfInBounds i true)).length<(unl ops.size listed).length:=by
   have e0:unl ops.size (listed.setIfInBounds i true)=(unl ops.size listed).filter (fun k=>k !=i):=by
    unfold unl
    rw[List.filter_filter]
    refine List.filter_congr fun k hk=>?_
    by_cases hki:k=i
    ·subst hki
     rw[Array.getD_eq_getD_getElem?,Array.getElem?_setIfInBounds_self_of_lt (by omega)];simp
    ·rw[getD_set_ne true (Ne.symm hki)]
     simp[hki]
   rw[e0]
   refine Nat.lt_of_le_of_ne (List.length_filter_le _ _) fun e=>?_
   have:=List.length_filter_eq_length_iff.1 e i hmem
   simp at this
  have ha1:(listed.setIfInBounds i true).getD a0 true=true:=by
   by_cases hai:a0=i
   ·subst hai;rw[Array.getD_eq_getD_getElem?,Array.getElem?_setIfInBounds_self_of_lt (by omega)];rfl
   ·rw[getD_set_ne true (Ne.symm hai)];exact ha0
  have hstep:=fX (K:=wpAny P .any ops Q fuel (listed.setIfInBounds i true)) (Q:=Q) (ops:=ops) hΓ f1 (lU hdst (Array.mem_toList_iff.2 (Array.mem_of_getElem? hx))) (rem:=fun k=>k∈unl ops.size listed) hmem hR (fun a' w' hR'=>
   ih (listed.setIfInBounds i true) s1 sf1 a' w' (by simpa using hsz) ha1 (by omega) (hdc.set hx hall) f2 (heq.trans f3) (hR'.un fun k hk=>hsub k hk))
  unfold wpOp
  simp only[hx]
  split
  ·rename_i hw;rw[J4 hw]at hstep;exact .inl hstep
  ·rename_i hw;rw[J3 hw]at hstep;exact hstep
theorem aJy (hΓ:eJ P c.GL Γ) {Q:Exit→Act→World→Prop} (hdst:fK c.nt ops.toList=true) (he:tJ ops=true) {l1 l2:List Nat} {a0 b0:Nat} (hne:a0≠b0) (hl1:okL P Γ md ops a0 b0 l1=true) (hl2:okL P Γ md ops b0 a0 l2=true) {s1' s2':S}
  (hQ1: ∀a' w',R c σ0 I0 w0 (fun _=>False) s1' a' w'→Q .normal a' w') (hQ2: ∀a' w',R c σ0 I0 w0 (fun _=>False) s2' a' w'→Q .normal a' w'):
  ∀(fuel:Nat) (listed:Array Bool) (s sf1 sf2:S) (a:Act) (w:World),listed.size=ops.size→(unl ops.size listed).length≤fuel→uY ops listed→
   dQ P Γ c.GL md ops (l1.filter (pT listed)) s=some sf1→gC s1' sf1→dQ P Γ c.GL md ops (l2.filter (pT listed)) s=some sf2→gC s2' sf2→R c σ0 I0 w0 (fun k=>k∈unl ops.size listed) s a w→wpAny P .any ops Q fuel listed a w:=by
 have fin: ∀(listed:Array Bool) (s sf:S) (a:Act) (w:World),listed.size=ops.size→Region.ready .any ops listed=[]→dQ P Γ c.GL md ops (l1.filter (pT listed)) s=some sf→gC s1' sf→R c σ0 I0 w0 (fun k=>k∈unl ops.size listed) s a w→Q .normal a w:=by
  intro listed s sf a w hsz hr hrun heq hR
  rw[aHn hl1 (uQ he listed hsz hr)]at hrun
  obtain rfl:=J0 hrun
  exact hQ1 _ _ ((hR.un fun k hk=>hk.elim).eqv heq.symm)
 intro fuel
 induction fuel with
 |zero=>
  intro listed s sf1 sf2 a w hsz hlen hdc hrun heq _ _ hR
  have hun0:unl ops.size listed=[]:=List.eq_nil_of_length_eq_zero (by omega)
  have hr:Region.ready .any ops listed=[]:=by
   refine List.eq_nil_iff_forall_not_mem.2 fun i hi=>?_
   obtain⟨h1,o,ho,_⟩:=mem_ready.1 hi
   have:i∈unl ops.size listed:=by unfold unl;rw[List.mem_filter,List.mem_range];exact⟨(Array.getElem?_eq_some_iff.1 ho).1,by rw[h1];rfl⟩
   rw[hun0]at this;cases this
  exact⟨hr,fin listed s sf1 a w hsz hr hrun heq hR⟩
 |succ fuel ih=>
  intro listed s sf1 sf2 a w hsz hlen hdc hrun1 heq1 hrun2 heq2 hR
  refine⟨fun hr=>fin listed s sf1 a w hsz hr hrun1 heq1 hR,fun i hi=>?_⟩
  obtain⟨hun,x,hx,hall⟩:=mem_ready.1 hi
  have hlt:=(Array.getElem?_eq_some_iff.1 hx).1
  have hmem:i∈unl ops.size listed:=by unfold unl;rw[List.mem_filter,List.mem_range];exact⟨hlt,by rw[hun];rfl⟩
  have hsub: ∀k,k∈unl ops.size (listed.setIfInBounds i true)→k∈unl ops.size listed∧k≠i:=by
   intro k hk
   simp only[unl,List.mem_filter,List.mem_range]at hk⊢
   by_cases hki:k=i
   ·subst hki
    rw[Array.getD_eq_getD_getElem?,Array.getElem?_setIfInBounds_self_of_lt (by omega)]at hk
    simp at hk
   ·rw[getD_set_ne true (Ne.symm hki)]at hk
    exact⟨hk,hki⟩
  have hlen2:(unl ops.size (listed.setIfInBounds i true)).length<(unl ops.size listed).length:=by
   have e0:unl ops.size (listed.setIfInBounds i true)=(unl ops.size listed).filter (fun k=>k !=i):=by
    unfold unl
    rw[List.filter_filter]
    refine List.filter_congr fun k hk=>?_
    by_cases hki:k=i
    ·subst hki
     rw[Array.getD_eq_getD_getElem?,Array.getElem?_setIfInBounds_self_of_lt (by omega)];simp
    ·rw[getD_set_ne true (Ne.symm hki)]
     simp[hki]
   rw[e0]
   refine Nat.lt_of_le_of_ne (List.length_filter_le _ _) fun e=>?_
   have:=List.length_filter_eq_length_iff.1 e i hmem
   simp at this
  have hset:(listed.setIfInBounds i true).getD i true=true:=by rw[Array.getD_eq_getD_getElem?,Array.getElem?_setIfInBounds_self_of_lt (by omega)];rfl
  have go: ∀(s1:S),kA P Γ c.GL md ops i x s=some s1→(∀a' w',R c σ0 I0 w0 (fun k=>k∈unl ops.size (listed.setIfInBounds i true)) s1 a' w'→wpAny P .any ops Q fuel (listed.setIfInBounds i true) a' w')→wpOp P ops Q i (wpAny P .any ops Q fuel (listed.setIfInBounds i true)) a w:=by
   intro s1 f1 hk
   have hstep:=fX (K:=wpAny P .any ops Q fuel (listed.setIfInBounds i true)) (Q:=Q) (ops:=ops) hΓ f1 (lU hdst (Array.mem_toList_iff.2 (Array.mem_of_getElem? hx))) (rem:=fun k=>k∈unl ops.size listed) hmem hR (fun a' w' hR'=>hk a' w' (hR'.un fun k hk=>hsub k hk))
   unfold wpOp
   simp only[hx]
   split
   ·rename_i hw;rw[J4 hw]at hstep;exact .inl hstep
   ·rename_i hw;rw[J3 hw]at hstep;exact hstep
  by_cases hib:i=b0
  ·obtain⟨x',s1,sf',hx',f1,f2,f3⟩:=qI hl2 hsz hdc hi (.inr (fun e=>hne (e.symm.trans hib))) hrun2
   rw[hx]at hx';obtain rfl:=J0 hx'
   exact go s1 f1 fun a' w' hR'=>wQ hΓ hdst he hl2 hQ2 fuel _ s1 sf' a' w' (by simpa using hsz) (by rw[←hib];exact hset) (by omega) (hdc.set hx hall) f2 (heq2.trans f3) hR'
  ·by_cases hia:i=a0
   ·obtain⟨x',s1,sf',hx',f1,f2,f3⟩:=qI hl1 hsz hdc hi (.inr hib) hrun1
    rw[hx]at hx';obtain rfl:=J0 hx'
    exact go s1 f1 fun a' w' hR'=>wQ hΓ hdst he hl1 hQ1 fuel _ s1 sf' a' w' (by simpa using hsz) (by rw[←hia];exact hset) (by omega) (hdc.set hx hall) f2 (heq1.trans f3) hR'
   ·obtain⟨x1,s1,sfa,hx1,f1,f2,f3⟩:=qI hl1 hsz hdc hi (.inr hib) hrun1
    obtain⟨x2,s2,sfb,hx2,g1,g2,g3⟩:=qI hl2 hsz hdc hi (.inr hia) hrun2
    rw[hx]at hx1 hx2;obtain rfl:=J0 hx1;obtain rfl:=J0 hx2
    rw[f1]at g1;obtain rfl:=J0 g1
    exact go s1 f1 fun a' w' hR'=>ih (listed.setIfInBounds i true) s1 sfa sfb a' w' (by simpa using hsz) (by omega) (hdc.set hx hall) f2 (heq1.trans f3) g2 (heq2.trans g3) hR'
end
def ok2 (P:Program) (Γ:Env) (md:Nat→Nat) (a0 b0:Nat) (l1 l2:List Nat) (c:Code):Bool:=tJ (aM c)&&okL P Γ md (aM c) a0 b0 l1&&okL P Γ md (aM c) b0 a0 l2
def xL (P:Program) (Γ:Env) (GL:Nat→Option (List AV)) (md:Nat→Nat) (n:Nat) (ls:List LOp):List Nat→S→Option S
 |[],s=>some s
 |i::r,s=>aK (yR P Γ GL (md i) n i s ls[i]?) fun s'=>xL P Γ GL md n ls r s'
@[congr] theorem cIc {P : Program} {Γ : Env} {GL : Nat → Option (List AV)} {md : Nat → Nat} {n : Nat} {ls : List LOp} {l : List Nat} {s s' : S} (h : s = s') : xL P Γ GL md n ls l s = xL P Γ GL md n ls l s' := by rw [h]
theorem nJ (P Γ GL md n ls s):xL P Γ GL md n ls [] s=some s:=(rfl)
theorem lY (P Γ GL md n ls i r s):xL P Γ GL md n ls (i::r) s=aK (yR P Γ GL (md i) n i s ls[i]?) fun s'=>xL P Γ GL md n ls r s':=(rfl)
theorem aKy {P:Program} {GL:Nat→Option (List AV)} {nt:Nat} {Q:Exit→S→Prop} {s:S} {code:Code} {Γ:Env} (a0 b0:Nat) (l1 l2:List Nat) (md:Nat→Nat) (ks:List Nat) (hm:P.follows .mixedOrders=true) (hΓ:eJ P GL Γ) (hne:a0≠b0) (hc:eEs code=true) (hd:lZ code=true) (ho:fK nt (aM code).toList=true) (hk:ok2 P Γ md a0 b0 l1 l2 code=true)
  (h1: ∀K:S→Prop,(∀t,Q .normal t→K t)→nH (xL P Γ GL md (rN code) (aF code) l1 (cX (rN code) s)) fun t=>K {t with fr:=gL ks t.fr})
  (h2: ∀K:S→Prop,(∀t,Q .normal t→K t)→nH (xL P Γ GL md (rN code) (aF code) l2 (cX (rN code) s)) fun t=>K {t with fr:=gL ks t.fr}):Awp P GL nt code s Q:=by
 replace h1:=h1 (Q .normal) fun _ h=>h
 replace h2:=h2 (Q .normal) fun _ h=>h
 refine sX ?_
 cases code<;>first|(cases hc;done)|skip
 rename_i id ops d
 simp only[lZ]at hd
 subst hd
 intro c g1 g2 σ0 I0 w0 a w hR
 subst g1;subst g2
 simp only[aM,ok2,Bool.and_eq_true]at ho hk
 have h0:unl ops.size (Array.replicate ops.size false)=List.range ops.size:=by
  unfold unl
  refine List.filter_eq_self.2 fun k hk=>?_
  rw[List.mem_range]at hk
  rw[Array.getD_eq_getD_getElem?,Array.getElem?_replicate,J4 hk];rfl
 have hf: ∀ {x y:Nat} {l:List Nat},okL P Γ md ops x y l=true→l.filter (pT (Array.replicate ops.size false))=l:=by
  intro x y l hl
  simp only[okL,Bool.and_eq_true,List.all_eq_true]at hl
  refine List.filter_eq_self.2 fun j hj=>aAs.2 ?_
  have:j<ops.size:=by simpa using hl.2 j hj
  rw[Array.getD_eq_getD_getElem?,Array.getElem?_replicate,J4 this];rfl
 have hrun: ∀(l:List Nat) (s:S),xL P Γ c.GL md (rN (.region id ops true)) (aF (.region id ops true)) l s=dQ P Γ c.GL md ops l s:=by
  intro l
  induction l with
  |nil=>intro s;rfl
  |cons i r ih=>
   intro s
   have hl:(aF (.region id ops true))[i]? =(ops[i]?).map (aG ops):=by simp only[aF,aM,List.getElem?_map,Array.getElem?_toList]
   simp only[xL,dQ,hl]
   cases ops[i]? with
   |none=>rfl
   |some o=>
    simp only[Option.map_some,yR,vJ]
    congr 1
    funext s'
    exact ih s'
 obtain⟨t1,e1,e2⟩:=mR h1
 obtain⟨t2,f1,f2⟩:=mR h2
 rw[hrun]at e1 f1
 refine wp_region_any hm (aJy (σ0:=σ0) (I0:=I0) (w0:=w0) (md:=md) (s1':=t1) (s2':=t2) hΓ ho hk.1.1 hne hk.1.2 hk.2 (fun a' w' hR'=>⟨t1,⟨_,e2,dWs ks t1,rfl⟩,hR'⟩) (fun a' w' hR'=>⟨t2,⟨_,f2,dWs ks t2,rfl⟩,hR'⟩)
  ops.size _ (cX ops.size s) t1 t2 a _ (by simp) (by rw[h0];simp) (fun m o hl=>?_) (by rw[hf hk.1.2];exact e1) (gC.refl _) (by rw[hf hk.2];exact f1) (gC.refl _) ?_)
 ·rw[Array.getD_eq_getD_getElem?,Array.getElem?_replicate]at hl;split at hl<;>cases hl
 ·exact((hR.enter ops.size).un fun k hk=>by rw[h0]at hk;exact List.mem_range.1 hk).world rfl rfl rfl rfl
end Go.AX

namespace Go.AX
open Go Go.Proofs
def pn (vs:List W32):List B8:=vs.flatMap fun x=>beL x 4 4
theorem eNg (vs:List W32):(pn vs).length=4*vs.length:=by
 induction vs with
 |nil=>rfl
 |cons x r ih=>unfold pn at ih⊢;rw[List.flatMap_cons,List.length_append,cZ,ih,List.length_cons];omega
theorem eRo (vs:List W32) (k:Nat) (h:k<vs.length):pn (vs.take (k+1))=pn (vs.take k)++beL (vs.getD k 0#32) 4 4:=by
 rw[List.take_succ_eq_append_getElem h,List.getD_eq_getElem?_getD,List.getElem?_eq_getElem h]
 unfold pn
 rw[List.flatMap_append,List.flatMap_cons,List.flatMap_nil,List.append_nil];rfl
theorem eVi:bX Try.prog GLh 53 (.heap aRl):=⟨⟨_,Try.func53,rfl,rfl⟩,eYi⟩
def rF (n m:Nm) (vs:List W32):List B8:=cM n++cM m++pn vs
theorem dS (n:Nm):(cM n).length=wl n:=by rw[←fS];simp[cM]
def ePn:List AV→Option (Nat×Nat×List AV)
 |[.agg [.sl n xs,.sl m ys,.w32 a,.w32 b,.w32 c,.w32 d,.w32 e]]=>aK (unS xs) fun p=>aK (unS ys) fun q=>aN (p.length=n∧q.length=m∧wl p≤100000∧wl q≤100000) (some ((rF p q [a,b,c,d,e]).length,1,c8 (rF p q [a,b,c,d,e])))
 |_=>none
theorem eUl (n m:Nat) (xs ys:List AV) (a b c d e:W32):ePn [.agg [.sl n xs,.sl m ys,.w32 a,.w32 b,.w32 c,.w32 d,.w32 e]]=aK (unS xs) fun p=>aK (unS ys) fun q=>aN (p.length=n∧q.length=m∧wl p≤100000∧wl q≤100000) (some ((rF p q [a,b,c,d,e]).length,1,c8 (rF p q [a,b,c,d,e]))):=(rfl)
attribute [go_sem] eUl eOt
theorem fGo (a b:List B8):gO [a,b]=a++b:=by simp[gO]
theorem eWj (a b c:List B8):gO [a,b,c]=a++b++c:=by simp[gO]
set_option maxHeartbeats 4000000 in
theorem eYb:dH Try.prog GLh 22 ePn:=by
 refine cT Try.func22 (aT rfl) ?_
 intro args r hg
 unfold ePn at hg
 split at hg
 ·rename_i n xs m ys v1 v2 v3 v4 v5
  replace hg:=aJ hg;obtain⟨p0,hp,hg⟩:=hg
  replace hg:=aJ hg;obtain⟨q,hq,hg⟩:=hg
  replace hg:=aP hg;obtain⟨⟨rfl,rfl,hwp,hwq⟩,hg⟩:=hg
  obtain rfl:=J0 hg
  have:=gT hp;subst this
  have:=gT hq;subst this
  clear hg hp hq
  refine⟨J1 rfl,fun nx=>?_⟩
  have w1:=fS p0
  have w2:=fS q
  have w3:=dS p0
  have w4:=dS q
  obtain⟨vs,hvs⟩: ∃vs,vs=[v1,v2,v3,v4,v5]:=⟨_,rfl⟩
  have hvl:vs.length=5:=by rw[hvs];rfl
  have hc32:[AV.w32 v1,.w32 v2,.w32 v3,.w32 v4,.w32 v5]=c32 vs:=by rw[hvs];rfl
  rw[←hvs]
  refine aA rfl (aW [1] rfl rfl rfl fun K hK=>?_)
  simp(disch:=omega) only[Try.f22,go_sem,↓reduceIte]
  refine hK _ ?_
  refine aB (lW 1 nx 0 rfl (by simp only[aV,if_true];rfl) ?_)
  refine aA rfl (bB (Γ:=bC [(38,.fresh true rG),(52,.fresh true dEv)]) (fun k=>if k=5 then 0 else if k=7 then 0 else 2) [1,3] bZ (aH eVk (aH fFl aO)) rfl rfl rfl (by kernel_rfl) (fun K hK=>?_))
  simp(disch:=omega) only[Try.f22,go_sem,↓reduceIte,fGo]
  refine hK _ ?_
  refine aB (aA rfl (aA rfl (aW [3,24,25,26] rfl rfl rfl fun K hK=>?_)))
  simp(disch:=omega) only[Try.f22,go_sem,↓reduceIte]
  refine hK _ ?_
  refine aB ?_
  refine pS 24 (nx+2+9+10) 0 5 1 rfl (by simp(disch:=omega) only[aV,↓reduceIte];rfl) (J1 rfl) ?_
  refine fF [3,24,25,26] ?_
  simp only[iB,fU,eW,↓reduceIte,Nat.reduceEqDiff]
  refine yK (hp':=upd (fun _=>none) (nx+2+7) (.cells (c8 (cM p0++cM q)) true)) (fun j o h=>?_) ?_
  ·exact bS (by simp(disch:=omega) only[aV,bY,↓reduceIte,eq_self]) (cB) j o h
  have hso:rF p0 q vs=cM p0++cM q++pn vs:=rfl
  rw[hso,←List.length_append]
  obtain⟨B,hB⟩: ∃B,cM p0++cM q=B:=⟨_,rfl⟩
  have hBl:B.length=wl p0+wl q:=by rw[←hB,List.length_append,w3,w4]
  rw[hB]
  refine aR 0 rfl rfl ?_
  refine bR (fun p:KIC=> {fr:=[(3,.os p.id 0 (B.length+4*p.k) 1 true),(24,.sl vs.length (c32 vs)),(25,.i vs.length),(26,.i p.k)],hp:=upd (fun _=>none) p.id (.cells (c8 (B++pn (vs.take p.k))) true),nx:=0,cx:=p.c}) (fun p=>p.k≤vs.length∧p.id<p.c) (fun p=>vs.length-p.k) rfl ⟨⟨0,nx+2+7,_⟩,⟨Nat.zero_le _,by simp only;omega⟩,bD (by rw[hvs];simp only[Nat.mul_zero,Nat.add_zero];rfl) (by simp only[U1,pn,List.flatMap_nil,List.append_nil]) (U3 _)⟩ ?_
  rintro⟨k,id,c⟩ ⟨hk,hid⟩ n0
  simp only at hk hid⊢
  refine aA rfl (aW [27,3,24,25,26] rfl rfl rfl fun K hK=>?_)
  simp(disch:=omega) only[Try.f22,go_sem,↓reduceIte]
  refine hK _ ?_
  refine aB (aA rfl (bA (.tmp 27) rfl rfl rfl (fun h=>?_) (fun h=>?_)))
  ·refine aI rfl ?_
   have hkl:k<vs.length:=by omega
   have e6:=eRo vs k hkl
   have e7:=eNg (vs.take k)
   rw[List.length_take,Nat.min_eq_left (by omega)]at e7
   obtain⟨x,hx⟩: ∃x,vs.getD k 0#32=x:=⟨_,rfl⟩
   rw[hx]at e6
   have e11:B++pn (vs.take (k+1))=B++pn (vs.take k)++beL x 4 4:=by rw[e6,List.append_assoc]
   obtain⟨b,hb⟩: ∃b,pn (vs.take k)=b:=⟨_,rfl⟩
   rw[hb]at e7 e11⊢
   refine aQ rfl (aB (aA rfl (aR 1 rfl rfl (aA rfl (aW [3,5,24,25,26] rfl rfl rfl fun K hK=>?_)))))
   simp(disch:=omega) only[Try.f22,go_sem,↓reduceIte,hx]
   refine hK _ ?_
   refine aB (aC (Γ:=bC [(53,.heap aRl)]) [3,24,25,26] (aH eVi aO) rfl rfl rfl (fun K hK=>?_))
   simp(disch:=omega) only[Try.f22,go_sem,↓reduceIte,e7]
   refine hK _ ?_
   refine bU (aB (aW [3,24,25,26] rfl rfl rfl fun K hK=>?_))
   simp(disch:=omega) only[Try.f22,go_sem,↓reduceIte]
   refine hK _ ?_
   refine bT ?_
   refine⟨⟨k+1,c+1+3+4+4+45+10,_⟩,⟨by simp only;omega,by simp only;omega⟩,by simp only;omega,⟨fun _=> .inr ?_,fun j o h=>?_,U3 _⟩⟩
   ·simp only[Int.natCast_add,Int.natCast_one,Nat.mul_add,Nat.mul_one,Nat.add_assoc]
   simp only at h
   exact bS (by simp(disch:=omega) only[aV,↓reduceIte,eq_self,e11]) (cB) j o h
  refine aI rfl (bF 0 rfl rfl (aY (aZ (bE (aB (aA rfl ?_))))))
  obtain rfl:k=vs.length:=by omega
  have e8:vs.take vs.length=vs:=List.take_length
  have e9:(B++pn vs).length=B.length+4*vs.length:=by rw[List.length_append,eNg]
  refine aW [2] rfl rfl rfl fun K hK=>?_
  simp(disch:=omega) only[Try.f22,go_sem,↓reduceIte,e8]
  refine hK _ ?_
  refine aB (aS rfl ?_)
  simp(disch:=omega) only[fE,eO,bV,bK,bQ,Try.f22,go_sem,↓reduceIte,fQ,e9]
 cases hg
theorem cWs:bX Try.prog GLh 22 (.fresh true ePn):=⟨⟨_,Try.func22,rfl,rfl⟩,eYb⟩
end Go.AX

namespace Go.AX
open Go Go.Proofs
def b2 (t:BitVec 16):List B8:=[(t>>>8).setWidth 8,t.setWidth 8]
def eSg (t:BitVec 16) (al lb:B8) (vs:List W32) (tag:BitVec 16) (n:Nm) (s:List B8):List B8:=b2 t++[al,lb]++pn vs++b2 tag++cM n++s
def ePo:List AV→Option (Nat×Nat×List AV)
 |[.agg [.w16 t,.w8 al,.w8 lb,.w32 a,.w32 b,.w32 c,.w16 tag,.sl n xs,.sl m ys]]=>aK (unS xs) fun p=>aK (cI ys) fun s=>aN (p.length=n∧s.length=m∧wl p≤100000∧m≤100000) (some ((eSg t al lb [a,b,c] tag p s).length,1,c8 (eSg t al lb [a,b,c] tag p s)))
 |_=>none
theorem eUq (t tag:BitVec 16) (al lb:B8) (n m:Nat) (xs ys:List AV) (a b c:W32):ePo [.agg [.w16 t,.w8 al,.w8 lb,.w32 a,.w32 b,.w32 c,.w16 tag,.sl n xs,.sl m ys]]=aK (unS xs) fun p=>aK (cI ys) fun s=>aN (p.length=n∧s.length=m∧wl p≤100000∧m≤100000) (some ((eSg t al lb [a,b,c] tag p s).length,1,c8 (eSg t al lb [a,b,c] tag p s))):=(rfl)
attribute [go_sem] eUq
theorem eUh (t:BitVec 16):beL (t.setWidth 32) 2 2=b2 t:=cTh t
theorem gS (t:BitVec 16):(b2 t).length=2:=rfl
set_option maxHeartbeats 4000000 in
theorem eYd:dH Try.prog GLh 26 ePo:=by
 refine cT Try.func26 (aT rfl) ?_
 intro args r hg
 unfold ePo at hg
 split at hg
 ·rename_i t al lb v1 v2 v3 tag n xs m ys
  replace hg:=aJ hg;obtain⟨p0,hp,hg⟩:=hg
  replace hg:=aJ hg;obtain⟨s,hq,hg⟩:=hg
  replace hg:=aP hg;obtain⟨⟨rfl,rfl,hwp,hsl⟩,hg⟩:=hg
  obtain rfl:=J0 hg
  have:=gT hp;subst this
  have:=bW hq;subst this
  clear hg hp hq
  refine⟨J1 rfl,fun nx=>?_⟩
  have w1:=fS p0
  have w3:=dS p0
  obtain⟨vs,hvs⟩: ∃vs,vs=[v1,v2,v3]:=⟨_,rfl⟩
  have hvl:vs.length=3:=by rw[hvs];rfl
  rw[←hvs]
  refine aA rfl (aW [1] rfl rfl rfl fun K hK=>?_)
  simp(disch:=omega) only[Try.f26,go_sem,↓reduceIte]
  refine hK _ ?_
  refine aB (lW 1 nx 0 rfl (by simp only[aV,if_true];rfl) ?_)
  refine aA rfl (bB (Γ:=bC [(53,.fresh false aIu)]) (fun k=>if k=1 then 1 else if k=5 then 1 else if k=7 then 1 else 2) [1,3] bZ (aH cWo aO) rfl rfl rfl (by kernel_rfl) (fun K hK=>?_))
  simp(disch:=omega) only[Try.f26,go_sem,↓reduceIte,eUh,gS]
  refine hK _ ?_
  refine aB (aA rfl (aA rfl (aW [1,3,22,23,24] rfl rfl rfl fun K hK=>?_)))
  simp(disch:=omega) only[Try.f26,go_sem,↓reduceIte]
  refine hK _ ?_
  refine aB ?_
  refine pS 22 (nx+2+11+6) 0 3 1 rfl (by simp(disch:=omega) only[aV,↓reduceIte];rfl) (J1 rfl) ?_
  refine fF [1,3,22,23,24] ?_
  simp only[iB,fU,eW,↓reduceIte,Nat.reduceEqDiff]
  obtain⟨B,hB⟩: ∃B,b2 t++[al,lb]=B:=⟨_,rfl⟩
  have hBl:B.length=4:=by rw[←hB];rfl
  have hso:eSg t al lb vs tag p0 s=B++pn vs++b2 tag++cM p0++s:=by rw[←hB];rfl
  rw[hso,hB]
  refine yK (hp':=upd (fun _=>none) (nx+2+9) (.cells (c8 B) true)) (fun j o h=>?_) ?_
  ·exact bS (by simp(disch:=omega) only[aV,bY,↓reduceIte,eq_self]) (cB) j o h
  refine aR 0 rfl rfl ?_
  refine bR (fun p:KIC=> {fr:=[(1,.rp [.w16 t,.w8 al,.w8 lb,.w32 v1,.w32 v2,.w32 v3,.w16 tag,.sl p0.length (cS p0),.sl s.length (c8 s)]),(3,.os p.id 0 (4+4*p.k) 1 true),(22,.sl vs.length (c32 vs)),(23,.i vs.length),(24,.i p.k)],hp:=upd (fun _=>none) p.id (.cells (c8 (B++pn (vs.take p.k))) true),nx:=0,cx:=p.c}) (fun p=>p.k≤vs.length∧p.id<p.c) (fun p=>vs.length-p.k) rfl ⟨⟨0,nx+2+9,_⟩,⟨Nat.zero_le _,by simp only;omega⟩,bD (by rw[hvs];rfl) (by simp only[U1,pn,List.flatMap_nil,List.append_nil]) (U3 _)⟩ ?_
  rintro⟨k,id,c⟩ ⟨hk,hid⟩ n0
  simp only at hk hid⊢
  refine aA rfl (aW [25,1,3,22,23,24] rfl rfl rfl fun K hK=>?_)
  simp(disch:=omega) only[Try.f26,go_sem,↓reduceIte]
  refine hK _ ?_
  refine aB (aA rfl (bA (.tmp 25) rfl rfl rfl (fun h=>?_) (fun h=>?_)))
  ·refine aI rfl ?_
   have hkl:k<vs.length:=by omega
   have e6:=eRo vs k hkl
   have e7:=eNg (vs.take k)
   rw[List.length_take,Nat.min_eq_left (by omega)]at e7
   obtain⟨x,hx⟩: ∃x,vs.getD k 0#32=x:=⟨_,rfl⟩
   rw[hx]at e6
   have e11:B++pn (vs.take (k+1))=B++pn (vs.take k)++beL x 4 4:=by rw[e6,List.append_assoc]
   obtain⟨b,hb⟩: ∃b,pn (vs.take k)=b:=⟨_,rfl⟩
   rw[hb]at e7 e11⊢
   refine aQ rfl (aB (aA rfl (aR 1 rfl rfl (aA rfl (aW [1,3,5,22,23,24] rfl rfl rfl fun K hK=>?_)))))
   simp(disch:=omega) only[Try.f26,go_sem,↓reduceIte,hx]
   refine hK _ ?_
   refine aB (aC (Γ:=bC [(53,.heap aRl)]) [1,3,22,23,24] (aH eVi aO) rfl rfl rfl (fun K hK=>?_))
   simp(disch:=omega) only[Try.f26,go_sem,↓reduceIte,e7,hBl]
   refine hK _ ?_
   refine bU (aB (aW [1,3,22,23,24] rfl rfl rfl fun K hK=>?_))
   simp(disch:=omega) only[Try.f26,go_sem,↓reduceIte]
   refine hK _ ?_
   refine bT ?_
   refine⟨⟨k+1,c+1+3+4+4+45+10,_⟩,⟨by simp only;omega,by simp only;omega⟩,by simp only;omega,⟨fun _=> .inr ?_,fun j o h=>?_,U3 _⟩⟩
   ·simp only[Int.natCast_add,Int.natCast_one,Nat.mul_add,Nat.mul_one,Nat.add_assoc]
   simp only at h
   exact bS (by simp(disch:=omega) only[aV,↓reduceIte,eq_self,e11]) (cB) j o h
  refine aI rfl (bF 0 rfl rfl (aY (aZ (bE (aB (aA rfl ?_))))))
  obtain rfl:k=vs.length:=by omega
  have e8:vs.take vs.length=vs:=List.take_length
  rw[e8]
  have e9:(B++pn vs).length=4+4*vs.length:=by rw[List.length_append,eNg,hBl]
  obtain⟨D,hD⟩: ∃D,B++pn vs=D:=⟨_,rfl⟩
  rw[hD]at e9⊢
  have hfl:(D++b2 tag++cM p0++s).length=4+4*vs.length+2+(cM p0).length+s.length:=by simp only[List.length_append,e9,gS]
  have hdl:(D++b2 tag).length=4+4*vs.length+2:=by rw[List.length_append,e9,gS]
  have htk:(D++b2 tag).take (4+4*vs.length+2)=D++b2 tag:=List.take_of_length_le (by omega)
  have hff:(gO [D++b2 tag,cM p0,s]).length=4+4*vs.length+2+(cM p0).length+s.length:=by rw[eWj,hfl]
  refine aKy (Γ:=bC [(53,.heap aRl),(38,.fresh true rG),(52,.fresh true dEv)]) 4 7 [0,1,2,3,4,5,6,7,8,9,10,11,12] [0,1,2,3,4,5,6,7,8,9,10,11,12] (fun k=>if k=2 then 1 else if k=6 then 1 else if k=9 then 1 else if k=4 then 0 else if k=11 then 0 else 2) [2] bZ (aH eVi (aH eVk (aH fFl aO))) (by decide) rfl rfl rfl (by kernel_rfl) (fun K hK=>?_) (fun K hK=>?_)
  ·simp(disch:=omega) only[Try.f26,go_sem,nJ,lY,eDt,List.getElem?_cons_zero,List.getElem?_cons_succ,↓reduceIte,eUh,e9,htk,hdl,hff,List.length_cons,List.length_nil]
   refine hK _ ?_
   refine aB (aS rfl ?_)
   simp(disch:=omega) only[fE,eO,bV,bK,bQ,Try.f26,go_sem,↓reduceIte,fQ,hfl,eWj]
  simp(disch:=omega) only[Try.f26,go_sem,nJ,lY,eDt,List.getElem?_cons_zero,List.getElem?_cons_succ,↓reduceIte,eUh,e9,htk,hdl,hff,List.length_cons,List.length_nil]
  refine hK _ ?_
  refine aB (aS rfl ?_)
  simp(disch:=omega) only[fE,eO,bV,bK,bQ,Try.f26,go_sem,↓reduceIte,fQ,hfl,eWj]
 cases hg
theorem ok26:bX Try.prog GLh 26 (.fresh true ePo):=⟨⟨_,Try.func26,rfl,rfl⟩,eYd⟩
end Go.AX

namespace Go.AX
open Go Go.Proofs
set_option maxRecDepth 20000
theorem st9 (a0 a1 a2 a3 a4 a5 a6 a7 a8 b0 b1 b2 b3 b4 b5 b6 b7 b8:AV):dV [a0,a1,a2,a3,a4,a5,a6,a7,a8] 0 [b0,b1,b2,b3,b4,b5,b6,b7,b8]=[b0,b1,b2,b3,b4,b5,b6,b7,b8]:=(rfl)
theorem fEq (a0 a1 a2 a3 a4 a5 a6 a7 a8 x:AV):[a0,a1,a2,a3,a4,a5,a6,a7,a8].set 3 x=[a0,a1,a2,x,a4,a5,a6,a7,a8]:=(rfl)
theorem fEp (a0 a1 a2 a3 a4 a5 a6 a7 a8 x:AV):[a0,a1,a2,a3,a4,a5,a6,a7,a8].set 4 x=[a0,a1,a2,a3,x,a5,a6,a7,a8]:=(rfl)
theorem fEo (a0 a1 a2 a3 a4 a5 a6 a7 a8 x:AV):[a0,a1,a2,a3,a4,a5,a6,a7,a8].set 5 x=[a0,a1,a2,a3,a4,x,a6,a7,a8]:=(rfl)
theorem fEn (a0 a1 a2 a3 a4 a5 a6 a7 a8 x:AV):[a0,a1,a2,a3,a4,a5,a6,a7,a8].set 6 x=[a0,a1,a2,a3,a4,a5,x,a7,a8]:=(rfl)
theorem fEm (a0 a1 a2 a3 a4 a5 a6 a7 a8 x:AV):[a0,a1,a2,a3,a4,a5,a6,a7,a8].set 7 x=[a0,a1,a2,a3,a4,a5,a6,x,a8]:=(rfl)
theorem fEl (a0 a1 a2 a3 a4 a5 a6 a7 a8 x:AV):[a0,a1,a2,a3,a4,a5,a6,a7,a8].set 8 x=[a0,a1,a2,a3,a4,a5,a6,a7,x]:=(rfl)
theorem fCn (a0 a1 a2 a3 a4 a5 a6 a7 a8:AV):AV.ids (.agg [a0,a1,a2,a3,a4,a5,a6,a7,a8])=max a0.ids (max a1.ids (max a2.ids (max a3.ids (max a4.ids (max a5.ids (max a6.ids (max a7.ids (max a8.ids 0)))))))):=(rfl)
attribute [go_sem] st9 fEq fEp fEo fEn fEm fEl
def is9:Option AO→Bool
 |some (.cells [_,_,_,_,_,_,_,_,_] true)=>true
 |_=>false
theorem eYw {o:Option AO} (h:is9 o=true): ∃x0 x1 x2 x3 x4 x5 x6 x7 x8,o=some (.cells [x0,x1,x2,x3,x4,x5,x6,x7,x8] true):=by
 unfold is9 at h
 split at h
 ·exact⟨_,_,_,_,_,_,_,_,_,rfl⟩
 cases h
theorem fGi (x0 x1 x2 x3 x4 x5 x6 x7 x8:AV):is9 (some (.cells [x0,x1,x2,x3,x4,x5,x6,x7,x8] true))=true:=(rfl)
attribute [go_sem] fGi
def eUr (l:List B8) (n:Nm) (p:Nat):AV:=.agg [.w16 ((eK (l.take 2)).setWidth 16),.w8 (l.getD 2 0#8),.w8 (l.getD 3 0#8),.w32 (dX l 4),.w32 (dX l 8),.w32 (dX l 12),.w16 ((eK ((l.drop 16).take 2)).setWidth 16),.sl n.length (cS n),.sl (l.length-p) (c8 (l.drop p))]
def eRg (l:List B8):Option (Nm×Nat)→Option (AV×List AV)
 |none=>none
 |some (n,s)=>some (eUr l n (18+s),[.sl l.length (c8 l),.i (l.length:Int)])
def eY (l:List B8):Option (AV×List AV):=if 18≤l.length then eRg l (nmO (l.drop 18))else none
def eLz:List AV→List AV→Option (Option (AV×List AV))
 |[.op _ 0],[.sl n xs,.i 0]=>aK (cI xs) fun l=>aN (l.length=n∧n≤100000) (some (eY l))
 |_,_=>none
theorem eUt (id n:Nat) (xs:List AV):eLz [.op id 0] [.sl n xs,.i 0]=aK (cI xs) fun l=>aN (l.length=n∧n≤100000) (some (eY l)):=(rfl)
attribute [go_sem] eUt
theorem eMb (l:List B8):eY l=none∨∃(v1:BitVec 16) (v2 v3:B8) (v4 v5 v6:BitVec 32) (v7:BitVec 16) (v8:Nm) (v9:List B8) (p:Nat),eY l=some (.agg [.w16 v1,.w8 v2,.w8 v3,.w32 v4,.w32 v5,.w32 v6,.w16 v7,.sl v8.length (cS v8),.sl v9.length (c8 v9)],[.sl l.length (c8 l),.i (p:Int)]):=by
 unfold eY
 split
 ·rcases nmO (l.drop 18)with _|⟨n,s⟩
  ·exact .inl rfl
  exact .inr ⟨_,_,_,_,_,_,_,n,l.drop (18+s),l.length,by simp only[eRg,eUr,List.length_drop];rfl⟩
 exact .inl rfl
set_option maxHeartbeats 8000000 in
theorem eOc:cQ Try.prog GLh 55 (rdH eLz)∧dE Try.prog GLh 55 chM (rdP eLz):=by
 refine dT Try.func55 (aT rfl) ?_
 intro id off rest nx xs o hg
 unfold eLz at hg
 split at hg
 ·rename_i id2 n xs2 heq
  simp only[List.cons.injEq,AV.op.injEq]at heq
  obtain⟨⟨rfl,rfl⟩,rfl⟩:=heq
  replace hg:=aJ hg;obtain⟨l,hl,hg⟩:=hg
  replace hg:=aP hg;obtain⟨⟨rfl,hnb⟩,hg⟩:=hg
  obtain rfl:=J0 hg
  have:=bW hl;subst this
  refine⟨J1 rfl,fun hid=>?_⟩
  clear hl hg
  obtain⟨ans,hans⟩: ∃a,eY l=a:=⟨_,rfl⟩
  rw[hans]
  unfold eY at hans
  refine aA rfl (aW [0,2] rfl rfl rfl fun K hK=>?_)
  simp(disch:=omega) only[Try.f55,go_sem,↓reduceIte]
  refine hK _ ?_
  refine aB ?_
  by_cases q2:2≤l.length
  ·have n0:rL l 2 0=some (.w32 (eK (l.take 2)),[.sl l.length (c8 l),.i 2]):=fGd (by omega)
   by_cases q3:3≤l.length
   ·have n2:rL l 1 2=some (.w32 ((l.getD 2 0#8).setWidth 32),[.sl l.length (c8 l),.i 3]):=eSx (by omega)
    by_cases q4:4≤l.length
    ·have n3:rL l 1 3=some (.w32 ((l.getD 3 0#8).setWidth 32),[.sl l.length (c8 l),.i 4]):=eSx (by omega)
     refine aA rfl (aC (Γ:=bC [(49,.heap (rdH eN))]) [0,2,3] (aH fL aO) rfl rfl rfl (fun K hK=>?_))
     simp(disch:=omega) only[Try.f55,go_sem,↓reduceIte,n0,n2,n3,sw8]
     refine hK _ ?_
     refine aB ?_
     by_cases q8:8≤l.length
     ·have n4:rL l 4 4=some (.w32 (dX l 4),[.sl l.length (c8 l),.i 8]):=eKt (by omega)
      by_cases q12:12≤l.length
      ·have n8:rL l 4 8=some (.w32 (dX l 8),[.sl l.length (c8 l),.i 12]):=eKt (by omega)
       by_cases q16:16≤l.length
       ·have n12:rL l 4 12=some (.w32 (dX l 12),[.sl l.length (c8 l),.i 16]):=eKt (by omega)
        refine aA rfl (aC (Γ:=bC [(49,.heap (rdH eN))]) [0,2,3] (aH fL aO) rfl rfl rfl (fun K hK=>?_))
        simp(disch:=omega) only[Try.f55,go_sem,↓reduceIte,n4,n8,n12]
        refine hK _ ?_
        refine aB ?_
        by_cases q18:18≤l.length
        ·have n16:rL l 2 16=some (.w32 (eK ((l.drop 16).take 2)),[.sl l.length (c8 l),.i 18]):=eKs (by omega)
         rw[J4 q18]at hans
         rcases h1:nmO (l.drop 18)with _|⟨n,s⟩
         ·rw[h1]at hans;subst hans
          refine aA rfl (dCn (Γ:=bC [(49,.heap (rdH eN)),(46,.heap (rdH gD)),(56,.heap (rdH rB))]) 4 (rM) eLi (aH fL (aH eLo (aH eMl aO))) rfl rfl rfl (fun Z hZ=>?_))
          simp(disch:=omega) only[Try.f55,go_sem,↓reduceIte,bG,eq_self,true_and,bP,List.map_cons,List.map_nil,List.append_nil,n16,eOx (l:=l) (a:=18) h1,U0,U1]
          refine hZ _ ?_;clear hZ Z
          exact rfl
         have e1:=eMp (l:=l) (a:=18) h1
         have hs:=eOw h1
         rw[List.length_drop]at hs
         rw[h1]at hans;subst hans
         have hdl:(l.drop (18+s)).length=l.length-(18+s):=List.length_drop ..
         refine aA rfl (aC (Γ:=bC [(49,.heap (rdH eN)),(46,.heap (rdH gD)),(56,.heap (rdH rB))]) [2,3] (aH fL (aH eLo (aH eMl aO))) rfl rfl rfl (fun K hK=>?_))
         simp(disch:=omega) only[Try.f55,go_sem,↓reduceIte,n16,e1,U2,rA]
         refine hK _ ?_
         refine aB ?_
         unfold eRg eUr
         refine aA rfl (aW [2] rfl rfl rfl fun K hK=>?_)
         simp(disch:=omega) only[Try.f55,go_sem,↓reduceIte]
         refine hK _ ?_
         refine aB (aS rfl (⟨by simp(disch:=omega) only[bV,bK,bQ,Try.f55,go_sem,aV,eq_self,↓reduceIte],by simp(disch:=omega) only[aV,bY,↓reduceIte,eq_self],?_,?_⟩))
         ·simp only[fCn,eKy,eLf];rfl
         exact eD _ _ _
        rw[J3 (by omega)]at hans;subst hans
        refine aA rfl (dCn (Γ:=bC [(49,.heap (rdH eN)),(46,.heap (rdH gD)),(56,.heap (rdH rB))]) 1 (dK) eI (aH fL (aH eLo (aH eMl aO))) rfl rfl rfl (fun Z hZ=>?_))
        simp(disch:=omega) only[Try.f55,go_sem,↓reduceIte,bG,eq_self,true_and,bP,List.map_cons,List.map_nil,List.append_nil,fB (l:=l) (k:=2) (a:=16) (by omega),U0,U1]
        refine hZ _ ?_;clear hZ Z
        exact rfl
       rw[J3 (by omega)]at hans;subst hans
       refine aA rfl (dCn (Γ:=bC [(49,.heap (rdH eN))]) 5 (dK) eI (aH fL aO) rfl rfl rfl (fun Z hZ=>?_))
       simp(disch:=omega) only[Try.f55,go_sem,↓reduceIte,bG,eq_self,true_and,bP,List.map_cons,List.map_nil,List.append_nil,n4,n8,fB (l:=l) (k:=4) (a:=12) (by omega),U0,U1]
       refine hZ _ ?_;clear hZ Z
       exact rfl
      rw[J3 (by omega)]at hans;subst hans
      refine aA rfl (dCn (Γ:=bC [(49,.heap (rdH eN))]) 3 (dK) eI (aH fL aO) rfl rfl rfl (fun Z hZ=>?_))
      simp(disch:=omega) only[Try.f55,go_sem,↓reduceIte,bG,eq_self,true_and,bP,List.map_cons,List.map_nil,List.append_nil,n4,fB (l:=l) (k:=4) (a:=8) (by omega),U0,U1]
      refine hZ _ ?_;clear hZ Z
      exact rfl
     rw[J3 (by omega)]at hans;subst hans
     refine aA rfl (dCn (Γ:=bC [(49,.heap (rdH eN))]) 1 (dK) eI (aH fL aO) rfl rfl rfl (fun Z hZ=>?_))
     simp(disch:=omega) only[Try.f55,go_sem,↓reduceIte,bG,eq_self,true_and,bP,List.map_cons,List.map_nil,List.append_nil,fB (l:=l) (k:=4) (a:=4) (by omega),U0,U1]
     refine hZ _ ?_;clear hZ Z
     exact rfl
    rw[J3 (by omega)]at hans;subst hans
    refine aA rfl (dCn (Γ:=bC [(49,.heap (rdH eN))]) 7 (dK) eI (aH fL aO) rfl rfl rfl (fun Z hZ=>?_))
    simp(disch:=omega) only[Try.f55,go_sem,↓reduceIte,bG,eq_self,true_and,bP,List.map_cons,List.map_nil,List.append_nil,n0,n2,fB (l:=l) (k:=1) (a:=3) (by omega),sw8,U0,U1]
    refine hZ _ ?_;clear hZ Z
    exact rfl
   rw[J3 (by omega)]at hans;subst hans
   refine aA rfl (dCn (Γ:=bC [(49,.heap (rdH eN))]) 4 (dK) eI (aH fL aO) rfl rfl rfl (fun Z hZ=>?_))
   simp(disch:=omega) only[Try.f55,go_sem,↓reduceIte,bG,eq_self,true_and,bP,List.map_cons,List.map_nil,List.append_nil,n0,fB (l:=l) (k:=1) (a:=2) (by omega),U0,U1]
   refine hZ _ ?_;clear hZ Z
   exact rfl
  rw[J3 (by omega)]at hans;subst hans
  refine aA rfl (dCn (Γ:=bC [(49,.heap (rdH eN))]) 1 (dK) eI (aH fL aO) rfl rfl rfl (fun Z hZ=>?_))
  simp(disch:=omega) only[Try.f55,go_sem,↓reduceIte,bG,eq_self,true_and,bP,List.map_cons,List.map_nil,List.append_nil,fB (l:=l) (k:=2) (a:=0) (by omega),U0,U1]
  refine hZ _ ?_;clear hZ Z
  exact rfl
 cases hg
theorem eUs:dE Try.prog GLh 55 chM (rdP eLz):=eOc.2
theorem dWt:cJ Try.prog 55:=⟨_,Try.func55,rfl,rfl⟩
theorem fFk:bX Try.prog GLh 55 (.heap (rdH eLz)):=⟨⟨_,Try.func55,rfl,rfl⟩,eOc.1⟩
theorem fCt (vals:Array Value) (w:World) (hs:vals.size=2):CallsD Try.prog 74 vals .returning w fun e u1 w'=>e=.returned (.tuple #[])∧u1=.returning∧w'=w:=by
 obtain⟨l⟩:=vals
 match l,hs with
 |[a,b],_=>
  refine callsD_of_wpS Try.func74 rfl fun c₀ cs hu=>?_
  apply wpS_seq
  apply wpS_region
  simp[wpOpsS,go_sem,recoverD,hu,Try.ntmps74,Exit.thenS]
  apply wpS_seq
  apply wpS_region
  simp[wpOpsS,go_sem,Exit.thenS]
  refine wpS_cond (t:=false) (by simp[Act.eval,Array.replicate]) ?_
  simp only[Bool.false_eq_true,if_false]
  refine wpS_of_wp (wp_skip ?_)
  cases c₀
  simp_all [bodyPostS,results,Try.results74]
theorem fHb:bSj Try.prog GLh 74 .returning .returning (fD 2):=dPj fCt
theorem fDq:cJ Try.prog 74:=⟨_,Try.func74,rfl,rfl⟩
def fAm:List AV→H→Nat→Option (H×Nat)
 |[.op i1 0,.op i2 0],hp,nx=>aN ((is9 (hp i1)=true∧eS (hp i2)=true)∧i1≠i2∧i1<nx∧i2<nx) (some (upd (upd hp i1 (.cells [.w16 0#16,.w8 0#8,.w8 0#8,.w32 0#32,.w32 0#32,.w32 0#32,.w16 0#16,.v (.slice none 0 0),.v (.slice none 0 0)] true)) i2 (.cells [.i 50] true),nx+30))
 |_,_,_=>none
theorem fAl (i1 i2 nx:Nat) (hp:H):fAm [.op i1 0,.op i2 0] hp nx=aN ((is9 (hp i1)=true∧eS (hp i2)=true)∧i1≠i2∧i1<nx∧i2<nx) (some (upd (upd hp i1 (.cells [.w16 0#16,.w8 0#8,.w8 0#8,.w32 0#32,.w32 0#32,.w32 0#32,.w16 0#16,.v (.slice none 0 0),.v (.slice none 0 0)] true)) i2 (.cells [.i 50] true),nx+30)):=(rfl)
attribute [go_sem] fAl
set_option maxHeartbeats 4000000 in
theorem fAk:bSj Try.prog GLh 74 (.panicking chM) (.panicking [{v:=.iface 117 (.agg #[]),recovered:=true}]) fAm:=by
 refine fZ (rest:=(cr (aE Try.f74))) (rv:=.iface 117 (.agg #[])) (a:=6) (b:=2) Try.func74 rfl (.inl rfl) ⟨J1 rfl,J1 rfl⟩ ?_
 intro args hp nx hp' nx' hg
 unfold fAm at hg
 split at hg
 ·rename_i i1 i2
  replace hg:=aP hg;obtain⟨⟨⟨o1,o2⟩,n12,l1,l2⟩,hg⟩:=hg
  simp only[Option.some.injEq,Prod.mk.injEq]at hg;obtain⟨rfl,rfl⟩:=hg
  obtain⟨x0,x1,x2,x3,x4,x5,x6,x7,x8,h1⟩:=eYw o1
  obtain⟨y,h2⟩:=eG o2
  refine⟨J1 rfl,Nat.le_add_right _ _,fun hno=>?_⟩
  simp only[aOo]
  refine aA rfl (aW [8,0,1,2] rfl rfl rfl fun K hK=>?_)
  simp(disch:=omega) only[Try.f74,go_sem,↓reduceIte]
  refine hK _ ?_
  refine aB (eC (.tmp 8) rfl rfl rfl (fun h=>?_) (fun h=>?_))
  ·refine aI rfl (aA rfl (aA rfl (aW [0,1,2,4] rfl rfl rfl fun K hK=>?_)))
   simp(disch:=omega) only[Try.f74,go_sem,↓reduceIte]
   refine hK _ ?_
   refine aB (aA rfl (aW [15,0,1,2] rfl rfl rfl fun K hK=>?_))
   simp(disch:=omega) only[Try.f74,go_sem,↓reduceIte]
   refine hK _ ?_
   refine aB (eC (.tmp 15) rfl rfl rfl (fun h=>?_) (fun h=>?_))
   ·refine aI rfl ?_
    cases h
   refine aI rfl ?_
   clear h
   refine aQ rfl (aB (aA rfl (aW [0,1,5] rfl rfl rfl fun K hK=>?_)))
   simp(disch:=omega) only[Try.f74,go_sem,↓reduceIte]
   refine hK _ ?_
   refine aB (aW [] rfl rfl rfl fun K hK=>?_)
   simp(disch:=omega) only[Try.f74,go_sem,↓reduceIte,h1,h2]
   refine hK _ ?_
   exact⟨rfl,eKv hno (by omega) (by omega),by simp only;omega⟩
  refine aI rfl ?_
  cases h
 cases hg
def eMz:List AV→Option AV
 |[.sl n xs,.fn 55 []]=>aK (cI xs) fun l=>aN (l.length=n∧n≤100000) (some (rdT (.agg [.w16 0#16,.w8 0#8,.w8 0#8,.w32 0#32,.w32 0#32,.w32 0#32,.w16 0#16,.sl 0 [],.sl 0 []]) l.length (eY l)))
 |_=>none
theorem eSo (n:Nat) (xs:List AV):eMz [.sl n xs,.fn 55 []]=aK (cI xs) fun l=>aN (l.length=n∧n≤100000) (some (rdT (.agg [.w16 0#16,.w8 0#8,.w8 0#8,.w32 0#32,.w32 0#32,.w32 0#32,.w16 0#16,.sl 0 [],.sl 0 []]) l.length (eY l))):=(rfl)
attribute [go_sem] eSo
set_option maxHeartbeats 4000000 in
theorem eVa:cL Try.prog GLh 54 eMz:=by
 refine cUy (r0:=(cl (aE Try.f54))) (C:=(cr (cr (aE Try.f54)))) (k:=7) (d:=74) (caps:= #[.tmp 4,.tmp 5]) Try.func54 rfl (J1 rfl) fDq fHb fAk rfl ?_
 intro args r hg
 unfold eMz at hg
 split at hg
 ·rename_i n xs
  replace hg:=aJ hg;obtain⟨l,hl,hg⟩:=hg
  replace hg:=aP hg;obtain⟨⟨rfl,hnb⟩,hg⟩:=hg
  obtain rfl:=J0 hg
  have:=bW hl;subst this
  refine⟨J1 rfl,fun nx=>⟨[.op nx 0,.op (nx+1) 0],?_⟩⟩
  clear hl hg
  have hcs:=eMb l
  refine aW [0,1,4,5] rfl rfl rfl fun K hK=>?_
  simp(disch:=omega) only[Try.f54,go_sem,↓reduceIte]
  refine hK _ ?_
  refine⟨rfl,?_⟩
  simp only[dBa]
  refine aA rfl (aW [0,1,4,5,6] rfl rfl rfl fun K hK=>?_)
  simp(disch:=omega) only[Try.f54,go_sem,↓reduceIte]
  refine hK _ ?_
  refine aB ?_
  rcases hcs with e2|⟨v1,v2,v3,v4,v5,v6,v7,v8,v9,p,e2⟩
  ·refine aA rfl (dCn (Γ:=aL) 2 (eUs) dWt (aD _ _) rfl rfl rfl (fun Z hZ=>?_))
   simp(disch:=omega) only[Try.f54,go_sem,↓reduceIte,bG,eq_self,true_and,bP,List.map_cons,List.map_nil,List.append_nil,e2,U0,U1]
   refine hZ _ ?_;clear hZ Z
   refine hX (gI:=fD 2) (p:=_) (by simp(disch:=omega) only[go_sem,aV,kE,bY,↓reduceIte];rfl) ?_
   rw[e2,eOd]
   simp(disch:=omega) only[bV,bK,bQ,Try.f54,go_sem,aV,bY,↓reduceIte]
  refine aA rfl (aC (Γ:=bC [(55,.heap (rdH eLz))]) [0,4,5,6] (aH fFk aO) rfl rfl rfl (fun K hK=>?_))
  simp(disch:=omega) only[Try.f54,go_sem,↓reduceIte,e2]
  refine hK _ ?_
  refine aB ?_
  by_cases hp:(p:Int)=(l.length:Int)
  ·have hd:decide ((p:Int)=(l.length:Int))=true:=J5 hp
   refine aA rfl (aC (Γ:=bC [(60,.pure true eM)]) [4,5] (aH rP aO) rfl rfl rfl (fun K hK=>?_))
   simp(disch:=omega) only[Try.f54,go_sem,↓reduceIte,hd]
   refine hK _ ?_
   refine aB (aA rfl (aW [4,5] rfl rfl rfl fun K hK=>?_))
   simp(disch:=omega) only[Try.f54,go_sem,↓reduceIte]
   refine hK _ ?_
   refine aB (aS rfl (rO (gP:=fAm) (ch:=chM) (p:=_) (eKm _ _ _ _) ?_))
   rw[e2,fO _ _ _ hp]
   simp(disch:=omega) only[bV,bK,bQ,Try.f54,go_sem,aV,bY,↓reduceIte]
  have hd:decide ((p:Int)=(l.length:Int))=false:=J6 hp
  refine aA rfl (dCn (Γ:=bC [(60,.pure true eM)]) 7 (fC) rD (aH rP aO) rfl rfl rfl (fun Z hZ=>?_))
  simp(disch:=omega) only[Try.f54,go_sem,↓reduceIte,bG,eq_self,true_and,bP,List.map_cons,List.map_nil,List.append_nil,hd,U0,U1]
  refine hZ _ ?_;clear hZ Z
  refine hX (gI:=fD 2) (p:=_) (by simp(disch:=omega) only[go_sem,aV,bY,↓reduceIte];rfl) ?_
  rw[e2,iD _ _ _ hp]
  simp(disch:=omega) only[bV,bK,bQ,Try.f54,go_sem,aV,bY,↓reduceIte]
 cases hg
theorem ok54:bX Try.prog GLh 54 (.pure false eMz):=⟨⟨_,Try.func54,rfl,rfl⟩,eVa⟩
end Go.AX

namespace Go.AX
open Go Go.Proofs
structure SDC where
 k:Nat
 d:Array T16
 c:Nat
theorem cMm (x y:T16):decide (x<y)=ltN x y:=by
 unfold ltN;rw[decide_eq_decide,BitVec.lt_def]
def bKh:List AV→Option AV
 |[.w16 _]=>some (.b false)
 |_=>none
theorem bWy (x:T16):bKh [.w16 x]=some (.b false):=(rfl)
def dY:List AV→Option AV
 |[.w16 x,.w16 y]=>some (.b (ltN x y))
 |_=>none
theorem bLn (x y:T16):dY [.w16 x,.w16 y]=some (.b (ltN x y)):=(rfl)
attribute [go_sem] bWy bLn
set_option maxHeartbeats 1000000 in
theorem cLo:cL Try.prog GLh 109 bKh:=by
 refine cC Try.func109 (aT rfl) ?_
 intro args r hg
 unfold bKh at hg
 split at hg
 ·rename_i x
  obtain rfl:=J0 hg
  refine⟨J1 rfl,fun nx=>?_⟩
  refine aA rfl (aW [0] rfl rfl rfl fun K hK=>?_)
  simp(disch:=omega) only[Try.f109,go_sem,↓reduceIte]
  refine hK _ ?_
  refine aB (aA rfl (aW [2] rfl rfl rfl fun K hK=>?_))
  simp(disch:=omega) only[Try.f109,go_sem,↓reduceIte,decide_true,Bool.not_true]
  refine hK _ ?_
  refine aB (aS rfl ?_)
  simp(disch:=omega) only[cN,bV,bK,bQ,Try.f109,go_sem,↓reduceIte]
 cases hg
theorem fFr:bX Try.prog GLh 109 (.pure true bKh):=⟨⟨_,Try.func109,rfl,rfl⟩,cLo⟩
set_option maxHeartbeats 1000000 in
theorem bXs:cL Try.prog GLh 99 dY:=by
 refine cC Try.func99 (aT rfl) ?_
 intro args r hg
 unfold dY at hg
 split at hg
 ·rename_i x y
  obtain rfl:=J0 hg
  refine⟨J1 rfl,fun nx=>?_⟩
  refine aA rfl (aW [0,1] rfl rfl rfl fun K hK=>?_)
  simp(disch:=omega) only[Try.f99,go_sem,↓reduceIte]
  refine hK _ ?_
  refine aB (aA rfl (aC (Γ:=bC [(109,.pure true bKh)]) [4] (aH fFr aO) rfl rfl rfl (fun K hK=>?_)))
  simp(disch:=omega) only[Try.f99,go_sem,↓reduceIte,cMm]
  refine hK _ ?_
  refine aB (aS rfl ?_)
  simp(disch:=omega) only[cN,bV,bK,bQ,Try.f99,go_sem,↓reduceIte]
 cases hg
theorem rC:bX Try.prog GLh 99 (.pure true dY):=⟨⟨_,Try.func99,rfl,rfl⟩,bXs⟩
def bMq:List AV→List AV→Option (AV×List AV)
 |[.os _ 0 n 1 _,.i a,.i b],xs=>aK (unA xs) fun l=>aN (l.length=n∧0≤a∧a≤b∧b≤n∧n≤1000000) (some (.tup [],cA (Sort.insertionSort ltN l.toArray a.toNat b.toNat)))
 |_,_=>none
theorem bYt (id n:Nat) (gg:Bool) (a b:Int) (xs:List AV):bMq [.os id 0 n 1 gg,.i a,.i b] xs=aK (unA xs) fun l=>aN (l.length=n∧0≤a∧a≤b∧b≤n∧n≤1000000) (some (.tup [],cA (Sort.insertionSort ltN l.toArray a.toNat b.toNat))):=(rfl)
attribute [go_sem] bYt
theorem bMp (a j:Nat) (d:Array T16):Sort.insInner ltN a (j+1) d=if j+1>a&&ltN d[j+1]! d[j]! then Sort.insInner ltN a j (Sort.swp d (j+1) j)else d:=by rw[Sort.insInner]
set_option maxHeartbeats 1000000 in
theorem cNh:cQ Try.prog GLh 93 (dP bMq):=by
 refine dN Try.func93 (aT rfl) ?_
 intro id off n e gg rest nx xs r ys hg
 unfold bMq at hg
 split at hg
 ·rename_i id2 n2 gg2 a0 b0 heq
  simp only[List.cons.injEq,AV.os.injEq]at heq
  obtain⟨⟨rfl,rfl,rfl,rfl,rfl⟩,rfl⟩:=heq
  replace hg:=aJ hg;obtain⟨l,hl,hg⟩:=hg
  replace hg:=aP hg;obtain⟨⟨hn,ha,hab,hbn,hbig⟩,hg⟩:=hg
  simp only[Option.some.injEq,Prod.mk.injEq]at hg;obtain⟨rfl,rfl⟩:=hg
  have:=dO hl;subst this
  obtain⟨a,rfl⟩:=Int.eq_ofNat_of_zero_le ha
  obtain⟨b,rfl⟩:=Int.eq_ofNat_of_zero_le (show 0≤b0 by omega)
  simp only[U2]at*
  obtain⟨d,hd⟩: ∃d,l.toArray=d:=⟨_,rfl⟩
  have hds:d.size=n:=by rw[←hd];simpa using hn
  rw[hd]
  refine⟨J1 rfl,fun hid=>?_⟩
  obtain⟨R,hR⟩: ∃R,Sort.insertionSort ltN d a b=R:=⟨_,rfl⟩
  have hR0:Sort.insOuter ltN a b (a+1) d=R:=hR
  rw[hR]
  have hab2:a≤b:=by omega
  have hbn2:b≤n:=by omega
  clear hR hl hn ha hab hbn
  refine aA rfl (aW [0,1,2,6] rfl rfl rfl fun K hK=>?_)
  simp(disch:=omega) only[Try.f93,go_sem,↓reduceIte]
  refine hK _ ?_
  refine aB (aR 0 rfl rfl ?_)
  refine bR (fun p:SDC=> {fr:=[(0,.os id 0 n 1 gg),(1,.i a),(2,.i b),(6,.i p.k)],hp:=upd (fun _=>none) id (.cells (cA p.d) true),nx:=0,cx:=p.c}) (fun p=>Sort.insOuter ltN a b p.k p.d=R∧p.d.size=n∧a<p.k∧id<p.c) (fun p=>b-p.k) rfl ⟨⟨a+1,d,_⟩,⟨hR0,hds,Nat.lt_succ_self _,by simp only;omega⟩,bD (by simp only[Int.natCast_add,Int.natCast_one]) rfl (U3 _)⟩ ?_
  rintro⟨k,d1,c⟩ ⟨hr1,hs1,hk,hc⟩ n0
  simp only at hr1 hs1 hk hc⊢
  refine aA rfl (aA rfl (aW [12,0,1,2,6] rfl rfl rfl fun K hK=>?_))
  simp(disch:=omega) only[Try.f93,go_sem,↓reduceIte]
  refine hK _ ?_
  refine aB (bA (.tmp 12) rfl rfl rfl (fun h=>?_) (fun h=>?_))
  ·refine aI rfl ?_
   have hkb:k<b:=by omega
   rw[Sort.insOuter,J4 hkb]at hr1
   obtain⟨R2,hR2⟩: ∃R2,Sort.insInner ltN a k d1=R2:=⟨_,rfl⟩
   rw[hR2]at hr1
   refine aQ rfl (aB (aA rfl (aR 1 rfl rfl (aA rfl (aW [0,1,2,6,7] rfl rfl rfl fun K hK=>?_)))))
   simp(disch:=omega) only[Try.f93,go_sem,↓reduceIte]
   refine hK _ ?_
   refine aB (aR 2 rfl rfl ?_)
   refine bR (fun q:SDC=> {fr:=[(0,.os id 0 n 1 gg),(1,.i a),(2,.i b),(6,.i k),(7,.i q.k)],hp:=upd (fun _=>none) id (.cells (cA q.d) true),nx:=0,cx:=q.c}) (fun q=>Sort.insInner ltN a q.k q.d=R2∧q.d.size=n∧q.k≤k∧id<q.c) (fun q=>q.k) rfl ⟨⟨k,d1,_⟩,⟨hR2,hs1,U3 _,by simp only;omega⟩,bD rfl rfl (U3 _)⟩ ?_
   rintro⟨j,d2,c2⟩ ⟨hr2,hs2,hj,hc2⟩ n0
   simp only at hr2 hs2 hj hc2⊢
   by_cases hja:a<j
   ·obtain⟨i,rfl⟩: ∃i,j=i+1:=⟨j-1,by omega⟩
    have hd1:decide ((a:Int)<((i+1:Nat):Int))=true:=J5 (by omega)
    have e1:((i+1:Nat):Int)-1=(i:Int):=by omega
    have hgt:(decide (i+1>a))=true:=J5 (by omega)
    rw[bMp,hgt,Bool.true_and]at hr2
    obtain⟨v,hv⟩: ∃v,ltN d2[i+1]! d2[i]! =v:=⟨_,rfl⟩
    rw[hv]at hr2
    refine aA rfl (aA rfl (bB (Γ:=bC [(99,.pure true dY)]) (fun k=>if k=13 then 0 else 2) [30,0,1,2,6,7] bZ (aH rC aO) rfl rfl rfl (by kernel_rfl) (fun K hK=>?_)))
    simp(disch:=omega) only[Try.f93,go_sem,↓reduceIte,hd1,e1,hv,U2]
    refine hK _ ?_
    refine aB ?_
    cases v
    ·simp only[Bool.false_eq_true,if_false]at hr2
     refine eC (.tmp 30) rfl rfl rfl (fun h=>?_) (fun h=>?_)
     ·refine aI rfl ?_
      cases h
     refine aI rfl (bF 2 rfl rfl (aY (aZ (bE (bU (aB ?_))))))
     subst hr2
     refine aW [0,1,2,6] rfl rfl rfl fun K hK=>?_
     simp(disch:=omega) only[Try.f93,go_sem,↓reduceIte]
     refine hK _ ?_
     refine bT ?_
     refine⟨⟨k+1,d2,_⟩,⟨hr1,hs2,by simp only;omega,by simp only;omega⟩,by simp only;omega,bD (by simp only[Int.natCast_add,Int.natCast_one]) rfl (U3 _)⟩
    simp only[if_true]at hr2
    have hsw:(d2.setIfInBounds (i+1) d2[i]!).setIfInBounds i d2[i+1]! =Sort.swp d2 (i+1) i:=rfl
    refine eC (.tmp 30) rfl rfl rfl (fun h=>?_) (fun h=>?_)
    ·refine aQ rfl (aB (aA rfl (aR 3 rfl rfl (bB (Γ:=aL) (fun _=>2) [0,1,2,6,7] bZ (aD _ _) rfl rfl rfl (by kernel_rfl) (fun K hK=>?_)))))
     simp(disch:=omega) only[Try.f93,go_sem,↓reduceIte,e1,hsw,U2]
     refine hK _ ?_
     refine bU (aB (aW [0,1,2,6,7] rfl rfl rfl fun K hK=>?_))
     simp(disch:=omega) only[Try.f93,go_sem,↓reduceIte,e1]
     refine hK _ ?_
     refine bT ?_
     refine⟨⟨i,Sort.swp d2 (i+1) i,_⟩,⟨hr2,by simp only[cW];exact hs2,by simp only;omega,by simp only;omega⟩,by simp only;omega,⟨fun _=> .inr rfl,bS (by simp(disch:=omega) only[aV,↓reduceIte,eq_self]) cB,U3 _⟩⟩
    cases h
   have hd1:decide ((a:Int)<(j:Int))=false:=J6 (by omega)
   have hr3:d2=R2:=by
    rw[←hr2]
    cases j with
    |zero=>rfl
    |succ i=>
     have hgt:(decide (i+1>a))=false:=J6 (by omega)
     rw[bMp,hgt];rfl
   subst hr3
   refine aA rfl (aA rfl (bB (Γ:=bC [(99,.pure true dY)]) (fun k=>if k=13 then 0 else 2) [30,0,1,2,6,7] bZ (aH rC aO) rfl rfl rfl (by kernel_rfl) (fun K hK=>?_)))
   simp(disch:=omega) only[Try.f93,go_sem,↓reduceIte,hd1]
   refine hK _ ?_
   refine aB (eC (.tmp 30) rfl rfl rfl (fun h=>?_) (fun h=>?_))
   ·refine aI rfl ?_
    cases h
   refine aI rfl (bF 2 rfl rfl (aY (aZ (bE (bU (aB (aW [0,1,2,6] rfl rfl rfl fun K hK=>?_)))))))
   simp(disch:=omega) only[Try.f93,go_sem,↓reduceIte]
   refine hK _ ?_
   refine bT ?_
   refine⟨⟨k+1,d2,_⟩,⟨hr1,hs2,by simp only;omega,by simp only;omega⟩,by simp only;omega,bD (by simp only[Int.natCast_add,Int.natCast_one]) rfl (U3 _)⟩
  refine aI rfl (bF 0 rfl rfl (aY (aZ (bE ?_))))
  have hkb: ¬k<b:=by omega
  rw[Sort.insOuter,J3 hkb]at hr1
  subst hr1
  exact⟨rfl,by simp only[aV,if_true],rfl,dZ _⟩
 cases hg
theorem ok93:bX Try.prog GLh 93 (.heap (dP bMq)):=⟨⟨_,Try.func93,rfl,rfl⟩,cNh⟩
end Go.AX

namespace Go.AX
open Go Go.Proofs
theorem aMf (hi first root:Nat) (d:Array T16) (h:hi≤2*root+1):Sort.siftDown ltN hi first root d=d:=by rw[Sort.siftDown,dif_pos h]
theorem bGr (hi first root:Nat) (d:Array T16) (h:2*root+2<hi) (hl:ltN d[first+(2*root+1)]! d[first+(2*root+2)]! =true):Sort.siftDown ltN hi first root d=if !ltN d[first+root]! d[first+(2*root+2)]! then d else Sort.siftDown ltN hi first (2*root+2) (Sort.swp d (first+root) (first+(2*root+2))):=by
 rw[Sort.siftDown,dif_neg (by omega),J4 (by rw[show first+(2*root+1)+1=first+(2*root+2)by omega,hl,Bool.and_true];exact J5 (by omega)),dif_pos h]
theorem aMe (hi first root:Nat) (d:Array T16) (h:2*root+1<hi) (hl:(decide (2*root+2<hi)&&ltN d[first+(2*root+1)]! d[first+(2*root+2)]!)=false):Sort.siftDown ltN hi first root d=if !ltN d[first+root]! d[first+(2*root+1)]! then d else Sort.siftDown ltN hi first (2*root+1) (Sort.swp d (first+root) (first+(2*root+1))):=by
 rw[Sort.siftDown,dif_neg (by omega),J3 (by rw[show first+(2*root+1)+1=first+(2*root+2)by omega,show 2*root+1+1=2*root+2 by omega,hl];simp)]
def aYx:List AV→List AV→Option (AV×List AV)
 |[.os _ 0 n 1 _,.i lo,.i hi,.i first],xs=>aK (unA xs) fun l=>aN (l.length=n∧0≤lo∧lo≤n∧0≤hi∧0≤first∧first+hi≤n∧n≤1000000) (some (.tup [],cA (Sort.siftDown ltN hi.toNat first.toNat lo.toNat l.toArray)))
 |_,_=>none
theorem bUa (id n:Nat) (gg:Bool) (lo hi first:Int) (xs:List AV):aYx [.os id 0 n 1 gg,.i lo,.i hi,.i first] xs=aK (unA xs) fun l=>aN (l.length=n∧0≤lo∧lo≤n∧0≤hi∧0≤first∧first+hi≤n∧n≤1000000) (some (.tup [],cA (Sort.siftDown ltN hi.toNat first.toNat lo.toNat l.toArray))):=(rfl)
attribute [go_sem] bUa
set_option maxHeartbeats 2000000 in
theorem cHq:cQ Try.prog GLh 104 (dP aYx):=by
 refine dN Try.func104 (aT rfl) ?_
 intro id off n e gg rest nx xs r ys hg
 unfold aYx at hg
 split at hg
 ·rename_i id2 n2 gg2 lo0 hi0 first0 heq
  simp only[List.cons.injEq,AV.os.injEq]at heq
  obtain⟨⟨rfl,rfl,rfl,rfl,rfl⟩,rfl⟩:=heq
  replace hg:=aJ hg;obtain⟨l,hl,hg⟩:=hg
  replace hg:=aP hg;obtain⟨⟨hn,hlo,hlon,hhi,hfi,hfn,hbig⟩,hg⟩:=hg
  simp only[Option.some.injEq,Prod.mk.injEq]at hg;obtain⟨rfl,rfl⟩:=hg
  have:=dO hl;subst this
  obtain⟨lo,rfl⟩:=Int.eq_ofNat_of_zero_le hlo
  obtain⟨hi,rfl⟩:=Int.eq_ofNat_of_zero_le hhi
  obtain⟨first,rfl⟩:=Int.eq_ofNat_of_zero_le hfi
  simp only[U2]at*
  obtain⟨d,hd⟩: ∃d,l.toArray=d:=⟨_,rfl⟩
  have hds:d.size=n:=by rw[←hd];simpa using hn
  have hlon2:lo≤n:=by omega
  have hfn2:first+hi≤n:=by omega
  rw[hd]
  refine⟨J1 rfl,fun hid=>?_⟩
  obtain⟨R,hR⟩: ∃R,Sort.siftDown ltN hi first lo d=R:=⟨_,rfl⟩
  rw[hR]
  clear hl hn hlo hlon hhi hfi hfn
  refine aA rfl (aW [0,2,3,8] rfl rfl rfl fun K hK=>?_)
  simp(disch:=omega) only[Try.f104,go_sem,↓reduceIte]
  refine hK _ ?_
  refine aB (aR 0 rfl rfl ?_)
  refine bR (fun p:SDC=> {fr:=[(0,.os id 0 n 1 gg),(2,.i hi),(3,.i first),(8,.i p.k)],hp:=upd (fun _=>none) id (.cells (cA p.d) true),nx:=0,cx:=p.c}) (fun p=>Sort.siftDown ltN hi first p.k p.d=R∧p.d.size=n∧p.k≤n∧id<p.c) (fun p=>2*n-p.k) rfl ⟨⟨lo,d,_⟩,⟨hR,hds,hlon2,by simp only;omega⟩,bD rfl rfl (U3 _)⟩ ?_
  rintro⟨k,d1,c⟩ ⟨hr1,hs1,hk,hc⟩ n0
  simp only at hr1 hs1 hk hc⊢
  refine aR 1 rfl rfl (aA rfl (aW [0,2,3,8,9] rfl rfl rfl fun K hK=>?_))
  simp(disch:=omega) only[Try.f104,go_sem,↓reduceIte]
  refine hK _ ?_
  refine aB (aA rfl (aA rfl (aW [16,0,2,3,8,9] rfl rfl rfl fun K hK=>?_)))
  simp(disch:=omega) only[Try.f104,go_sem,↓reduceIte]
  refine hK _ ?_
  refine aB (bA (.tmp 16) rfl rfl rfl (fun h=>?_) (fun h=>?_))
  ·refine aI rfl ?_
   have hke:hi≤2*k+1:=by omega
   rw[aMf _ _ _ _ hke]at hr1
   subst hr1
   refine bF 0 rfl rfl (aY (mW (aZ (bE ?_)) rfl))
   exact⟨rfl,by simp only[aV,if_true],rfl,dZ _⟩
  refine aI rfl (aQ rfl (aB (aA rfl (aA rfl ?_))))
  have hk1:2*k+1<hi:=by omega
  clear h
  have e9:(first:Int)+(2*(k:Int)+1)=((first+(2*k+1):Nat):Int):=by omega
  have e9b:((first+(2*k+1):Nat):Int)+1=((first+(2*k+2):Nat):Int):=by omega
  by_cases hk2:2*k+2<hi
  ·have hd1:decide (2*(k:Int)+1+1<(hi:Int))=true:=J5 (by omega)
   have hb1:first+(2*k+1)<n:=by omega
   have hb2:first+(2*k+2)<n:=by omega
   obtain⟨u,hu⟩: ∃u,ltN d1[first+(2*k+1)]! d1[first+(2*k+2)]! =u:=⟨_,rfl⟩
   refine bB (Γ:=bC [(99,.pure true dY)]) (fun k=>if k=18 then 0 else 2) [36,0,2,3,8,9] bZ (aH rC aO) rfl rfl rfl (by kernel_rfl) (fun K hK=>?_)
   simp(disch:=omega) only[Try.f104,go_sem,↓reduceIte,hd1,e9,e9b,hu,U2]
   refine hK _ ?_
   refine aB ?_
   cases u
   ·rw[aMe _ _ _ _ hk1 (by rw[hu,Bool.and_false])]at hr1
    refine eC (.tmp 36) rfl rfl rfl (fun h=>?_) (fun h=>?_)
    ·refine aI rfl ?_
     cases h
    refine aI rfl (aQ rfl (aB (aA rfl (aA rfl ?_))))
    obtain⟨ch,hch⟩: ∃ch,2*k+1=ch:=⟨_,rfl⟩
    have ech:2*(k:Int)+1=(ch:Int):=by omega
    rw[hch]at hr1
    rw[ech]
    clear e9 e9b hu
    have hchn:first+ch<n:=by omega
    have hkn:first+k<n:=by omega
    obtain⟨v,hv⟩: ∃v,ltN d1[first+k]! d1[first+ch]! =v:=⟨_,rfl⟩
    rw[hv]at hr1
    have e2:((first:Int)+(k:Int)).toNat=first+k:=by omega
    have e3:((first:Int)+(ch:Int)).toNat=first+ch:=by omega
    refine bB (Γ:=bC [(99,.pure true dY)]) (fun k=>if k=12 then 0 else 2) [52,0,2,3,8,9] bZ (aH rC aO) rfl rfl rfl (by kernel_rfl) (fun K hK=>?_)
    simp(disch:=omega) only[Try.f104,go_sem,↓reduceIte,e2,e3,hv]
    refine hK _ ?_
    refine aB ?_
    cases v
    ·simp only[Bool.not_false,if_true]at hr1
     subst hr1
     refine eC (.tmp 52) rfl rfl rfl (fun h=>?_) (fun h=>?_)
     ·exact aI rfl (aS rfl (bI (bN (dF (bN (⟨rfl,by simp only[aV,if_true],rfl,dZ _⟩))))))
     refine aI rfl ?_
     cases h
    simp only[Bool.not_true,Bool.false_eq_true,if_false]at hr1
    refine eC (.tmp 52) rfl rfl rfl (fun h=>?_) (fun h=>?_)
    ·cases h
    refine aQ rfl (aB (aA rfl ?_))
    have hsw:(d1.setIfInBounds (first+k) d1[first+ch]!).setIfInBounds (first+ch) d1[first+k]! =Sort.swp d1 (first+k) (first+ch):=rfl
    refine bB (Γ:=aL) (fun _=>2) [0,2,3,9] bZ (aD _ _) rfl rfl rfl (by kernel_rfl) (fun K hK=>?_)
    simp(disch:=omega) only[Try.f104,go_sem,↓reduceIte,e2,e3,hsw]
    refine hK _ ?_
    refine aB (aW [0,2,3,8] rfl rfl rfl fun K hK=>?_)
    simp(disch:=omega) only[Try.f104,go_sem,↓reduceIte]
    refine hK _ ?_
    refine bU (bT ?_)
    refine⟨⟨ch,Sort.swp d1 (first+k) (first+ch),_⟩,⟨hr1,by simp only[cW];exact hs1,by simp only;omega,by simp only;omega⟩,by simp only;omega,⟨fun _=> .inr rfl,bS (by simp(disch:=omega) only[aV,↓reduceIte,eq_self]) cB,U3 _⟩⟩
   rw[bGr _ _ _ _ hk2 hu]at hr1
   refine eC (.tmp 36) rfl rfl rfl (fun h=>?_) (fun h=>?_)
   ·refine aW [0,2,3,8,9] rfl rfl rfl fun K hK=>?_
    simp(disch:=omega) only[Try.f104,go_sem,↓reduceIte]
    refine hK _ ?_
    refine aB ?_
    obtain⟨ch,hch⟩: ∃ch,2*k+2=ch:=⟨_,rfl⟩
    have ech:2*(k:Int)+1+1=(ch:Int):=by omega
    rw[hch]at hr1
    rw[ech]
    clear e9 e9b hu
    have hchn:first+ch<n:=by omega
    have hkn:first+k<n:=by omega
    obtain⟨v,hv⟩: ∃v,ltN d1[first+k]! d1[first+ch]! =v:=⟨_,rfl⟩
    rw[hv]at hr1
    have e2:((first:Int)+(k:Int)).toNat=first+k:=by omega
    have e3:((first:Int)+(ch:Int)).toNat=first+ch:=by omega
    refine aA rfl (aA rfl (bB (Γ:=bC [(99,.pure true dY)]) (fun k=>if k=12 then 0 else 2) [52,0,2,3,8,9] bZ (aH rC aO) rfl rfl rfl (by kernel_rfl) (fun K hK=>?_)))
    simp(disch:=omega) only[Try.f104,go_sem,↓reduceIte,e2,e3,hv]
    refine hK _ ?_
    refine aB ?_
    cases v
    ·simp only[Bool.not_false,if_true]at hr1
     subst hr1
     refine eC (.tmp 52) rfl rfl rfl (fun h=>?_) (fun h=>?_)
     ·exact aI rfl (aS rfl (bI (bN (dF (bN (⟨rfl,by simp only[aV,if_true],rfl,dZ _⟩))))))
     refine aI rfl ?_
     cases h
    simp only[Bool.not_true,Bool.false_eq_true,if_false]at hr1
    refine eC (.tmp 52) rfl rfl rfl (fun h=>?_) (fun h=>?_)
    ·cases h
    refine aQ rfl (aB (aA rfl ?_))
    have hsw:(d1.setIfInBounds (first+k) d1[first+ch]!).setIfInBounds (first+ch) d1[first+k]! =Sort.swp d1 (first+k) (first+ch):=rfl
    refine bB (Γ:=aL) (fun _=>2) [0,2,3,9] bZ (aD _ _) rfl rfl rfl (by kernel_rfl) (fun K hK=>?_)
    simp(disch:=omega) only[Try.f104,go_sem,↓reduceIte,e2,e3,hsw]
    refine hK _ ?_
    refine aB (aW [0,2,3,8] rfl rfl rfl fun K hK=>?_)
    simp(disch:=omega) only[Try.f104,go_sem,↓reduceIte]
    refine hK _ ?_
    refine bU (bT ?_)
    refine⟨⟨ch,Sort.swp d1 (first+k) (first+ch),_⟩,⟨hr1,by simp only[cW];exact hs1,by simp only;omega,by simp only;omega⟩,by simp only;omega,⟨fun _=> .inr rfl,bS (by simp(disch:=omega) only[aV,↓reduceIte,eq_self]) cB,U3 _⟩⟩
   cases h
  have hd1:decide (2*(k:Int)+1+1<(hi:Int))=false:=J6 (by omega)
  refine bB (Γ:=bC [(99,.pure true dY)]) (fun k=>if k=18 then 0 else 2) [36,0,2,3,8,9] bZ (aH rC aO) rfl rfl rfl (by kernel_rfl) (fun K hK=>?_)
  simp(disch:=omega) only[Try.f104,go_sem,↓reduceIte,hd1]
  refine hK _ ?_
  refine aB ?_
  rw[aMe _ _ _ _ hk1 (by rw[J6 (by omega: ¬2*k+2<hi),Bool.false_and])]at hr1
  refine eC (.tmp 36) rfl rfl rfl (fun h=>?_) (fun h=>?_)
  ·refine aI rfl ?_
   cases h
  refine aI rfl (aQ rfl (aB (aA rfl (aA rfl ?_))))
  obtain⟨ch,hch⟩: ∃ch,2*k+1=ch:=⟨_,rfl⟩
  have ech:2*(k:Int)+1=(ch:Int):=by omega
  rw[hch]at hr1
  rw[ech]
  clear e9 e9b
  have hchn:first+ch<n:=by omega
  have hkn:first+k<n:=by omega
  obtain⟨v,hv⟩: ∃v,ltN d1[first+k]! d1[first+ch]! =v:=⟨_,rfl⟩
  rw[hv]at hr1
  have e2:((first:Int)+(k:Int)).toNat=first+k:=by omega
  have e3:((first:Int)+(ch:Int)).toNat=first+ch:=by omega
  refine bB (Γ:=bC [(99,.pure true dY)]) (fun k=>if k=12 then 0 else 2) [52,0,2,3,8,9] bZ (aH rC aO) rfl rfl rfl (by kernel_rfl) (fun K hK=>?_)
  simp(disch:=omega) only[Try.f104,go_sem,↓reduceIte,e2,e3,hv]
  refine hK _ ?_
  refine aB ?_
  cases v
  ·simp only[Bool.not_false,if_true]at hr1
   subst hr1
   refine eC (.tmp 52) rfl rfl rfl (fun h=>?_) (fun h=>?_)
   ·exact aI rfl (aS rfl (bI (bN (dF (bN (⟨rfl,by simp only[aV,if_true],rfl,dZ _⟩))))))
   refine aI rfl ?_
   cases h
  simp only[Bool.not_true,Bool.false_eq_true,if_false]at hr1
  refine eC (.tmp 52) rfl rfl rfl (fun h=>?_) (fun h=>?_)
  ·cases h
  refine aQ rfl (aB (aA rfl ?_))
  have hsw:(d1.setIfInBounds (first+k) d1[first+ch]!).setIfInBounds (first+ch) d1[first+k]! =Sort.swp d1 (first+k) (first+ch):=rfl
  refine bB (Γ:=aL) (fun _=>2) [0,2,3,9] bZ (aD _ _) rfl rfl rfl (by kernel_rfl) (fun K hK=>?_)
  simp(disch:=omega) only[Try.f104,go_sem,↓reduceIte,e2,e3,hsw]
  refine hK _ ?_
  refine aB (aW [0,2,3,8] rfl rfl rfl fun K hK=>?_)
  simp(disch:=omega) only[Try.f104,go_sem,↓reduceIte]
  refine hK _ ?_
  refine bU (bT ?_)
  refine⟨⟨ch,Sort.swp d1 (first+k) (first+ch),_⟩,⟨hr1,by simp only[cW];exact hs1,by simp only;omega,by simp only;omega⟩,by simp only;omega,⟨fun _=> .inr rfl,bS (by simp(disch:=omega) only[aV,↓reduceIte,eq_self]) cB,U3 _⟩⟩
 cases hg
theorem fBf:bX Try.prog GLh 104 (.heap (dP aYx)):=⟨⟨_,Try.func104,rfl,rfl⟩,cHq⟩
theorem aYw (hi first:Nat): ∀(m root:Nat) (d:Array T16),hi-root≤m→(Sort.siftDown ltN hi first root d).size=d.size:=by
 intro m
 induction m with
 |zero=>intro root d h;rw[aMf _ _ _ _ (by omega)]
 |succ m ih=>
  intro root d h
  rw[Sort.siftDown]
  split
  ·rfl
  split
  ·split
   ·rfl
   split
   ·rw[ih _ _ (by omega),cW]
   rfl
  split
  ·rfl
  rw[ih _ _ (by omega),cW]
theorem aBd (hi first root:Nat) (d:Array T16):(Sort.siftDown ltN hi first root d).size=d.size:=aYw hi first _ root d (U3 _)
def bMx:List AV→List AV→Option (AV×List AV)
 |[.os _ 0 n 1 _,.i a,.i b],xs=>aK (unA xs) fun l=>aN (l.length=n∧0≤a∧a<b∧b≤n∧n≤1000000) (some (.tup [],cA (Sort.heapSort ltN l.toArray a.toNat b.toNat)))
 |_,_=>none
theorem bZu (id n:Nat) (gg:Bool) (a b:Int) (xs:List AV):bMx [.os id 0 n 1 gg,.i a,.i b] xs=aK (unA xs) fun l=>aN (l.length=n∧0≤a∧a<b∧b≤n∧n≤1000000) (some (.tup [],cA (Sort.heapSort ltN l.toArray a.toNat b.toNat))):=(rfl)
attribute [go_sem] bZu aBd Array.toArray_toList Array.length_toList
set_option maxHeartbeats 2000000 in
theorem cOh:cQ Try.prog GLh 94 (dP bMx):=by
 refine dN Try.func94 (aT rfl) ?_
 intro id off n e gg rest nx xs r ys hg
 unfold bMx at hg
 split at hg
 ·rename_i id2 n2 gg2 a0 b0 heq
  simp only[List.cons.injEq,AV.os.injEq]at heq
  obtain⟨⟨rfl,rfl,rfl,rfl,rfl⟩,rfl⟩:=heq
  replace hg:=aJ hg;obtain⟨l,hl,hg⟩:=hg
  replace hg:=aP hg;obtain⟨⟨hn,ha,hab,hbn,hbig⟩,hg⟩:=hg
  simp only[Option.some.injEq,Prod.mk.injEq]at hg;obtain⟨rfl,rfl⟩:=hg
  have:=dO hl;subst this
  obtain⟨a,rfl⟩:=Int.eq_ofNat_of_zero_le ha
  obtain⟨b,rfl⟩:=Int.eq_ofNat_of_zero_le (show 0≤b0 by omega)
  simp only[U2]at*
  obtain⟨d,hd⟩: ∃d,l.toArray=d:=⟨_,rfl⟩
  have hds:d.size=n:=by rw[←hd];simpa using hn
  have hab2:a<b:=by omega
  have hbn2:b≤n:=by omega
  rw[hd]
  refine⟨J1 rfl,fun hid=>?_⟩
  obtain⟨R,hR⟩: ∃R,Sort.heapSort ltN d a b=R:=⟨_,rfl⟩
  obtain⟨H,hH⟩: ∃H:Nat,b-a=H:=⟨_,rfl⟩
  obtain⟨B,hB⟩: ∃B,Sort.heapBuild ltN H a ((H-1)/2+1) d=B:=⟨_,rfl⟩
  rw[hR]
  rw[Sort.heapSort,hH,hB]at hR
  have eH:(b:Int)-(a:Int)=(H:Int):=by omega
  have eq2:((H:Int)-1).tdiv 2=(((H-1)/2:Nat):Int):=by rw[Int.tdiv_eq_ediv_of_nonneg (by omega)];omega
  clear hl hn ha hab hbn
  refine aA rfl (aW [0,1,2,6] rfl rfl rfl fun K hK=>?_)
  simp(disch:=omega) only[Try.f94,go_sem,↓reduceIte]
  refine hK _ ?_
  refine aB (aA rfl (aW [0,1,2,6,7] rfl rfl rfl fun K hK=>?_))
  simp(disch:=omega) only[Try.f94,go_sem,↓reduceIte]
  refine hK _ ?_
  refine aB (aA rfl (aW [0,6,7,8] rfl rfl rfl fun K hK=>?_))
  simp(disch:=omega) only[Try.f94,go_sem,↓reduceIte,eH]
  refine hK _ ?_
  refine aB (aA rfl (aA rfl (aW [0,6,7,8,9] rfl rfl rfl fun K hK=>?_)))
  simp(disch:=omega) only[Try.f94,go_sem,↓reduceIte,eq2]
  refine hK _ ?_
  refine aB (aR 0 rfl rfl ?_)
  refine bR (fun p:SDC=> {fr:=[(0,.os id 0 n 1 gg),(6,.i a),(7,.i 0),(8,.i H),(9,.i ((p.k:Int)-1))],hp:=upd (fun _=>none) id (.cells (cA p.d) true),nx:=0,cx:=p.c}) (fun p=>Sort.heapBuild ltN H a p.k p.d=B∧p.d.size=n∧p.k≤H∧id<p.c) (fun p=>p.k) rfl ⟨⟨(H-1)/2+1,d,_⟩,⟨hB,hds,by simp only;omega,by simp only;omega⟩,bD (by simp only[Int.natCast_add,Int.natCast_one,Int.add_sub_cancel]) rfl (U3 _)⟩ ?_
  rintro⟨k,d1,c⟩ ⟨hr1,hs1,hk,hc⟩ n0
  simp only at hr1 hs1 hk hc⊢
  refine aA rfl (aA rfl (aW [19,0,6,7,8,9] rfl rfl rfl fun K hK=>?_))
  simp(disch:=omega) only[Try.f94,go_sem,↓reduceIte]
  refine hK _ ?_
  refine aB (bA (.tmp 19) rfl rfl rfl (fun h=>?_) (fun h=>?_))
  ·refine aI rfl ?_
   obtain⟨i,rfl⟩: ∃i,k=i+1:=⟨k-1,by omega⟩
   have e1:((i+1:Nat):Int)-1=(i:Int):=by omega
   rw[Sort.heapBuild]at hr1
   refine aQ rfl (aB (aA rfl (aR 1 rfl rfl (aC (Γ:=bC [(104,.heap (dP aYx))]) [0,6,7,8,9] (aH fBf aO) rfl rfl rfl (fun K hK=>?_)))))
   simp(disch:=omega) only[Try.f94,go_sem,↓reduceIte,e1,hs1,U2]
   refine hK _ ?_
   refine bU (aB (aW [0,6,7,8,9] rfl rfl rfl fun K hK=>?_))
   simp(disch:=omega) only[Try.f94,go_sem,↓reduceIte]
   refine hK _ ?_
   refine bT ?_
   refine⟨⟨i,Sort.siftDown ltN H a i d1,_⟩,⟨hr1,by simp only[aBd];exact hs1,by simp only;omega,by simp only;omega⟩,by simp only;omega,⟨fun _=> .inr rfl,bS (by simp(disch:=omega) only[aV,↓reduceIte,eq_self]) cB,U3 _⟩⟩
  refine aI rfl (bF 0 rfl rfl (aY (aZ (bE (aB (aA rfl ?_))))))
  obtain rfl:k=0:=by omega
  rw[Sort.heapBuild]at hr1
  subst hr1
  refine aW [0,6,7,10] rfl rfl rfl fun K hK=>?_
  simp(disch:=omega) only[Try.f94,go_sem,↓reduceIte]
  refine hK _ ?_
  refine aB (aR 2 rfl rfl ?_)
  refine bR (fun p:SDC=> {fr:=[(0,.os id 0 n 1 gg),(6,.i a),(7,.i 0),(10,.i ((p.k:Int)-1))],hp:=upd (fun _=>none) id (.cells (cA p.d) true),nx:=0,cx:=p.c}) (fun p=>Sort.heapPop ltN a p.k p.d=R∧p.d.size=n∧p.k≤H∧id<p.c) (fun p=>p.k) rfl ⟨⟨H,d1,_⟩,⟨hR,hs1,U3 _,by simp only;omega⟩,bD rfl rfl (U3 _)⟩ ?_
  rintro⟨k,d2,c2⟩ ⟨hr2,hs2,hk2,hc2⟩ n0
  simp only at hr2 hs2 hk2 hc2⊢
  refine aA rfl (aA rfl (aW [30,0,6,7,10] rfl rfl rfl fun K hK=>?_))
  simp(disch:=omega) only[Try.f94,go_sem,↓reduceIte]
  refine hK _ ?_
  refine aB (bA (.tmp 30) rfl rfl rfl (fun h=>?_) (fun h=>?_))
  ·refine aI rfl ?_
   obtain⟨i,rfl⟩: ∃i,k=i+1:=⟨k-1,by omega⟩
   have e1:((i+1:Nat):Int)-1=(i:Int):=by omega
   have e2:((a:Int)+(i:Int)).toNat=a+i:=by omega
   have hsw:(d2.setIfInBounds a d2[a+i]!).setIfInBounds (a+i) d2[a]! =Sort.swp d2 a (a+i):=rfl
   have hss:(Sort.swp d2 a (a+i)).size=n:=by rw[cW];exact hs2
   rw[Sort.heapPop]at hr2
   refine aQ rfl (aB (aA rfl (aR 3 rfl rfl (aA rfl (bB (Γ:=aL) (fun _=>2) [0,6,7,10] bZ (aD _ _) rfl rfl rfl (by kernel_rfl) (fun K hK=>?_))))))
   simp(disch:=omega) only[Try.f94,go_sem,↓reduceIte,e1,e2,hsw]
   refine hK _ ?_
   refine aB (aC (Γ:=bC [(104,.heap (dP aYx))]) [0,6,7,10] (aH fBf aO) rfl rfl rfl (fun K hK=>?_))
   simp(disch:=omega) only[Try.f94,go_sem,↓reduceIte,hss,U2]
   refine hK _ ?_
   refine bU (aB (aW [0,6,7,10] rfl rfl rfl fun K hK=>?_))
   simp(disch:=omega) only[Try.f94,go_sem,↓reduceIte]
   refine hK _ ?_
   refine bT ?_
   refine⟨⟨i,Sort.siftDown ltN i a 0 (Sort.swp d2 a (a+i)),_⟩,⟨hr2,by simp only[aBd];exact hss,by simp only;omega,by simp only;omega⟩,by simp only;omega,⟨fun _=> .inr rfl,bS (by simp(disch:=omega) only[aV,↓reduceIte,eq_self]) cB,U3 _⟩⟩
  refine aI rfl (bF 2 rfl rfl (aY (aZ (bE ?_))))
  obtain rfl:k=0:=by omega
  rw[Sort.heapPop]at hr2
  subst hr2
  exact⟨rfl,by simp only[aV,if_true],rfl,dZ _⟩
 cases hg
theorem ok94:bX Try.prog GLh 94 (.heap (dP bMx)):=⟨⟨_,Try.func94,rfl,rfl⟩,cOh⟩
end Go.AX

namespace Go.AX
open Go Go.Proofs
def tY:AO→Option (List AV)
 | .cells xs mt=>aN (mt=true) (some xs)
 | .mapo _ _=>none
theorem cIh (xs:List AV) (mt:Bool):tY (.cells xs mt)=aN (mt=true) (some xs):=(rfl)
theorem oM {o:AO} {xs:List AV} (h:tY o=some xs):o=.cells xs true:=by
 obtain⟨ys,mt,rfl⟩: ∃ys mt,o=.cells ys mt:=by cases o with|cells ys mt=>exact⟨ys,mt,rfl⟩|mapo _ _=>cases h
 obtain⟨hm,h⟩:=aP h
 obtain rfl:=J0 h
 rw[hm]
def aJf:List AV→Option Int
 |[.i s]=>some s
 |_=>none
theorem bVw (s:Int):aJf [.i s]=some s:=(rfl)
theorem aCb {xs:List AV} {s:Int} (h:aJf xs=some s):xs=[.i s]:=by
 unfold aJf at h
 split at h
 ·obtain rfl:=J0 h;rfl
 cases h
attribute [go_sem] cIh bVw List.head?_cons List.set_cons_zero
theorem bBc {hp:H} {q:Nat} {a:AO} (h:hp q=some a): ∀j o,upd hp q a j=some o→hp j=some o:=by
 intro j o hj
 rw[bJ]at hj
 split at hj
 ·rename_i e;rw[e,h];exact hj
 exact hj
theorem aAd {hp t:H} {q:Nat} {a:AO} (h1:t q=some a) (h2: ∀j,j≠q→t j=hp j): ∀j o,upd hp q a j=some o→t j=some o:=by
 intro j o hj
 rw[bJ]at hj
 split at hj
 ·rename_i e;rw[e,h1];exact hj
 rename_i e;rw[h2 j e];exact hj
def aRo:List AV→H→Nat→Option (AV×H×Nat)
 |[.os id 0 n 1 _,.i a,.i b,.op q 0],hp,nx=>aK (hp id) fun o=>aK (tY o) fun xs=>aK (unA xs) fun l=>aK (hp q) fun o2=>aK (tY o2) fun ys=>aK (aJf ys) fun s=>aN (id≠q∧l.length=n∧0≤a∧a<n∧0≤b∧b<n∧n≤1000000∧0≤s∧s≤1000) (some (.tup [.i (Sort.order2 ltN l.toArray a.toNat b.toNat s.toNat).1,.i (Sort.order2 ltN l.toArray a.toNat b.toNat s.toNat).2.1],upd hp q (.cells [.i (Sort.order2 ltN l.toArray a.toNat b.toNat s.toNat).2.2] true),nx+60))
 |_,_,_=>none
theorem bVr (id n q:Nat) (gg:Bool) (a b:Int) (hp:H) (nx:Nat):aRo [.os id 0 n 1 gg,.i a,.i b,.op q 0] hp nx=aK (hp id) fun o=>aK (tY o) fun xs=>aK (unA xs) fun l=>aK (hp q) fun o2=>aK (tY o2) fun ys=>aK (aJf ys) fun s=>aN (id≠q∧l.length=n∧0≤a∧a<n∧0≤b∧b<n∧n≤1000000∧0≤s∧s≤1000) (some (.tup [.i (Sort.order2 ltN l.toArray a.toNat b.toNat s.toNat).1,.i (Sort.order2 ltN l.toArray a.toNat b.toNat s.toNat).2.1],upd hp q (.cells [.i (Sort.order2 ltN l.toArray a.toNat b.toNat s.toNat).2.2] true),nx+60)):=(rfl)
attribute [go_sem] bVr
set_option maxHeartbeats 1000000 in
theorem cKc:cQ Try.prog GLh 110 aRo:=by
 refine gF Try.func110 (aT rfl) ?_
 intro args hp nx r hp' nx' hg
 unfold aRo at hg
 split at hg
 ·rename_i hp0 nx0 id n gg a0 b0 q
  replace hg:=aJ hg;obtain⟨o,ho,hg⟩:=hg
  replace hg:=aJ hg;obtain⟨xs,hxs,hg⟩:=hg
  obtain rfl:=oM hxs
  replace hg:=aJ hg;obtain⟨l,hl,hg⟩:=hg
  replace hg:=aJ hg;obtain⟨o2,ho2,hg⟩:=hg
  replace hg:=aJ hg;obtain⟨ys,hys,hg⟩:=hg
  obtain rfl:=oM hys
  replace hg:=aJ hg;obtain⟨s0,hs0,hg⟩:=hg
  obtain rfl:=aCb hs0
  replace hg:=aP hg;obtain⟨⟨hne,hn,hal,hau,hbl,hbu,hbig,hsl,hsu⟩,hg⟩:=hg
  simp only[Option.some.injEq,Prod.mk.injEq]at hg;obtain⟨rfl,rfl,rfl⟩:=hg
  have:=dO hl;subst this
  obtain⟨a,rfl⟩:=Int.eq_ofNat_of_zero_le hal
  obtain⟨b,rfl⟩:=Int.eq_ofNat_of_zero_le hbl
  obtain⟨s,rfl⟩:=Int.eq_ofNat_of_zero_le hsl
  simp only[U2]at*
  obtain⟨d,hd⟩: ∃d,l.toArray=d:=⟨_,rfl⟩
  have hds:d.size=n:=by rw[←hd];simpa using hn
  rw[hd]at ho⊢
  have hqi:q≠id:=fun e=>hne e.symm
  refine⟨J1 rfl,by omega,fun hnone=>?_⟩
  have hidn:id<nx:=by
   apply Classical.byContradiction;intro hc;rw[hnone id (by omega)]at ho;cases ho
  have hqn:q<nx:=by
   apply Classical.byContradiction;intro hc;rw[hnone q (by omega)]at ho2;cases ho2
  obtain⟨v,hv⟩: ∃v,ltN d[b]! d[a]! =v:=⟨_,rfl⟩
  simp only[Sort.order2,hv]
  refine aA rfl (aW [0,1,2,3] rfl rfl rfl fun K hK=>?_)
  simp(disch:=omega) only[Try.f110,go_sem,↓reduceIte]
  refine hK _ ?_
  refine aB (aA rfl (aA rfl (bB (Γ:=bC [(99,.pure true dY)]) (fun k=>if k=8 then 0 else 2) [18,1,2,3] bZ (aH rC aO) rfl rfl rfl (by kernel_rfl) (fun K hK=>?_))))
  simp(disch:=omega) only[Try.f110,go_sem,↓reduceIte,ho,hv,U2]
  refine hK _ ?_
  refine aB ?_
  cases v
  ·refine eC (.tmp 18) rfl rfl rfl (fun h=>?_) (fun h=>?_)
   ·refine aI rfl ?_
    cases h
   refine aI rfl (aQ rfl (aB (aA rfl (aW [8,9] rfl rfl rfl fun K hK=>?_))))
   simp(disch:=omega) only[Try.f110,go_sem,↓reduceIte]
   refine hK _ ?_
   refine aB (aS rfl ?_)
   exact⟨rfl,bBc ho2,by simp only;omega⟩
  refine eC (.tmp 18) rfl rfl rfl (fun h=>?_) (fun h=>?_)
  ·refine aA rfl (aW [1,2] rfl rfl rfl fun K hK=>?_)
   simp(disch:=omega) only[Try.f110,go_sem,↓reduceIte,ho2]
   refine hK _ ?_
   refine aB (aA rfl (aW [8,9] rfl rfl rfl fun K hK=>?_))
   simp(disch:=omega) only[Try.f110,go_sem,↓reduceIte]
   refine hK _ ?_
   refine aB (aS rfl (bI ?_))
   refine⟨rfl,aAd (by simp only[aV,if_true,Int.natCast_add,Int.natCast_one];try rfl) (fun j hj=>by simp only[aV,J3 hj]),by simp only;omega⟩
  cases h
 cases hg
theorem eVn:bX Try.prog GLh 110 (.heap aRo):=⟨⟨_,Try.func110,rfl,rfl⟩,cKc⟩
theorem oF {d:Array T16} {a b s x y t:Nat} (h:Sort.order2 ltN d a b s=(x,y,t)):((x=a∧y=b)∨(x=b∧y=a))∧t≤s+1:=by
 unfold Sort.order2 at h
 split at h<;>(simp only[Prod.mk.injEq]at h;obtain⟨rfl,rfl,rfl⟩:=h;omega)
theorem bAn {d:Array T16} {a b c s x t:Nat} (h:Sort.median ltN d a b c s=(x,t)):(x=a∨x=b∨x=c)∧t≤s+3:=by
 obtain⟨⟨x1,y1,s1⟩,h1⟩: ∃r,Sort.order2 ltN d a b s=r:=⟨_,rfl⟩
 have f1:=oF h1
 obtain⟨⟨x2,y2,s2⟩,h2⟩: ∃r,Sort.order2 ltN d y1 c s1=r:=⟨_,rfl⟩
 have f2:=oF h2
 obtain⟨⟨x3,y3,s3⟩,h3⟩: ∃r,Sort.order2 ltN d x1 x2 s2=r:=⟨_,rfl⟩
 have f3:=oF h3
 simp only[Sort.median,h1,h2,h3,Prod.mk.injEq]at h
 omega
attribute [go_sem] Array.toArray_toList Array.length_toList
def aSb:List AV→H→Nat→Option (AV×H×Nat)
 |[.os id 0 n 1 _,.i a,.i b,.i c,.op q 0],hp,nx=>aK (hp id) fun o=>aK (tY o) fun xs=>aK (unA xs) fun l=>aK (hp q) fun o2=>aK (tY o2) fun ys=>aK (aJf ys) fun s=>aN (id≠q∧l.length=n∧0≤a∧a<n∧0≤b∧b<n∧0≤c∧c<n∧n≤1000000∧0≤s∧s≤900) (some (.i (Sort.median ltN l.toArray a.toNat b.toNat c.toNat s.toNat).1,upd hp q (.cells [.i (Sort.median ltN l.toArray a.toNat b.toNat c.toNat s.toNat).2] true),nx+300))
 |_,_,_=>none
theorem bXk (id n q:Nat) (gg:Bool) (a b c:Int) (hp:H) (nx:Nat):aSb [.os id 0 n 1 gg,.i a,.i b,.i c,.op q 0] hp nx=aK (hp id) fun o=>aK (tY o) fun xs=>aK (unA xs) fun l=>aK (hp q) fun o2=>aK (tY o2) fun ys=>aK (aJf ys) fun s=>aN (id≠q∧l.length=n∧0≤a∧a<n∧0≤b∧b<n∧0≤c∧c<n∧n≤1000000∧0≤s∧s≤900) (some (.i (Sort.median ltN l.toArray a.toNat b.toNat c.toNat s.toNat).1,upd hp q (.cells [.i (Sort.median ltN l.toArray a.toNat b.toNat c.toNat s.toNat).2] true),nx+300)):=(rfl)
attribute [go_sem] bXk
set_option maxHeartbeats 1000000 in
theorem cMf:cQ Try.prog GLh 108 aSb:=by
 refine gF Try.func108 (aT rfl) ?_
 intro args hp nx r hp' nx' hg
 unfold aSb at hg
 split at hg
 ·rename_i hp0 nx0 id n gg a0 b0 c0 q
  replace hg:=aJ hg;obtain⟨o,ho,hg⟩:=hg
  replace hg:=aJ hg;obtain⟨xs,hxs,hg⟩:=hg
  obtain rfl:=oM hxs
  replace hg:=aJ hg;obtain⟨l,hl,hg⟩:=hg
  replace hg:=aJ hg;obtain⟨o2,ho2,hg⟩:=hg
  replace hg:=aJ hg;obtain⟨ys,hys,hg⟩:=hg
  obtain rfl:=oM hys
  replace hg:=aJ hg;obtain⟨s0,hs0,hg⟩:=hg
  obtain rfl:=aCb hs0
  replace hg:=aP hg;obtain⟨⟨hne,hn,hal,hau,hbl,hbu,hcl,hcu,hbig,hsl,hsu⟩,hg⟩:=hg
  simp only[Option.some.injEq,Prod.mk.injEq]at hg;obtain⟨rfl,rfl,rfl⟩:=hg
  have:=dO hl;subst this
  obtain⟨a,rfl⟩:=Int.eq_ofNat_of_zero_le hal
  obtain⟨b,rfl⟩:=Int.eq_ofNat_of_zero_le hbl
  obtain⟨c,rfl⟩:=Int.eq_ofNat_of_zero_le hcl
  obtain⟨s,rfl⟩:=Int.eq_ofNat_of_zero_le hsl
  simp only[U2]at*
  obtain⟨d,hd⟩: ∃d,l.toArray=d:=⟨_,rfl⟩
  have hds:d.size=n:=by rw[←hd];simpa using hn
  rw[hd]at ho⊢
  have hqi:q≠id:=fun e=>hne e.symm
  refine⟨J1 rfl,by omega,fun hnone=>?_⟩
  have hidn:id<nx:=by
   apply Classical.byContradiction;intro hc;rw[hnone id (by omega)]at ho;cases ho
  have hqn:q<nx:=by
   apply Classical.byContradiction;intro hc;rw[hnone q (by omega)]at ho2;cases ho2
  obtain⟨⟨x1,y1,s1⟩,h1⟩: ∃r,Sort.order2 ltN d a b s=r:=⟨_,rfl⟩
  have f1:=oF h1
  obtain⟨⟨x2,y2,s2⟩,h2⟩: ∃r,Sort.order2 ltN d y1 c s1=r:=⟨_,rfl⟩
  have f2:=oF h2
  obtain⟨⟨x3,y3,s3⟩,h3⟩: ∃r,Sort.order2 ltN d x1 x2 s2=r:=⟨_,rfl⟩
  have f3:=oF h3
  have hx1:x1<n:=by omega
  have hy1:y1<n:=by omega
  have hx2:x2<n:=by omega
  simp only[Sort.median,h1,h2,h3]
  refine aA rfl (aW [0,1,2,3,4] rfl rfl rfl fun K hK=>?_)
  simp(disch:=omega) only[Try.f108,go_sem,↓reduceIte]
  refine hK _ ?_
  refine aB (aA rfl (aC (Γ:=bC [(110,.heap aRo)]) [0,1,2,3,4] (aH eVn aO) rfl rfl rfl (fun K hK=>?_)))
  simp(disch:=omega) only[Try.f108,go_sem,↓reduceIte,ho,ho2,hds,h1,U2,Int.natCast_nonneg]
  refine hK _ ?_
  refine aB (aA rfl (aC (Γ:=bC [(110,.heap aRo)]) [0,1,2,4] (aH eVn aO) rfl rfl rfl (fun K hK=>?_)))
  simp(disch:=omega) only[Try.f108,go_sem,↓reduceIte,ho,hds,h2,hne,U2]
  refine hK _ ?_
  refine aB (aA rfl (aC (Γ:=bC [(110,.heap aRo)]) [2] (aH eVn aO) rfl rfl rfl (fun K hK=>?_)))
  simp(disch:=omega) only[Try.f108,go_sem,↓reduceIte,ho,hds,h3,hne,U2]
  refine hK _ ?_
  refine aB (aA rfl (aW [10] rfl rfl rfl fun K hK=>?_))
  simp(disch:=omega) only[Try.f108,go_sem,↓reduceIte]
  refine hK _ ?_
  refine aB (aS rfl ?_)
  refine⟨rfl,aAd (by simp only[aV,if_true]) (fun j hj=>by simp only[aV,J3 hj]),by simp only;omega⟩
 cases hg
theorem eVo:bX Try.prog GLh 108 (.heap aSb):=⟨⟨_,Try.func108,rfl,rfl⟩,cMf⟩
theorem yL {d:Array T16} {a s x t:Nat} (h:Sort.medianAdjacent ltN d a s=(x,t)):(x=a-1∨x=a∨x=a+1)∧t≤s+3:=bAn h
def aUf:List AV→H→Nat→Option (AV×H×Nat)
 |[.os id 0 n 1 _,.i a,.op q 0],hp,nx=>aK (hp id) fun o=>aK (tY o) fun xs=>aK (unA xs) fun l=>aK (hp q) fun o2=>aK (tY o2) fun ys=>aK (aJf ys) fun s=>aN (id≠q∧l.length=n∧1≤a∧a+1<n∧n≤1000000∧0≤s∧s≤800) (some (.i (Sort.medianAdjacent ltN l.toArray a.toNat s.toNat).1,upd hp q (.cells [.i (Sort.medianAdjacent ltN l.toArray a.toNat s.toNat).2] true),nx+400))
 |_,_,_=>none
theorem cEg (id n q:Nat) (gg:Bool) (a:Int) (hp:H) (nx:Nat):aUf [.os id 0 n 1 gg,.i a,.op q 0] hp nx=aK (hp id) fun o=>aK (tY o) fun xs=>aK (unA xs) fun l=>aK (hp q) fun o2=>aK (tY o2) fun ys=>aK (aJf ys) fun s=>aN (id≠q∧l.length=n∧1≤a∧a+1<n∧n≤1000000∧0≤s∧s≤800) (some (.i (Sort.medianAdjacent ltN l.toArray a.toNat s.toNat).1,upd hp q (.cells [.i (Sort.medianAdjacent ltN l.toArray a.toNat s.toNat).2] true),nx+400)):=(rfl)
attribute [go_sem] cEg
set_option maxHeartbeats 1000000 in
theorem cRw:cQ Try.prog GLh 107 aUf:=by
 refine gF Try.func107 (aT rfl) ?_
 intro args hp nx r hp' nx' hg
 unfold aUf at hg
 split at hg
 ·rename_i hp0 nx0 id n gg a0 q
  replace hg:=aJ hg;obtain⟨o,ho,hg⟩:=hg
  replace hg:=aJ hg;obtain⟨xs,hxs,hg⟩:=hg
  obtain rfl:=oM hxs
  replace hg:=aJ hg;obtain⟨l,hl,hg⟩:=hg
  replace hg:=aJ hg;obtain⟨o2,ho2,hg⟩:=hg
  replace hg:=aJ hg;obtain⟨ys,hys,hg⟩:=hg
  obtain rfl:=oM hys
  replace hg:=aJ hg;obtain⟨s0,hs0,hg⟩:=hg
  obtain rfl:=aCb hs0
  replace hg:=aP hg;obtain⟨⟨hne,hn,hal1,hau,hbig,hsl,hsu⟩,hg⟩:=hg
  simp only[Option.some.injEq,Prod.mk.injEq]at hg;obtain⟨rfl,rfl,rfl⟩:=hg
  have:=dO hl;subst this
  have hal:0≤a0:=by omega
  obtain⟨a,rfl⟩:=Int.eq_ofNat_of_zero_le hal
  obtain⟨s,rfl⟩:=Int.eq_ofNat_of_zero_le hsl
  simp only[U2]at*
  obtain⟨d,hd⟩: ∃d,l.toArray=d:=⟨_,rfl⟩
  have hds:d.size=n:=by rw[←hd];simpa using hn
  rw[hd]at ho⊢
  have hqi:q≠id:=fun e=>hne e.symm
  refine⟨J1 rfl,by omega,fun hnone=>?_⟩
  have hidn:id<nx:=by
   apply Classical.byContradiction;intro hc;rw[hnone id (by omega)]at ho;cases ho
  have hqn:q<nx:=by
   apply Classical.byContradiction;intro hc;rw[hnone q (by omega)]at ho2;cases ho2
  obtain⟨⟨x1,s1⟩,h1⟩: ∃r,Sort.median ltN d (a-1) a (a+1) s=r:=⟨_,rfl⟩
  simp only[Sort.medianAdjacent,h1]
  have e1:(a:Int)-1=((a-1:Nat):Int):=by omega
  have e2:(a:Int)+1=((a+1:Nat):Int):=by omega
  refine aA rfl (aW [0,1,2] rfl rfl rfl fun K hK=>?_)
  simp(disch:=omega) only[Try.f107,go_sem,↓reduceIte]
  refine hK _ ?_
  refine aB (aA rfl (aC (Γ:=bC [(108,.heap aSb)]) [6] (aH eVo aO) rfl rfl rfl (fun K hK=>?_)))
  simp(disch:=omega) only[Try.f107,go_sem,↓reduceIte,ho,ho2,hds,h1,e1,e2,U2]
  refine hK _ ?_
  refine aB (aS rfl ?_)
  refine⟨rfl,aAd (by simp only[aV,if_true]) (fun j hj=>by simp only[aV,J3 hj]),by simp only;omega⟩
 cases hg
theorem eVp:bX Try.prog GLh 107 (.heap aUf):=⟨⟨_,Try.func107,rfl,rfl⟩,cRw⟩
def gM:Sort.Hint→Int
 | .unknown=>0
 | .increasing=>1
 | .decreasing=>2
def chG:List AV→List AV→Option (AV×List AV)
 |[.os _ 0 n 1 _,.i a,.i b],xs=>aK (unA xs) fun l=>aN (l.length=n∧0≤a∧a<b∧b≤n∧n≤1000000) (some (.tup [.i (Sort.choosePivot ltN l.toArray a.toNat b.toNat).1,.i (gM (Sort.choosePivot ltN l.toArray a.toNat b.toNat).2)],cA l.toArray))
 |_,_=>none
theorem cQh (id n:Nat) (gg:Bool) (a b:Int) (xs:List AV):chG [.os id 0 n 1 gg,.i a,.i b] xs=aK (unA xs) fun l=>aN (l.length=n∧0≤a∧a<b∧b≤n∧n≤1000000) (some (.tup [.i (Sort.choosePivot ltN l.toArray a.toNat b.toNat).1,.i (gM (Sort.choosePivot ltN l.toArray a.toNat b.toNat).2)],cA l.toArray)):=(rfl)
attribute [go_sem] cQh
set_option maxHeartbeats 2000000 in
theorem dBf:cQ Try.prog GLh 96 (dP chG):=by
 refine dN Try.func96 (aT rfl) ?_
 intro id off n e gg rest nx xs r ys hg
 unfold chG at hg
 split at hg
 ·rename_i id2 n2 gg2 a0 b0 heq
  simp only[List.cons.injEq,AV.os.injEq]at heq
  obtain⟨⟨rfl,rfl,rfl,rfl,rfl⟩,rfl⟩:=heq
  replace hg:=aJ hg;obtain⟨l,hl,hg⟩:=hg
  replace hg:=aP hg;obtain⟨⟨hn,ha,hab,hbn,hbig⟩,hg⟩:=hg
  simp only[Option.some.injEq,Prod.mk.injEq]at hg;obtain⟨rfl,rfl⟩:=hg
  have:=dO hl;subst this
  obtain⟨a,rfl⟩:=Int.eq_ofNat_of_zero_le ha
  obtain⟨b,rfl⟩:=Int.eq_ofNat_of_zero_le (show 0≤b0 by omega)
  simp only[U2]at*
  obtain⟨d,hd⟩: ∃d,l.toArray=d:=⟨_,rfl⟩
  have hds:d.size=n:=by rw[←hd];simpa using hn
  have hab2:a<b:=by omega
  have hbn2:b≤n:=by omega
  rw[hd]
  refine⟨J1 rfl,fun hid=>?_⟩
  clear hl hn ha hab hbn
  have eq4:(((b:Int)-(a:Int)).tdiv 4)=(((b-a)/4:Nat):Int):=by rw[Int.tdiv_eq_ediv_of_nonneg (by omega)];omega
  obtain⟨L,hL⟩: ∃L:Nat,b-a=L:=⟨_,rfl⟩
  obtain⟨Q,hQ⟩: ∃Q:Nat,(b-a)/4=Q:=⟨_,rfl⟩
  have ebL:(b:Int)-(a:Int)=(L:Int):=by omega
  rw[ebL,hQ]at eq4
  have ei:(a:Int)+(Q:Int)*1=((a+Q*1:Nat):Int):=by omega
  have ej:(a:Int)+(Q:Int)*2=((a+Q*2:Nat):Int):=by omega
  have ek:(a:Int)+(Q:Int)*3=((a+Q*3:Nat):Int):=by omega
  obtain⟨CP,hCP⟩: ∃CP,Sort.choosePivot ltN d a b=CP:=⟨_,rfl⟩
  rw[hCP]
  refine aA rfl (aW [0,1,2] rfl rfl rfl fun K hK=>?_)
  simp(disch:=omega) only[Try.f96,go_sem,↓reduceIte]
  refine hK _ ?_
  refine aB (aA rfl (aW [0,1,8] rfl rfl rfl fun K hK=>?_))
  simp(disch:=omega) only[Try.f96,go_sem,↓reduceIte,ebL]
  refine hK _ ?_
  refine aB (aA rfl (aW [0,1,8,9] rfl rfl rfl fun K hK=>?_))
  simp(disch:=omega) only[Try.f96,go_sem,↓reduceIte]
  refine hK _ ?_
  refine aB (aA rfl (aW [0,1,8,9,10] rfl rfl rfl fun K hK=>?_))
  simp(disch:=omega) only[Try.f96,go_sem,↓reduceIte,eq4,ei]
  refine hK _ ?_
  refine aB (aA rfl (aW [0,1,8,9,10,11] rfl rfl rfl fun K hK=>?_))
  simp(disch:=omega) only[Try.f96,go_sem,↓reduceIte,eq4,ej]
  refine hK _ ?_
  refine aB (aA rfl (aW [0,8,9,10,11,12] rfl rfl rfl fun K hK=>?_))
  simp(disch:=omega) only[Try.f96,go_sem,↓reduceIte,eq4,ek]
  refine hK _ ?_
  refine aB (aA rfl (aA rfl (aW [32,0,8,9,10,11,12] rfl rfl rfl fun K hK=>?_)))
  simp(disch:=omega) only[Try.f96,go_sem,↓reduceIte]
  refine hK _ ?_
  refine aB ?_
  have hne:id≠nx+6:=by omega
  have hQL:Q=L/4:=by omega
  refine bA (.tmp 32) rfl rfl rfl (fun h=>?_) (fun h=>?_)
  ·refine aI rfl ?_
   have hL8:8≤L:=by omega
   refine aA rfl (aA rfl (aW [34,0,9,10,11,12] rfl rfl rfl fun K hK=>?_))
   simp(disch:=omega) only[Try.f96,go_sem,↓reduceIte]
   refine hK _ ?_
   refine aB (bA (.tmp 34) rfl rfl rfl (fun h=>?_) (fun h=>?_))
   ·refine aI rfl ?_
    have hL50:50≤L:=by omega
    obtain⟨⟨x1,s1⟩,h1⟩: ∃r,Sort.medianAdjacent ltN d (a+Q) 0=r:=⟨_,rfl⟩
    have f1:=yL h1
    obtain⟨⟨x2,s2⟩,h2⟩: ∃r,Sort.medianAdjacent ltN d (a+Q*2) s1=r:=⟨_,rfl⟩
    have f2:=yL h2
    obtain⟨⟨x3,s3⟩,h3⟩: ∃r,Sort.medianAdjacent ltN d (a+Q*3) s2=r:=⟨_,rfl⟩
    have f3:=yL h3
    obtain⟨⟨p,sw⟩,h4⟩: ∃r,Sort.median ltN d x1 x2 x3 s3=r:=⟨_,rfl⟩
    obtain rfl:CP=(p,if sw=0 then .increasing else if sw=12 then .decreasing else .unknown):=by
     rw[←hCP];unfold Sort.choosePivot
     simp only[hL,←hQL,ge_iff_le,hL8,hL50,if_true,Nat.mul_one,h1,h2,h3,h4]
    have hx1:x1<n:=by omega
    have hx2:x2<n:=by omega
    have hx3:x3<n:=by omega
    have g1:a+Q+1<n:=by omega
    have g2:a+Q*2+1<n:=by omega
    have g3:a+Q*3+1<n:=by omega
    refine aA rfl (aC (Γ:=bC [(107,.heap aUf)]) [0,9,10,11,12] (aH eVp aO) rfl rfl rfl (fun K hK=>?_))
    simp(disch:=omega) only[Try.f96,go_sem,↓reduceIte,hds,h1,hne,U2,Int.toNat_zero]
    refine hK _ ?_
    refine aB (aA rfl (aC (Γ:=bC [(107,.heap aUf)]) [0,9,10,11,12] (aH eVp aO) rfl rfl rfl (fun K hK=>?_)))
    simp(disch:=omega) only[Try.f96,go_sem,↓reduceIte,hds,h2,hne,U2]
    refine hK _ ?_
    refine aB (aC (Γ:=bC [(107,.heap aUf)]) [0,9,10,11,12] (aH eVp aO) rfl rfl rfl (fun K hK=>?_))
    simp(disch:=omega) only[Try.f96,go_sem,↓reduceIte,hds,h3,hne,U2]
    refine hK _ ?_
    refine aB (aC (Γ:=bC [(108,.heap aSb)]) [9,11] (aH eVo aO) rfl rfl rfl (fun K hK=>?_))
    simp(disch:=omega) only[Try.f96,go_sem,↓reduceIte,hds,h4,hne,U2]
    refine hK _ ?_
    refine aB (aA rfl (aW [11,49] rfl rfl rfl fun K hK=>?_))
    simp(disch:=omega) only[Try.f96,go_sem,↓reduceIte]
    refine hK _ ?_
    refine aB (aR 0 rfl rfl (aA rfl (aW [51,11,49] rfl rfl rfl fun K hK=>?_)))
    simp(disch:=omega) only[Try.f96,go_sem,↓reduceIte]
    refine hK _ ?_
    refine aB (bA (.tmp 51) rfl rfl rfl (fun h=>?_) (fun h=>?_))
    ·refine aI rfl ?_
     have h0:sw=0:=by omega
     refine aA rfl (aW [6,7] rfl rfl rfl fun K hK=>?_)
     simp(disch:=omega) only[Try.f96,go_sem,↓reduceIte]
     refine hK _ ?_
     refine aB (aS rfl (bN ?_))
     exact⟨by simp only[h0,if_true,gM,bV];rfl,by simp(disch:=omega) only[aV,bY,if_true,if_false],rfl,dZ _⟩
    refine aI rfl (aA rfl (aW [54,11] rfl rfl rfl fun K hK=>?_))
    simp(disch:=omega) only[Try.f96,go_sem,↓reduceIte]
    refine hK _ ?_
    refine aB (bA (.tmp 54) rfl rfl rfl (fun h=>?_) (fun h=>?_))
    ·refine aI rfl ?_
     have h0:sw=12:=by omega
     refine aA rfl (aW [6,7] rfl rfl rfl fun K hK=>?_)
     simp(disch:=omega) only[Try.f96,go_sem,↓reduceIte]
     refine hK _ ?_
     refine aB (aS rfl (bN ?_))
     exact⟨by simp only[h0,if_true,gM,bV];rfl,by simp(disch:=omega) only[aV,bY,if_true,if_false],rfl,dZ _⟩
    refine aI rfl ?_
    have h0:sw≠0:=by omega
    have h1:sw≠12:=by omega
    refine aA rfl (aW [6,7] rfl rfl rfl fun K hK=>?_)
    simp(disch:=omega) only[Try.f96,go_sem,↓reduceIte]
    refine hK _ ?_
    refine aB (aS rfl (bN ?_))
    exact⟨by simp only[h0,h1,if_false,gM,bV];rfl,by simp(disch:=omega) only[aV,bY,if_true,if_false],rfl,dZ _⟩
   refine aI rfl ?_
   have hL50: ¬50≤L:=by omega
   obtain⟨⟨p,sw⟩,h4⟩: ∃r,Sort.median ltN d (a+Q) (a+Q*2) (a+Q*3) 0=r:=⟨_,rfl⟩
   obtain rfl:CP=(p,if sw=0 then .increasing else if sw=12 then .decreasing else .unknown):=by
    rw[←hCP];unfold Sort.choosePivot
    simp only[hL,←hQL,ge_iff_le,hL8,hL50,if_true,if_false,Nat.mul_one,h4]
   have g1:a+Q<n:=by omega
   have g2:a+Q*2<n:=by omega
   have g3:a+Q*3<n:=by omega
   refine aQ rfl (aB (aC (Γ:=bC [(108,.heap aSb)]) [9,11] (aH eVo aO) rfl rfl rfl (fun K hK=>?_)))
   simp(disch:=omega) only[Try.f96,go_sem,↓reduceIte,hds,h4,hne,U2,Int.toNat_zero]
   refine hK _ ?_
   refine aB (aA rfl (aW [11,49] rfl rfl rfl fun K hK=>?_))
   simp(disch:=omega) only[Try.f96,go_sem,↓reduceIte]
   refine hK _ ?_
   refine aB (aR 0 rfl rfl (aA rfl (aW [51,11,49] rfl rfl rfl fun K hK=>?_)))
   simp(disch:=omega) only[Try.f96,go_sem,↓reduceIte]
   refine hK _ ?_
   refine aB (bA (.tmp 51) rfl rfl rfl (fun h=>?_) (fun h=>?_))
   ·refine aI rfl ?_
    have h0:sw=0:=by omega
    refine aA rfl (aW [6,7] rfl rfl rfl fun K hK=>?_)
    simp(disch:=omega) only[Try.f96,go_sem,↓reduceIte]
    refine hK _ ?_
    refine aB (aS rfl (bN ?_))
    exact⟨by simp only[h0,if_true,gM,bV];rfl,by simp(disch:=omega) only[aV,bY,if_true,if_false],rfl,dZ _⟩
   refine aI rfl (aA rfl (aW [54,11] rfl rfl rfl fun K hK=>?_))
   simp(disch:=omega) only[Try.f96,go_sem,↓reduceIte]
   refine hK _ ?_
   refine aB (bA (.tmp 54) rfl rfl rfl (fun h=>?_) (fun h=>?_))
   ·refine aI rfl ?_
    have h0:sw=12:=by omega
    refine aA rfl (aW [6,7] rfl rfl rfl fun K hK=>?_)
    simp(disch:=omega) only[Try.f96,go_sem,↓reduceIte]
    refine hK _ ?_
    refine aB (aS rfl (bN ?_))
    exact⟨by simp only[h0,if_true,gM,bV];rfl,by simp(disch:=omega) only[aV,bY,if_true,if_false],rfl,dZ _⟩
   refine aI rfl ?_
   have h0:sw≠0:=by omega
   have h1:sw≠12:=by omega
   refine aA rfl (aW [6,7] rfl rfl rfl fun K hK=>?_)
   simp(disch:=omega) only[Try.f96,go_sem,↓reduceIte]
   refine hK _ ?_
   refine aB (aS rfl (bN ?_))
   exact⟨by simp only[h0,h1,if_false,gM,bV];rfl,by simp(disch:=omega) only[aV,bY,if_true,if_false],rfl,dZ _⟩
  refine aI rfl ?_
  have hL8: ¬8≤L:=by omega
  obtain rfl:CP=(a+Q*2,.increasing):=by
   rw[←hCP];unfold Sort.choosePivot
   simp only[hL,←hQL,ge_iff_le,hL8,if_true,if_false]
  refine aQ rfl (aB (aA rfl (aW [11,49] rfl rfl rfl fun K hK=>?_)))
  simp(disch:=omega) only[Try.f96,go_sem,↓reduceIte]
  refine hK _ ?_
  refine aB (aR 0 rfl rfl (aA rfl (aW [51,11,49] rfl rfl rfl fun K hK=>?_)))
  simp(disch:=omega) only[Try.f96,go_sem,↓reduceIte]
  refine hK _ ?_
  refine aB (eC (.tmp 51) rfl rfl rfl (fun h=>?_) (fun h=>?_))
  ·refine aI rfl (aA rfl (aW [6,7] rfl rfl rfl fun K hK=>?_))
   simp(disch:=omega) only[Try.f96,go_sem,↓reduceIte]
   refine hK _ ?_
   exact aB (aS rfl (bN (⟨rfl,by simp(disch:=omega) only[aV,bY,if_true,if_false],rfl,dZ _⟩)))
  refine aI rfl ?_
  cases h
 cases hg
theorem ok96:bX Try.prog GLh 96 (.heap (dP chG)):=⟨⟨_,Try.func96,rfl,rfl⟩,dBf⟩
end Go.AX

namespace Go.AX
open Go Go.Proofs
structure SDJ where
 k:Nat
 j:Nat
 d:Array T16
 c:Nat
def bHw:List AV→List AV→Option (AV×List AV)
 |[.os _ 0 n 1 _,.i a,.i b],xs=>aK (unA xs) fun l=>aN (l.length=n∧0≤a∧a<b∧b≤n∧n≤1000000) (some (.tup [],cA (Sort.reverseRange l.toArray a.toNat b.toNat)))
 |_,_=>none
theorem bUq (id n:Nat) (gg:Bool) (a b:Int) (xs:List AV):bHw [.os id 0 n 1 gg,.i a,.i b] xs=aK (unA xs) fun l=>aN (l.length=n∧0≤a∧a<b∧b≤n∧n≤1000000) (some (.tup [],cA (Sort.reverseRange l.toArray a.toNat b.toNat))):=(rfl)
attribute [go_sem] bUq
set_option maxHeartbeats 2000000 in
theorem cIm:cQ Try.prog GLh 97 (dP bHw):=by
 refine dN Try.func97 (aT rfl) ?_
 intro id off n e gg rest nx xs r ys hg
 unfold bHw at hg
 split at hg
 ·rename_i id2 n2 gg2 a0 b0 heq
  simp only[List.cons.injEq,AV.os.injEq]at heq
  obtain⟨⟨rfl,rfl,rfl,rfl,rfl⟩,rfl⟩:=heq
  replace hg:=aJ hg;obtain⟨l,hl,hg⟩:=hg
  replace hg:=aP hg;obtain⟨⟨hn,ha,hab,hbn,hbig⟩,hg⟩:=hg
  simp only[Option.some.injEq,Prod.mk.injEq]at hg;obtain⟨rfl,rfl⟩:=hg
  have:=dO hl;subst this
  obtain⟨a,rfl⟩:=Int.eq_ofNat_of_zero_le ha
  obtain⟨b,rfl⟩:=Int.eq_ofNat_of_zero_le (show 0≤b0 by omega)
  simp only[U2]at*
  obtain⟨d,hd⟩: ∃d,l.toArray=d:=⟨_,rfl⟩
  have hds:d.size=n:=by rw[←hd];simpa using hn
  have hab2:a<b:=by omega
  have hbn2:b≤n:=by omega
  rw[hd]
  refine⟨J1 rfl,fun hid=>?_⟩
  clear hl hn ha hab hbn
  obtain⟨R,hR⟩: ∃R,Sort.reverseRange d a b=R:=⟨_,rfl⟩
  have hR0:Sort.reverseLoop a (b-1) d=R:=hR
  rw[hR]
  clear hR
  have eb:(b:Int)-1=((b-1:Nat):Int):=by omega
  refine aA rfl (aW [0,2,6] rfl rfl rfl fun K hK=>?_)
  simp(disch:=omega) only[Try.f97,go_sem,↓reduceIte]
  refine hK _ ?_
  refine aB (aA rfl (aW [0,6,7] rfl rfl rfl fun K hK=>?_))
  simp(disch:=omega) only[Try.f97,go_sem,↓reduceIte,eb]
  refine hK _ ?_
  refine aB (aR 0 rfl rfl ?_)
  refine bR (fun p:SDJ=> {fr:=[(0,.os id 0 n 1 gg),(6,.i p.k),(7,.i p.j)],hp:=upd (fun _=>none) id (.cells (cA p.d) true),nx:=0,cx:=p.c}) (fun p=>Sort.reverseLoop p.k p.j p.d=R∧p.d.size=n∧p.j<n∧id<p.c) (fun p=>p.j-p.k) rfl ⟨⟨a,b-1,d,_⟩,⟨hR0,hds,by simp only;omega,by simp only;omega⟩,bD rfl rfl (U3 _)⟩ ?_
  rintro⟨k,j,d1,c⟩ ⟨hr1,hs1,hj,hc⟩ n0
  simp only at hr1 hs1 hj hc⊢
  refine aA rfl (aA rfl (aW [13,0,6,7] rfl rfl rfl fun K hK=>?_))
  simp(disch:=omega) only[Try.f97,go_sem,↓reduceIte]
  refine hK _ ?_
  refine aB (bA (.tmp 13) rfl rfl rfl (fun h=>?_) (fun h=>?_))
  ·refine aI rfl ?_
   have hkj:k<j:=by omega
   rw[Sort.reverseLoop,J4 hkj]at hr1
   have hkn:k<n:=by omega
   have hsw:(d1.setIfInBounds k d1[j]!).setIfInBounds j d1[k]! =Sort.swp d1 k j:=rfl
   have ej:(j:Int)-1=((j-1:Nat):Int):=by omega
   refine aQ rfl (aB (aR 1 rfl rfl (aA rfl (bB (Γ:=aL) (fun _=>2) [0,6,7] bZ (aD _ _) rfl rfl rfl (by kernel_rfl) (fun K hK=>?_)))))
   simp(disch:=omega) only[Try.f97,go_sem,↓reduceIte,hsw,U2]
   refine hK _ ?_
   refine aB (aA rfl (aW [0,6,7] rfl rfl rfl fun K hK=>?_))
   simp(disch:=omega) only[Try.f97,go_sem,↓reduceIte]
   refine hK _ ?_
   refine aB (aW [0,6,7] rfl rfl rfl fun K hK=>?_)
   simp(disch:=omega) only[Try.f97,go_sem,↓reduceIte,ej]
   refine hK _ ?_
   refine bU (bT ?_)
   refine⟨⟨k+1,j-1,Sort.swp d1 k j,_⟩,⟨hr1,by simp only[cW];exact hs1,by simp only;omega,by simp only;omega⟩,by simp only;omega,⟨fun _=> .inr (by simp only[Int.natCast_add,Int.natCast_one]),bS (by simp(disch:=omega) only[aV,↓reduceIte,eq_self]) cB,U3 _⟩⟩
  refine aI rfl (bF 0 rfl rfl (aY (aZ (bE ?_))))
  have hkj: ¬k<j:=by omega
  rw[Sort.reverseLoop,J3 hkj]at hr1
  subst hr1
  exact⟨rfl,by simp only[aV,if_true],rfl,dZ _⟩
 cases hg
theorem ok97:bX Try.prog GLh 97 (.heap (dP bHw)):=⟨⟨_,Try.func97,rfl,rfl⟩,cIm⟩
def aMz:List AV→Option (BitVec 64)
 |[.w64 s]=>some s
 |_=>none
theorem bIz (s:BitVec 64):aMz [.w64 s]=some s:=(rfl)
theorem aZv {xs:List AV} {s:BitVec 64} (h:aMz xs=some s):xs=[.w64 s]:=by
 unfold aMz at h
 split at h
 ·obtain rfl:=J0 h;rfl
 cases h
def aDu (x:BitVec 64):BitVec 64:=(Sort.xorNext (.ofBitVec x)).toBitVec
def bJo:List AV→H→Nat→Option (AV×H×Nat)
 |[.op q 0],hp,nx=>aK (hp q) fun o2=>aK (tY o2) fun ys=>aK (aMz ys) fun s=>some (.w64 (aDu s),upd hp q (.cells [.w64 (aDu s)] true),nx+60)
 |_,_,_=>none
theorem bWn (q:Nat) (hp:H) (nx:Nat):bJo [.op q 0] hp nx=aK (hp q) fun o2=>aK (tY o2) fun ys=>aK (aMz ys) fun s=>some (.w64 (aDu s),upd hp q (.cells [.w64 (aDu s)] true),nx+60):=(rfl)
attribute [go_sem] bWn bIz
set_option maxHeartbeats 1000000 in
theorem cLa:cQ Try.prog GLh 106 bJo:=by
 refine gF Try.func106 (aT rfl) ?_
 intro args hp nx r hp' nx' hg
 unfold bJo at hg
 split at hg
 ·rename_i hp0 nx0 q
  replace hg:=aJ hg;obtain⟨o2,ho2,hg⟩:=hg
  replace hg:=aJ hg;obtain⟨ys,hys,hg⟩:=hg
  obtain rfl:=oM hys
  replace hg:=aJ hg;obtain⟨s0,hs0,hg⟩:=hg
  obtain rfl:=aZv hs0
  simp only[Option.some.injEq,Prod.mk.injEq]at hg;obtain⟨rfl,rfl,rfl⟩:=hg
  refine⟨J1 rfl,by omega,fun hnone=>?_⟩
  have hqn:q<nx:=by
   apply Classical.byContradiction;intro hc;rw[hnone q (by omega)]at ho2;cases ho2
  refine aA rfl (aW [0] rfl rfl rfl fun K hK=>?_)
  simp(disch:=omega) only[Try.f106,go_sem,↓reduceIte]
  refine hK _ ?_
  refine aB (aA rfl (bB (Γ:=aL) (fun _=>2) [0] bZ (aD _ _) rfl rfl rfl (by kernel_rfl) (fun K hK=>?_)))
  simp(disch:=omega) only[Try.f106,go_sem,↓reduceIte,ho2]
  refine hK _ ?_
  refine aB (aA rfl (bB (Γ:=aL) (fun _=>2) [0] bZ (aD _ _) rfl rfl rfl (by kernel_rfl) (fun K hK=>?_)))
  simp(disch:=omega) only[Try.f106,go_sem,↓reduceIte]
  refine hK _ ?_
  refine aB (aA rfl (bB (Γ:=aL) (fun _=>2) [0] bZ (aD _ _) rfl rfl rfl (by kernel_rfl) (fun K hK=>?_)))
  simp(disch:=omega) only[Try.f106,go_sem,↓reduceIte]
  refine hK _ ?_
  refine aB (aA rfl (aW [2] rfl rfl rfl fun K hK=>?_))
  simp(disch:=omega) only[Try.f106,go_sem,↓reduceIte]
  refine hK _ ?_
  refine aB (aS rfl ?_)
  refine⟨rfl,aAd (by simp only[aV,if_true];rfl) (fun j hj=>by simp only[aV,J3 hj]),by simp only;omega⟩
 cases hg
theorem fFs:bX Try.prog GLh 106 (.heap bJo):=⟨⟨_,Try.func106,rfl,rfl⟩,cLa⟩
def L8:List B8:=[0#8,1#8,2#8,2#8,3#8,3#8,3#8,3#8,4#8,4#8,4#8,4#8,4#8,4#8,4#8,4#8,5#8,5#8,5#8,5#8,5#8,5#8,5#8,5#8,5#8,5#8,5#8,5#8,5#8,5#8,5#8,5#8,6#8,6#8,6#8,6#8,6#8,6#8,6#8,6#8,6#8,6#8,6#8,6#8,6#8,6#8,6#8,6#8,6#8,6#8,6#8,6#8,6#8,6#8,6#8,6#8,6#8,6#8,6#8,6#8,6#8,6#8,6#8,6#8,7#8,7#8,7#8,7#8,7#8,7#8,7#8,7#8,7#8,7#8,7#8,7#8,7#8,7#8,7#8,7#8,7#8,7#8,7#8,7#8,7#8,7#8,7#8,7#8,7#8,7#8,7#8,7#8,7#8,7#8,7#8,7#8,7#8,7#8,7#8,7#8,7#8,7#8,7#8,7#8,7#8,7#8,7#8,7#8,7#8,7#8,7#8,7#8,7#8,7#8,7#8,7#8,7#8,7#8,7#8,7#8,7#8,7#8,7#8,7#8,7#8,7#8,7#8,7#8,8#8,8#8,8#8,8#8,8#8,8#8,8#8,8#8,8#8,8#8,8#8,8#8,8#8,8#8,8#8,8#8,8#8,8#8,8#8,8#8,8#8,8#8,8#8,8#8,8#8,8#8,8#8,8#8,8#8,8#8,8#8,8#8,8#8,8#8,8#8,8#8,8#8,8#8,8#8,8#8,8#8,8#8,8#8,8#8,8#8,8#8,8#8,8#8,8#8,8#8,8#8,8#8,8#8,8#8,8#8,8#8,8#8,8#8,8#8,8#8,8#8,8#8,8#8,8#8,8#8,8#8,8#8,8#8,8#8,8#8,8#8,8#8,8#8,8#8,8#8,8#8,8#8,8#8,8#8,8#8,8#8,8#8,8#8,8#8,8#8,8#8,8#8,8#8,8#8,8#8,8#8,8#8,8#8,8#8,8#8,8#8,8#8,8#8,8#8,8#8,8#8,8#8,8#8,8#8,8#8,8#8,8#8,8#8,8#8,8#8,8#8,8#8,8#8,8#8,8#8,8#8,8#8,8#8,8#8,8#8,8#8,8#8,8#8,8#8,8#8,8#8,8#8,8#8]
set_option maxRecDepth 10000 in
theorem aQo:ofV (Value.string ⟨((([0,1,2,2,3,3,3,3,4,4,4,4,4,4,4,4,5,5,5,5,5,5,5,5,5,5,5,5,5,5,5,5,6,6,6,6,6,6,6,6,6,6,6,6,6,6,6,6,6,6,6,6,6,6,6,6,6,6,6,6,6,6,6,6]:List UInt8).append [7,7,7,7,7,7,7,7,7,7,7,7,7,7,7,7,7,7,7,7,7,7,7,7,7,7,7,7,7,7,7,7,7,7,7,7,7,7,7,7,7,7,7,7,7,7,7,7,7,7,7,7,7,7,7,7,7,7,7,7,7,7,7,7]).append (([8,8,8,8,8,8,8,8,8,8,8,8,8,8,8,8,8,8,8,8,8,8,8,8,8,8,8,8,8,8,8,8,8,8,8,8,8,8,8,8,8,8,8,8,8,8,8,8,8,8,8,8,8,8,8,8,8,8,8,8,8,8,8,8]:List UInt8).append [8,8,8,8,8,8,8,8,8,8,8,8,8,8,8,8,8,8,8,8,8,8,8,8,8,8,8,8,8,8,8,8,8,8,8,8,8,8,8,8,8,8,8,8,8,8,8,8,8,8,8,8,8,8,8,8,8,8,8,8,8,8,8,8])).toArray⟩)=.s L8:=by rfl
theorem cSb: ∀k,k<256→L8[k]? =some (BitVec.ofNat 8 (Sort.bitsLen k)):=by decide+kernel
theorem zL (x:BitVec 64) (h:x.toNat<256):L8[(x.setWidth 8).toNat]? =some (BitVec.ofNat 8 (Sort.bitsLen x.toNat)):=by
 rw[BitVec.toNat_setWidth,Nat.mod_eq_of_lt (by omega)];exact cSb _ h
theorem dCd {n:Nat} (h:n<256):Sort.bitsLen n≤8:=(Sort.bitsLen_le_iff n 8).2 h
theorem sT {n:Nat} (h:n<256):(BitVec.ofNat 8 (Sort.bitsLen n)).toNat=Sort.bitsLen n:=by have:=dCd h;rw[BitVec.toNat_ofNat];exact Nat.mod_eq_of_lt (by omega)
theorem gB (n k:Nat) (h:2^k≤n):Sort.bitsLen n=k+Sort.bitsLen (n>>>k):=by
 have e1: ∀j,Sort.bitsLen n≤k+j↔Sort.bitsLen (n>>>k)≤j:=fun j=>by
  rw[Sort.bitsLen_le_iff,Sort.bitsLen_le_iff,Nat.shiftRight_eq_div_pow,Nat.div_lt_iff_lt_mul (Nat.two_pow_pos k),Nat.pow_add,Nat.mul_comm]
 have h1:k<Sort.bitsLen n:=Nat.lt_of_not_le fun hc=>absurd ((Sort.bitsLen_le_iff n k).1 hc) (by omega)
 have h2:=(e1 (Sort.bitsLen n-k)).1 (by omega)
 have h3:=(e1 (Sort.bitsLen (n>>>k))).2 (U3 _)
 omega
def uJ:List AV→Option AV
 |[.w64 x]=>some (.i (Sort.bitsLen x.toNat))
 |_=>none
theorem bPp (x:BitVec 64):uJ [.w64 x]=some (.i (Sort.bitsLen x.toNat)):=(rfl)
attribute [go_sem] bPp
set_option maxHeartbeats 1000000 in
theorem cMn:cL Try.prog GLh 103 uJ:=by
 refine cC Try.func103 (aT rfl) ?_
 intro args r hg
 unfold uJ at hg
 split at hg
 ·rename_i x
  obtain rfl:=J0 hg
  refine⟨J1 rfl,fun nx=>?_⟩
  clear hg
  refine aA rfl (aW [0,2] rfl rfl rfl fun K hK=>?_)
  simp(disch:=omega) only[Try.f103,go_sem,↓reduceIte]
  refine hK _ ?_
  refine aB (aA rfl (aA rfl (aW [4,0,2] rfl rfl rfl fun K hK=>?_)))
  simp(disch:=omega) only[Try.f103,go_sem,↓reduceIte]
  refine hK _ ?_
  refine aB (bA (.tmp 4) rfl rfl rfl (fun h=>?_) (fun h=>?_))
  ·refine aI rfl ?_
   have hk0:=gB (x).toNat 32 (by have:=BitVec.le_def.1 h;exact this)
   rw[←BitVec.toNat_ushiftRight]at hk0
   refine aA rfl (aW [0] rfl rfl rfl fun K hK=>?_)
   simp(disch:=omega) only[Try.f103,go_sem,↓reduceIte]
   refine hK _ ?_
   refine aB (aW [0,2] rfl rfl rfl fun K hK=>?_)
   simp(disch:=omega) only[Try.f103,go_sem,↓reduceIte]
   refine hK _ ?_
   refine aB (aA rfl (aA rfl (aW [8,0,2] rfl rfl rfl fun K hK=>?_)))
   simp(disch:=omega) only[Try.f103,go_sem,↓reduceIte]
   refine hK _ ?_
   refine aB (bA (.tmp 8) rfl rfl rfl (fun h=>?_) (fun h=>?_))
   ·refine aI rfl ?_
    have hk1:=gB (x>>>32).toNat 16 (by have:=BitVec.le_def.1 h;exact this)
    rw[←BitVec.toNat_ushiftRight]at hk1
    refine aA rfl (aW [0,2] rfl rfl rfl fun K hK=>?_)
    simp(disch:=omega) only[Try.f103,go_sem,↓reduceIte]
    refine hK _ ?_
    refine aB (aW [0,2] rfl rfl rfl fun K hK=>?_)
    simp(disch:=omega) only[Try.f103,go_sem,↓reduceIte]
    refine hK _ ?_
    refine aB (aA rfl (aA rfl (aW [14,0,2] rfl rfl rfl fun K hK=>?_)))
    simp(disch:=omega) only[Try.f103,go_sem,↓reduceIte]
    refine hK _ ?_
    refine aB (bA (.tmp 14) rfl rfl rfl (fun h=>?_) (fun h=>?_))
    ·refine aI rfl ?_
     have hk2:=gB (x>>>32>>>16).toNat 8 (by have:=BitVec.le_def.1 h;exact this)
     rw[←BitVec.toNat_ushiftRight]at hk2
     refine aA rfl (aW [0,2] rfl rfl rfl fun K hK=>?_)
     simp(disch:=omega) only[Try.f103,go_sem,↓reduceIte]
     refine hK _ ?_
     refine aB (aW [0,2] rfl rfl rfl fun K hK=>?_)
     simp(disch:=omega) only[Try.f103,go_sem,↓reduceIte]
     refine hK _ ?_
     refine aB ?_
     have hx256:(x>>>32>>>16>>>8).toNat<256:=by bv_omega
     have e1:=zL (x>>>32>>>16>>>8) hx256
     refine aA rfl (aW [2] rfl rfl rfl fun K hK=>?_)
     simp(disch:=omega) only[Try.f103,go_sem,↓reduceIte,aQo,e1]
     refine hK _ ?_
     refine aB (aS rfl ?_)
     simp(disch:=omega) only[cN,bV,bK,bQ,Try.f103,go_sem,↓reduceIte]
     have e2:=sT hx256
     refine congrArg some (congrArg AV.i ?_)
     omega
    refine aI rfl (aQ rfl (aB (aA rfl ?_)))
    have hx256:(x>>>32>>>16).toNat<256:=by bv_omega
    have e1:=zL (x>>>32>>>16) hx256
    refine aW [2] rfl rfl rfl fun K hK=>?_
    simp(disch:=omega) only[Try.f103,go_sem,↓reduceIte,aQo,e1]
    refine hK _ ?_
    refine aB (aS rfl ?_)
    simp(disch:=omega) only[cN,bV,bK,bQ,Try.f103,go_sem,↓reduceIte]
    have e2:=sT hx256
    refine congrArg some (congrArg AV.i ?_)
    omega
   refine aI rfl (aQ rfl (aB (aA rfl (aA rfl (aW [14,0,2] rfl rfl rfl fun K hK=>?_)))))
   simp(disch:=omega) only[Try.f103,go_sem,↓reduceIte]
   refine hK _ ?_
   refine aB (bA (.tmp 14) rfl rfl rfl (fun h=>?_) (fun h=>?_))
   ·refine aI rfl ?_
    have hk2:=gB (x>>>32).toNat 8 (by have:=BitVec.le_def.1 h;exact this)
    rw[←BitVec.toNat_ushiftRight]at hk2
    refine aA rfl (aW [0,2] rfl rfl rfl fun K hK=>?_)
    simp(disch:=omega) only[Try.f103,go_sem,↓reduceIte]
    refine hK _ ?_
    refine aB (aW [0,2] rfl rfl rfl fun K hK=>?_)
    simp(disch:=omega) only[Try.f103,go_sem,↓reduceIte]
    refine hK _ ?_
    refine aB ?_
    have hx256:(x>>>32>>>8).toNat<256:=by bv_omega
    have e1:=zL (x>>>32>>>8) hx256
    refine aA rfl (aW [2] rfl rfl rfl fun K hK=>?_)
    simp(disch:=omega) only[Try.f103,go_sem,↓reduceIte,aQo,e1]
    refine hK _ ?_
    refine aB (aS rfl ?_)
    simp(disch:=omega) only[cN,bV,bK,bQ,Try.f103,go_sem,↓reduceIte]
    have e2:=sT hx256
    refine congrArg some (congrArg AV.i ?_)
    omega
   refine aI rfl (aQ rfl (aB (aA rfl ?_)))
   have hx256:(x>>>32).toNat<256:=by bv_omega
   have e1:=zL (x>>>32) hx256
   refine aW [2] rfl rfl rfl fun K hK=>?_
   simp(disch:=omega) only[Try.f103,go_sem,↓reduceIte,aQo,e1]
   refine hK _ ?_
   refine aB (aS rfl ?_)
   simp(disch:=omega) only[cN,bV,bK,bQ,Try.f103,go_sem,↓reduceIte]
   have e2:=sT hx256
   refine congrArg some (congrArg AV.i ?_)
   omega
  refine aI rfl (aQ rfl (aB (aA rfl (aA rfl (aW [8,0,2] rfl rfl rfl fun K hK=>?_)))))
  simp(disch:=omega) only[Try.f103,go_sem,↓reduceIte]
  refine hK _ ?_
  refine aB (bA (.tmp 8) rfl rfl rfl (fun h=>?_) (fun h=>?_))
  ·refine aI rfl ?_
   have hk1:=gB (x).toNat 16 (by have:=BitVec.le_def.1 h;exact this)
   rw[←BitVec.toNat_ushiftRight]at hk1
   refine aA rfl (aW [0,2] rfl rfl rfl fun K hK=>?_)
   simp(disch:=omega) only[Try.f103,go_sem,↓reduceIte]
   refine hK _ ?_
   refine aB (aW [0,2] rfl rfl rfl fun K hK=>?_)
   simp(disch:=omega) only[Try.f103,go_sem,↓reduceIte]
   refine hK _ ?_
   refine aB (aA rfl (aA rfl (aW [14,0,2] rfl rfl rfl fun K hK=>?_)))
   simp(disch:=omega) only[Try.f103,go_sem,↓reduceIte]
   refine hK _ ?_
   refine aB (bA (.tmp 14) rfl rfl rfl (fun h=>?_) (fun h=>?_))
   ·refine aI rfl ?_
    have hk2:=gB (x>>>16).toNat 8 (by have:=BitVec.le_def.1 h;exact this)
    rw[←BitVec.toNat_ushiftRight]at hk2
    refine aA rfl (aW [0,2] rfl rfl rfl fun K hK=>?_)
    simp(disch:=omega) only[Try.f103,go_sem,↓reduceIte]
    refine hK _ ?_
    refine aB (aW [0,2] rfl rfl rfl fun K hK=>?_)
    simp(disch:=omega) only[Try.f103,go_sem,↓reduceIte]
    refine hK _ ?_
    refine aB ?_
    have hx256:(x>>>16>>>8).toNat<256:=by bv_omega
    have e1:=zL (x>>>16>>>8) hx256
    refine aA rfl (aW [2] rfl rfl rfl fun K hK=>?_)
    simp(disch:=omega) only[Try.f103,go_sem,↓reduceIte,aQo,e1]
    refine hK _ ?_
    refine aB (aS rfl ?_)
    simp(disch:=omega) only[cN,bV,bK,bQ,Try.f103,go_sem,↓reduceIte]
    have e2:=sT hx256
    refine congrArg some (congrArg AV.i ?_)
    omega
   refine aI rfl (aQ rfl (aB (aA rfl ?_)))
   have hx256:(x>>>16).toNat<256:=by bv_omega
   have e1:=zL (x>>>16) hx256
   refine aW [2] rfl rfl rfl fun K hK=>?_
   simp(disch:=omega) only[Try.f103,go_sem,↓reduceIte,aQo,e1]
   refine hK _ ?_
   refine aB (aS rfl ?_)
   simp(disch:=omega) only[cN,bV,bK,bQ,Try.f103,go_sem,↓reduceIte]
   have e2:=sT hx256
   refine congrArg some (congrArg AV.i ?_)
   omega
  refine aI rfl (aQ rfl (aB (aA rfl (aA rfl (aW [14,0,2] rfl rfl rfl fun K hK=>?_)))))
  simp(disch:=omega) only[Try.f103,go_sem,↓reduceIte]
  refine hK _ ?_
  refine aB (bA (.tmp 14) rfl rfl rfl (fun h=>?_) (fun h=>?_))
  ·refine aI rfl ?_
   have hk2:=gB (x).toNat 8 (by have:=BitVec.le_def.1 h;exact this)
   rw[←BitVec.toNat_ushiftRight]at hk2
   refine aA rfl (aW [0,2] rfl rfl rfl fun K hK=>?_)
   simp(disch:=omega) only[Try.f103,go_sem,↓reduceIte]
   refine hK _ ?_
   refine aB (aW [0,2] rfl rfl rfl fun K hK=>?_)
   simp(disch:=omega) only[Try.f103,go_sem,↓reduceIte]
   refine hK _ ?_
   refine aB ?_
   have hx256:(x>>>8).toNat<256:=by bv_omega
   have e1:=zL (x>>>8) hx256
   refine aA rfl (aW [2] rfl rfl rfl fun K hK=>?_)
   simp(disch:=omega) only[Try.f103,go_sem,↓reduceIte,aQo,e1]
   refine hK _ ?_
   refine aB (aS rfl ?_)
   simp(disch:=omega) only[cN,bV,bK,bQ,Try.f103,go_sem,↓reduceIte]
   have e2:=sT hx256
   refine congrArg some (congrArg AV.i ?_)
   omega
  refine aI rfl (aQ rfl (aB (aA rfl ?_)))
  have hx256:(x).toNat<256:=by bv_omega
  have e1:=zL (x) hx256
  refine aW [2] rfl rfl rfl fun K hK=>?_
  simp(disch:=omega) only[Try.f103,go_sem,↓reduceIte,aQo,e1]
  refine hK _ ?_
  refine aB (aS rfl ?_)
  simp(disch:=omega) only[cN,bV,bK,bQ,Try.f103,go_sem,↓reduceIte]
  have e2:=sT hx256
  refine congrArg some (congrArg AV.i ?_)
  omega
 cases hg
theorem fFu:bX Try.prog GLh 103 (.pure true uJ):=⟨⟨_,Try.func103,rfl,rfl⟩,cMn⟩
set_option maxHeartbeats 1000000 in
theorem cCi:cL Try.prog GLh 92 uJ:=by
 refine cC Try.func92 (aT rfl) ?_
 intro args r hg
 unfold uJ at hg
 split at hg
 ·rename_i x
  obtain rfl:=J0 hg
  refine⟨J1 rfl,fun nx=>?_⟩
  refine aA rfl (aW [0] rfl rfl rfl fun K hK=>?_)
  simp(disch:=omega) only[Try.f92,go_sem,↓reduceIte]
  refine hK _ ?_
  refine aB (aA rfl (eC _ rfl rfl rfl (fun h=>?_) (fun h=>?_)))
  ·cases h
  refine aQ rfl (aB (aA rfl (aC (Γ:=bC [(103,.pure true uJ)]) [2] (aH fFu aO) rfl rfl rfl (fun K hK=>?_))))
  simp(disch:=omega) only[Try.f92,go_sem,↓reduceIte]
  refine hK _ ?_
  refine aB (aS rfl ?_)
  simp(disch:=omega) only[cN,bV,bK,bQ,Try.f92,go_sem,↓reduceIte]
 cases hg
theorem fFf:bX Try.prog GLh 92 (.pure true uJ):=⟨⟨_,Try.func92,rfl,rfl⟩,cCi⟩
def npG:List AV→Option AV
 |[.i n]=>aN (0≤n∧n≤1000000) (some (.w64 (1#64 <<<Sort.bitsLen n.toNat)))
 |_=>none
theorem cLd (n:Int):npG [.i n]=aN (0≤n∧n≤1000000) (some (.w64 (1#64 <<<Sort.bitsLen n.toNat))):=(rfl)
attribute [go_sem] cLd
theorem aTm {n:Nat} (h:n≤1000000):Sort.bitsLen n≤20:=(Sort.bitsLen_le_iff n 20).2 (by omega)
theorem aWd {n:Nat} (h:n≤1000000):(BitVec.ofInt 64 (n:Int)).toNat=n:=by
 rw[BitVec.toNat_ofInt];omega
set_option maxHeartbeats 1000000 in
theorem cXc:cL Try.prog GLh 105 npG:=by
 refine cC Try.func105 (aT rfl) ?_
 intro args r hg
 unfold npG at hg
 split at hg
 ·rename_i n0
  replace hg:=aP hg;obtain⟨⟨hn,hbig⟩,hg⟩:=hg
  obtain rfl:=J0 hg
  obtain⟨n,rfl⟩:=Int.eq_ofNat_of_zero_le hn
  simp only[U2]at*
  have hbn:n≤1000000:=by omega
  have h20:=aTm hbn
  have e1:=aWd hbn
  refine⟨J1 rfl,fun nx=>?_⟩
  refine aA rfl (aW [0] rfl rfl rfl fun K hK=>?_)
  simp(disch:=omega) only[Try.f105,go_sem,↓reduceIte]
  refine hK _ ?_
  refine aB (aA rfl (aC (Γ:=bC [(92,.pure true uJ)]) [2] (aH fFf aO) rfl rfl rfl (fun K hK=>?_)))
  simp(disch:=omega) only[Try.f105,go_sem,↓reduceIte,e1,U2]
  refine hK _ ?_
  refine aB (aS rfl ?_)
  simp(disch:=omega) only[cN,bV,bK,bQ,Try.f105,go_sem,↓reduceIte]
 cases hg
theorem fFt:bX Try.prog GLh 105 (.pure true npG):=⟨⟨_,Try.func105,rfl,rfl⟩,cXc⟩
def bPm (a len modulus:Nat):Nat→Nat→UInt64×Array T16→Array T16
 |0,_,st=>st.2
 |m+1,idx,st=>bPm a len modulus m (idx+1) (Sort.breakStep a len modulus st idx)
theorem cCg (x:BitVec 64) (k:Nat) (h:k≤20):(x&&&((1#64 <<<k)-1#64)).toNat=x.toNat&&&((1 <<<k)-1):=by
 have hp:2^k≤2^20:=Nat.pow_le_pow_right (by decide) h
 have h0:=Nat.two_pow_pos k
 rw[BitVec.toNat_and]
 congr 1
 rw[BitVec.toNat_sub,BitVec.toNat_shiftLeft,Nat.shiftLeft_eq,Nat.shiftLeft_eq]
 simp only[BitVec.toNat_ofNat,Nat.reduceMod,Nat.reducePow,Nat.one_mul]at hp⊢
 omega
theorem cRa (x k n:Nat) (h:0<n) (hk:k=Sort.bitsLen n):x&&&((1 <<<k)-1)<2*n:=by
 have h1:=Nat.and_le_right (n:=x) (m:=(1 <<<k)-1)
 have h2:=Sort.two_pow_bitsLen_le h
 have h0:=Nat.two_pow_pos k
 rw[Nat.shiftLeft_eq,Nat.one_mul]at h1⊢
 rw[hk]at*
 omega
structure SDR where
 m:Nat
 i:Nat
 r:BitVec 64
 d:Array T16
 c:Nat
def bPn:List AV→List AV→Option (AV×List AV)
 |[.os _ 0 n 1 _,.i a,.i b],xs=>aK (unA xs) fun l=>aN (l.length=n∧0≤a∧a<b∧b≤n∧n≤1000000) (some (.tup [],cA (Sort.breakPatterns l.toArray a.toNat b.toNat)))
 |_,_=>none
theorem cCh (id n:Nat) (gg:Bool) (a b:Int) (xs:List AV):bPn [.os id 0 n 1 gg,.i a,.i b] xs=aK (unA xs) fun l=>aN (l.length=n∧0≤a∧a<b∧b≤n∧n≤1000000) (some (.tup [],cA (Sort.breakPatterns l.toArray a.toNat b.toNat))):=(rfl)
attribute [go_sem] cCh
set_option maxHeartbeats 2000000 in
theorem cQz:cQ Try.prog GLh 95 (dP bPn):=by
 refine dN Try.func95 (aT rfl) ?_
 intro id off n e gg rest nx xs r ys hg
 unfold bPn at hg
 split at hg
 ·rename_i id2 n2 gg2 a0 b0 heq
  simp only[List.cons.injEq,AV.os.injEq]at heq
  obtain⟨⟨rfl,rfl,rfl,rfl,rfl⟩,rfl⟩:=heq
  replace hg:=aJ hg;obtain⟨l,hl,hg⟩:=hg
  replace hg:=aP hg;obtain⟨⟨hn,ha,hab,hbn,hbig⟩,hg⟩:=hg
  simp only[Option.some.injEq,Prod.mk.injEq]at hg;obtain⟨rfl,rfl⟩:=hg
  have:=dO hl;subst this
  obtain⟨a,rfl⟩:=Int.eq_ofNat_of_zero_le ha
  obtain⟨b,rfl⟩:=Int.eq_ofNat_of_zero_le (show 0≤b0 by omega)
  simp only[U2]at*
  obtain⟨d,hd⟩: ∃d,l.toArray=d:=⟨_,rfl⟩
  have hds:d.size=n:=by rw[←hd];simpa using hn
  have hab2:a<b:=by omega
  have hbn2:b≤n:=by omega
  rw[hd]
  refine⟨J1 rfl,fun hid=>?_⟩
  clear hl hn ha hab hbn
  have eq4:(((b:Int)-(a:Int)).tdiv 4)=(((b-a)/4:Nat):Int):=by rw[Int.tdiv_eq_ediv_of_nonneg (by omega)];omega
  obtain⟨L,hL⟩: ∃L:Nat,b-a=L:=⟨_,rfl⟩
  obtain⟨Q,hQ⟩: ∃Q:Nat,(b-a)/4=Q:=⟨_,rfl⟩
  have ebL:(b:Int)-(a:Int)=(L:Int):=by omega
  rw[ebL,hQ]at eq4
  have hQL:L/4=Q:=by omega
  have hLb:L≤1000000:=by omega
  have h20:=aTm hLb
  obtain⟨R,hR⟩: ∃R,Sort.breakPatterns d a b=R:=⟨_,rfl⟩
  rw[hR]
  refine aA rfl (aW [0,1,6] rfl rfl rfl fun K hK=>?_)
  simp(disch:=omega) only[Try.f95,go_sem,↓reduceIte,ebL]
  refine hK _ ?_
  refine aB (aA rfl (aW [15,0,1,6] rfl rfl rfl fun K hK=>?_))
  simp(disch:=omega) only[Try.f95,go_sem,↓reduceIte]
  refine hK _ ?_
  refine aB (bA (.tmp 15) rfl rfl rfl (fun h=>?_) (fun h=>?_))
  ·refine aI rfl ?_
   have hL8:L≥8:=by omega
   have hR2:bPm a L (1 <<<Sort.bitsLen L) 3 (a+Q*2-1) (UInt64.ofNat L,d)=R:=by
    rw[←hR];unfold Sort.breakPatterns;simp only[hL,hQL,J4 hL8];rfl
   have ei:(a:Int)+(Q:Int)*2-1=((a+Q*2-1:Nat):Int):=by omega
   obtain⟨i0,hi0⟩: ∃i0,a+Q*2-1=i0:=⟨_,rfl⟩
   rw[hi0]at hR2 ei
   have ej:(a:Int)+(Q:Int)*2+1=((i0+2:Nat):Int):=by omega
   refine aA rfl (aW [0,1,6,7] rfl rfl rfl fun K hK=>?_)
   simp(disch:=omega) only[Try.f95,go_sem,↓reduceIte]
   refine hK _ ?_
   refine aB (aA rfl (aC (Γ:=bC [(105,.pure true npG)]) [0,1,6,7,8] (aH fFt aO) rfl rfl rfl (fun K hK=>?_)))
   simp(disch:=omega) only[Try.f95,go_sem,↓reduceIte,U2]
   refine hK _ ?_
   refine aB (aA rfl (aW [0,1,6,7,8,9] rfl rfl rfl fun K hK=>?_))
   simp(disch:=omega) only[Try.f95,go_sem,↓reduceIte,eq4,ei]
   refine hK _ ?_
   refine aB ?_
   obtain⟨q,hq⟩: ∃q,nx+4+2+2=q:=⟨_,rfl⟩
   have hqid:id<q:=by omega
   rw[hq]
   refine aR 0 rfl rfl ?_
   refine bR (fun p:SDR=> {fr:=[(0,.os id 0 n 1 gg),(1,.i a),(6,.i L),(7,.op q 0),(8,.w64 (1#64 <<<Sort.bitsLen L)),(9,.i p.i)],hp:=upd (upd (fun _=>none) id (.cells (cA p.d) true)) q (.cells [.w64 p.r] true),nx:=0,cx:=p.c}) (fun p=>bPm a L (1 <<<Sort.bitsLen L) p.m p.i (.ofBitVec p.r,p.d)=R∧p.d.size=n∧p.m+p.i=i0+3∧i0≤p.i∧q<p.c) (fun p=>p.m) rfl ⟨⟨3,i0,BitVec.ofInt 64 (L:Int),d,_⟩,⟨by rw[←hR2];simp only;rw[BitVec.ofInt_natCast];rfl,hds,by simp only;omega,by simp only;omega,by simp only;omega⟩,bD rfl rfl (U3 _)⟩ ?_
   rintro⟨m,i,r,d1,c⟩ ⟨hr1,hs1,hm,hi,hc⟩ n0
   simp only at hr1 hs1 hm hi hc⊢
   have eqq:(a:Int)+((L:Int).tdiv 4)*2+1=((i0+2:Nat):Int):=by rw[eq4];exact ej
   refine aA rfl (aA rfl (aW [33,0,1,6,7,8,9] rfl rfl rfl fun K hK=>?_))
   simp(disch:=omega) only[Try.f95,go_sem,↓reduceIte,eq4,ej]
   refine hK _ ?_
   refine aB (bA (.tmp 33) rfl rfl rfl (fun h=>?_) (fun h=>?_))
   ·refine aI rfl ?_
    obtain⟨m,rfl⟩: ∃m',m=m'+1:=⟨m-1,by omega⟩
    rw[bPm]at hr1
    obtain⟨o,ho⟩: ∃o,(aDu r).toNat&&&((1 <<<Sort.bitsLen L)-1)=o:=⟨_,rfl⟩
    have ho2:o<2*L:=by rw[←ho];exact cRa _ _ _ (by omega) rfl
    have hst:Sort.breakStep a L (1 <<<Sort.bitsLen L) (UInt64.ofBitVec r,d1) i=(.ofBitVec (aDu r),Sort.swp d1 i (a+if o≥L then o-L else o)):=by
     rw[←ho];rfl
    rw[hst]at hr1
    have hin:i<n:=by omega
    have eand:(aDu r&&&(1#64 <<<Sort.bitsLen L-1#64)).toNat=o:=by rw[cCg _ _ h20];exact ho
    refine aQ rfl (aB (aA rfl (aR 1 rfl rfl (aA rfl (aC (Γ:=bC [(106,.heap bJo)]) [0,1,6,7,8,9,10] (aH fFs aO) rfl rfl rfl (fun K hK=>?_))))))
    simp(disch:=omega) only[Try.f95,go_sem,↓reduceIte,eand]
    refine hK _ ?_
    refine aB (aA rfl (aA rfl (aW [43,0,1,6,7,8,9,10] rfl rfl rfl fun K hK=>?_)))
    simp(disch:=omega) only[Try.f95,go_sem,↓reduceIte]
    refine hK _ ?_
    refine aB (bA (.tmp 43) rfl rfl rfl (fun h=>?_) (fun h=>?_))
    ·refine aI rfl ?_
     have hoL:o≥L:=by omega
     rw[J4 hoL]at hr1
     have eo:(o:Int)-(L:Int)=((o-L:Nat):Int):=by omega
     refine aW [0,1,6,7,8,9,10] rfl rfl rfl fun K hK=>?_
     simp(disch:=omega) only[Try.f95,go_sem,↓reduceIte,eo]
     refine hK _ ?_
     refine aB ?_
     obtain⟨w,hw⟩: ∃w,a+(o-L)=w:=⟨_,rfl⟩
     have ew:(a:Int)+((o-L:Nat):Int)=(w:Int):=by omega
     have hwn:w<n:=by omega
     rw[hw]at hr1
     have hsw:(d1.setIfInBounds i d1[w]!).setIfInBounds w d1[i]! =Sort.swp d1 i w:=rfl
     refine bB (Γ:=aL) (fun _=>2) [0,1,6,7,8,9] bZ (aD _ _) rfl rfl rfl (by kernel_rfl) (fun K hK=>?_)
     simp(disch:=omega) only[Try.f95,go_sem,↓reduceIte,ew,hsw,U2]
     refine hK _ ?_
     refine bU (aB (aW [0,1,6,7,8,9] rfl rfl rfl fun K hK=>?_))
     simp(disch:=omega) only[Try.f95,go_sem,↓reduceIte]
     refine hK _ ?_
     refine bT ?_
     refine⟨⟨m,i+1,aDu r,Sort.swp d1 i w,_⟩,⟨hr1,by simp only[cW];exact hs1,by simp only;omega,by simp only;omega,by simp only;omega⟩,by simp only;omega,⟨fun _=> .inr (by simp only[Int.natCast_add,Int.natCast_one]),bS (by simp(disch:=omega) only[aV,bY,↓reduceIte,eq_self]) (bS (by simp(disch:=omega) only[aV,↓reduceIte,eq_self]) cB),U3 _⟩⟩
    refine aI rfl ?_
    have hoL: ¬o≥L:=by omega
    rw[J3 hoL]at hr1
    refine aQ rfl (aB ?_)
    obtain⟨w,hw⟩: ∃w,a+o=w:=⟨_,rfl⟩
    have ew:(a:Int)+(o:Int)=(w:Int):=by omega
    have hwn:w<n:=by omega
    rw[hw]at hr1
    have hsw:(d1.setIfInBounds i d1[w]!).setIfInBounds w d1[i]! =Sort.swp d1 i w:=rfl
    refine bB (Γ:=aL) (fun _=>2) [0,1,6,7,8,9] bZ (aD _ _) rfl rfl rfl (by kernel_rfl) (fun K hK=>?_)
    simp(disch:=omega) only[Try.f95,go_sem,↓reduceIte,ew,hsw,U2]
    refine hK _ ?_
    refine bU (aB (aW [0,1,6,7,8,9] rfl rfl rfl fun K hK=>?_))
    simp(disch:=omega) only[Try.f95,go_sem,↓reduceIte]
    refine hK _ ?_
    refine bT ?_
    refine⟨⟨m,i+1,aDu r,Sort.swp d1 i w,_⟩,⟨hr1,by simp only[cW];exact hs1,by simp only;omega,by simp only;omega,by simp only;omega⟩,by simp only;omega,⟨fun _=> .inr (by simp only[Int.natCast_add,Int.natCast_one]),bS (by simp(disch:=omega) only[aV,bY,↓reduceIte,eq_self]) (bS (by simp(disch:=omega) only[aV,↓reduceIte,eq_self]) cB),U3 _⟩⟩
   refine aI rfl (bF 0 rfl rfl (aY (aZ (bE ?_))))
   obtain rfl:m=0:=by omega
   rw[bPm]at hr1
   simp only at hr1
   subst hr1
   exact⟨rfl,by simp(disch:=omega) only[aV,bY,if_true,if_false],rfl,dZ _⟩
  refine aI rfl ?_
  have hL8: ¬L≥8:=by omega
  refine aQ rfl ?_
  have hR2:d=R:=by rw[←hR];unfold Sort.breakPatterns;simp only[hL,J3 hL8]
  subst hR2
  exact⟨rfl,by simp only[aV,if_true],rfl,dZ _⟩
 cases hg
theorem ok95:bX Try.prog GLh 95 (.heap (dP bPn)):=⟨⟨_,Try.func95,rfl,rfl⟩,cQz⟩
end Go.AX

namespace Go.AX
open Go Go.Proofs
structure SKC where
 k:Nat
 c:Nat
set_option maxHeartbeats 1000000 in
theorem cJg {id n a I J I2 nx0 cx0:Nat} {gg:Bool} {D:Array T16} {Q:Exit→S→Prop} (hI:Sort.scanUp (fun x=>ltN x D[a]!) D J I=I2) (hs:D.size=n) (hJ:J<n) (ha:a<n) (hbig:n≤1000000) (hid:id<cx0)
  (hQ: ∀n1 c1,id<c1→Q .normal {fr:=[(0,.os id 0 n 1 gg),(1,.i (a:Int)),(10,.i (I2:Int)),(11,.i (J:Int))],hp:=upd (fun _=>none) id (.cells (cA D) true),nx:=n1,cx:=c1}):
  Awp Try.prog GLh Try.f101.ntmps (cl (cr (cr (cr (aE Try.f101))))) {fr:=[(0,.os id 0 n 1 gg),(1,.i (a:Int)),(10,.i (I:Int)),(11,.i (J:Int))],hp:=upd (fun _=>none) id (.cells (cA D) true),nx:=nx0,cx:=cx0} Q:=by
  refine aR 0 rfl rfl (bR (fun q:SKC=> {fr:=[(0,.os id 0 n 1 gg),(1,.i a),(10,.i q.k),(11,.i J)],hp:=upd (fun _=>none) id (.cells (cA D) true),nx:=0,cx:=q.c}) (fun q=>Sort.scanUp (fun x=>ltN x D[a]!) D J q.k=I2∧id<q.c) (fun q=>J+1-q.k) rfl ⟨⟨I,_⟩,⟨hI,hid⟩,bD rfl rfl (U3 _)⟩ ?_)
  rintro⟨i,c⟩ ⟨hr,hc⟩ n0
  simp only at hr hc⊢
  by_cases hij:i≤J
  ·have hd1:decide ((i:Int)≤(J:Int))=true:=J5 (by omega)
   have hin:i<n:=by omega
   obtain⟨v,hv⟩: ∃v,ltN D[i]! D[a]! =v:=⟨_,rfl⟩
   rw[Sort.scanUp,J5 hij,Bool.true_and]at hr
   simp only[hv]at hr
   refine aA rfl (aA rfl (bB (Γ:=bC [(99,.pure true dY)]) (fun k=>if k=12 then 0 else 2) [43,0,1,10,11] bZ (aH rC aO) rfl rfl rfl (by kernel_rfl) (fun K hK=>?_)))
   simp(disch:=omega) only[Try.f101,go_sem,↓reduceIte,hd1,hv,U2]
   refine hK _ ?_
   refine aB ?_
   cases v
   ·simp only[Bool.false_eq_true,if_false]at hr
    subst hr
    refine eC (.tmp 43) rfl rfl rfl (fun h=>?_) (fun h=>?_)
    ·refine aI rfl ?_
     cases h
    exact aI rfl (bF 0 rfl rfl (aY (aZ (bE (hQ _ _ (by omega))))))
   simp only[if_true]at hr
   refine eC (.tmp 43) rfl rfl rfl (fun h=>?_) (fun h=>?_)
   ·refine aI rfl (aQ rfl (aB (aR 1 rfl rfl (aW [0,1,10,11] rfl rfl rfl fun K hK=>?_))))
    simp(disch:=omega) only[Try.f101,go_sem,↓reduceIte]
    refine hK _ ?_
    refine bU (bT ?_)
    refine⟨⟨i+1,_⟩,⟨hr,by simp only;omega⟩,by simp only;omega,bD (by simp only[Int.natCast_add,Int.natCast_one]) rfl (U3 _)⟩
   refine aI rfl ?_
   cases h
  have hd1:decide ((i:Int)≤(J:Int))=false:=J6 (by omega)
  rw[Sort.scanUp,J6 hij,Bool.false_and]at hr
  simp only[Bool.false_eq_true,if_false]at hr
  subst hr
  refine aA rfl (aA rfl (bB (Γ:=bC [(99,.pure true dY)]) (fun k=>if k=12 then 0 else 2) [43,0,1,10,11] bZ (aH rC aO) rfl rfl rfl (by kernel_rfl) (fun K hK=>?_)))
  simp(disch:=omega) only[Try.f101,go_sem,↓reduceIte,hd1]
  refine hK _ ?_
  refine aB (eC (.tmp 43) rfl rfl rfl (fun h=>?_) (fun h=>?_))
  ·refine aI rfl ?_
   cases h
  exact aI rfl (bF 0 rfl rfl (aY (aZ (bE (hQ _ _ (by omega))))))
set_option maxHeartbeats 1000000 in
theorem cJi {id n a I J J2 nx0 cx0:Nat} {gg:Bool} {D:Array T16} {Q:Exit→S→Prop} (hJ2:Sort.scanDown (fun x=> !ltN x D[a]!) D I J=J2) (hs:D.size=n) (hJ:J<n) (hI1:0<I) (ha:a<n) (hbig:n≤1000000) (hid:id<cx0)
  (hQ: ∀n1 c1,id<c1→Q .normal {fr:=[(0,.os id 0 n 1 gg),(1,.i (a:Int)),(10,.i (I:Int)),(11,.i (J2:Int))],hp:=upd (fun _=>none) id (.cells (cA D) true),nx:=n1,cx:=c1}):
  Awp Try.prog GLh Try.f101.ntmps (cl (cr (cr (cr (cr (aE Try.f101)))))) {fr:=[(0,.os id 0 n 1 gg),(1,.i (a:Int)),(10,.i (I:Int)),(11,.i (J:Int))],hp:=upd (fun _=>none) id (.cells (cA D) true),nx:=nx0,cx:=cx0} Q:=by
  refine aR 2 rfl rfl (bR (fun q:SKC=> {fr:=[(0,.os id 0 n 1 gg),(1,.i a),(10,.i I),(11,.i q.k)],hp:=upd (fun _=>none) id (.cells (cA D) true),nx:=0,cx:=q.c}) (fun q=>Sort.scanDown (fun x=> !ltN x D[a]!) D I q.k=J2∧q.k<n∧id<q.c) (fun q=>q.k) rfl ⟨⟨J,_⟩,⟨hJ2,hJ,hid⟩,bD rfl rfl (U3 _)⟩ ?_)
  rintro⟨j,c⟩ ⟨hr,hjn,hc⟩ n0
  simp only at hr hjn hc⊢
  by_cases hij:I≤j
  ·have hd1:decide ((I:Int)≤(j:Int))=true:=J5 (by omega)
   obtain⟨j,rfl⟩: ∃j',j=j'+1:=⟨j-1,by omega⟩
   have ej1:((j+1:Nat):Int)-1=(j:Int):=by omega
   obtain⟨v,hv⟩: ∃v,ltN D[j+1]! D[a]! =v:=⟨_,rfl⟩
   rw[Sort.scanDown,J5 hij,Bool.true_and]at hr
   simp only[hv]at hr
   refine aA rfl (aA rfl (bB (Γ:=bC [(99,.pure true dY)]) (fun k=>if k=12 then 0 else 2) [60,0,1,10,11] bZ (aH rC aO) rfl rfl rfl (by kernel_rfl) (fun K hK=>?_)))
   simp(disch:=omega) only[Try.f101,go_sem,↓reduceIte,hd1,hv,U2]
   refine hK _ ?_
   refine aB ?_
   cases v
   ·simp only[Bool.not_false,if_true]at hr
    refine eC (.tmp 60) rfl rfl rfl (fun h=>?_) (fun h=>?_)
    ·refine aI rfl (aQ rfl (aB (aR 3 rfl rfl (aW [0,1,10,11] rfl rfl rfl fun K hK=>?_))))
     simp(disch:=omega) only[Try.f101,go_sem,↓reduceIte,ej1]
     refine hK _ ?_
     refine bU (bT ?_)
     refine⟨⟨j,_⟩,⟨hr,by simp only;omega,by simp only;omega⟩,by simp only;omega,bD rfl rfl (U3 _)⟩
    refine aI rfl ?_
    cases h
   simp only[Bool.not_true,Bool.false_eq_true,if_false]at hr
   subst hr
   refine eC (.tmp 60) rfl rfl rfl (fun h=>?_) (fun h=>?_)
   ·refine aI rfl ?_
    cases h
   exact aI rfl (bF 2 rfl rfl (aY (aZ (bE (hQ _ _ (by omega))))))
  have hd1:decide ((I:Int)≤(j:Int))=false:=J6 (by omega)
  have hr2:j=J2:=by
   rw[←hr]
   cases j with
   |zero=>rfl
   |succ k=>rw[Sort.scanDown,J6 hij,Bool.false_and];rfl
  subst hr2
  refine aA rfl (aA rfl (bB (Γ:=bC [(99,.pure true dY)]) (fun k=>if k=12 then 0 else 2) [60,0,1,10,11] bZ (aH rC aO) rfl rfl rfl (by kernel_rfl) (fun K hK=>?_)))
  simp(disch:=omega) only[Try.f101,go_sem,↓reduceIte,hd1]
  refine hK _ ?_
  refine aB (eC (.tmp 60) rfl rfl rfl (fun h=>?_) (fun h=>?_))
  ·refine aI rfl ?_
   cases h
  exact aI rfl (bF 2 rfl rfl (aY (aZ (bE (hQ _ _ (by omega))))))
set_option maxHeartbeats 1000000 in
theorem cJf {id n a I J I2 nx0 cx0:Nat} {gg:Bool} {D:Array T16} {Q:Exit→S→Prop} (hI:Sort.scanUp (fun x=>ltN x D[a]!) D J I=I2) (hs:D.size=n) (hJ:J<n) (ha:a<n) (hbig:n≤1000000) (hid:id<cx0)
  (hQ: ∀n1 c1,id<c1→Q .normal {fr:=[(0,.os id 0 n 1 gg),(1,.i (a:Int)),(10,.i (I2:Int)),(11,.i (J:Int))],hp:=upd (fun _=>none) id (.cells (cA D) true),nx:=n1,cx:=c1}):
  Awp Try.prog GLh Try.f101.ntmps (cl (cl (cl (cl (cl (cr (cr (cr (cr (cr (cr (cr (cr (cr (aE Try.f101))))))))))))))) {fr:=[(0,.os id 0 n 1 gg),(1,.i (a:Int)),(10,.i (I:Int)),(11,.i (J:Int))],hp:=upd (fun _=>none) id (.cells (cA D) true),nx:=nx0,cx:=cx0} Q:=by
  refine aR 6 rfl rfl (bR (fun q:SKC=> {fr:=[(0,.os id 0 n 1 gg),(1,.i a),(10,.i q.k),(11,.i J)],hp:=upd (fun _=>none) id (.cells (cA D) true),nx:=0,cx:=q.c}) (fun q=>Sort.scanUp (fun x=>ltN x D[a]!) D J q.k=I2∧id<q.c) (fun q=>J+1-q.k) rfl ⟨⟨I,_⟩,⟨hI,hid⟩,bD rfl rfl (U3 _)⟩ ?_)
  rintro⟨i,c⟩ ⟨hr,hc⟩ n0
  simp only at hr hc⊢
  by_cases hij:i≤J
  ·have hd1:decide ((i:Int)≤(J:Int))=true:=J5 (by omega)
   have hin:i<n:=by omega
   obtain⟨v,hv⟩: ∃v,ltN D[i]! D[a]! =v:=⟨_,rfl⟩
   rw[Sort.scanUp,J5 hij,Bool.true_and]at hr
   simp only[hv]at hr
   refine aA rfl (aA rfl (bB (Γ:=bC [(99,.pure true dY)]) (fun k=>if k=12 then 0 else 2) [112,0,1,10,11] bZ (aH rC aO) rfl rfl rfl (by kernel_rfl) (fun K hK=>?_)))
   simp(disch:=omega) only[Try.f101,go_sem,↓reduceIte,hd1,hv,U2]
   refine hK _ ?_
   refine aB ?_
   cases v
   ·simp only[Bool.false_eq_true,if_false]at hr
    subst hr
    refine eC (.tmp 112) rfl rfl rfl (fun h=>?_) (fun h=>?_)
    ·refine aI rfl ?_
     cases h
    exact aI rfl (bF 6 rfl rfl (aY (aZ (bE (hQ _ _ (by omega))))))
   simp only[if_true]at hr
   refine eC (.tmp 112) rfl rfl rfl (fun h=>?_) (fun h=>?_)
   ·refine aI rfl (aQ rfl (aB (aR 7 rfl rfl (aW [0,1,10,11] rfl rfl rfl fun K hK=>?_))))
    simp(disch:=omega) only[Try.f101,go_sem,↓reduceIte]
    refine hK _ ?_
    refine bU (bT ?_)
    refine⟨⟨i+1,_⟩,⟨hr,by simp only;omega⟩,by simp only;omega,bD (by simp only[Int.natCast_add,Int.natCast_one]) rfl (U3 _)⟩
   refine aI rfl ?_
   cases h
  have hd1:decide ((i:Int)≤(J:Int))=false:=J6 (by omega)
  rw[Sort.scanUp,J6 hij,Bool.false_and]at hr
  simp only[Bool.false_eq_true,if_false]at hr
  subst hr
  refine aA rfl (aA rfl (bB (Γ:=bC [(99,.pure true dY)]) (fun k=>if k=12 then 0 else 2) [112,0,1,10,11] bZ (aH rC aO) rfl rfl rfl (by kernel_rfl) (fun K hK=>?_)))
  simp(disch:=omega) only[Try.f101,go_sem,↓reduceIte,hd1]
  refine hK _ ?_
  refine aB (eC (.tmp 112) rfl rfl rfl (fun h=>?_) (fun h=>?_))
  ·refine aI rfl ?_
   cases h
  exact aI rfl (bF 6 rfl rfl (aY (aZ (bE (hQ _ _ (by omega))))))
set_option maxHeartbeats 1000000 in
theorem cJh {id n a I J J2 nx0 cx0:Nat} {gg:Bool} {D:Array T16} {Q:Exit→S→Prop} (hJ2:Sort.scanDown (fun x=> !ltN x D[a]!) D I J=J2) (hs:D.size=n) (hJ:J<n) (hI1:0<I) (ha:a<n) (hbig:n≤1000000) (hid:id<cx0)
  (hQ: ∀n1 c1,id<c1→Q .normal {fr:=[(0,.os id 0 n 1 gg),(1,.i (a:Int)),(10,.i (I:Int)),(11,.i (J2:Int))],hp:=upd (fun _=>none) id (.cells (cA D) true),nx:=n1,cx:=c1}):
  Awp Try.prog GLh Try.f101.ntmps (cl (cr (cl (cl (cl (cl (cr (cr (cr (cr (cr (cr (cr (cr (cr (aE Try.f101)))))))))))))))) {fr:=[(0,.os id 0 n 1 gg),(1,.i (a:Int)),(10,.i (I:Int)),(11,.i (J:Int))],hp:=upd (fun _=>none) id (.cells (cA D) true),nx:=nx0,cx:=cx0} Q:=by
  refine aR 8 rfl rfl (bR (fun q:SKC=> {fr:=[(0,.os id 0 n 1 gg),(1,.i a),(10,.i I),(11,.i q.k)],hp:=upd (fun _=>none) id (.cells (cA D) true),nx:=0,cx:=q.c}) (fun q=>Sort.scanDown (fun x=> !ltN x D[a]!) D I q.k=J2∧q.k<n∧id<q.c) (fun q=>q.k) rfl ⟨⟨J,_⟩,⟨hJ2,hJ,hid⟩,bD rfl rfl (U3 _)⟩ ?_)
  rintro⟨j,c⟩ ⟨hr,hjn,hc⟩ n0
  simp only at hr hjn hc⊢
  by_cases hij:I≤j
  ·have hd1:decide ((I:Int)≤(j:Int))=true:=J5 (by omega)
   obtain⟨j,rfl⟩: ∃j',j=j'+1:=⟨j-1,by omega⟩
   have ej1:((j+1:Nat):Int)-1=(j:Int):=by omega
   obtain⟨v,hv⟩: ∃v,ltN D[j+1]! D[a]! =v:=⟨_,rfl⟩
   rw[Sort.scanDown,J5 hij,Bool.true_and]at hr
   simp only[hv]at hr
   refine aA rfl (aA rfl (bB (Γ:=bC [(99,.pure true dY)]) (fun k=>if k=12 then 0 else 2) [129,0,1,10,11] bZ (aH rC aO) rfl rfl rfl (by kernel_rfl) (fun K hK=>?_)))
   simp(disch:=omega) only[Try.f101,go_sem,↓reduceIte,hd1,hv,U2]
   refine hK _ ?_
   refine aB ?_
   cases v
   ·simp only[Bool.not_false,if_true]at hr
    refine eC (.tmp 129) rfl rfl rfl (fun h=>?_) (fun h=>?_)
    ·refine aI rfl (aQ rfl (aB (aR 9 rfl rfl (aW [0,1,10,11] rfl rfl rfl fun K hK=>?_))))
     simp(disch:=omega) only[Try.f101,go_sem,↓reduceIte,ej1]
     refine hK _ ?_
     refine bU (bT ?_)
     refine⟨⟨j,_⟩,⟨hr,by simp only;omega,by simp only;omega⟩,by simp only;omega,bD rfl rfl (U3 _)⟩
    refine aI rfl ?_
    cases h
   simp only[Bool.not_true,Bool.false_eq_true,if_false]at hr
   subst hr
   refine eC (.tmp 129) rfl rfl rfl (fun h=>?_) (fun h=>?_)
   ·refine aI rfl ?_
    cases h
   exact aI rfl (bF 8 rfl rfl (aY (aZ (bE (hQ _ _ (by omega))))))
  have hd1:decide ((I:Int)≤(j:Int))=false:=J6 (by omega)
  have hr2:j=J2:=by
   rw[←hr]
   cases j with
   |zero=>rfl
   |succ k=>rw[Sort.scanDown,J6 hij,Bool.false_and];rfl
  subst hr2
  refine aA rfl (aA rfl (bB (Γ:=bC [(99,.pure true dY)]) (fun k=>if k=12 then 0 else 2) [129,0,1,10,11] bZ (aH rC aO) rfl rfl rfl (by kernel_rfl) (fun K hK=>?_)))
  simp(disch:=omega) only[Try.f101,go_sem,↓reduceIte,hd1]
  refine hK _ ?_
  refine aB (eC (.tmp 129) rfl rfl rfl (fun h=>?_) (fun h=>?_))
  ·refine aI rfl ?_
   cases h
  exact aI rfl (bF 8 rfl rfl (aY (aZ (bE (hQ _ _ (by omega))))))
set_option maxHeartbeats 1000000 in
theorem cVf {id n a I J I2 nx0 cx0:Nat} {gg:Bool} {D:Array T16} {Q:Exit→S→Prop} (hI:Sort.scanUp (fun x=> !ltN D[a]! x) D J I=I2) (hs:D.size=n) (hJ:J<n) (ha:a<n) (hbig:n≤1000000) (hid:id<cx0)
  (hQ: ∀n1 c1,id<c1→Q .normal {fr:=[(0,.os id 0 n 1 gg),(1,.i (a:Int)),(9,.i (I2:Int)),(10,.i (J:Int))],hp:=upd (fun _=>none) id (.cells (cA D) true),nx:=n1,cx:=c1}):
  Awp Try.prog GLh Try.f100.ntmps (cl (cl (cl (cl (cl (cr (cr (cr (aE Try.f100))))))))) {fr:=[(0,.os id 0 n 1 gg),(1,.i (a:Int)),(9,.i (I:Int)),(10,.i (J:Int))],hp:=upd (fun _=>none) id (.cells (cA D) true),nx:=nx0,cx:=cx0} Q:=by
  refine aR 2 rfl rfl (bR (fun q:SKC=> {fr:=[(0,.os id 0 n 1 gg),(1,.i a),(9,.i q.k),(10,.i J)],hp:=upd (fun _=>none) id (.cells (cA D) true),nx:=0,cx:=q.c}) (fun q=>Sort.scanUp (fun x=> !ltN D[a]! x) D J q.k=I2∧id<q.c) (fun q=>J+1-q.k) rfl ⟨⟨I,_⟩,⟨hI,hid⟩,bD rfl rfl (U3 _)⟩ ?_)
  rintro⟨i,c⟩ ⟨hr,hc⟩ n0
  simp only at hr hc⊢
  by_cases hij:i≤J
  ·have hd1:decide ((i:Int)≤(J:Int))=true:=J5 (by omega)
   have hin:i<n:=by omega
   obtain⟨v,hv⟩: ∃v,ltN D[a]! D[i]! =v:=⟨_,rfl⟩
   rw[Sort.scanUp,J5 hij,Bool.true_and]at hr
   simp only[hv]at hr
   refine aA rfl (aA rfl (bB (Γ:=bC [(99,.pure true dY)]) (fun k=>if k=12 then 0 else 2) [43,0,1,9,10] bZ (aH rC aO) rfl rfl rfl (by kernel_rfl) (fun K hK=>?_)))
   simp(disch:=omega) only[Try.f100,go_sem,↓reduceIte,hd1,hv,U2]
   refine hK _ ?_
   refine aB ?_
   cases v
   ·simp only[Bool.not_false,if_true]at hr
    refine eC (.tmp 43) rfl rfl rfl (fun h=>?_) (fun h=>?_)
    ·refine aI rfl (aQ rfl (aB (aR 3 rfl rfl (aW [0,1,9,10] rfl rfl rfl fun K hK=>?_))))
     simp(disch:=omega) only[Try.f100,go_sem,↓reduceIte]
     refine hK _ ?_
     refine bU (bT ?_)
     refine⟨⟨i+1,_⟩,⟨hr,by simp only;omega⟩,by simp only;omega,bD (by simp only[Int.natCast_add,Int.natCast_one]) rfl (U3 _)⟩
    refine aI rfl ?_
    cases h
   simp only[Bool.not_true,Bool.false_eq_true,if_false]at hr
   subst hr
   refine eC (.tmp 43) rfl rfl rfl (fun h=>?_) (fun h=>?_)
   ·refine aI rfl ?_
    cases h
   exact aI rfl (bF 2 rfl rfl (aY (aZ (bE (hQ _ _ (by omega))))))
  have hd1:decide ((i:Int)≤(J:Int))=false:=J6 (by omega)
  rw[Sort.scanUp,J6 hij,Bool.false_and]at hr
  simp only[Bool.false_eq_true,if_false]at hr
  subst hr
  refine aA rfl (aA rfl (bB (Γ:=bC [(99,.pure true dY)]) (fun k=>if k=12 then 0 else 2) [43,0,1,9,10] bZ (aH rC aO) rfl rfl rfl (by kernel_rfl) (fun K hK=>?_)))
  simp(disch:=omega) only[Try.f100,go_sem,↓reduceIte,hd1]
  refine hK _ ?_
  refine aB (eC (.tmp 43) rfl rfl rfl (fun h=>?_) (fun h=>?_))
  ·refine aI rfl ?_
   cases h
  exact aI rfl (bF 2 rfl rfl (aY (aZ (bE (hQ _ _ (by omega))))))
set_option maxHeartbeats 1000000 in
theorem cVh {id n a I J J2 nx0 cx0:Nat} {gg:Bool} {D:Array T16} {Q:Exit→S→Prop} (hJ2:Sort.scanDown (fun x=>ltN D[a]! x) D I J=J2) (hs:D.size=n) (hJ:J<n) (hI1:0<I) (ha:a<n) (hbig:n≤1000000) (hid:id<cx0)
  (hQ: ∀n1 c1,id<c1→Q .normal {fr:=[(0,.os id 0 n 1 gg),(1,.i (a:Int)),(9,.i (I:Int)),(10,.i (J2:Int))],hp:=upd (fun _=>none) id (.cells (cA D) true),nx:=n1,cx:=c1}):
  Awp Try.prog GLh Try.f100.ntmps (cl (cr (cl (cl (cl (cl (cr (cr (cr (aE Try.f100)))))))))) {fr:=[(0,.os id 0 n 1 gg),(1,.i (a:Int)),(9,.i (I:Int)),(10,.i (J:Int))],hp:=upd (fun _=>none) id (.cells (cA D) true),nx:=nx0,cx:=cx0} Q:=by
  refine aR 4 rfl rfl (bR (fun q:SKC=> {fr:=[(0,.os id 0 n 1 gg),(1,.i a),(9,.i I),(10,.i q.k)],hp:=upd (fun _=>none) id (.cells (cA D) true),nx:=0,cx:=q.c}) (fun q=>Sort.scanDown (fun x=>ltN D[a]! x) D I q.k=J2∧q.k<n∧id<q.c) (fun q=>q.k) rfl ⟨⟨J,_⟩,⟨hJ2,hJ,hid⟩,bD rfl rfl (U3 _)⟩ ?_)
  rintro⟨j,c⟩ ⟨hr,hjn,hc⟩ n0
  simp only at hr hjn hc⊢
  by_cases hij:I≤j
  ·have hd1:decide ((I:Int)≤(j:Int))=true:=J5 (by omega)
   obtain⟨j,rfl⟩: ∃j',j=j'+1:=⟨j-1,by omega⟩
   have ej1:((j+1:Nat):Int)-1=(j:Int):=by omega
   obtain⟨v,hv⟩: ∃v,ltN D[a]! D[j+1]! =v:=⟨_,rfl⟩
   rw[Sort.scanDown,J5 hij,Bool.true_and]at hr
   simp only[hv]at hr
   refine aA rfl (aA rfl (bB (Γ:=bC [(99,.pure true dY)]) (fun k=>if k=12 then 0 else 2) [59,0,1,9,10] bZ (aH rC aO) rfl rfl rfl (by kernel_rfl) (fun K hK=>?_)))
   simp(disch:=omega) only[Try.f100,go_sem,↓reduceIte,hd1,hv,U2]
   refine hK _ ?_
   refine aB ?_
   cases v
   ·simp only[Bool.false_eq_true,if_false]at hr
    subst hr
    refine eC (.tmp 59) rfl rfl rfl (fun h=>?_) (fun h=>?_)
    ·refine aI rfl ?_
     cases h
    exact aI rfl (bF 4 rfl rfl (aY (aZ (bE (hQ _ _ (by omega))))))
   simp only[if_true]at hr
   refine eC (.tmp 59) rfl rfl rfl (fun h=>?_) (fun h=>?_)
   ·refine aI rfl (aQ rfl (aB (aR 5 rfl rfl (aW [0,1,9,10] rfl rfl rfl fun K hK=>?_))))
    simp(disch:=omega) only[Try.f100,go_sem,↓reduceIte,ej1]
    refine hK _ ?_
    refine bU (bT ?_)
    refine⟨⟨j,_⟩,⟨hr,by simp only;omega,by simp only;omega⟩,by simp only;omega,bD rfl rfl (U3 _)⟩
   refine aI rfl ?_
   cases h
  have hd1:decide ((I:Int)≤(j:Int))=false:=J6 (by omega)
  have hr2:j=J2:=by
   rw[←hr]
   cases j with
   |zero=>rfl
   |succ k=>rw[Sort.scanDown,J6 hij,Bool.false_and];rfl
  subst hr2
  refine aA rfl (aA rfl (bB (Γ:=bC [(99,.pure true dY)]) (fun k=>if k=12 then 0 else 2) [59,0,1,9,10] bZ (aH rC aO) rfl rfl rfl (by kernel_rfl) (fun K hK=>?_)))
  simp(disch:=omega) only[Try.f100,go_sem,↓reduceIte,hd1]
  refine hK _ ?_
  refine aB (eC (.tmp 59) rfl rfl rfl (fun h=>?_) (fun h=>?_))
  ·refine aI rfl ?_
   cases h
  exact aI rfl (bF 4 rfl rfl (aY (aZ (bE (hQ _ _ (by omega))))))
def ptG:List AV→List AV→Option (AV×List AV)
 |[.os _ 0 n 1 _,.i a,.i b,.i p],xs=>aK (unA xs) fun l=>aN (l.length=n∧0≤a∧a<b∧b≤n∧0≤p∧p<n∧n≤1000000) (some (.tup [.i (Sort.partition ltN l.toArray a.toNat b.toNat p.toNat).1,.b (Sort.partition ltN l.toArray a.toNat b.toNat p.toNat).2.1],cA (Sort.partition ltN l.toArray a.toNat b.toNat p.toNat).2.2))
 |_,_=>none
theorem cJj (id n:Nat) (gg:Bool) (a b p:Int) (xs:List AV):ptG [.os id 0 n 1 gg,.i a,.i b,.i p] xs=aK (unA xs) fun l=>aN (l.length=n∧0≤a∧a<b∧b≤n∧0≤p∧p<n∧n≤1000000) (some (.tup [.i (Sort.partition ltN l.toArray a.toNat b.toNat p.toNat).1,.b (Sort.partition ltN l.toArray a.toNat b.toNat p.toNat).2.1],cA (Sort.partition ltN l.toArray a.toNat b.toNat p.toNat).2.2)):=(rfl)
attribute [go_sem] cJj
set_option maxHeartbeats 2000000 in
theorem cUz:cQ Try.prog GLh 101 (dP ptG):=by
 refine dN Try.func101 (aT rfl) ?_
 intro id off n e gg rest nx xs r ys hg
 unfold ptG at hg
 split at hg
 ·rename_i id2 n2 gg2 a0 b0 p0 heq
  simp only[List.cons.injEq,AV.os.injEq]at heq
  obtain⟨⟨rfl,rfl,rfl,rfl,rfl⟩,rfl⟩:=heq
  replace hg:=aJ hg;obtain⟨l,hl,hg⟩:=hg
  replace hg:=aP hg;obtain⟨⟨hn,ha,hab,hbn,hp0,hpn,hbig⟩,hg⟩:=hg
  simp only[Option.some.injEq,Prod.mk.injEq]at hg;obtain⟨rfl,rfl⟩:=hg
  have:=dO hl;subst this
  obtain⟨a,rfl⟩:=Int.eq_ofNat_of_zero_le ha
  obtain⟨b,rfl⟩:=Int.eq_ofNat_of_zero_le (show 0≤b0 by omega)
  obtain⟨p,rfl⟩:=Int.eq_ofNat_of_zero_le hp0
  simp only[U2]at*
  obtain⟨d,hd⟩: ∃d,l.toArray=d:=⟨_,rfl⟩
  have hds:d.size=n:=by rw[←hd];simpa using hn
  have hab2:a<b:=by omega
  have hbn2:b≤n:=by omega
  have hpn2:p<n:=by omega
  rw[hd]
  refine⟨J1 rfl,fun hid=>?_⟩
  clear hl hn ha hab hbn hp0 hpn
  obtain⟨R,hR⟩: ∃R,Sort.partition ltN d a b p=R:=⟨_,rfl⟩
  rw[hR]
  unfold Sort.partition at hR
  obtain⟨D,hD⟩: ∃D,Sort.swp d a p=D:=⟨_,rfl⟩
  have hDs:D.size=n:=by rw[←hD,cW];exact hds
  have hsw:(d.setIfInBounds a d[p]!).setIfInBounds p d[a]! =D:=hD
  have ea:(a:Int)+1=((a+1:Nat):Int):=by omega
  have eb:(b:Int)-1=((b-1:Nat):Int):=by omega
  obtain⟨i2,hi2⟩: ∃i2,Sort.scanUp (fun x=>ltN x D[a]!) D (b-1) (a+1)=i2:=⟨_,rfl⟩
  have gi2:=Sort.scanUp_ge (fun x=>ltN x D[a]!) D (b-1) (a+1)
  rw[hi2]at gi2
  obtain⟨j2,hj2⟩: ∃j2,Sort.scanDown (fun x=> !ltN x D[a]!) D i2 (b-1)=j2:=⟨_,rfl⟩
  have gj2:=Sort.scanDown_le (fun x=> !ltN x D[a]!) D i2 (b-1)
  rw[hj2]at gj2
  simp only[hD,hi2,hj2]at hR
  have han:a<n:=by omega
  have hj2n:j2<n:=by omega
  refine aA rfl (aW [0,1,2,3] rfl rfl rfl fun K hK=>?_)
  simp(disch:=omega) only[Try.f101,go_sem,↓reduceIte]
  refine hK _ ?_
  refine aB (aA rfl (bB (Γ:=aL) (fun _=>2) [0,1,2] bZ (aD _ _) rfl rfl rfl (by kernel_rfl) (fun K hK=>?_)))
  simp(disch:=omega) only[Try.f101,go_sem,↓reduceIte,hsw,hds,U2]
  refine hK _ ?_
  refine aB (aA rfl (aW [0,1,10,11] rfl rfl rfl fun K hK=>?_))
  simp(disch:=omega) only[Try.f101,go_sem,↓reduceIte,ea,eb]
  refine hK _ ?_
  refine aB (aA rfl (cJg hi2 hDs (by omega) han hbig (by omega) (fun n1 c1 hc1=>?_)))
  refine aB (aA rfl (cJi hj2 hDs (by omega) (by omega) han hbig hc1 (fun n2 c2 hc2=>?_)))
  refine aB (aA rfl (aA rfl (aW [65,0,1,10,11] rfl rfl rfl fun K hK=>?_)))
  simp(disch:=omega) only[Try.f101,go_sem,↓reduceIte]
  refine hK _ ?_
  refine aB (bA (.tmp 65) rfl rfl rfl (fun h=>?_) (fun h=>?_))
  ·refine aI rfl ?_
   have hij:i2>j2:=by omega
   rw[J4 hij]at hR
   subst hR
   have hsw2:(D.setIfInBounds j2 D[a]!).setIfInBounds a D[j2]! =Sort.swp D j2 a:=rfl
   refine aA rfl (bB (Γ:=aL) (fun _=>2) [11] bZ (aD _ _) rfl rfl rfl (by kernel_rfl) (fun K hK=>?_))
   simp(disch:=omega) only[Try.f101,go_sem,↓reduceIte,hsw2,hDs,U2]
   refine hK _ ?_
   refine aB (aA rfl (aW [8,9] rfl rfl rfl fun K hK=>?_))
   simp(disch:=omega) only[Try.f101,go_sem,↓reduceIte]
   refine hK _ ?_
   exact aB (aS rfl (bI (⟨rfl,by simp only[aV,if_true],rfl,dZ _⟩)))
  refine aI rfl ?_
  have hij: ¬i2>j2:=by omega
  rw[J3 hij]at hR
  have hi2n:i2<n:=by omega
  have hsw2:(D.setIfInBounds i2 D[j2]!).setIfInBounds j2 D[i2]! =Sort.swp D i2 j2:=rfl
  have ei:(i2:Int)+1=((i2+1:Nat):Int):=by omega
  have ej:(j2:Int)-1=((j2-1:Nat):Int):=by omega
  obtain⟨⟨M,E⟩,hME⟩: ∃r,Sort.partLoop ltN a (i2+1) (j2-1) (Sort.swp D i2 j2)=r:=⟨_,rfl⟩
  simp only[hME]at hR
  subst hR
  refine aQ rfl (aB (aA rfl (bB (Γ:=aL) (fun _=>2) [0,1,10,11] bZ (aD _ _) rfl rfl rfl (by kernel_rfl) (fun K hK=>?_))))
  simp(disch:=omega) only[Try.f101,go_sem,↓reduceIte,hsw2,hDs,U2]
  refine hK _ ?_
  refine aB (aA rfl (aW [0,1,10,11] rfl rfl rfl fun K hK=>?_))
  simp(disch:=omega) only[Try.f101,go_sem,↓reduceIte,ei]
  refine hK _ ?_
  refine aB (aA rfl (aW [0,1,10,11] rfl rfl rfl fun K hK=>?_))
  simp(disch:=omega) only[Try.f101,go_sem,↓reduceIte,ej]
  refine hK _ ?_
  refine aB (aA rfl (aR 4 rfl rfl ?_))
  refine bR (fun p:SDJ=> {fr:=[(0,.os id 0 n 1 gg),(1,.i a),(10,.i p.k),(11,.i p.j)],hp:=upd (fun _=>none) id (.cells (cA p.d) true),nx:=0,cx:=p.c}) (fun p=>Sort.partLoop ltN a p.k p.j p.d=(M,E)∧p.d.size=n∧a<p.k∧p.j<n∧id<p.c) (fun p=>p.j+1-p.k) rfl ⟨⟨i2+1,j2-1,Sort.swp D i2 j2,_⟩,⟨hME,by simp only[cW];exact hDs,by simp only;omega,by simp only;omega,by simp only;omega⟩,bD rfl rfl (U3 _)⟩ ?_
  rintro⟨i,j,d1,c⟩ ⟨hr,hs1,hai,hjn,hc⟩ n0
  simp only at hr hs1 hai hjn hc⊢
  clear hsw hsw2 ei ej
  obtain⟨i3,hi3⟩: ∃i3,Sort.scanUp (fun x=>ltN x d1[a]!) d1 j i=i3:=⟨_,rfl⟩
  have gi3:=Sort.scanUp_ge (fun x=>ltN x d1[a]!) d1 j i
  rw[hi3]at gi3
  obtain⟨j3,hj3⟩: ∃j3,Sort.scanDown (fun x=> !ltN x d1[a]!) d1 i3 j=j3:=⟨_,rfl⟩
  have gj3:=Sort.scanDown_le (fun x=> !ltN x d1[a]!) d1 i3 j
  rw[hj3]at gj3
  rw[Sort.partLoop_eq,hi3,hj3]at hr
  have hj3n:j3<n:=by omega
  refine aR 5 rfl rfl (aA rfl (cJf hi3 hs1 hjn han hbig hc (fun n3 c3 hc3=>?_)))
  refine aB (aA rfl (cJh hj3 hs1 hjn (by omega) han hbig hc3 (fun n4 c4 hc4=>?_)))
  refine aB (aA rfl (aA rfl (aW [134,0,1,10,11] rfl rfl rfl fun K hK=>?_)))
  simp(disch:=omega) only[Try.f101,go_sem,↓reduceIte]
  refine hK _ ?_
  refine aB (bA (.tmp 134) rfl rfl rfl (fun h=>?_) (fun h=>?_))
  ·refine aI rfl ?_
   have hij3:i3>j3:=by omega
   rw[J4 hij3]at hr
   simp only[Prod.mk.injEq]at hr
   obtain⟨rfl,rfl⟩:=hr
   have hsw3:(d1.setIfInBounds j3 d1[a]!).setIfInBounds a d1[j3]! =Sort.swp d1 j3 a:=rfl
   refine bF 4 rfl rfl (aY (mW (aZ (bE ?_)) rfl))
   refine aB (aA rfl (bB (Γ:=aL) (fun _=>2) [11] bZ (aD _ _) rfl rfl rfl (by kernel_rfl) (fun K hK=>?_)))
   simp(disch:=omega) only[Try.f101,go_sem,↓reduceIte,hsw3,hs1,U2]
   refine hK _ ?_
   refine aB (aA rfl (aW [8,9] rfl rfl rfl fun K hK=>?_))
   simp(disch:=omega) only[Try.f101,go_sem,↓reduceIte]
   refine hK _ ?_
   exact aB (aS rfl (⟨rfl,by simp only[aV,if_true],rfl,dZ _⟩))
  refine aI rfl ?_
  have hij3: ¬i3>j3:=by omega
  rw[J3 hij3]at hr
  have hi3n:i3<n:=by omega
  have hsw3:(d1.setIfInBounds i3 d1[j3]!).setIfInBounds j3 d1[i3]! =Sort.swp d1 i3 j3:=rfl
  have ej3:(j3:Int)-1=((j3-1:Nat):Int):=by omega
  refine aQ rfl (aB (aA rfl (bB (Γ:=aL) (fun _=>2) [0,1,10,11] bZ (aD _ _) rfl rfl rfl (by kernel_rfl) (fun K hK=>?_))))
  simp(disch:=omega) only[Try.f101,go_sem,↓reduceIte,hsw3,hs1,U2]
  refine hK _ ?_
  refine aB (aA rfl (aW [0,1,10,11] rfl rfl rfl fun K hK=>?_))
  simp(disch:=omega) only[Try.f101,go_sem,↓reduceIte]
  refine hK _ ?_
  refine aB (aW [0,1,10,11] rfl rfl rfl fun K hK=>?_)
  simp(disch:=omega) only[Try.f101,go_sem,↓reduceIte,ej3]
  refine hK _ ?_
  refine bU (bT ?_)
  refine⟨⟨i3+1,j3-1,Sort.swp d1 i3 j3,_⟩,⟨hr,by simp only[cW];exact hs1,by simp only;omega,by simp only;omega,by simp only;omega⟩,by simp only;omega,⟨fun _=> .inr (by simp only[Int.natCast_add,Int.natCast_one]),bS (by simp(disch:=omega) only[aV,↓reduceIte,eq_self]) cB,U3 _⟩⟩
 cases hg
theorem fFv:bX Try.prog GLh 101 (.heap (dP ptG)):=⟨⟨_,Try.func101,rfl,rfl⟩,cUz⟩
def peG:List AV→List AV→Option (AV×List AV)
 |[.os _ 0 n 1 _,.i a,.i b,.i p],xs=>aK (unA xs) fun l=>aN (l.length=n∧0≤a∧a<b∧b≤n∧0≤p∧p<n∧n≤1000000) (some (.i (Sort.partitionEqual ltN l.toArray a.toNat b.toNat p.toNat).1,cA (Sort.partitionEqual ltN l.toArray a.toNat b.toNat p.toNat).2))
 |_,_=>none
theorem cJn (id n:Nat) (gg:Bool) (a b p:Int) (xs:List AV):peG [.os id 0 n 1 gg,.i a,.i b,.i p] xs=aK (unA xs) fun l=>aN (l.length=n∧0≤a∧a<b∧b≤n∧0≤p∧p<n∧n≤1000000) (some (.i (Sort.partitionEqual ltN l.toArray a.toNat b.toNat p.toNat).1,cA (Sort.partitionEqual ltN l.toArray a.toNat b.toNat p.toNat).2)):=(rfl)
attribute [go_sem] cJn
set_option maxHeartbeats 2000000 in
theorem cVg:cQ Try.prog GLh 100 (dP peG):=by
 refine dN Try.func100 (aT rfl) ?_
 intro id off n e gg rest nx xs r ys hg
 unfold peG at hg
 split at hg
 ·rename_i id2 n2 gg2 a0 b0 p0 heq
  simp only[List.cons.injEq,AV.os.injEq]at heq
  obtain⟨⟨rfl,rfl,rfl,rfl,rfl⟩,rfl⟩:=heq
  replace hg:=aJ hg;obtain⟨l,hl,hg⟩:=hg
  replace hg:=aP hg;obtain⟨⟨hn,ha,hab,hbn,hp0,hpn,hbig⟩,hg⟩:=hg
  simp only[Option.some.injEq,Prod.mk.injEq]at hg;obtain⟨rfl,rfl⟩:=hg
  have:=dO hl;subst this
  obtain⟨a,rfl⟩:=Int.eq_ofNat_of_zero_le ha
  obtain⟨b,rfl⟩:=Int.eq_ofNat_of_zero_le (show 0≤b0 by omega)
  obtain⟨p,rfl⟩:=Int.eq_ofNat_of_zero_le hp0
  simp only[U2]at*
  obtain⟨d,hd⟩: ∃d,l.toArray=d:=⟨_,rfl⟩
  have hds:d.size=n:=by rw[←hd];simpa using hn
  have hab2:a<b:=by omega
  have hbn2:b≤n:=by omega
  have hpn2:p<n:=by omega
  rw[hd]
  refine⟨J1 rfl,fun hid=>?_⟩
  clear hl hn ha hab hbn hp0 hpn
  obtain⟨⟨M,E⟩,hR⟩: ∃R,Sort.partitionEqual ltN d a b p=R:=⟨_,rfl⟩
  rw[hR]
  obtain⟨D,hD⟩: ∃D,Sort.swp d a p=D:=⟨_,rfl⟩
  have hDs:D.size=n:=by rw[←hD,cW];exact hds
  have hsw:(d.setIfInBounds a d[p]!).setIfInBounds p d[a]! =D:=hD
  have ea:(a:Int)+1=((a+1:Nat):Int):=by omega
  have eb:(b:Int)-1=((b-1:Nat):Int):=by omega
  have hME:Sort.partEqLoop ltN a (a+1) (b-1) D=(M,E):=by rw[←hD];exact hR
  have han:a<n:=by omega
  clear hR
  refine aA rfl (aW [0,1,2,3] rfl rfl rfl fun K hK=>?_)
  simp(disch:=omega) only[Try.f100,go_sem,↓reduceIte]
  refine hK _ ?_
  refine aB (aA rfl (bB (Γ:=aL) (fun _=>2) [0,1,2] bZ (aD _ _) rfl rfl rfl (by kernel_rfl) (fun K hK=>?_)))
  simp(disch:=omega) only[Try.f100,go_sem,↓reduceIte,hsw,hds,U2]
  refine hK _ ?_
  refine aB (aA rfl (aW [0,1,9,10] rfl rfl rfl fun K hK=>?_))
  simp(disch:=omega) only[Try.f100,go_sem,↓reduceIte,ea,eb]
  refine hK _ ?_
  refine aB (aA rfl (aR 0 rfl rfl ?_))
  refine bR (fun p:SDJ=> {fr:=[(0,.os id 0 n 1 gg),(1,.i a),(9,.i p.k),(10,.i p.j)],hp:=upd (fun _=>none) id (.cells (cA p.d) true),nx:=0,cx:=p.c}) (fun p=>Sort.partEqLoop ltN a p.k p.j p.d=(M,E)∧p.d.size=n∧a<p.k∧p.j<n∧id<p.c) (fun p=>p.j+1-p.k) rfl ⟨⟨a+1,b-1,D,_⟩,⟨hME,hDs,by simp only;omega,by simp only;omega,by simp only;omega⟩,bD rfl rfl (U3 _)⟩ ?_
  rintro⟨i,j,d1,c⟩ ⟨hr,hs1,hai,hjn,hc⟩ n0
  simp only at hr hs1 hai hjn hc⊢
  clear hsw ea eb
  obtain⟨i3,hi3⟩: ∃i3,Sort.scanUp (fun x=> !ltN d1[a]! x) d1 j i=i3:=⟨_,rfl⟩
  have gi3:=Sort.scanUp_ge (fun x=> !ltN d1[a]! x) d1 j i
  rw[hi3]at gi3
  obtain⟨j3,hj3⟩: ∃j3,Sort.scanDown (fun x=>ltN d1[a]! x) d1 i3 j=j3:=⟨_,rfl⟩
  have gj3:=Sort.scanDown_le (fun x=>ltN d1[a]! x) d1 i3 j
  rw[hj3]at gj3
  rw[Sort.partEqLoop_eq,hi3,hj3]at hr
  have hj3n:j3<n:=by omega
  refine aR 1 rfl rfl (aA rfl (cVf hi3 hs1 hjn han hbig hc (fun n3 c3 hc3=>?_)))
  refine aB (aA rfl (cVh hj3 hs1 hjn (by omega) han hbig hc3 (fun n4 c4 hc4=>?_)))
  refine aB (aA rfl (aA rfl (aW [64,0,1,9,10] rfl rfl rfl fun K hK=>?_)))
  simp(disch:=omega) only[Try.f100,go_sem,↓reduceIte]
  refine hK _ ?_
  refine aB (bA (.tmp 64) rfl rfl rfl (fun h=>?_) (fun h=>?_))
  ·refine aI rfl ?_
   have hij3:i3>j3:=by omega
   rw[J4 hij3]at hr
   simp only[Prod.mk.injEq]at hr
   obtain⟨rfl,rfl⟩:=hr
   refine bF 0 rfl rfl (aY (mW (aZ (bE ?_)) rfl))
   refine aB (aA rfl (aW [8] rfl rfl rfl fun K hK=>?_))
   simp(disch:=omega) only[Try.f100,go_sem,↓reduceIte]
   refine hK _ ?_
   exact aB (aS rfl (⟨rfl,by simp only[aV,if_true],rfl,dZ _⟩))
  refine aI rfl ?_
  have hij3: ¬i3>j3:=by omega
  rw[J3 hij3]at hr
  have hi3n:i3<n:=by omega
  have hsw3:(d1.setIfInBounds i3 d1[j3]!).setIfInBounds j3 d1[i3]! =Sort.swp d1 i3 j3:=rfl
  have ej3:(j3:Int)-1=((j3-1:Nat):Int):=by omega
  refine aQ rfl (aB (aA rfl (bB (Γ:=aL) (fun _=>2) [0,1,9,10] bZ (aD _ _) rfl rfl rfl (by kernel_rfl) (fun K hK=>?_))))
  simp(disch:=omega) only[Try.f100,go_sem,↓reduceIte,hsw3,hs1,U2]
  refine hK _ ?_
  refine aB (aA rfl (aW [0,1,9,10] rfl rfl rfl fun K hK=>?_))
  simp(disch:=omega) only[Try.f100,go_sem,↓reduceIte]
  refine hK _ ?_
  refine aB (aW [0,1,9,10] rfl rfl rfl fun K hK=>?_)
  simp(disch:=omega) only[Try.f100,go_sem,↓reduceIte,ej3]
  refine hK _ ?_
  refine bU (bT ?_)
  refine⟨⟨i3+1,j3-1,Sort.swp d1 i3 j3,_⟩,⟨hr,by simp only[cW];exact hs1,by simp only;omega,by simp only;omega,by simp only;omega⟩,by simp only;omega,⟨fun _=> .inr (by simp only[Int.natCast_add,Int.natCast_one]),bS (by simp(disch:=omega) only[aV,↓reduceIte,eq_self]) cB,U3 _⟩⟩
 cases hg
theorem fFw:bX Try.prog GLh 100 (.heap (dP peG)):=⟨⟨_,Try.func100,rfl,rfl⟩,cVg⟩
end Go.AX

namespace Go.AX
open Go Go.Proofs
theorem aVe: ∀(j:Nat) (d:Array T16),(Sort.shiftDown ltN j d).size=d.size
 |0,d=>rfl
 |j+1,d=>by
  rw[Sort.shiftDown]
  split
  ·rfl
  rw[aVe j,cW]
theorem aUu (b:Nat): ∀(m j:Nat) (d:Array T16),b-j≤m→(Sort.shiftUp ltN b j d).size=d.size:=by
 intro m
 induction m with
 |zero=>intro j d h;rw[Sort.shiftUp,J3 (by omega)]
 |succ m ih=>
  intro j d h
  rw[Sort.shiftUp]
  split
  ·split
   ·rfl
   rw[ih _ _ (by omega),cW]
  rfl
theorem cTm (b:Nat) (d:Array T16): ∀(m i:Nat),b-i≤m→i≤b→i≤Sort.scanSorted ltN d b i∧Sort.scanSorted ltN d b i≤b:=by
 intro m
 induction m with
 |zero=>intro i h hi;rw[Sort.scanSorted,J6 (by omega: ¬i<b),Bool.false_and];simp only[Bool.false_eq_true,if_false];omega
 |succ m ih=>
  intro i h hi
  rw[Sort.scanSorted]
  by_cases hib:i<b
  ·split
   ·have:=ih (i+1) (by omega) (by omega);omega
   omega
  rw[J6 hib,Bool.false_and];simp only[Bool.false_eq_true,if_false];omega
set_option maxHeartbeats 1000000 in
theorem cVd {id n a b I I2 nx0 cx0:Nat} {s:Int} {gg:Bool} {D:Array T16} {Q:Exit→S→Prop} (hI:Sort.scanSorted ltN D b I=I2) (hs:D.size=n) (hI1:0<I) (hb:b≤n) (hbig:n≤1000000) (hid:id<cx0)
  (hQ: ∀n1 c1,id<c1→Q .normal {fr:=[(0,.os id 0 n 1 gg),(1,.i (a:Int)),(2,.i (b:Int)),(7,.i (I2:Int)),(8,.i s)],hp:=upd (fun _=>none) id (.cells (cA D) true),nx:=n1,cx:=c1}):
  Awp Try.prog GLh Try.f98.ntmps (cl (cl (cl (cr (cl (cl (cr (cl (cr (cr (aE Try.f98))))))))))) {fr:=[(0,.os id 0 n 1 gg),(1,.i (a:Int)),(2,.i (b:Int)),(7,.i (I:Int)),(8,.i s)],hp:=upd (fun _=>none) id (.cells (cA D) true),nx:=nx0,cx:=cx0} Q:=by
  refine aR 2 rfl rfl (bR (fun q:SKC=> {fr:=[(0,.os id 0 n 1 gg),(1,.i a),(2,.i b),(7,.i q.k),(8,.i s)],hp:=upd (fun _=>none) id (.cells (cA D) true),nx:=0,cx:=q.c}) (fun q=>Sort.scanSorted ltN D b q.k=I2∧0<q.k∧id<q.c) (fun q=>b-q.k) rfl ⟨⟨I,_⟩,⟨hI,hI1,hid⟩,bD rfl rfl (U3 _)⟩ ?_)
  rintro⟨i,c⟩ ⟨hr,hi,hc⟩ n0
  simp only at hr hi hc⊢
  by_cases hij:i<b
  ·have hd1:decide ((i:Int)<(b:Int))=true:=J5 (by omega)
   have hin:i<n:=by omega
   have ei:(i:Int)-1=((i-1:Nat):Int):=by omega
   obtain⟨v,hv⟩: ∃v,ltN D[i]! D[i-1]! =v:=⟨_,rfl⟩
   rw[Sort.scanSorted,J5 hij,Bool.true_and,hv]at hr
   refine aA rfl (aA rfl (bB (Γ:=bC [(99,.pure true dY)]) (fun k=>if k=13 then 0 else 2) [32,0,1,2,7,8] bZ (aH rC aO) rfl rfl rfl (by kernel_rfl) (fun K hK=>?_)))
   simp(disch:=omega) only[Try.f98,go_sem,↓reduceIte,hd1,ei,hv,U2]
   refine hK _ ?_
   refine aB ?_
   cases v
   ·simp only[Bool.not_false,if_true]at hr
    refine eC (.tmp 32) rfl rfl rfl (fun h=>?_) (fun h=>?_)
    ·refine aI rfl (aQ rfl (aB (aR 3 rfl rfl (aW [0,1,2,7,8] rfl rfl rfl fun K hK=>?_))))
     simp(disch:=omega) only[Try.f98,go_sem,↓reduceIte]
     refine hK _ ?_
     refine bU (bT ?_)
     refine⟨⟨i+1,_⟩,⟨hr,by simp only;omega,by simp only;omega⟩,by simp only;omega,bD (by simp only[Int.natCast_add,Int.natCast_one]) rfl (U3 _)⟩
    refine aI rfl ?_
    cases h
   simp only[Bool.not_true,Bool.false_eq_true,if_false]at hr
   subst hr
   refine eC (.tmp 32) rfl rfl rfl (fun h=>?_) (fun h=>?_)
   ·refine aI rfl ?_
    cases h
   exact aI rfl (bF 2 rfl rfl (aY (aZ (bE (hQ _ _ (by omega))))))
  have hd1:decide ((i:Int)<(b:Int))=false:=J6 (by omega)
  rw[Sort.scanSorted,J6 hij,Bool.false_and]at hr
  simp only[Bool.false_eq_true,if_false]at hr
  subst hr
  refine aA rfl (aA rfl (bB (Γ:=bC [(99,.pure true dY)]) (fun k=>if k=13 then 0 else 2) [32,0,1,2,7,8] bZ (aH rC aO) rfl rfl rfl (by kernel_rfl) (fun K hK=>?_)))
  simp(disch:=omega) only[Try.f98,go_sem,↓reduceIte,hd1]
  refine hK _ ?_
  refine aB (eC (.tmp 32) rfl rfl rfl (fun h=>?_) (fun h=>?_))
  ·refine aI rfl ?_
   cases h
  exact aI rfl (bF 2 rfl rfl (aY (aZ (bE (hQ _ _ (by omega))))))
set_option maxHeartbeats 1000000 in
theorem cVc {id n a b i J nx0 cx0:Nat} {s:Int} {gg:Bool} {D E:Array T16} {Q:Exit→S→Prop} (hE:Sort.shiftDown ltN J D=E) (hs:D.size=n) (hJ:J<n) (hbig:n≤1000000) (hid:id<cx0)
  (hQ: ∀jj n1 c1,id<c1→Q .normal {fr:=[(0,.os id 0 n 1 gg),(1,.i (a:Int)),(2,.i (b:Int)),(7,.i (i:Int)),(8,.i s),(9,.i jj)],hp:=upd (fun _=>none) id (.cells (cA E) true),nx:=n1,cx:=c1}):
  Awp Try.prog GLh Try.f98.ntmps (cr (cl (cr (cl (cr (cr (cr (cr (cl (cl (cr (cl (cl (cr (cl (cr (cr (aE Try.f98)))))))))))))))))) {fr:=[(0,.os id 0 n 1 gg),(1,.i (a:Int)),(2,.i (b:Int)),(7,.i (i:Int)),(8,.i s),(9,.i (J:Int))],hp:=upd (fun _=>none) id (.cells (cA D) true),nx:=nx0,cx:=cx0} Q:=by
  refine aR 4 rfl rfl (bR (fun q:SDC=> {fr:=[(0,.os id 0 n 1 gg),(1,.i a),(2,.i b),(7,.i i),(8,.i s),(9,.i q.k)],hp:=upd (fun _=>none) id (.cells (cA q.d) true),nx:=0,cx:=q.c}) (fun q=>Sort.shiftDown ltN q.k q.d=E∧q.d.size=n∧q.k<n∧id<q.c) (fun q=>q.k) rfl ⟨⟨J,D,_⟩,⟨hE,hs,hJ,hid⟩,bD rfl rfl (U3 _)⟩ ?_)
  rintro⟨j,d1,c⟩ ⟨hr,hs1,hj,hc⟩ n0
  simp only at hr hs1 hj hc⊢
  refine aA rfl (aA rfl (aW [65,0,1,2,7,8,9] rfl rfl rfl fun K hK=>?_))
  simp(disch:=omega) only[Try.f98,go_sem,↓reduceIte]
  refine hK _ ?_
  refine aB (bA (.tmp 65) rfl rfl rfl (fun h=>?_) (fun h=>?_))
  ·refine aI rfl ?_
   obtain⟨j,rfl⟩: ∃j',j=j'+1:=⟨j-1,by omega⟩
   have ej1:((j+1:Nat):Int)-1=(j:Int):=by omega
   obtain⟨v,hv⟩: ∃v,ltN d1[j+1]! d1[j]! =v:=⟨_,rfl⟩
   rw[Sort.shiftDown,hv]at hr
   refine aQ rfl (aB (aA rfl (aR 5 rfl rfl (aA rfl (aA rfl (bB (Γ:=bC [(99,.pure true dY)]) (fun k=>if k=9 then 0 else 2) [78,0,1,2,7,8,9] bZ (aH rC aO) rfl rfl rfl (by kernel_rfl) (fun K hK=>?_)))))))
   simp(disch:=omega) only[Try.f98,go_sem,↓reduceIte,ej1,hv,U2]
   refine hK _ ?_
   refine aB ?_
   cases v
   ·simp only[Bool.not_false,if_true]at hr
    subst hr
    refine eC (.tmp 78) rfl rfl rfl (fun h=>?_) (fun h=>?_)
    ·refine aI rfl (bF 4 rfl rfl (aY (mW (aY (aZ (bE ?_))) rfl)))
     exact hQ _ _ _ (by omega)
    refine aI rfl ?_
    cases h
   simp only[Bool.not_true,Bool.false_eq_true,if_false]at hr
   refine eC (.tmp 78) rfl rfl rfl (fun h=>?_) (fun h=>?_)
   ·refine aI rfl ?_
    cases h
   refine aI rfl (aQ rfl (aB ?_))
   have hsw:(d1.setIfInBounds (j+1) d1[j]!).setIfInBounds j d1[j+1]! =Sort.swp d1 (j+1) j:=rfl
   refine bB (Γ:=aL) (fun _=>2) [0,1,2,7,8,9] bZ (aD _ _) rfl rfl rfl (by kernel_rfl) (fun K hK=>?_)
   simp(disch:=omega) only[Try.f98,go_sem,↓reduceIte,ej1,hsw,U2]
   refine hK _ ?_
   refine bU (aB (aW [0,1,2,7,8,9] rfl rfl rfl fun K hK=>?_))
   simp(disch:=omega) only[Try.f98,go_sem,↓reduceIte,ej1]
   refine hK _ ?_
   refine bT ?_
   refine⟨⟨j,Sort.swp d1 (j+1) j,_⟩,⟨hr,by simp only[cW];exact hs1,by simp only;omega,by simp only;omega⟩,by simp only;omega,⟨fun _=> .inr rfl,bS (by simp(disch:=omega) only[aV,↓reduceIte,eq_self]) cB,U3 _⟩⟩
  refine aI rfl ?_
  obtain rfl:j=0:=by omega
  rw[Sort.shiftDown]at hr
  subst hr
  exact bF 4 rfl rfl (aY (aZ (bE (hQ _ _ _ (by omega)))))
set_option maxHeartbeats 1000000 in
theorem cEw {id n a b i J nx0 cx0:Nat} {s:Int} {gg:Bool} {D E:Array T16} {Q:Exit→S→Prop} (hE:Sort.shiftUp ltN b J D=E) (hs:D.size=n) (hJ:0<J) (hb:b≤n) (hbig:n≤1000000) (hid:id<cx0)
  (hQ: ∀jj n1 c1,id<c1→Q .normal {fr:=[(0,.os id 0 n 1 gg),(1,.i (a:Int)),(2,.i (b:Int)),(7,.i (i:Int)),(8,.i s),(10,.i jj)],hp:=upd (fun _=>none) id (.cells (cA E) true),nx:=n1,cx:=c1}):
  Awp Try.prog GLh Try.f98.ntmps (cr (cl (cr (cr (cr (cr (cr (cr (cl (cl (cr (cl (cl (cr (cl (cr (cr (aE Try.f98)))))))))))))))))) {fr:=[(0,.os id 0 n 1 gg),(1,.i (a:Int)),(2,.i (b:Int)),(7,.i (i:Int)),(8,.i s),(10,.i (J:Int))],hp:=upd (fun _=>none) id (.cells (cA D) true),nx:=nx0,cx:=cx0} Q:=by
  refine aR 6 rfl rfl (bR (fun q:SDC=> {fr:=[(0,.os id 0 n 1 gg),(1,.i a),(2,.i b),(7,.i i),(8,.i s),(10,.i q.k)],hp:=upd (fun _=>none) id (.cells (cA q.d) true),nx:=0,cx:=q.c}) (fun q=>Sort.shiftUp ltN b q.k q.d=E∧q.d.size=n∧0<q.k∧id<q.c) (fun q=>b-q.k) rfl ⟨⟨J,D,_⟩,⟨hE,hs,hJ,hid⟩,bD rfl rfl (U3 _)⟩ ?_)
  rintro⟨j,d1,c⟩ ⟨hr,hs1,hj,hc⟩ n0
  simp only at hr hs1 hj hc⊢
  refine aA rfl (aA rfl (aW [103,0,1,2,7,8,10] rfl rfl rfl fun K hK=>?_))
  simp(disch:=omega) only[Try.f98,go_sem,↓reduceIte]
  refine hK _ ?_
  refine aB (bA (.tmp 103) rfl rfl rfl (fun h=>?_) (fun h=>?_))
  ·refine aI rfl ?_
   have hjb:j<b:=by omega
   have hjn:j<n:=by omega
   have ej1:(j:Int)-1=((j-1:Nat):Int):=by omega
   obtain⟨v,hv⟩: ∃v,ltN d1[j]! d1[j-1]! =v:=⟨_,rfl⟩
   rw[Sort.shiftUp,J4 hjb,hv]at hr
   refine aQ rfl (aB (aA rfl (aR 7 rfl rfl (aA rfl (aA rfl (bB (Γ:=bC [(99,.pure true dY)]) (fun k=>if k=9 then 0 else 2) [116,0,1,2,7,8,10] bZ (aH rC aO) rfl rfl rfl (by kernel_rfl) (fun K hK=>?_)))))))
   simp(disch:=omega) only[Try.f98,go_sem,↓reduceIte,ej1,hv,U2]
   refine hK _ ?_
   refine aB ?_
   cases v
   ·simp only[Bool.not_false,if_true]at hr
    subst hr
    refine eC (.tmp 116) rfl rfl rfl (fun h=>?_) (fun h=>?_)
    ·refine aI rfl (bF 6 rfl rfl (aY (mW (aY (aZ (bE ?_))) rfl)))
     exact hQ _ _ _ (by omega)
    refine aI rfl ?_
    cases h
   simp only[Bool.not_true,Bool.false_eq_true,if_false]at hr
   refine eC (.tmp 116) rfl rfl rfl (fun h=>?_) (fun h=>?_)
   ·refine aI rfl ?_
    cases h
   refine aI rfl (aQ rfl (aB ?_))
   have hsw:(d1.setIfInBounds j d1[j-1]!).setIfInBounds (j-1) d1[j]! =Sort.swp d1 j (j-1):=rfl
   refine bB (Γ:=aL) (fun _=>2) [0,1,2,7,8,10] bZ (aD _ _) rfl rfl rfl (by kernel_rfl) (fun K hK=>?_)
   simp(disch:=omega) only[Try.f98,go_sem,↓reduceIte,ej1,hsw,U2]
   refine hK _ ?_
   refine bU (aB (aW [0,1,2,7,8,10] rfl rfl rfl fun K hK=>?_))
   simp(disch:=omega) only[Try.f98,go_sem,↓reduceIte]
   refine hK _ ?_
   refine bT ?_
   refine⟨⟨j+1,Sort.swp d1 j (j-1),_⟩,⟨hr,by simp only[cW];exact hs1,by simp only;omega,by simp only;omega⟩,by simp only;omega,⟨fun _=> .inr (by simp only[Int.natCast_add,Int.natCast_one]),bS (by simp(disch:=omega) only[aV,↓reduceIte,eq_self]) cB,U3 _⟩⟩
  refine aI rfl ?_
  have hjb: ¬j<b:=by omega
  rw[Sort.shiftUp,J3 hjb]at hr
  subst hr
  exact bF 6 rfl rfl (aY (aZ (bE (hQ _ _ _ (by omega)))))
structure SPI where
 s:Nat
 i:Nat
 d:Array T16
 c:Nat
def piG:List AV→List AV→Option (AV×List AV)
 |[.os _ 0 n 1 _,.i a,.i b],xs=>aK (unA xs) fun l=>aN (l.length=n∧0≤a∧a<b∧b≤n∧n≤1000000) (some (.b (Sort.partialInsertionSort ltN l.toArray a.toNat b.toNat).2,cA (Sort.partialInsertionSort ltN l.toArray a.toNat b.toNat).1))
 |_,_=>none
theorem cJm (id n:Nat) (gg:Bool) (a b:Int) (xs:List AV):piG [.os id 0 n 1 gg,.i a,.i b] xs=aK (unA xs) fun l=>aN (l.length=n∧0≤a∧a<b∧b≤n∧n≤1000000) (some (.b (Sort.partialInsertionSort ltN l.toArray a.toNat b.toNat).2,cA (Sort.partialInsertionSort ltN l.toArray a.toNat b.toNat).1)):=(rfl)
attribute [go_sem] cJm
set_option maxHeartbeats 2000000 in
theorem cVe:cQ Try.prog GLh 98 (dP piG):=by
 refine dN Try.func98 (aT rfl) ?_
 intro id off n e gg rest nx xs r ys hg
 unfold piG at hg
 split at hg
 ·rename_i id2 n2 gg2 a0 b0 heq
  simp only[List.cons.injEq,AV.os.injEq]at heq
  obtain⟨⟨rfl,rfl,rfl,rfl,rfl⟩,rfl⟩:=heq
  replace hg:=aJ hg;obtain⟨l,hl,hg⟩:=hg
  replace hg:=aP hg;obtain⟨⟨hn,ha,hab,hbn,hbig⟩,hg⟩:=hg
  simp only[Option.some.injEq,Prod.mk.injEq]at hg;obtain⟨rfl,rfl⟩:=hg
  have:=dO hl;subst this
  obtain⟨a,rfl⟩:=Int.eq_ofNat_of_zero_le ha
  obtain⟨b,rfl⟩:=Int.eq_ofNat_of_zero_le (show 0≤b0 by omega)
  simp only[U2]at*
  obtain⟨d,hd⟩: ∃d,l.toArray=d:=⟨_,rfl⟩
  have hds:d.size=n:=by rw[←hd];simpa using hn
  have hab2:a<b:=by omega
  have hbn2:b≤n:=by omega
  rw[hd]
  refine⟨J1 rfl,fun hid=>?_⟩
  clear hl hn ha hab hbn
  obtain⟨⟨E,F⟩,hR⟩: ∃R,Sort.partialInsertionSort ltN d a b=R:=⟨_,rfl⟩
  rw[hR]
  have hR0:Sort.partialIns ltN a b 5 (a+1) d=(E,F):=hR
  clear hR
  have ebL:(b:Int)-(a:Int)=((b-a:Nat):Int):=by omega
  refine aA rfl (aW [0,1,2] rfl rfl rfl fun K hK=>?_)
  simp(disch:=omega) only[Try.f98,go_sem,↓reduceIte]
  refine hK _ ?_
  refine aB (aA rfl (aW [0,1,2,7] rfl rfl rfl fun K hK=>?_))
  simp(disch:=omega) only[Try.f98,go_sem,↓reduceIte]
  refine hK _ ?_
  refine aB (aA rfl (aA rfl (aW [0,1,2,7,8] rfl rfl rfl fun K hK=>?_)))
  simp(disch:=omega) only[Try.f98,go_sem,↓reduceIte]
  refine hK _ ?_
  refine aB (aR 0 rfl rfl ?_)
  refine bR (fun p:SPI=> {fr:=[(0,.os id 0 n 1 gg),(1,.i a),(2,.i b),(7,.i p.i),(8,.i (5-(p.s:Int)))],hp:=upd (fun _=>none) id (.cells (cA p.d) true),nx:=0,cx:=p.c}) (fun p=>Sort.partialIns ltN a b p.s p.i p.d=(E,F)∧p.d.size=n∧a<p.i∧p.i≤b∧p.s≤5∧id<p.c) (fun p=>p.s) rfl ⟨⟨5,a+1,d,_⟩,⟨hR0,hds,by simp only;omega,by simp only;omega,by simp only;omega,by simp only;omega⟩,bD (by simp only[Int.natCast_add,Int.cast_ofNat_Int,Int.sub_self]) rfl (U3 _)⟩ ?_
  rintro⟨s,i,d1,c⟩ ⟨hr,hs1,hai,hib,hs5,hc⟩ n0
  simp only at hr hs1 hai hib hs5 hc⊢
  refine aA rfl (aA rfl (aW [14,0,1,2,7,8] rfl rfl rfl fun K hK=>?_))
  simp(disch:=omega) only[Try.f98,go_sem,↓reduceIte]
  refine hK _ ?_
  refine aB (bA (.tmp 14) rfl rfl rfl (fun h=>?_) (fun h=>?_))
  ·refine aI rfl ?_
   obtain⟨s,rfl⟩: ∃s',s=s'+1:=⟨s-1,by omega⟩
   obtain⟨i2,hi2⟩: ∃i2,Sort.scanSorted ltN d1 b i=i2:=⟨_,rfl⟩
   have gi2:=cTm b d1 _ i (U3 _) hib
   rw[hi2]at gi2
   rw[Sort.partialIns,hi2]at hr
   refine aQ rfl (aB (aA rfl (aR 1 rfl rfl (aA rfl (cVd hi2 hs1 (by omega) hbn2 hbig (by omega) (fun n1 c1 hc1=>?_))))))
   refine aB (aA rfl (aA rfl (aW [37,0,1,2,7,8] rfl rfl rfl fun K hK=>?_)))
   simp(disch:=omega) only[Try.f98,go_sem,↓reduceIte]
   refine hK _ ?_
   refine aB (bA (.tmp 37) rfl rfl rfl (fun h=>?_) (fun h=>?_))
   ·refine aI rfl ?_
    have hib2:i2=b:=by omega
    rw[J4 hib2]at hr
    simp only[Prod.mk.injEq]at hr
    obtain⟨rfl,rfl⟩:=hr
    refine aA rfl (aW [6] rfl rfl rfl fun K hK=>?_)
    simp(disch:=omega) only[Try.f98,go_sem,↓reduceIte]
    refine hK _ ?_
    exact aB (aS rfl (bI (bN (bI (dF (bN (bI (⟨rfl,by simp only[aV,if_true],rfl,dZ _⟩))))))))
   refine aI rfl ?_
   have hib2: ¬i2=b:=by omega
   rw[J3 hib2]at hr
   refine aQ rfl (aB (aA rfl (aA rfl (aW [41,0,1,2,7,8] rfl rfl rfl fun K hK=>?_))))
   simp(disch:=omega) only[Try.f98,go_sem,↓reduceIte]
   refine hK _ ?_
   refine aB (bA (.tmp 41) rfl rfl rfl (fun h=>?_) (fun h=>?_))
   ·refine aI rfl ?_
    have hab50:b-a<50:=by omega
    rw[J4 hab50]at hr
    simp only[Prod.mk.injEq]at hr
    obtain⟨rfl,rfl⟩:=hr
    refine aA rfl (aW [6] rfl rfl rfl fun K hK=>?_)
    simp(disch:=omega) only[Try.f98,go_sem,↓reduceIte]
    refine hK _ ?_
    exact aB (aS rfl (bI (bN (bI (dF (bN (bI (⟨rfl,by simp only[aV,if_true],rfl,dZ _⟩))))))))
   refine aI rfl ?_
   have hab50: ¬b-a<50:=by omega
   rw[J3 hab50]at hr
   refine aQ rfl (aB (aA rfl ?_))
   have hin:i2<n:=by omega
   have ei2:(i2:Int)-1=((i2-1:Nat):Int):=by omega
   have hsw:(d1.setIfInBounds i2 d1[i2-1]!).setIfInBounds (i2-1) d1[i2]! =Sort.swp d1 i2 (i2-1):=rfl
   refine bB (Γ:=aL) (fun _=>2) [0,1,2,7,8] bZ (aD _ _) rfl rfl rfl (by kernel_rfl) (fun K hK=>?_)
   simp(disch:=omega) only[Try.f98,go_sem,↓reduceIte,ei2,hsw,U2]
   refine hK _ ?_
   refine aB ?_
   obtain⟨d2,hd2⟩: ∃d2,Sort.swp d1 i2 (i2-1)=d2:=⟨_,rfl⟩
   have hs2:d2.size=n:=by rw[←hd2,cW];exact hs1
   rw[hd2]
   simp only[hd2]at hr
   have e5:5-((s+1:Nat):Int)+1=5-(s:Int):=by omega
   have ei3:(i2:Int)+1=((i2+1:Nat):Int):=by omega
   clear hsw
   refine aA rfl (aA rfl (aW [61,0,1,2,7,8] rfl rfl rfl fun K hK=>?_))
   simp(disch:=omega) only[Try.f98,go_sem,↓reduceIte]
   refine hK _ ?_
   refine aB (bA (.tmp 61) rfl rfl rfl (fun h=>?_) (fun h=>?_))
   ·refine aI rfl ?_
    have hia:i2-a≥2:=by omega
    simp only[J4 hia]at hr
    obtain⟨d3,hd3⟩: ∃d3,Sort.shiftDown ltN (i2-1) d2=d3:=⟨_,rfl⟩
    have hs3:d3.size=n:=by rw[←hd3,aVe];exact hs2
    rw[hd3]at hr
    refine aA rfl (aW [0,1,2,7,8,9] rfl rfl rfl fun K hK=>?_)
    simp(disch:=omega) only[Try.f98,go_sem,↓reduceIte,ei2]
    refine hK _ ?_
    refine aB (cVc hd3 hs2 (by omega) hbig (by omega) (fun jj n2 c2 hc2=>?_))
    refine aB (aA rfl (aW [98,0,1,2,7,8] rfl rfl rfl fun K hK=>?_))
    simp(disch:=omega) only[Try.f98,go_sem,↓reduceIte]
    refine hK _ ?_
    refine aB (bA (.tmp 98) rfl rfl rfl (fun h=>?_) (fun h=>?_))
    ·refine aI rfl ?_
     have hbi:b-i2≥2:=by omega
     simp only[J4 hbi]at hr
     obtain⟨d4,hd4⟩: ∃d4,Sort.shiftUp ltN b (i2+1) d3=d4:=⟨_,rfl⟩
     have hs4:d4.size=n:=by rw[←hd4,aUu b _ _ _ (U3 _)];exact hs3
     rw[hd4]at hr
     refine aA rfl (aW [0,1,2,7,8,10] rfl rfl rfl fun K hK=>?_)
     simp(disch:=omega) only[Try.f98,go_sem,↓reduceIte,ei3]
     refine hK _ ?_
     refine aB (cEw hd4 hs3 (by omega) hbn2 hbig (by omega) (fun jj n3 c3 hc3=>?_))
     refine bU (aB (aW [0,1,2,7,8] rfl rfl rfl fun K hK=>?_))
     simp(disch:=omega) only[Try.f98,go_sem,↓reduceIte]
     refine hK _ ?_
     refine bT ?_
     refine⟨⟨s,i2,d4,_⟩,⟨hr,hs4,by simp only;omega,by simp only;omega,by simp only;omega,by simp only;omega⟩,by simp only;omega,bD (by simp only[e5]) rfl (U3 _)⟩
    refine aI rfl ?_
    have hbi: ¬b-i2≥2:=by omega
    simp only[J3 hbi]at hr
    refine aQ rfl (bU (aB (aW [0,1,2,7,8] rfl rfl rfl fun K hK=>?_)))
    simp(disch:=omega) only[Try.f98,go_sem,↓reduceIte]
    refine hK _ ?_
    refine bT ?_
    refine⟨⟨s,i2,d3,_⟩,⟨hr,hs3,by simp only;omega,by simp only;omega,by simp only;omega,by simp only;omega⟩,by simp only;omega,bD (by simp only[e5]) rfl (U3 _)⟩
   refine aI rfl ?_
   have hia: ¬i2-a≥2:=by omega
   simp only[J3 hia]at hr
   refine aQ rfl (aB (aA rfl (aW [98,0,1,2,7,8] rfl rfl rfl fun K hK=>?_)))
   simp(disch:=omega) only[Try.f98,go_sem,↓reduceIte]
   refine hK _ ?_
   refine aB (bA (.tmp 98) rfl rfl rfl (fun h=>?_) (fun h=>?_))
   ·refine aI rfl ?_
    have hbi:b-i2≥2:=by omega
    simp only[J4 hbi]at hr
    obtain⟨d4,hd4⟩: ∃d4,Sort.shiftUp ltN b (i2+1) d2=d4:=⟨_,rfl⟩
    have hs4:d4.size=n:=by rw[←hd4,aUu b _ _ _ (U3 _)];exact hs2
    rw[hd4]at hr
    refine aA rfl (aW [0,1,2,7,8,10] rfl rfl rfl fun K hK=>?_)
    simp(disch:=omega) only[Try.f98,go_sem,↓reduceIte,ei3]
    refine hK _ ?_
    refine aB (cEw hd4 hs2 (by omega) hbn2 hbig (by omega) (fun jj n3 c3 hc3=>?_))
    refine bU (aB (aW [0,1,2,7,8] rfl rfl rfl fun K hK=>?_))
    simp(disch:=omega) only[Try.f98,go_sem,↓reduceIte]
    refine hK _ ?_
    refine bT ?_
    refine⟨⟨s,i2,d4,_⟩,⟨hr,hs4,by simp only;omega,by simp only;omega,by simp only;omega,by simp only;omega⟩,by simp only;omega,bD (by simp only[e5]) rfl (U3 _)⟩
   refine aI rfl ?_
   have hbi: ¬b-i2≥2:=by omega
   simp only[J3 hbi]at hr
   refine aQ rfl (bU (aB (aW [0,1,2,7,8] rfl rfl rfl fun K hK=>?_)))
   simp(disch:=omega) only[Try.f98,go_sem,↓reduceIte]
   refine hK _ ?_
   refine bT ?_
   refine⟨⟨s,i2,d2,_⟩,⟨hr,hs2,by simp only;omega,by simp only;omega,by simp only;omega,by simp only;omega⟩,by simp only;omega,bD (by simp only[e5]) rfl (U3 _)⟩
  refine aI rfl ?_
  obtain rfl:s=0:=by omega
  rw[Sort.partialIns]at hr
  simp only[Prod.mk.injEq]at hr
  obtain⟨rfl,rfl⟩:=hr
  refine bF 0 rfl rfl (aY (aZ (bE (aB (aA rfl (aW [6] rfl rfl rfl fun K hK=>?_))))))
  simp(disch:=omega) only[Try.f98,go_sem,↓reduceIte]
  refine hK _ ?_
  exact aB (aS rfl (⟨rfl,by simp only[aV,if_true],rfl,dZ _⟩))
 cases hg
theorem ok98:bX Try.prog GLh 98 (.heap (dP piG)):=⟨⟨_,Try.func98,rfl,rfl⟩,cVe⟩
end Go.AX
