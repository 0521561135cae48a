/-
  AX, part AyC: calls that panic: what has been done is left, and all own objects are given up. AX, part AyD: a region that draws its order and ends with a call that panics. AX, part AyE: functions that turn one own object in place, answer with what may be read from then on, or panic. AX, part AyF: functions that defer one closure, which recovers. AX, part AyG: a region that draws its order, walked in each order that it may take (where operations meet that need not wait for each other, such as a load of one own object and a store to another). AX, part AyH: a plain function that is handed a closure over an own object. AX, part AyI: a plain function that is handed something and a closure over an own object. AX, part AyJ: an own object that is no more written becomes a plain one. AX, part AyK: a region that draws its order, in which one pair of operations that don't wait for each other meets: two orders are walked. AX, more, part M: maps: evaluation. Disk, part A: small functions; slices cloned; what a disk is in memory. Data, part R2: from calls over abstract values to the given rows. Data, part T2: the lift of a statement's call to its row. Tree, part T: statements of five and more arguments. Disk, part B: what a disk is in memory; asked for its sectors, their size, its power; cut. Disk, part C: a disk's sectors' size, its power; what may be asked for; the power cut. Disk, part D: sectors read and written. Disk, part E: sectors written. Disk, part F: a new one. Disk, part G: a map's keys, collected and sorted (the kit's own contracts, laid at this program). Disk, part H: contracts of a map's keys, sorted. Disk, part I: what was written is settled. Disk, part J: synced, crashed. Journal, part A: check sums; numbers put into bytes, and read. AX, more, part N: a region that draws its order, where operations are apart by the own objects that they touch. AX, more, part Q: a region that draws its order, where operations are apart by the own objects that they touch: the rule. Journal, part B: the document's check sum; what must hold; how many sectors and bytes a side has; room; records' bytes. Journal, part C: slices.Grow from nothing, slices.Concat. Journal, part D: what has room; what is blank; records' bytes; room; how many times. Journal, part E: what is blank; room; how many times. Journal, part F: records' bytes. Journal, part G: sectors read. Journal, part H: a side's bytes and the head that tells of them, written: the head.
-/
import Derived.Test.YtojgbdpghlbagaaBB
import Derived.Defers
import Derived.Recover
import Derived.Test.YtojgbdpghlbagaaRows
import Derived.ProofKit
import Derived.LaidMore
import Derived.OpenShut
import Derived.Stop.Joined
import Derived.WideKeyArgs
import Derived.SevenTiedAt
import Derived.Below
import Derived.ChangeSame
import Derived.Shelf.SlIterI.Nil
import Derived.Shelf.SlIterI.Sorted
import Derived.Shelf.SortM.Plain
import Derived.Shelf.SortM.SortNone
import Derived.Ground.GgzProg
import Derived.Ground.SlgmProg
import Derived.Test.YtojgbdpghlbagaaProg
import Derived.KernelRfl
namespace Go.AX
open Go
def dE (P:Program) (GL:Nat→Option (List AV)) (f:FuncId) (ch:List PanicEntry) (g:List AV→H→Nat→Option (H×Nat)):Prop:=
 ∀(c:Ctx) (σ:Nat→Loc) (I:Nat→Prop) (w:World) (hp:H) (nx:Nat) (args:List AV) (vals:Array Value) (hp':H) (nx':Nat),
  c.GL=GL→Inv c σ I w hp (fun id=>nx≤id)→vals.size=args.length→(∀i (_h:i<args.length),Rel σ I w args[i] (vals.getD i undef))→g args hp nx=some (hp',nx')→
  nx≤nx'∧Calls P f vals w fun e w'=> ∃σ' I',e=.panicked ch∧Inv c σ' I' w' hp' (fun id=>nx'≤id)∧Grow σ I w σ' I' w'∧(∀id,id<nx→σ id=.unset→σ' id=.unset)
def bIo (GL:Nat→Option (List AV)) (f:FuncId) (g:List AV→H→Nat→Option (H×Nat)) (Z:S→Prop) (o:LOp) (t:S):Prop:=
 gdS t.fr o.g=some true∧match o.op with
  | .call c=>match c.callee with
   | .value fo=>match ev GL t.fr fo with
    | .fn f' caps=>f'=f∧∃p,g (c.args.toList.map (ev GL t.fr)++caps) t.hp t.cx=some p∧Z {fr:=t.fr,hp:=p.1,nx:=t.nx,cx:=p.2}
    |_=>False
   |_=>False
  |_=>False
structure cRz (hp':H) (nx':Nat) (t:S):Prop where
 hp: ∀id o,hp' id=some o→t.hp id=some o
 cx:t.cx≤nx'
def dYi (ch:List PanicEntry) (hp':H) (nx':Nat):Exit→S→Prop
 | .panic c,t=>c=ch∧cRz hp' nx' t
 |_,_=>False
section
variable {P : Program} {GL : Nat → Option (List AV)} {nt : Nat} {Q : Exit → S → Prop}
theorem bBh {ops:Array Oper} {o:Oper} {fr:List (Nat×AV)} {a:Act} {σ:Nat→Loc} {I:Nat→Prop} {w:World} {b:Bool} (hb:gdO ops fr o=some b) (hf: ∀t,Rel σ I w (dG fr t) (a.tmps.getD t undef)):Region.wanted o (yielded ops a.tmps)=b:=by
 unfold gdO at hb
 cases hgd:o.guard with
 |none=>rw[hgd]at hb;obtain rfl:=J0 hb;simp[Region.wanted,hgd]
 |some jw=>
  obtain⟨j,want⟩:=jw
  rw[hgd]at hb
  simp only at hb
  split at hb
  ·rename_i t ht
   simp only[Region.wanted,hgd]
   exact aHc (s:= {fr:=fr,hp:=fun _=>none,nx:=0,cx:=0}) ht hb hf
  cases hb
theorem bNa (ops:Array Oper) (fr:List (Nat×AV)) (o:Oper):gdO ops fr o=gdS fr (aG ops o).g:=by
 unfold gdO aG
 cases o.guard with
 |none=>rfl
 |some p=>
  simp only[Option.map_some]
  cases (ops[p.1]?).bind (·.dst)<;>rfl
theorem bIn {c:Ctx} {σ0:Nat→Loc} {I0:Nat→Prop} {w0:World} {rem:Nat→Prop} {t:S} {a:Act} {w:World} {ops:Array Oper} {o:Oper} {f:FuncId} {ch:List PanicEntry} {g:List AV→H→Nat→Option (H×Nat)} {K:Act→World→Prop} {Q':Exit→Act→World→Prop}
  (hpan:dE P c.GL f ch g) (hcall:cJ P f) {Z:S→Prop} (hc:bIo c.GL f g Z (aG ops o) t) (hR:R c σ0 I0 w0 rem t a w)
  (hQ: ∀t' a' w',Z t'→R c σ0 I0 w0 (fun _=>False) t' a' w'→Q' (.panic ch) a' w'):
  Region.wanted o (yielded ops a.tmps)=true∧o.wp P a w K Q':=by
 obtain⟨hgd,hc⟩:=hc
 obtain⟨⟨σ,I,hi,hg,hf⟩,hd,hsz,hlt,hlt0⟩:=hR
 refine⟨bBh (by rw[bNa];exact hgd) hf,?_⟩
 have hρ:=aJt hi hf
 obtain⟨dst,op,type,pos,after,guard⟩:=o
 simp only[aG]at hc
 split at hc
 rotate_left
 ·exact hc.elim
 rename_i cl
 obtain⟨callee,cargs,argTypes⟩:=cl
 simp only at hc
 split at hc
 rotate_left
 ·exact hc.elim
 rename_i fo
 split at hc
 rotate_left
 ·exact hc.elim
 rename_i f' caps hfo
 obtain⟨rfl,⟨hp',nx'⟩,hgt,hZ⟩:=hc
 have hfv:=hρ fo
 rw[hfo]at hfv
 have hv: ∃vs:Array Value,a.eval fo=.func (.func f') #[] vs∧vs.size=caps.length∧∀i (_h:i<caps.length),Rel σ I w caps[i] (vs.getD i undef):=by
  generalize a.eval fo=u at hfv
  cases hfv with
  |fn _ _ vs h1 h2=>exact⟨vs,rfl,h1,h2⟩
 obtain⟨vs,hv,hvs,hvr⟩:=hv
 have hsize:(cargs.map a.eval++vs).size=(cargs.toList.map (ev c.GL t.fr)++caps).length:=by simp[hvs]
 have hargs: ∀i (_h:i<(cargs.toList.map (ev c.GL t.fr)++caps).length),Rel σ I w (cargs.toList.map (ev c.GL t.fr)++caps)[i] ((cargs.map a.eval++vs).getD i undef):=by
  intro i hi'
  rw[List.getElem_append]
  rw[Array.getD_eq_getD_getElem?,Array.getElem?_append]
  split
  ·rename_i hlt
   rw[J4 (by simpa using hlt)]
   have:=aAc (l:=cargs.toList) hρ i hlt
   rw[fI,List.getD_eq_getElem?_getD]at this
   have e:(Array.map a.eval cargs)[i]? =(List.map a.eval cargs.toList)[i]?:=by rw[←Array.toList_map,Array.getElem?_toList]
   rw[e];exact this
  ·rename_i hge
   rw[J3 (by simpa using hge)]
   simp only[List.length_map,Array.length_toList,Array.size_map]at hge⊢
   have:=hvr (i-cargs.size) (by simp at hi';omega)
   rw[Array.getD_eq_getD_getElem?]at this
   exact this
 obtain⟨fn,h1,h2,h3⟩:=hcall
 have hrun:(execOp a.eval {dst:=dst,op:=.call {callee:=.value fo,args:=cargs,argTypes:=argTypes},type:=type,pos:=pos,after:=after,guard:=guard}).run P w=.ok (.enter f' (cargs.map a.eval++vs)) w:=by
  simp only[execOp,resolve,hv,Deferred.ofValue,Array.empty_append,Sem.run_bind,Sem.run_pure,Result.andThen_ok,invoke,callFunc,run_program,h1,h2,h3,Bool.false_eq_true,if_false]
 unfold Oper.wp
 rw[hrun]
 obtain⟨hle,hcalls⟩:=hpan c σ I w t.hp t.cx _ _ hp' nx' rfl (hi.mono_un fun id hid=> .inl hid) hsize hargs hgt
 refine hcalls.mono ?_
 rintro e w' ⟨σ',I',rfl,hinv,hgr,hun⟩
 refine hQ _ a w' hZ ⟨⟨σ',I',{hinv with un:=fun id hid=>?_},hg.trans hgr,fun k=>(hf k).grow hgr⟩,hd,hsz,fun _ h=>h.elim,fun id hid=>⟨(hlt0 id hid).1,Nat.lt_of_lt_of_le (hlt0 id hid).2 hle⟩⟩
 rcases hid with hid|⟨k,hk,_⟩|hid
 ·exact hinv.un id hid
 ·exact hk.elim
 ·exact hun id (hlt0 id hid).2 (hi.un id (.inr (.inr hid)))
theorem aMj {Γ:Env} {c:Ctx} {σ0:Nat→Loc} {I0:Nat→Prop} {w0:World} {md:Nat→Nat} (hΓ:eJ P c.GL Γ) {ops:Array Oper} {Q':Exit→Act→World→Prop} (hdst:fK c.nt ops.toList=true) {t:S} {o:Oper} {post:List Oper}
  {f:FuncId} {ch:List PanicEntry} {g:List AV→H→Nat→Option (H×Nat)} (hpan:dE P c.GL f ch g) (hcall:cJ P f) {Z:S→Prop} (hc:bIo c.GL f g Z (aG ops o) t)
  (hQ: ∀t' a' w',Z t'→R c σ0 I0 w0 (fun _=>False) t' a' w'→Q' (.panic ch) a' w'):
  ∀(l:List Oper) (k:Nat) (s:S) (a:Act) (w:World),(∀o∈l,o∈ops.toList)→k+l.length<ops.size→oT P Γ c.GL md ops k l s=some t→R c σ0 I0 w0 (fun m=>k≤m∧m<ops.size) s a w→wpList P ops Q' (l++o::post) a w
 |[],k,s,a,w,_,hk,h,hR=>by
  obtain rfl:=J0 h
  obtain⟨h1,h2⟩:=bIn (K:=wpList P ops Q' post) (ops:=ops) hpan hcall hc hR hQ
  rw[List.nil_append]
  unfold wpList
  rw[J4 h1];exact .inl h2
 |x::r,k,s,a,w,hmem,hk,h,hR=>by
  simp only[oT]at h
  replace h:=aJ h;obtain⟨s1,hs1,h⟩:=h
  simp only[List.length_cons]at hk
  have:=fX (K:=wpList P ops Q' (r++o::post)) (Q:=Q') hΓ hs1 (lU hdst (hmem x (by simp))) (rem:=fun m=>k≤m∧m<ops.size) ⟨U3 _,by omega⟩ hR (fun a' w' hR'=>
   aMj hΓ hdst hpan hcall hc hQ r (k+1) s1 a' w' (fun o ho=>hmem o (by simp[ho])) (by omega) h (hR'.un fun m hm=>⟨⟨by omega,hm.2⟩,by omega⟩))
  rw[List.cons_append]
  unfold wpList
  split
  ·rename_i hw;rw[J4 hw]at this;exact .inl this
  ·rename_i hw;rw[J3 hw]at this;exact this
def bVn (GL:Nat→Option (List AV)) (f:FuncId) (g:List AV→H→Nat→Option (H×Nat)) (Z:S→Prop):Option LOp→S→Prop
 |some o,t=>bIo GL f g Z o t
 |none,_=>False
def cJt (f:FuncId) (g:List AV→H→Nat→Option (H×Nat)) (Z:S→Prop) (args:List AV) (fr:List (Nat×AV)) (hp:H) (nx cx:Nat):AV→Prop
 | .fn f' caps=>f'=f∧∃p,g (args++caps) hp cx=some p∧Z {fr:=fr,hp:=p.1,nx:=nx,cx:=p.2}
 |_=>False
theorem cSi (GL:Nat→Option (List AV)) (f:FuncId) (g:List AV→H→Nat→Option (H×Nat)) (Z:S→Prop) (d:Option Tmp) (fo:Operand) (args:Array Operand) (ty:Array TypeId) (fr:List (Nat×AV)) (hp:H) (nx cx:Nat) (gd:Option (Option Tmp×Bool)):
  bVn GL f g Z (some {d:=d,op:=.call {callee:=.value fo,args:=args,argTypes:=ty},g:=gd}) {fr:=fr,hp:=hp,nx:=nx,cx:=cx}=(gdS fr gd=some true∧cJt f g Z (args.toList.map (ev GL fr)) fr hp nx cx (ev GL fr fo)):=by
 simp only[bVn,bIo]
 unfold cJt
 cases ev GL fr fo<;>rfl
theorem dXs (f f':FuncId) (g:List AV→H→Nat→Option (H×Nat)) (Z:S→Prop) (args caps:List AV) (fr:List (Nat×AV)) (hp:H) (nx cx:Nat):cJt f g Z args fr hp nx cx (.fn f' caps)=(f'=f∧∃p,g (args++caps) hp cx=some p∧Z {fr:=fr,hp:=p.1,nx:=nx,cx:=p.2}):=(rfl)
theorem bIm {o:Option (H×Nat)} {Z:H×Nat→Prop} {p:H×Nat} (h:o=some p):(∃q,o=some q∧Z q)=Z p:=by
 subst h
 exact propext ⟨fun⟨_,e,h⟩=>by obtain rfl:=J0 e;exact h,fun h=>⟨p,rfl,h⟩⟩
theorem bP (p:H×Nat) (Z:H×Nat→Prop):(∃q,some p=some q∧Z q)=Z p:=bIm rfl
theorem dCn {s:S} {code:Code} {Γ:Env} (k:Nat) {f:FuncId} {ch:List PanicEntry} {g:List AV→H→Nat→Option (H×Nat)} (hpan:dE P GL f ch g) (hcall:cJ P f) (hΓ:eJ P GL Γ) (hc:rS code=true) (hd:lZ code=false) (ho:fK nt (aM code).toList=true)
  (h: ∀Z:S→Prop,(∀t,Q (.panic ch) t→Z t)→nH (aRf P Γ GL (fun _=>0) (rN code) ((aF code).take k) (cX (rN code) s)) (bVn GL f g Z (aF code)[k]?)):Awp P GL nt code s Q:=by
 replace h:=h (Q (.panic ch)) fun _ h=>h
 cases code with
 |region id ops dr=>
  simp only[lZ]at hd
  subst hd
  intro c h1 h2 σ0 I0 w0 a w hR
  subst h1;subst h2
  have hk: ∃o,ops.toList[k]? =some o:=by
   cases e:ops.toList[k]? with
   |some o=>exact⟨o,rfl⟩
   |none=>
    have:(aF (.region id ops false))[k]? =none:=by simp only[aF,aM,List.getElem?_map,e,Option.map_none]
    rw[this]at h
    unfold nH at h
    split at h
    ·exact h.elim
    ·exact h.elim
  obtain⟨o,hk⟩:=hk
  have hl:(aF (.region id ops false))[k]? =some (aG ops o):=by simp only[aF,aM,List.getElem?_map,hk,Option.map_some]
  have ht:(aF (.region id ops false)).take k=(ops.toList.take k).map (aG ops):=by simp only[aF,aM,List.map_take]
  rw[hl,ht]at h
  have hr:aRf P Γ c.GL (fun _=>0) (rN (.region id ops false)) ((ops.toList.take k).map (aG ops)) (cX (rN (.region id ops false)) s)=oT P Γ c.GL (fun _=>0) ops 0 (ops.toList.take k) (cX ops.size s):=by
   rw[aBn];rfl
  rw[hr]at h
  have hex: ∃t,oT P Γ c.GL (fun _=>0) ops 0 (ops.toList.take k) (cX ops.size s)=some t∧bIo c.GL f g (Q (.panic ch)) (aG ops o) t:=by
   unfold nH at h
   split at h
   ·rename_i t e;exact⟨t,e,h⟩
   ·exact h.elim
  obtain⟨t,e1,e2⟩:=hex
  have hlt:k<ops.toList.length:=(List.getElem?_eq_some_iff.1 hk).1
  have hsplit:ops.toList=ops.toList.take k++o::ops.toList.drop (k+1):=by
   have:=(List.getElem?_eq_some_iff.1 hk).2
   rw[←this,←List.drop_eq_getElem_cons hlt,List.take_append_drop]
  refine wp_region_list ?_
  have:=aMj (post:=ops.toList.drop (k+1)) (Q':=fun e a' w'=> ∃s',Q e s'∧R c σ0 I0 w0 (fun _=>False) s' a' w') hΓ ho hpan hcall e2 (fun t' a' w' hZ hR'=>⟨t',hZ,hR'⟩) (ops.toList.take k) 0 (cX ops.size s) a w (fun _ h=>List.mem_of_mem_take h) (by show 0+(ops.toList.take k).length<ops.size;rw[Nat.zero_add,List.length_take];have:ops.toList.length=ops.size:=Array.length_toList;omega) e1 ((hR.enter ops.size).un fun _ hm=>hm.2)
  rw[←hsplit]at this;exact this
 |_=>cases hc
theorem cJs {f:FuncId} {fn:Func} {code:Code} {ch:List PanicEntry} {g:List AV→H→Nat→Option (H×Nat)} (hf:P.funcs[f]? =some fn) (hb:fn.body=some code)
  (h: ∀args hp nx hp' nx',g args hp nx=some (hp',nx')→args.length≤fn.ntmps∧nx≤nx'∧((∀id,nx≤id→hp id=none)→Awp P GL fn.ntmps code (sN args hp nx) (dYi ch hp' nx'))):dE P GL f ch g:=by
 intro c σ I w hp nx args vals hp' nx' hGL hi hs hr hg
 obtain⟨hlen,hle,haw⟩:=h args hp nx hp' nx' hg
 refine⟨hle,?_⟩
 have hi':Inv {c with nt:=fn.ntmps,u0:=fun id=>id<nx∧σ id=.unset,df:=[]} σ I w hp (fun id=>nx≤id∨(id<nx∧σ id=.unset)):=
  ⟨hi.ext,hi.imm,hi.iw,hi.os,hi.tape,hi.output,hi.size,hi.old,hi.ilt,hi.own,hi.inj,hi.lim,fun id h=>h.elim (hi.un id) (fun h=>h.2),hi.glob,hi.inew⟩
 refine calls_of_wp hf hb (wp_mono (haw (fun id hid=>hi.none_un hid) {c with nt:=fn.ntmps,u0:=fun id=>id<nx∧σ id=.unset,df:=[]} hGL rfl σ I w {tmps:=vals++Array.replicate (fn.ntmps-vals.size) undef,defers:=[]} w ?_) ?_)
 ·refine⟨⟨σ,I,?_,Grow.refl _ _ _,fun t=>oG hs hr t⟩,rfl,by simp[hs];omega,fun k hk=>hk.elim,fun id hid=>⟨hid.1,hid.1⟩⟩
  refine hi'.mono_un fun id hid=>?_
  rcases hid with hid|⟨k,hk,_⟩|hid
  ·exact .inl hid
  ·exact hk.elim
  ·exact .inr hid
 ·rintro e a' w' ⟨t,hq,hR⟩
  have hd:=hR.defers
  obtain⟨⟨σ',I',a1,a2,a3⟩,_⟩:=hR
  cases e with
  |panic c'=>
   obtain⟨rfl,q2,q3⟩:=hq
   have a1':=a1.sub q2
   refine⟨hd,σ',I',rfl,?_,a2,fun id hid hun=>a1.un id (.inr (.inr ⟨hid,hun⟩))⟩
   exact⟨a1'.ext,a1'.imm,a1'.iw,a1'.os,a1'.tape,a1'.output,a1'.size,a1'.old,a1'.ilt,a1'.own,a1'.inj,a1'.lim,fun id h=>a1'.un id (.inl (Nat.le_trans q3 h)),a1'.glob,a1'.inew⟩
  |_=>exact hq.elim
end
end Go.AX

namespace Go.AX
open Go
section
variable {P : Program} {Γ : Env} {c : Ctx} {σ0 : Nat → Loc} {I0 : Nat → Prop} {w0 : World} {md : Nat → Nat} {ops : Array Oper}
theorem bBy (hΓ:eJ P c.GL Γ) {Q:Exit→Act→World→Prop} (hdst:fK c.nt ops.toList=true) (hok:sF P Γ md ops=true) {m:Nat} {o:Oper} (hm:ops[m]? =some o) (hn:ops.size=m+1)
  (hb: ∀j,j<m→((Region.before ops).getD m 0).testBit j=true) {s':S}
  (hP: ∀a w,R c σ0 I0 w0 (fun k=>k=m) s' a w→Region.wanted o (yielded ops a.tmps)=true∧∀K,o.wp P a w K Q):
  ∀(fuel:Nat) (listed:Array Bool) (s sf:S) (a:Act) (w:World),listed.size=ops.size→listed.getD m true=false→(unl ops.size listed).length≤fuel→
   (∀m o,listed.getD m false=true→ops[m]? =some o→∀e∈o.after,Region.binds .any e=true→listed.getD e.on false=true)→
   dQ P Γ c.GL md ops ((unl ops.size listed).filter (· !=m)) s=some sf→gC s' sf→R c σ0 I0 w0 (fun k=>k∈unl ops.size listed) s a w→wpAny P .any ops Q fuel listed a w:=by
 have hchk: ∀j y,ops[j]? =some y→(∀e∈y.after,Region.binds .any e=true→e.on<j)∧∀i x,i<j→ops[i]? =some x→((Region.before ops).getD j 0).testBit i=true∨(x.apart ops y=true∧rF i j (tI P Γ (md i) x.op) (tI P Γ (md j) y.op)=true):=by
  intro j y hy
  have hlt:=(Array.getElem?_eq_some_iff.1 hy).1
  have h:=List.all_eq_true.1 hok j (List.mem_range.2 hlt)
  simp only[hy,Bool.and_eq_true]at h
  refine⟨fun e he hb=>?_,fun i x hi hx=>?_⟩
  ·have:=Array.all_eq_true_iff_forall_mem.1 h.1 e he
   simpa [hb]using this
  ·have:=List.all_eq_true.1 h.2 i (List.mem_range.2 hi)
   simp only[hx,Bool.or_eq_true,Bool.and_eq_true]at this
   exact this
 have mem_unl: ∀(listed:Array Bool) i,i∈unl ops.size listed↔i<ops.size∧listed.getD i true=false:=by
  intro listed i;simp[unl]
 have noready: ∀(listed:Array Bool),listed.size=ops.size→Region.ready .any ops listed=[]→unl ops.size listed=[]:=by
  intro listed hsz hr
  refine List.eq_nil_iff_forall_not_mem.2 fun i=>?_
  induction i using Nat.strongRecOn with
  |_ i ih=>
   intro hi
   obtain⟨hlt,hun⟩:=(mem_unl listed i).1 hi
   have:i∈Region.ready .any ops listed:=by
    rw[mem_ready]
    refine⟨hun,ops[i],Array.getElem?_eq_getElem hlt,fun e he hb=>?_⟩
    have hlt':=(hchk i _ (Array.getElem?_eq_getElem hlt)).1 e he hb
    have hn:=ih e.on hlt'
    rw[mem_unl]at hn
    have hs2:e.on<listed.size:=by omega
    rw[Array.getD_eq_getD_getElem?,Array.getElem?_eq_getElem hs2]at hn⊢
    simp only[Option.getD_some]at hn⊢
    cases hv:listed[e.on]with
    |true=>rfl
    |false=>exact absurd ⟨by omega,hv⟩ hn
   rw[hr]at this;cases this
 have hmu: ∀(listed:Array Bool),listed.getD m true=false→m∈unl ops.size listed:=fun listed h=>(mem_unl listed m).2 ⟨by omega,h⟩
 intro fuel
 induction fuel with
 |zero=>
  intro listed s sf a w hsz hml hlen hdc hrun heq hR
  have h0:unl ops.size listed=[]:=List.eq_nil_of_length_eq_zero (by omega)
  have:=hmu listed hml
  rw[h0]at this;cases this
 |succ fuel ih=>
  intro listed s sf a w hsz hml hlen hdc hrun heq hR
  refine⟨fun hr=>?_,fun i hi=>?_⟩
  ·have h0:=noready listed hsz hr
   have:=hmu listed hml
   rw[h0]at this;cases this
  obtain⟨hun,x,hx,hall⟩:=mem_ready.1 hi
  have hlt:=(Array.getElem?_eq_some_iff.1 hx).1
  have hmem:i∈unl ops.size listed:=(mem_unl listed i).2 ⟨hlt,hun⟩
  have hanc: ∀m j,Anc ops m j→(∀o,ops[m]? =some o→∀e∈o.after,Region.binds .any e=true→listed.getD e.on false=true)→listed.getD j false=true:=by
   intro m j ha
   induction ha with
   |edge ho he hb=>exact fun h=>h _ ho _ he hb
   |step ho he hb _ ih2=>exact fun h=>ih2 fun o ho' e' he' hb'=>hdc _ o (h _ ho _ he hb) ho' e' he' hb'
  by_cases him:i=m
  ·subst him
   rw[hm]at hx
   obtain rfl:=J0 hx
   have hlisted: ∀j,j<i→j∉unl ops.size listed:=by
    intro j hj hju
    have h1:=hanc i j (oR ops i j (hb j hj)) (fun o' ho e he hb=>by rw[hm]at ho;obtain rfl:=J0 ho;exact hall e he hb)
    have h2:=((mem_unl listed j).1 hju).2
    have hs2:j<listed.size:=by omega
    rw[Array.getD_eq_getD_getElem?,Array.getElem?_eq_getElem hs2]at h1 h2
    simp only[Option.getD_some]at h1 h2
    rw[h1]at h2;cases h2
   have honly: ∀j,j∈unl ops.size listed→j=i:=by
    intro j hj
    have:=((mem_unl listed j).1 hj).1
    apply Classical.byContradiction
    intro hne
    exact hlisted j (by omega) hj
   have hnil:(unl ops.size listed).filter (· !=i)=[]:=by
    refine List.filter_eq_nil_iff.2 fun j hj=>?_
    rw[honly j hj];simp
   rw[hnil]at hrun
   obtain rfl:=J0 hrun
   obtain⟨h1,h2⟩:=hP a w ((hR.un fun k hk=>by subst hk;exact hmem).eqv heq.symm)
   unfold wpOp
   simp only[hm]
   rw[J4 h1];exact .inl (h2 _)
  ·have hmem2:i∈(unl ops.size listed).filter (· !=m):=List.mem_filter.2 ⟨hmem,by simpa using him⟩
   obtain⟨l1,l2,hl⟩:=List.append_of_mem hmem2
   have hpw:((unl ops.size listed).filter (· !=m)).Pairwise (· < ·):=List.Pairwise.filter _ (List.Pairwise.filter _ List.pairwise_lt_range)
   rw[hl]at hpw hrun
   have hlt1: ∀j∈l1,j<i:=fun j hj=>(List.pairwise_append.1 hpw).2.2 j hj i (by simp)
   have hlt2: ∀j∈l2,i<j:=fun j hj=>(List.pairwise_cons.1 (List.pairwise_append.1 hpw).2.1).1 j hj
   obtain⟨s1,sf1,f1,f2,f3⟩:=wK hx l1 l2 (fun j hj=>by
    have hjm:j∈unl ops.size listed:=(List.mem_filter.1 (show j∈(unl ops.size listed).filter (· !=m)by rw[hl];simp[hj])).1
    obtain⟨hjlt,hjun⟩:=(mem_unl listed j).1 hjm
    refine⟨by have:=hlt1 j hj;omega,ops[j],Array.getElem?_eq_getElem hjlt,?_⟩
    rcases(hchk i x hx).2 j _ (hlt1 j hj) (Array.getElem?_eq_getElem hjlt)with h|h
    ·have:=hanc i j (oR ops i j h) (fun o ho e he hb=>by rw[hx]at ho;obtain rfl:=J0 ho;exact hall e he hb)
     have hs2:j<listed.size:=by omega
     rw[Array.getD_eq_getD_getElem?,Array.getElem?_eq_getElem hs2]at hjun this
     simp only[Option.getD_some]at hjun this
     rw[hjun]at this;cases this
    ·exact h) hrun
   have e0:unl ops.size (listed.setIfInBounds i true)=(unl ops.size listed).filter (fun k=>k !=i):=by
    unfold unl
    rw[List.filter_filter]
    refine List.filter_congr fun k hk=>?_
    by_cases hki:k=i
    ·subst hki
     rw[Array.getD_eq_getD_getElem?,Array.getElem?_setIfInBounds_self_of_lt (by omega)];simp
    ·rw[getD_set_ne true (Ne.symm hki)]
     simp[hki]
   have hnew:(unl ops.size (listed.setIfInBounds i true)).filter (· !=m)=l1++l2:=by
    have e1:(unl ops.size (listed.setIfInBounds i true)).filter (· !=m)=((unl ops.size listed).filter (· !=m)).filter (fun k=>k !=i):=by
     rw[e0,List.filter_filter,List.filter_filter]
     refine List.filter_congr fun k _=>Bool.and_comm _ _
    rw[e1,hl,List.filter_append,List.filter_cons]
    simp only[bne_self_eq_false,Bool.false_eq_true,if_false]
    congr 1
    ·exact List.filter_eq_self.2 fun k hk=>by have:=hlt1 k hk;simp;omega
    ·exact List.filter_eq_self.2 fun k hk=>by have:=hlt2 k hk;simp;omega
   have hlen2:(unl ops.size (listed.setIfInBounds i true)).length<(unl ops.size listed).length:=by
    rw[e0]
    refine Nat.lt_of_le_of_ne (List.length_filter_le _ _) fun e=>?_
    have:=List.length_filter_eq_length_iff.1 e i hmem
    simp at this
   have hstep:=fX (K:=wpAny P .any ops Q fuel (listed.setIfInBounds i true)) (Q:=Q) (ops:=ops) hΓ f1 (lU hdst (Array.mem_toList_iff.2 (Array.mem_of_getElem? hx))) (rem:=fun k=>k∈unl ops.size listed) hmem hR (fun a' w' hR'=>
    ih (listed.setIfInBounds i true) s1 sf1 a' w' (by simpa using hsz) (by rw[getD_set_ne true him];exact hml) (by omega) (fun m' o' hm' ho e he hb=>by
      by_cases hmi:m'=i
      ·subst hmi
       rw[hx]at ho;obtain rfl:=J0 ho
       exact getD_set_true (hall e he hb)
      ·rw[getD_set_ne false (Ne.symm hmi)]at hm'
       exact getD_set_true (hdc m' o' hm' ho e he hb))
     (by rw[hnew];exact f2) (heq.trans f3) (hR'.un fun k hk=>by
      rw[e0,List.mem_filter]at hk
      exact⟨hk.1,by simpa using hk.2⟩))
   unfold wpOp
   simp only[hx]
   split
   ·rename_i hw;rw[J4 hw]at hstep;exact .inl hstep
   ·rename_i hw;rw[J3 hw]at hstep;exact hstep
end
def cRj (c:Code) (m:Nat):Bool:=(List.range m).all fun j=>((Region.before (aM c)).getD m 0).testBit j
theorem dCo {P:Program} {GL:Nat→Option (List AV)} {nt:Nat} {Q:Exit→S→Prop} {s:S} {code:Code} {Γ:Env} (k:Nat) (md:Nat→Nat) {f:FuncId} {ch:List PanicEntry} {g:List AV→H→Nat→Option (H×Nat)} (hm:P.follows .mixedOrders=true) (hpan:dE P GL f ch g) (hcall:cJ P f) (hΓ:eJ P GL Γ) (hc:rS code=true) (hd:lZ code=true) (ho:fK nt (aM code).toList=true)
  (hk:sF P Γ md (aM code)=true) (hn:(aM code).size=k+1) (hb:cRj code k=true)
  (h: ∀Z:S→Prop,(∀t,Q (.panic ch) t→Z t)→nH (aRf P Γ GL md (rN code) ((aF code).take k) (cX (rN code) s)) (bVn GL f g Z (aF code)[k]?)):Awp P GL nt code s Q:=by
 replace h:=h (Q (.panic ch)) fun _ h=>h
 cases code with
 |region id ops dr=>
  simp only[lZ]at hd
  subst hd
  intro c h1 h2 σ0 I0 w0 a w hR
  subst h1;subst h2
  simp only[aM]at hn ho hk
  have hlt:k<ops.toList.length:=by rw[Array.length_toList];omega
  have hk2:ops.toList[k]? =some ops.toList[k]:=List.getElem?_eq_getElem hlt
  obtain⟨o,hko⟩: ∃o,ops.toList[k]=o:=⟨_,rfl⟩
  rw[hko]at hk2
  have hka:ops[k]? =some o:=by rw[←Array.getElem?_toList];exact hk2
  have hl:(aF (.region id ops true))[k]? =some (aG ops o):=by simp only[aF,aM,List.getElem?_map,hk2,Option.map_some]
  have ht:(aF (.region id ops true)).take k=(ops.toList.take k).map (aG ops):=by simp only[aF,aM,List.map_take]
  rw[hl,ht]at h
  have hr:aRf P Γ c.GL md (rN (.region id ops true)) ((ops.toList.take k).map (aG ops)) (cX (rN (.region id ops true)) s)=oT P Γ c.GL md ops 0 (ops.toList.take k) (cX ops.size s):=by
   rw[aBn];rfl
  rw[hr]at h
  obtain⟨t,e1,e2⟩:=mR h
  have h0:unl ops.size (Array.replicate ops.size false)=List.range ops.size:=by
   unfold unl
   refine List.filter_eq_self.2 fun k hk=>?_
   rw[List.mem_range]at hk
   rw[Array.getD_eq_getD_getElem?,Array.getElem?_replicate,J4 hk];rfl
  have h0f:(unl ops.size (Array.replicate ops.size false)).filter (· !=k)=List.range k:=by
   rw[h0,hn,List.range_succ,List.filter_append]
   have a1:(List.range k).filter (· !=k)=List.range k:=List.filter_eq_self.2 fun j hj=>by have:=List.mem_range.1 hj;simp;omega
   rw[a1];simp
  have hbk: ∀j,j<k→((Region.before ops).getD k 0).testBit j=true:=fun j hj=>List.all_eq_true.1 hb j (List.mem_range.2 hj)
  have hlk:(ops.toList.take k).length=k:=by rw[List.length_take];omega
  have hrun2:dQ P Γ c.GL md ops (List.range k) (cX ops.size s)=some t:=by
   have hgen: ∀(l:List Oper) (q:Nat) (s:S),(∀m,m<l.length→l[m]? =ops[q+m]?)→oT P Γ c.GL md ops q l s=dQ P Γ c.GL md ops (List.range' q l.length) s:=by
    intro l
    induction l with
    |nil=>intro q s _;rfl
    |cons o r ih=>
     intro q s hq
     have h0:ops[q]? =some o:=by have:=(hq 0 (by simp)).symm;simpa using this
     simp only[oT,List.length_cons,List.range'_succ,dQ,h0]
     congr 1
     funext s'
     exact ih (q+1) s' (fun m hm=>by have:=hq (m+1) (by simpa using hm);simpa [Nat.add_assoc,Nat.add_comm 1 m]using this)
   have:=hgen (ops.toList.take k) 0 (cX ops.size s) (fun m hm=>by rw[hlk]at hm;rw[List.getElem?_take,J4 hm,Nat.zero_add,Array.getElem?_toList])
   rw[hlk]at this
   rw[List.range_eq_range',←this];exact e1
  refine wp_region_any hm (bBy (σ0:=σ0) (I0:=I0) (w0:=w0) hΓ ho hk hka hn hbk (fun a' w' hR'=>?_) ops.size _ (cX ops.size s) t a _ (by simp) ?_ (by rw[h0];simp) (fun m o hl=>?_) (by rw[h0f];exact hrun2) (gC.refl _) ?_)
  ·have key:=fun K=>bIn (K:=K) (ops:=ops) (Q':=fun e a' w'=> ∃s',Q e s'∧R c σ0 I0 w0 (fun _=>False) s' a' w') hpan hcall e2 hR' (fun t' a' w' hZ hR'=>⟨t',hZ,hR'⟩)
   exact⟨(key fun _ _=>True).1,fun K=>(key K).2⟩
  ·rw[Array.getD_eq_getD_getElem?,Array.getElem?_replicate,J4 (by omega)];rfl
  ·rw[Array.getD_eq_getD_getElem?,Array.getElem?_replicate]at hl;split at hl<;>cases hl
  ·exact((hR.enter ops.size).un fun k hk=>by rw[h0]at hk;exact List.mem_range.1 hk).world rfl rfl rfl rfl
 |_=>cases hc
end Go.AX

namespace Go.AX
open Go
theorem bQw (P:Program) (t:TypeId) (n:Nat) (xs:List AV):bM P .eql t (.sl n xs) (.v (.slice none 0 0))=aN (oQ P t=true∧0<n) (some (.b false)):=(rfl)
theorem bRd (P:Program) (t:TypeId):bM P .eql t (.v (.slice none 0 0)) (.v (.slice none 0 0))=aN (oQ P t=true) (some (.b true)):=(rfl)
attribute [go_sem] bRd
attribute [go_sem] bQw
theorem bQo (P:Program) (t t':TypeId) (v:Value):bM P .neq t (.v (.iface t' v)) (.v .nilIface)=aN (uG P t=true) (some (.b true)):=(rfl)
def cGt (P:Program) (t:TypeId):AV→Option AV
 | .v (.iface t' v)=>aN (t'=t∧uG P t=false∧(P.underlying t).isSome=true) (some (.tup [ofV v,.b true]))
 |_=>none
theorem bTb (P:Program) (t t':TypeId) (v:Value):cGt P t (.v (.iface t' v))=aN (t'=t∧uG P t=false∧(P.underlying t).isSome=true) (some (.tup [ofV v,.b true])):=(rfl)
theorem dAl {P:Program} {Γ:Env} {ρ:Operand→AV} {m nx n id cx:Nat} {hp:H} {x:Operand} {xt t:TypeId}:eff P Γ (.typeAssert x xt t true) ρ m nx n hp id cx=aK (cGt P t (ρ x)) fun y=>some (y,hp,cx):=by
 simp only[eff,cls,dI,cGt]
 generalize ρ x=y
 cases y<;>first|rfl|(rename_i v;cases v<;>rfl)
theorem bWf:ofV .nilIface=.v .nilIface:=(rfl)
attribute [go_sem] bQo bTb dAl bWf
theorem cNo (hp:H) (f xs):cO 4 hp (.fn f xs)=aK (lE (cO 3 hp) xs) fun l=>some (.fn f l):=(rfl)
attribute [go_sem] cNo
section
variable {P : Program} {GL : Nat → Option (List AV)}
end
section
variable {P : Program} {GL : Nat → Option (List AV)}
end
end Go.AX

namespace Go.AX
open Go
def bSj (P:Program) (GL:Nat→Option (List AV)) (f:FuncId) (u u':FrameMode) (g:List AV→H→Nat→Option (H×Nat)):Prop:=
 ∀(c:Ctx) (σ:Nat→Loc) (I:Nat→Prop) (w:World) (hp:H) (nx:Nat) (args:List AV) (vals:Array Value) (hp':H) (nx':Nat),
  c.GL=GL→Inv c σ I w hp (fun id=>nx≤id)→vals.size=args.length→(∀i (_h:i<args.length),Rel σ I w args[i] (vals.getD i undef))→g args hp nx=some (hp',nx')→
  nx≤nx'∧CallsD P f vals u w fun e u1 w'=> ∃v σ' I',e=.returned v∧u1=u'∧Inv c σ' I' w' hp' (fun id=>nx'≤id)∧Grow σ I w σ' I' w'∧(∀id,id<nx→σ id=.unset→σ' id=.unset)
def cIv:FrameMode→Option (Value×FrameMode)
 | .panicking ({v,recovered:=false,goexit:=false}::older)=>some (v,.panicking ({v,recovered:=true}::older))
 |_=>none
theorem uD (c₀:Frame) (cs:List Frame):recoverD (c₀::cs)=(cIv c₀.mode).map fun p=>(p.1,{c₀ with mode:=p.2}::cs):=by
 obtain⟨fn,tmps,todo,defers,mode,kind,roundOf⟩:=c₀
 cases mode with
 |run=>rfl
 |returning=>rfl
 |panicking l=>
  cases l with
  |nil=>rfl
  |cons p r=>
   obtain⟨v,rec,ge⟩:=p
   cases rec<;>cases ge<;>rfl
section
variable {P : Program} {GL : Nat → Option (List AV)}
theorem fZ {f:FuncId} {fn:Func} {rest:Code} {id:Nat} {a b:Tmp} {ty1 ty2:TypeId} {p1 p2:String} {af1 af2:Array Edge} {u u':FrameMode} {rv:Value} {g:List AV→H→Nat→Option (H×Nat)} (hf:P.funcs[f]? =some fn)
  (hb:fn.body=some (.seq (.region id #[{dst:=some a,op:=.call {callee:=.builtin .recover,args:= #[],argTypes:= #[]},type:=ty1,pos:=p1,after:=af1,guard:=none},{dst:=some b,op:=.assign (.tmp a),type:=ty2,pos:=p2,after:=af2,guard:=none}] false) rest))
  (hu:(cIv u=some (rv,u'))∨(cIv u=none∧rv=.nilIface∧u'=u)) (hab:a<fn.ntmps∧b<fn.ntmps)
  (h: ∀args hp nx hp' nx',g args hp nx=some (hp',nx')→args.length≤fn.ntmps∧nx≤nx'∧((∀id,nx≤id→hp id=none)→Awp P GL fn.ntmps rest {fr:=(b,ofV rv)::(a,ofV rv)::aOo 0 args,hp:=hp,nx:=nx,cx:=nx} (bMy P fn.results.toList (.tup []) hp' nx'))):bSj P GL f u u' g:=by
 intro c σ I w hp nx args vals hp' nx' hGL hi hs hr hg
 obtain⟨hlen,hle,haw⟩:=h args hp nx hp' nx' hg
 refine⟨hle,?_⟩
 have hi':Inv {c with nt:=fn.ntmps,u0:=fun id=>id<nx∧σ id=.unset,df:=[]} σ I w hp (fun id=>nx≤id∨(id<nx∧σ id=.unset)):=
  ⟨hi.ext,hi.imm,hi.iw,hi.os,hi.tape,hi.output,hi.size,hi.old,hi.ilt,hi.own,hi.inj,hi.lim,fun id h=>h.elim (hi.un id) (fun h=>h.2),hi.glob,hi.inew⟩
 let a0:Act:= {tmps:=vals++Array.replicate (fn.ntmps-vals.size) undef,defers:=[]}
 have hsz0:a0.tmps.size=fn.ntmps:=by show(vals++Array.replicate (fn.ntmps-vals.size) undef).size=_;simp[hs];omega
 let a1:Act:=(a0.put (some a) rv).put (some b) rv
 have ha1:(a0.put (some a) rv).eval (.tmp a)=rv:=by
  show((a0.tmps.setIfInBounds a rv).getD a undef)=rv
  rw[Array.getD_eq_getD_getElem?,Array.getElem?_setIfInBounds_self_of_lt (by rw[hsz0];exact hab.1)];rfl
 refine callsD_of_wpS hf hb fun c₀ cs hmode=>?_
 have key:rest.wpS P (bodyPostS P fn c₀ cs (fun e u1 w'=> ∃v σ' I',e=.returned v∧u1=u'∧Inv c σ' I' w' hp' (fun id=>nx'≤id)∧Grow σ I w σ' I' w'∧(∀id,id<nx→σ id=.unset→σ' id=.unset))) a1 ({c₀ with mode:=u'}::cs) w:=by
  refine wpS_of_wp (wp_mono (haw (fun id hid=>hi.none_un hid) {c with nt:=fn.ntmps,u0:=fun id=>id<nx∧σ id=.unset,df:=[]} hGL rfl σ I w a1 w ?_) ?_)
  ·refine⟨⟨σ,I,?_,Grow.refl _ _ _,?_⟩,rfl,by rw[pX,pX];exact hsz0,fun k hk=>hk.elim,fun id hid=>⟨hid.1,hid.1⟩⟩
   ·refine hi'.mono_un fun id hid=>?_
    rcases hid with hid|⟨k,hk,_⟩|hid
    ·exact .inl hid
    ·exact hk.elim
    ·exact .inr hid
   ·have h1:=vT (n:=fn.ntmps) (dst:=some a) (x:=ofV rv) (v:=rv) hsz0 (fun d hd=>by obtain rfl:=J0 hd;exact hab.1) (fun _=>vP rv) (fun t=>oG (n:=fn.ntmps-vals.size) hs hr t)
    exact vT (n:=fn.ntmps) (dst:=some b) (x:=ofV rv) (v:=rv) (by rw[pX];exact hsz0) (fun d hd=>by obtain rfl:=J0 hd;exact hab.2) (fun _=>vP rv) h1
  ·rintro e a' w' ⟨t,hq,hR⟩
   have hd:a'.defers=[]:=hR.defers
   obtain⟨⟨σ',I',b1,b2,b3⟩,_⟩:=hR
   have hq2:(e=.ret∨e=.normal)∧wZ P fn.results.toList (.tup []) hp' nx' t:=by
    cases e<;>first|exact⟨.inl rfl,hq⟩|exact⟨.inr rfl,hq⟩|exact hq.elim
   obtain⟨he,q1,q2,q3⟩:=hq2
   obtain⟨v,hv,hrel⟩:=eZ (P:=P) b1 b3 q1
   have b1':=b1.sub q2
   have fin:a'.defers=[]∧∃u1,({c₀ with mode:=u'}::cs:List Frame)= {c₀ with mode:=u1}::cs∧∃v,(results fn a'.tmps).run P w'=.ok v w'∧∃v1 σ' I',Ending.returned v=.returned v1∧u1=u'∧Inv c σ' I' w' hp' (fun id=>nx'≤id)∧Grow σ I w σ' I' w'∧(∀id,id<nx→σ id=.unset→σ' id=.unset):=
    ⟨hd,u',rfl,v,hv,v,σ',I',rfl,rfl,⟨b1'.ext,b1'.imm,b1'.iw,b1'.os,b1'.tape,b1'.output,b1'.size,b1'.old,b1'.ilt,b1'.own,b1'.inj,b1'.lim,fun id h=>b1'.un id (.inl (Nat.le_trans q3 h)),b1'.glob,b1'.inew⟩,b2,fun id hid hun=>b1.un id (.inr (.inr ⟨hid,hun⟩))⟩
   rcases he with rfl|rfl
   ·exact fin
   ·exact fin
 generalize bodyPostS P fn c₀ cs _=Q at key⊢
 have hav:a<vals.size+(fn.ntmps-vals.size):=Nat.lt_of_lt_of_le hab.1 (by omega)
 apply wpS_seq
 apply wpS_region
 rcases hu with hu|⟨hu,rfl,rfl⟩
 ·simp[wpOpsS,go_sem,uD,hmode,hu,Exit.thenS,hav]
  exact key
 ·have hc:({c₀ with mode:=u'}:Frame)=c₀:=by cases c₀;simp at hmode;subst hmode;rfl
  rw[hc]at key
  simp[wpOpsS,go_sem,uD,hmode,hu,Exit.thenS,hav]
  exact key
def dBa (k:Tmp) (d:FuncId) (capsA:List AV) (t:S):S:= {fr:=(k,.fn d capsA)::t.fr,hp:=t.hp,nx:=t.nx,cx:=t.cx}
def dYy (P:Program) (GL:Nat→Option (List AV)) (nt:Nat) (C:Code) (k:Tmp) (d:FuncId) (caps:List Operand) (capsA:List AV) (Q:Exit→S→Prop):Exit→S→Prop
 | .normal,t=>caps.map (ev GL t.fr)=capsA∧Awp P GL nt C (dBa k d capsA t) Q
 |_,_=>False
end
end Go.AX

namespace Go.AX
open Go
section
variable {P : Program} {Γ : Env} {c : Ctx} {σ0 : Nat → Loc} {I0 : Nat → Prop} {w0 : World} {md : Nat → Nat} {ops : Array Oper}
end
end Go.AX

namespace Go.AX
open Go
end Go.AX

namespace Go.AX
open Go
end Go.AX

namespace Go.AX
open Go
theorem pS {P:Program} {GL:Nat→Option (List AV)} {nt:Nat} {code:Code} {Q:Exit→S→Prop} {fr:List (Nat×AV)} {hp:H} {nx cx:Nat} (t id off n e:Nat) {g:Bool} {xs:List AV} {mt:Bool} (hn:dG fr t=.os id off n e g) (ho:hp id=some (.cells xs mt)) (hl:off+n*e≤xs.length)
  (h:Awp P GL nt code {fr:=(t,.sl n ((xs.drop off).take (n*e)))::fr,hp:=upd hp id (.cells xs false),nx:=nx,cx:=cx} Q):Awp P GL nt code {fr:=fr,hp:=hp,nx:=nx,cx:=cx} Q:=by
 intro c h1 h2 σ0 I0 w0 a w hR
 refine h c h1 h2 σ0 I0 w0 a w ?_
 obtain⟨⟨σ,I,a1,a2,a3⟩,b,d,e1,e0⟩:=hR
 have ht:=a3 t
 simp only at a1 a3 ht
 rw[hn]at ht
 obtain⟨I1,b1,b2,b3⟩:=gN (x:=.os id off n e g) (p:=(.sl n ((xs.drop off).take (n*e)),upd hp id (.cells xs false))) (by simp only[dW,ho,aX];rw[cU _ hl]) a1 ht
 have hg:Grow σ I w σ I1 w:=⟨fun _ _=>rfl,b1,fun _ _=>rfl⟩
 refine⟨⟨σ,I1,b2,a2.trans hg,fun k=>?_⟩,b,d,e1,e0⟩
 simp only[dG]
 split
 ·rename_i e;subst e;exact b3
 ·exact(a3 k).grow hg
end Go.AX

namespace Go.AX
open Go
section
variable {P : Program} {Γ : Env} {c : Ctx} {σ0 : Nat → Loc} {I0 : Nat → Prop} {w0 : World} {md : Nat → Nat} {ops : Array Oper}
def uY (ops:Array Oper) (listed:Array Bool):Prop:= ∀m o,listed.getD m false=true→ops[m]? =some o→∀e∈o.after,Region.binds .any e=true→listed.getD e.on false=true
theorem uY.set {listed:Array Bool} (hdc:uY ops listed) {i:Nat} {x:Oper} (hx:ops[i]? =some x) (hall: ∀e∈x.after,Region.binds .any e=true→listed.getD e.on false=true):uY ops (listed.setIfInBounds i true):=by
 intro m o hm ho e he hb
 by_cases hmi:m=i
 ·subst hmi
  rw[hx]at ho;obtain rfl:=J0 ho
  exact getD_set_true (hall e he hb)
 rw[getD_set_ne false (Ne.symm hmi)]at hm
 exact getD_set_true (hdc m o hm ho e he hb)
end
end Go.AX

namespace Go.AX
open Go Go.Proofs
section
variable {P : Program} {Γ : Env} {ρ : Operand → AV} {m nx n id cx : Nat} {hp : H}
def lkF (P:Program) (hp:H) (x k:AV) (ok:Bool):Option TypeDesc→Option AV
 |some (.map kt et)=>aK (P.underlying kt) fun d=>aN (oP d k=true) (aK (zvA P et) fun z=>aK (aEi hp x) fun es=>aK (aNp k es) fun r=>some (aCm z ok r))
 |_=>none
theorem bNx {t:TypeId} {x k:Operand} {ok:Bool}:eff P Γ (.lookup t x k ok) ρ m nx n hp id cx=aK (lkF P (mY m nx n hp) (ρ x) (ρ k) ok (P.underlying t)) fun y=>some (y,hp,cx):=by
 simp only[eff,cls,lA,aWs]
 cases P.underlying t with
 |none=>rfl
 |some d=>cases d<;>rfl
theorem cXv {x k:AV} {ok:Bool} (kt et:TypeId):lkF P hp x k ok (some (.map kt et))=aK (P.underlying kt) fun d=>aN (oP d k=true) (aK (zvA P et) fun z=>aK (aEi hp x) fun es=>aK (aNp k es) fun r=>some (aCm z ok r)):=(rfl)
def muM (hp:H) (m k x:AV):Option (AV×H):=
 match m with
 | .mp id=>aK (pP hp x) fun fx=>aK (fx.2 id) (bAp k fx.1 id fx.2)
 |_=>none
def muF (P:Program) (hp:H) (m k x:AV):Option TypeDesc→Option (AV×H)
 |some (.map kt _)=>aK (P.underlying kt) fun d=>aN (oP d k=true) (muM hp m k x)
 |_=>none
theorem dAn {t:TypeId} {a k x:Operand}:eff P Γ (.mapUpdate t a k x) ρ m nx n hp id cx=aK (muF P hp (ρ a) (ρ k) (ρ x) (P.underlying t)) fun p=>some (p.1,p.2,cx):=by
 simp only[eff,cls,fR,aGs]
 cases P.underlying t with
 |none=>rfl
 |some d=>cases d<;>first|rfl|(simp only[muF,muM];cases ρ a<;>rfl)
theorem cXj {a k x:AV} (kt et:TypeId):muF P hp a k x (some (.map kt et))=aK (P.underlying kt) fun d=>aN (oP d k=true) (muM hp a k x):=(rfl)
theorem cLq {k x:AV} (i:Nat):muM hp (.mp i) k x=aK (pP hp x) fun fx=>aK (fx.2 i) (bAp k fx.1 i fx.2):=(rfl)
theorem cMj {k x:AV} (i:Nat) (es:List (AV×AV)) (mt:Bool):bAp k x i hp (.mapo es mt)=aN (mt=true) (aK (aEh k x es) fun es'=>some (.junk,upd hp i (.mapo es' true))):=(rfl)
theorem cAo {t:TypeId}:eff P Γ (.makeMap t none) ρ m nx n hp id cx=some (.mp id,upd hp id (.mapo [] true),cx):=(rfl)
def dAc (hp:H) (i off n e:Nat):AO→Option (AV×H)
 | .cells xs _=>aN (off+n*e≤xs.length) (some (.sl n ((xs.drop off).take (n*e)),upd hp i (.cells xs false)))
 |_=>none
theorem cZz (i off n e g):pP hp (.os i off n e g)=aK (hp i) (dAc hp i off n e):=by
 simp only[pP];congr 1
theorem cPc (i off n e xs mt):dAc hp i off n e (.cells xs mt)=aN (off+n*e≤xs.length) (some (.sl n ((xs.drop off).take (n*e)),upd hp i (.cells xs false))):=(rfl)
theorem kd_i (x):oP (.int .i64) (.i x)=true:=(rfl)
theorem cXr (z v):aCm z true (some v)=.tup [v,.b true]:=(rfl)
theorem cXs (z v):aCm z false (some v)=v:=(rfl)
theorem cXt (z):aCm z true none=.tup [z,.b false]:=(rfl)
theorem dAo {f:FuncId} {cap:Array Operand}:eff P Γ (.makeFunc (.func f) #[] cap) ρ m nx n hp id cx=some (.fn f (cap.toList.map ρ),hp,cx):=(rfl)
theorem bCj (i):dC (.mp i)=some [.mp i]:=(rfl)
end
attribute [go_sem] bNx cXv dAn cXj cLq cMj cAo cZz cPc kd_i cXr cXs cXt bCj dAo
section
variable {α : Type} [DecidableEq α] (kc : α → AV) (hk : ∀ a b, kEq (kc a) (kc b) = some (decide (a = b)))
def aIx (a:α):List α→Option Nat
 |[]=>none
 |b::r=>if a=b then some 0 else(aIx a r).map (· +1)
include hk in
theorem wB {β:Type} (vc:β→AV) (a:α): ∀l:List (α×β),aNn (kc a) (l.map fun p=>(kc p.1,vc p.2))=some (aIx a (l.map (·.1)))
 |[]=>rfl
 |p::r=>by
  simp only[List.map_cons,aNn,aIx,hk,aX]
  by_cases h:a=p.1
  ·simp[h]
  simp only[h,decide_false,if_false,wB vc a r,aX]
def iK {β:Type} (a:α):List (α×β)→Option β
 |[]=>none
 |p::r=>if a=p.1 then some p.2 else iK a r
def kT {β:Type} (a:α) (v:β):List (α×β)→List (α×β)
 |[]=>[(a,v)]
 |p::r=>if a=p.1 then(a,v)::r else p::kT a v r
include hk in
theorem aNo {β:Type} (vc:β→AV) (a:α) (l:List (α×β)):aNp (kc a) (l.map fun p=>(kc p.1,vc p.2))=some ((iK a l).map vc):=by
 unfold aNp
 rw[wB kc hk,aX]
 congr 1
 induction l with
 |nil=>rfl
 |cons p r ih=>
  simp only[List.map_cons,aIx,iK]
  by_cases h:a=p.1
  ·simp[h]
  simp only[h,if_false]
  rw[←ih]
  cases aIx a (r.map (·.1))<;>simp
include hk in
theorem aNm {β:Type} (vc:β→AV) (a:α) (v:β) (l:List (α×β)):aEh (kc a) (vc v) (l.map fun p=>(kc p.1,vc p.2))=some ((kT a v l).map fun p=>(kc p.1,vc p.2)):=by
 unfold aEh
 rw[wB kc hk,aX]
 congr 1
 induction l with
 |nil=>rfl
 |cons p r ih=>
  simp only[List.map_cons,aIx,kT]
  by_cases h:a=p.1
  ·simp[h]
  simp only[h,if_false,List.map_cons]
  rw[←ih]
  cases aIx a (r.map (·.1))<;>simp
end
theorem dNe (a b:Int):kEq (.i a) (.i b)=some (decide (a=b)):=(rfl)
end Go.AX

namespace Go.AX
open Go Go.Proofs
def GLh:Nat→Option (List AV):=fun _=>none
def wit (x lo hi:Int):Int:=if hi<(if x<lo then lo else x)then hi else if x<lo then lo else x
def dJc:List AV→Option AV
 |[.i x,.i lo,.i hi]=>some (.i (wit x lo hi))
 |_=>none
theorem dLp (x lo hi:Int):dJc [.i x,.i lo,.i hi]=some (.i (wit x lo hi)):=(rfl)
attribute [go_sem] dLp
theorem dNj:cL Try.prog GLh 28 dJc:=by
 refine cC Try.func28 (aT rfl) ?_
 intro args r hg
 unfold dJc at hg
 split at hg
 ·rename_i x lo hi
  obtain rfl:=J0 hg
  refine⟨J1 rfl,fun nx=>?_⟩
  refine aA rfl (bA [0,1,2] rfl rfl rfl fun K hK=>?_)
  simp(disch:=omega) only[Try.f28,go_sem,↓reduceIte]
  refine hK _ ?_
  refine aB (aA rfl (bA [6] rfl rfl rfl fun K hK=>?_))
  simp(disch:=omega) only[Try.f28,go_sem,↓reduceIte]
  refine hK _ ?_
  refine aB (aS rfl ?_)
  simp(disch:=omega) only[cN,bV,bK,bQ,Try.f28,go_sem,↓reduceIte]
  rfl
 cases hg
theorem dQx:bX Try.prog GLh 28 (.pure true dJc):=⟨⟨_,Try.func28,rfl,rfl⟩,dNj⟩
def dDv:List AV→Option (Nat×Nat×List AV)
 |[.sl n xs]=>aK (cI xs) fun l=>aN (l.length=n∧0<n∧n≤1000000) (some (n,1,c8 l))
 |_=>none
theorem dEw (l:List B8) (n:Nat) (hn:l.length=n) (h:0<n∧n≤1000000):dDv [.sl n (c8 l)]=some (n,1,c8 l):=by
 simp only[dDv,iA,aX];exact cU _ ⟨hn,h⟩
theorem cUl (zs:List AV):rep 0 zs=[]:=(rfl)
theorem dUr:oQ Try.prog 22=true:=by kernel_rfl
theorem dLj:dH Try.prog GLh 46 dDv:=by
 refine cT Try.func46 (aT rfl) ?_
 intro args r hg
 unfold dDv at hg
 split at hg
 ·rename_i n xs
  replace hg:=aJ hg;obtain⟨l,hl,hg⟩:=hg
  replace hg:=aP hg;obtain⟨⟨hn,h0,h1⟩,hg⟩:=hg
  obtain rfl:=J0 hg
  have:=bW hl
  change xs=c8 l at this
  subst this
  subst hn
  refine⟨J1 rfl,fun nx=>?_⟩
  refine aA rfl (bA [0] rfl rfl rfl fun K hK=>?_)
  simp(disch:=omega) only[Try.f46,go_sem,↓reduceIte]
  refine hK _ ?_
  refine aB (aA rfl (aA rfl (bA [4,0] rfl rfl rfl fun K hK=>?_)))
  simp(disch:=omega) only[Try.f46,go_sem,↓reduceIte,dUr,h0,true_and]
  refine hK _ ?_
  refine aB (eC (.tmp 4) rfl rfl rfl (fun h=>?_) (fun h=>?_))
  ·refine aI rfl ?_
   cases h
  refine aI rfl (aQ rfl (aB (aA rfl (bA [2] rfl rfl rfl fun K hK=>?_))))
  simp(disch:=omega) only[Try.f46,go_sem,↓reduceIte,cUl,List.length_nil,List.nil_append,iM]
  refine hK _ ?_
  refine aB (aS rfl ?_)
  simp(disch:=omega) only[fE,eO,bV,bK,bQ,Try.f46,go_sem,↓reduceIte,fQ,iM]
 cases hg
theorem cWr:bX Try.prog GLh 46 (.fresh true dDv):=⟨⟨_,Try.func46,rfl,rfl⟩,dLj⟩
end Go.AX

namespace Go.AX
open Go Go.Proofs Go.RowKit Go.WideShapes Go.ChangeShapes
section
variable {H : Type} {enc : TypeId × Value → H} {P : Program}
theorem uC (hl:laidOutB P=true) {W W':World} {sp:Nat→Bool}: ∀ {ts:List TypeId} {vs:List Value} {ds:List (DataW H)} {ps:List MemPlace},(ts.all fun t=>P.readableRec t&&decide (t<P.types.size))=true→
  DataW.TrodAll enc P W 0 (fun _=>true) true ts vs ds ps→(∀p∈ps,W.sameAt W' p)→(∀p∈ps,sp p.block=true)→DataW.TrodAll enc P W' 0 sp true ts vs ds ps
 |[],[],[],_,_,h,_,_=>h
 |t::ts,v::vs,d::ds,ps,ha,h,hs,hp=>by
  obtain⟨p,q,h1,h2,e⟩:=h
  simp only[List.all_cons,Bool.and_eq_true,decide_eq_true_eq]at ha
  refine⟨p,q,WideElems.Trod_stays hl ha.1.1 ha.1.2 h1 (fun x hx=>hs x (by rw[e];exact List.mem_append_left _ hx)) (fun x hx=>hp x (by rw[e];exact List.mem_append_left _ hx)),?_,e⟩
  exact uC hl (by simpa using ha.2) h2 (fun x hx=>hs x (by rw[e];exact List.mem_append_right _ hx)) (fun x hx=>hp x (by rw[e];exact List.mem_append_right _ hx))
 |[],_::_,_,_,_,h,_,_=>h.elim
 |[],[],_::_,_,_,h,_,_=>h.elim
 |_::_,[],_,_,_,h,_,_=>h.elim
 |_::_,_::_,[],_,_,h,_,_=>h.elim
theorem aZq {f:Func} {s:ChangeSpec} {apart fresh handsOn again:Bool} {W W':World} {args:Array Value} {ds gs:List (DataW H)} {before:List MemPlace} {tb:TypeId}
  (hl:laidOutB P=true) (hro:(f.params.toList.all fun t=>P.readableRec t&&decide (t<P.types.size))=true) (hrt:f.resultTypes= #[tb]) (htb:P.underlying tb=some .bool) (hvs:s.vars=[])
  (hfn:s.fn H (ds++gs)= {results:=[.lit (.bool true)],args:=ds})
  (hW:DataW.Whole enc P f.params.toList s.vars apart W args.toList ds gs before) (hb:Below W.heap.size W W'):
  s.post enc P f apart fresh handsOn again W args (.bool true) W':=by
 have hlt: ∀p∈before,p.block<W.heap.size:=fun p hp=>hW.lt p hp
 have hW':=hW
 obtain⟨p,q,hA,hV,hpq,hz,hn⟩:=hW
 have hq:q=[]∧gs=[]:=by
  rw[hvs]at hV
  cases gs with
  |nil=>exact⟨hV,rfl⟩
  |cons g r=>exact hV.elim
 obtain⟨rfl,rfl⟩:=hq
 rw[List.append_nil]at hpq
 subst hpq
 have hargs: ∀sp:Nat→Bool,(∀p∈before,sp p.block=true)→DataW.TrodAll enc P W' 0 sp true f.params.toList args.toList (s.fn H (ds++[])).args before:=by
  intro sp hsp
  rw[hfn]
  exact uC hl hro hA (fun x hx=>hb.same (hlt x hx)) hsp
 have hres: ∀(b:Nat) (sp:Nat→Bool) (hd:Bool),DataW.TrodAll enc P W' b sp hd f.resultTypes.toList ((Value.bool true).resultList f.resultTypes.size) (s.fn H (ds++[])).results []:=by
  intro b sp hd
  rw[hfn,hrt]
  exact trodAll_mk1 (shut_bool htb true)
 have hvars: ∀sp:Nat→Bool,(∀p∈before,sp p.block=true)→DataW.TrodVars enc P W' sp s.vars (s.fn H (ds++[])).vars []:=by
  intro sp _
  rw[hfn,hvs];rfl
 have hold: ∀p∈before,(fun b=>decide (b<W.heap.size)) p.block=true:=fun p hp=>by simpa using hlt p hp
 refine⟨ds,[],before,[],before,[],hW',hres _ _ _,hargs _ hold,hvars _ hold,World.keptBut_mono (fun p hp=>⟨hp,?_⟩) (hb.frame (· ∈before)),fun _=>?_⟩
 ·exact Or.inr (by simpa using hp)
 ·refine⟨ok_one hrt rfl (okWide_bool_mk htb true),_,_,([]++before)++[],⟨[]++before,[],trodAll_append (hargs _ (fun _ _=>rfl)) (hres _ _ _),hvars _ (fun _ _=>rfl),rfl,?_,?_⟩,?_⟩
  ·intro b off hp
   have hin:MemPlace.cell b off∈before:=by simpa using hp
   rw[hb.frozen (hlt _ hin)]
   exact hz b off hin
  ·intro ha
   have:=hn ha
   simpa using this
  ·intro p hp _
   simpa using hp
end
section
variable {H : Type} {enc : TypeId × Value → H} {P : Program} {W : World} {σ : Nat → Loc}
def nQ (enc:TypeId×Value→H) (P:Program) (W:World) (σ:Nat→Loc) (t:TypeId) (Q:AV→Prop):Prop:=
 ∀(m:Nat) (cs:List Value) (x:DataW H×List MemPlace),DataW.trod enc P W 0 (fun _=>true) true m t cs=some x→∃v y,cs=[v]∧Q y∧y.isCell=true∧Rel σ (fun k=>k<W.heap.size) W y v
theorem uZ {k:IntKind} {n:Int} (h:(Lit.int k n).wf=true):k.min≤n∧n≤k.max:=by
 simpa [Lit.wf]using h
theorem vX {t:TypeId} (ht:P.underlying t=some (.int .u8)):nQ enc P W σ t (fun y=> ∃b:B8,y=.w8 b):=by
 intro m cs x h
 obtain⟨n,rfl,_,hw⟩:=DataW.trod_int ht h
 have hb:=uZ hw
 have e1:IntKind.min .u8=0:=by decide
 have e2:IntKind.max .u8=255:=by decide
 rw[e1,e2]at hb
 refine⟨_,.w8 (BitVec.ofInt 8 n),rfl,⟨_,rfl⟩,rfl,?_⟩
 have e:((BitVec.ofInt 8 n).toNat:Int)=n:=by simp[BitVec.toNat_ofInt];omega
 have:=Rel.w8 (σ:=σ) (I:=fun k=>k<W.heap.size) (w:=W) (BitVec.ofInt 8 n)
 rwa [e]at this
theorem aZu {t:TypeId} (ht:P.underlying t=some (.int .u16)):nQ enc P W σ t (fun y=> ∃b:BitVec 16,y=.w16 b):=by
 intro m cs x h
 obtain⟨n,rfl,_,hw⟩:=DataW.trod_int ht h
 have hb:=uZ hw
 have e1:IntKind.min .u16=0:=by decide
 have e2:IntKind.max .u16=65535:=by decide
 rw[e1,e2]at hb
 refine⟨_,.w16 (BitVec.ofInt 16 n),rfl,⟨_,rfl⟩,rfl,?_⟩
 have e:((BitVec.ofInt 16 n).toNat:Int)=n:=by simp[BitVec.toNat_ofInt];omega
 have:=Rel.w16 (σ:=σ) (I:=fun k=>k<W.heap.size) (w:=W) (BitVec.ofInt 16 n)
 rwa [e]at this
theorem bOq {base:Nat} {a:Addr} {l:List Value} (h:W.cells? base a 1=some l): ∃v,l=[v]∧W.cell? a=some v:=by
 unfold World.cells? at h
 split at h
 ·simp only[List.range_one,List.mapM_cons,List.mapM_nil,bind,Option.bind_eq_some_iff,pure,Option.some.injEq]at h
  obtain⟨v,hv,l',rfl,rfl⟩:=h
  exact⟨v,rfl,by simpa [Addr.add]using hv⟩
 cases h
theorem zB {t e:TypeId} {Q:AV→Prop} (ht:P.underlying t=some (.slice e)) (hc:P.cellsOf e=1) (he:nQ enc P W σ e Q):
  nQ enc P W σ t (fun y=> ∃xs:List AV,y=.sl xs.length xs∧(∀z∈xs,Q z)∧xs.length≤9223372036854775807):=by
 intro m cs x h
 rcases DataW.trod_slice ht h with⟨rfl,_⟩|⟨a,len,cap,elems,rest,n,rfl,rfl,rfl,hb,hl,hm,hlen,hel,hsp,_⟩
 ·exact⟨_,.sl 0 [],rfl,⟨[],rfl,by simp,by simp⟩,rfl,.slnil⟩
 ·have hmax:len≤9223372036854775807:=by unfold maxLen at hm;omega
  have get: ∀i,i<len→∃v y,W.cell? (a.add i)=some v∧Q y∧y.isCell=true∧Rel σ (fun k=>k<W.heap.size) W y v:=by
   intro i hi
   have h1:=hel i hi
   rw[hc,Nat.mul_one]at h1
   rw[List.getElem?_eq_getElem (by omega:i<elems.length)]at h1
   obtain⟨l,hl1,hl2⟩:=Option.bind_eq_some_iff.1 h1
   obtain⟨v,rfl,hv⟩:=bOq hl1
   obtain⟨v',y,e1,hq,hcell,hr⟩:=he _ _ _ hl2
   obtain rfl:v=v':=by simpa using e1
   exact⟨v,y,hv,hq,hcell,hr⟩
  by_cases h0:len=0
  ·subst h0
   by_cases hcap:cap=0
   ·subst hcap
    exact⟨_,.sl 0 [],rfl,⟨[],rfl,by simp,by simp⟩,rfl,.slzero a⟩
   ·obtain⟨hr1,hr2⟩:=hsp rfl
    have h1:=hr2 0 (by omega)
    rw[hc,List.getElem?_eq_getElem (by omega:0<rest.length)]at h1
    obtain⟨l,hl1,_⟩:=Option.bind_eq_some_iff.1 h1
    obtain⟨v,rfl,hv⟩:=bOq hl1
    have hspot:a.spot=none:=by
     have:=World.cell?_spot hv
     simpa [Addr.add]using this
    have hblk:a.block<W.heap.size:=by
     simp only[World.cell?,Addr.add]at hv
     split at hv
     ·rename_i hh;exact(Array.getElem?_eq_some_iff.1 hh).1
     ·cases hv
    obtain⟨blk,off,spot⟩:=a
    subst hspot
    exact⟨_,.sl 0 [],rfl,⟨[],rfl,by simp,by simp⟩,rfl,.sl 0 [] blk off cap (fun _=>undef) hblk (by omega) (fun i hi=>by simp at hi) (fun i hi=>by simp at hi) (fun i hi=>by simp at hi)⟩
  ·have hex: ∀i:Fin len,∃p:Value×AV,W.cell? (a.add i.1)=some p.1∧Q p.2∧p.2.isCell=true∧Rel σ (fun k=>k<W.heap.size) W p.2 p.1:=by
    intro i
    obtain⟨v,y,h⟩:=get i.1 i.2
    exact⟨(v,y),h⟩
   obtain⟨F,hF⟩:=Classical.axiomOfChoice hex
   have hv0:=(hF ⟨0,by omega⟩).1
   simp only[Addr.add,if_true]at hv0
   have hspot:a.spot=none:=World.cell?_spot hv0
   have hblk:a.block<W.heap.size:=by
    simp only[World.cell?]at hv0
    split at hv0
    ·rename_i hh;exact(Array.getElem?_eq_some_iff.1 hh).1
    ·cases hv0
   obtain⟨blk,off,spot⟩:=a
   subst hspot
   have hlx:(List.ofFn fun i=>(F i).2).length=len:=List.length_ofFn
   refine⟨_,.sl len (List.ofFn fun i=>(F i).2),rfl,⟨_,by rw[hlx],?_,by rw[hlx];exact hmax⟩,rfl,?_⟩
   ·intro z hz
    rw[List.mem_ofFn]at hz
    obtain⟨i,rfl⟩:=hz
    exact(hF i).2.1
   ·refine .sl len _ blk off cap (fun i=>if h:i<len then(F ⟨i,h⟩).1 else undef) hblk hl (fun i hi=>?_) (fun i hi=>?_) (fun i hi=>?_)
    ·rw[hlx]at hi
     rw[dif_pos hi];have:=(hF ⟨i,hi⟩).1;rwa [eE]at this
    ·rw[hlx]at hi
     rw[List.getElem_ofFn];exact(hF ⟨i,hi⟩).2.2.1
    ·rw[hlx]at hi
     rw[dif_pos hi,List.getElem_ofFn];exact(hF ⟨i,hi⟩).2.2.2
theorem bRz: ∀ {xs:List AV},(∀z∈xs,∃b:B8,z=.w8 b)→∃l:List B8,xs=c8 l
 |[],_=>⟨[],rfl⟩
 |x::r,h=>by
  obtain⟨b,rfl⟩:=h x (by simp)
  obtain⟨l,hl⟩:=bRz (xs:=r) (fun z hz=>h z (by simp[hz]))
  exact⟨b::l,by rw[hl];rfl⟩
theorem iC {t e:TypeId} (ht:P.underlying t=some (.slice e)) (hc:P.cellsOf e=1) (he:P.underlying e=some (.int .u8)):
  nQ enc P W σ t (fun y=> ∃l:List B8,y=.sl l.length (c8 l)∧l.length≤9223372036854775807):=by
 intro m cs x h
 obtain⟨v,y,e1,⟨xs,rfl,hq,hlen⟩,h2,h3⟩:=zB ht hc (vX he) m cs x h
 obtain⟨l,rfl⟩:=bRz hq
 rw[iM]at hlen h3
 exact⟨v,_,e1,⟨l,rfl,hlen⟩,rfl,h3⟩
end
end Go.AX

namespace Go.AX
open Go Go.Proofs Go.RowKit Go.WideShapes Go.ChangeShapes Go.Proofs.Ytojgbdpghlbagaa
theorem bLx:laidOutB Try.prog=true:=by kernel_rfl
theorem ownT:ownKnob Try.prog.godebug=none:=by kernel_rfl
theorem c5:Try.prog.cellsOf 5=1:=by kernel_rfl
theorem bAx {f:Nat} {g:List AV→Option AV} (hf:cL Try.prog GLh f g) {W:World} {args:List AV} {vals:Array Value} (hs:vals.size=args.length)
  (hr: ∀i (_h:i<args.length),Rel (fun _=> .unset) (fun k=>k<W.heap.size) W args[i] (vals.getD i undef)) (hg:g args=some (.b true)):
  Calls Try.prog f vals W fun e W'=>e=.returned (.bool true)∧Below W.heap.size W W':=by
 refine(hf (fun _=> .unset) (fun k=>k<W.heap.size) W 0 args vals _ (fun _ _=>rfl) (fun _ h=>h) (fun g xs h=>by cases h) hs hr hg).mono ?_
 rintro e w' ⟨v,σ',I',rfl,a1,a2,a3,a4,a5,_,_,_,a9⟩
 cases a9
 exact⟨rfl,a1,a2,a3,a4,a5⟩
theorem aTx {H:Type} {enc:TypeId×Value→H} {P:Program} {W:World} {σ:Nat→Loc} {t:TypeId} {Q:AV→Prop} {v:Value} {d:DataW H} {ps:List MemPlace} (ho:nQ enc P W σ t Q) (hv:v.cells.toList=[v]) (h:DataW.Trod enc P W 0 (fun _=>true) true t v d ps):
  ∃y,Q y∧Rel σ (fun k=>k<W.heap.size) W y v:=by
 obtain⟨m,h⟩:=h
 obtain⟨v',y,e,hq,_,hr⟩:=ho m _ _ h
 rw[hv]at e
 obtain rfl:v=v':=by simpa using e
 exact⟨y,hq,hr⟩
theorem bEs {H:Type} {enc:TypeId×Value→H} {P:Program} {W W2:World} {σ:Nat→Loc} {t e:TypeId} {Q:AV→Prop} {v:Value} {d:DataW H} {ps:List MemPlace} {r:Reach} {b:Nat} (ht:P.underlying t=some (.slice e)) (hval:Value.okWide P W2 r b t v) (ho:nQ enc P W σ t Q) (h:DataW.Trod enc P W 0 (fun _=>true) true t v d ps):
  ∃y,Q y∧Rel σ (fun k=>k<W.heap.size) W y v:=by
 obtain⟨a,len,cap,rfl⟩:=okWide_slice ht hval
 exact aTx ho rfl h
end Go.AX

namespace Go.AX
open Go Go.Proofs Go.RowKit Go.WideShapes Go.ChangeShapes
section
variable {H : Type} {enc : TypeId × Value → H} {P : Program} {w : World} {base : Nat} {spare : Nat → Bool} {held : Bool}
end
end Go.AX

namespace Go.AX
open Go Go.Proofs
structure DC where
 rows:List (List B8)
 g:Bool
 dirty:List (Int×List B8)
 cut:Int
 dead:Bool
def zP (b:List B8):AV:=.sl b.length (c8 b)
def dEz (l:List (Int×List B8)):List (AV×AV):=l.map fun p=>(.i p.1,zP p.2)
structure aZo (hp:H) (d s m:Nat) (C:DC):Prop where
 hd:hp d=some (.cells [.os s 0 C.rows.length 1 C.g,.mp m,.i C.cut,.b C.dead] true)
 hs:hp s=some (.cells (C.rows.map zP) true)
 hm:hp m=some (.mapo (dEz C.dirty) true)
 ne:d≠s∧d≠m∧s≠m∧s≠d∧m≠d∧m≠s
def bO (d s m:Nat) (C:DC) (hp:H):H:=upd (upd (upd hp s (.cells (C.rows.map zP) true)) m (.mapo (dEz C.dirty) true)) d (.cells [.os s 0 C.rows.length 1 C.g,.mp m,.i C.cut,.b C.dead] true)
theorem dFw {a b:List B8} (h:c8 a=c8 b):a=b:=by
 have h1:=iA a;rw[h,iA]at h1;exact(J0 h1).symm
theorem dHm {a b:List B8} (h:zP a=zP b):a=b:=dFw (AV.sl.inj h).2
theorem dEl {α β:Type} {f:α→β} (hf: ∀a b,f a=f b→a=b): ∀ {l l':List α},l.map f=l'.map f→l=l'
 |[],[],_=>rfl
 |[],_::_,h=>by cases h
 |_::_,[],h=>by cases h
 |a::r,b::r',h=>by
  simp only[List.map_cons,List.cons.injEq]at h
  rw[hf a b h.1,dEl hf h.2]
theorem dLe {a b:List (Int×List B8)} (h:dEz a=dEz b):a=b:=dEl (fun p q e=>by
 obtain⟨e1,e2⟩:=Prod.mk.inj e
 exact Prod.ext (AV.i.inj e1) (dHm e2)) h
theorem aZo.uniq {hp:H} {d s m s' m':Nat} {C C':DC} (h:aZo hp d s m C) (h':aZo hp d s' m' C'):s=s'∧m=m'∧C=C':=by
 have e:=h.hd.symm.trans h'.hd
 simp only[Option.some.injEq,AO.cells.injEq,List.cons.injEq,AV.os.injEq,AV.mp.injEq,AV.i.injEq,AV.b.injEq]at e
 obtain⟨⟨⟨rfl,_,_,_,eg⟩,rfl,ec,ed,_⟩,_⟩:=e
 have er0:=h.hs.symm.trans h'.hs
 have em0:=h.hm.symm.trans h'.hm
 have er:=dEl (fun _ _=>dHm) (AO.cells.inj (J0 er0)).1
 have em:=dLe (AO.mapo.inj (J0 em0)).1
 obtain⟨r1,g1,d1,c1,x1⟩:=C
 obtain⟨r2,g2,d2,c2,x2⟩:=C'
 simp only at er em eg ec ed
 subst er;subst em;subst eg;subst ec;subst ed
 exact⟨rfl,rfl,rfl⟩
structure DT where
 s:Nat
 m:Nat
 C:DC
open Classical in
noncomputable def mB (hp:H) (d:Nat):Option DT:=if h: ∃t:DT,aZo hp d t.s t.m t.C then some (Classical.choose h)else none
theorem mK {hp:H} {d s m:Nat} {C:DC} (h:aZo hp d s m C):mB hp d=some ⟨s,m,C⟩:=by
 have hx: ∃t:DT,aZo hp d t.s t.m t.C:=⟨⟨s,m,C⟩,h⟩
 unfold mB
 rw[dif_pos hx]
 have h2:=Classical.choose_spec hx
 obtain⟨e1,e2,e3⟩:=h2.uniq h
 congr 1
 generalize Classical.choose hx=t at e1 e2 e3
 cases t;simp only at e1 e2 e3;rw[e1,e2,e3]
theorem mD {hp:H} {d:Nat} {t:DT} (h:mB hp d=some t):aZo hp d t.s t.m t.C:=by
 unfold mB at h
 split at h
 ·rename_i hx
  obtain rfl:=J0 h
  exact Classical.choose_spec hx
 cases h
theorem dEp {hp:H} {d s m:Nat} {C:DC} (h1:d≠s) (h2:d≠m) (h3:s≠m):aZo (bO d s m C hp) d s m C:=
 ⟨by simp[bO,bJ],by simp[bO,bJ,Ne.symm h1,h3],by simp[bO,bJ,Ne.symm h2],⟨h1,h2,h3,Ne.symm h1,Ne.symm h2,Ne.symm h3⟩⟩
theorem dMs (hp:H) (d s m:Nat) (C:DC) (h1:d≠s) (h2:d≠m) (h3:s≠m):mB (bO d s m C hp) d=some ⟨s,m,C⟩:=mK (dEp h1 h2 h3)
theorem dJz (hp:H) (d s m:Nat) (C C':DC):bO d s m C' (bO d s m C hp)=bO d s m C' hp:=by
 funext k
 simp only[bO,bJ]
 by_cases h1:k=d
 ·simp[h1]
 by_cases h2:k=m
 ·simp[h2]
 by_cases h3:k=s
 ·simp[h3]
 simp[h1,h2,h3]
theorem mH (hp:H) (d s m:Nat) (C:DC) (k:Nat) (h1:k≠d) (h2:k≠s) (h3:k≠m):bO d s m C hp k=hp k:=by simp[bO,bJ,h1,h2,h3]
theorem dGy (hp:H) (d s m:Nat) (C:DC) (k:Nat) (o:AO) (h1:k≠d) (h2:k≠s) (h3:k≠m):upd (bO d s m C hp) k o=bO d s m C (upd hp k o):=by
 funext j
 simp only[bO,bJ]
 by_cases e:j=k
 ·subst e;simp[h1,h2,h3]
 simp[e]
theorem mC {hp:H} {d s m:Nat} {C:DC} (h:aZo hp d s m C):bO d s m C hp=hp:=by
 funext k
 simp only[bO,bJ]
 by_cases h1:k=d
 ·subst h1;rw[J4 rfl,h.hd]
 rw[J3 h1]
 by_cases h2:k=m
 ·subst h2;rw[J4 rfl,h.hm]
 rw[J3 h2]
 by_cases h3:k=s
 ·subst h3;rw[J4 rfl,h.hs]
 rw[J3 h3]
theorem dEj {hp t:H} {d s m:Nat} {C:DC} (h1:t d=some (.cells [.os s 0 C.rows.length 1 C.g,.mp m,.i C.cut,.b C.dead] true)) (h2:t s=some (.cells (C.rows.map zP) true)) (h3:t m=some (.mapo (dEz C.dirty) true))
  (h: ∀k o,k≠d→k≠s→k≠m→hp k=some o→t k=some o) (k:Nat) (o:AO) (hk:bO d s m C hp k=some o):t k=some o:=by
 simp only[bO,bJ]at hk
 by_cases e1:k=d
 ·subst e1;rw[J4 rfl]at hk;rw[h1];exact hk
 ·rw[J3 e1]at hk
  by_cases e2:k=m
  ·subst e2;rw[J4 rfl]at hk;rw[h3];exact hk
  ·rw[J3 e2]at hk
   by_cases e3:k=s
   ·subst e3;rw[J4 rfl]at hk;rw[h2];exact hk
   ·rw[J3 e3]at hk;exact h k o e1 e3 e2 hk
theorem dNv (hp:H) (d s m:Nat) (C:DC):bO d s m C hp d=some (.cells [.os s 0 C.rows.length 1 C.g,.mp m,.i C.cut,.b C.dead] true):=by simp[bO,bJ]
theorem dNu (hp:H) (d s m:Nat) (C:DC) (h1:s≠d) (h2:s≠m):bO d s m C hp s=some (.cells (C.rows.map zP) true):=by simp[bO,bJ,h1,h2]
theorem dKa (hp:H) (d s m:Nat) (C:DC) (h1:m≠d):bO d s m C hp m=some (.mapo (dEz C.dirty) true):=by simp[bO,bJ,h1]
theorem dGf (hp:H) (d s m:Nat) (C:DC) (l:List (Int×List B8)) (h1:m≠d):upd (bO d s m C hp) m (.mapo (dEz l) true)=bO d s m {C with dirty:=l} hp:=by
 funext k
 simp only[bO,bJ]
 by_cases e:k=m
 ·subst e;simp[h1]
 simp[e]
theorem dJe (hp:H) (d s m:Nat) (C:DC) (l:List (List B8)) (hl:l.length=C.rows.length) (h1:s≠d) (h2:s≠m):upd (bO d s m C hp) s (.cells (l.map zP) true)=bO d s m {C with rows:=l} hp:=by
 funext k
 simp only[bO,bJ]
 by_cases e:k=s
 ·subst e;simp[h1,h2]
 simp[e,hl]
theorem eL {hp hp2:H} {d s m:Nat} {C:DC} (h: ∀j o,hp j=some o→hp2 j=some o) (k:Nat) (o:AO) (hk:bO d s m C hp k=some o):bO d s m C hp2 k=some o:=by
 simp only[bO,bJ]at hk⊢
 by_cases e1:k=d
 ·rw[J4 e1]at hk⊢;exact hk
 rw[J3 e1]at hk⊢
 by_cases e2:k=m
 ·rw[J4 e2]at hk⊢;exact hk
 rw[J3 e2]at hk⊢
 by_cases e3:k=s
 ·rw[J4 e3]at hk⊢;exact hk
 rw[J3 e3]at hk⊢;exact h k o hk
attribute [go_sem] dNv dNu dKa dGf dMs dJz mH dGy
theorem cA {hp:H} {nx d:Nat} {o:AO} (hn: ∀id,nx≤id→hp id=none) (h:hp d=some o):d<nx:=by
 rcases Nat.lt_or_ge d nx with e|e
 ·exact e
 rw[hn d e]at h;cases h
noncomputable def dGz:List AV→H→Nat→Option (AV×H×Nat)
 |[.op d 0],hp,nx=>aK (mB hp d) fun t=>some (.i t.C.rows.length,hp,nx+50)
 |_,_,_=>none
theorem dLw (d:Nat) (hp:H) (nx:Nat):dGz [.op d 0] hp nx=aK (mB hp d) fun t=>some (.i t.C.rows.length,hp,nx+50):=(rfl)
attribute [go_sem] dLw
theorem dNw:cQ Try.prog GLh 29 dGz:=by
 refine gF Try.func29 (aT rfl) ?_
 intro args hp nx r hp' nx' hg
 unfold dGz at hg
 split at hg
 ·rename_i d
  replace hg:=aJ hg;obtain⟨⟨s,m,C⟩,hD,hg⟩:=hg
  have hD:=mD hD
  simp only[Option.some.injEq,Prod.mk.injEq]at hg hD;obtain⟨rfl,rfl,rfl⟩:=hg
  refine⟨J1 rfl,by omega,fun hnone=>?_⟩
  have h1:=hD.hd;have h2:=hD.hs;have h3:=hD.hm
  refine aA rfl (bA [0] rfl rfl rfl fun K hK=>?_)
  simp(disch:=omega) only[Try.f29,go_sem,↓reduceIte]
  refine hK _ ?_
  refine aB (aA rfl (bA [2] rfl rfl rfl fun K hK=>?_))
  simp(disch:=omega) only[Try.f29,go_sem,↓reduceIte,h1]
  refine hK _ ?_
  refine aB (aS rfl ?_)
  exact⟨rfl,fun j o h=>h,by simp only;omega⟩
 cases hg
theorem ok8:bX Try.prog GLh 29 (.heap dGz):=⟨⟨_,Try.func29,rfl,rfl⟩,dNw⟩
end Go.AX

namespace Go.AX
open Go Go.Proofs
theorem dLc (b:List B8) (e:TypeId):aEk (zP b) (some (.slice e))=some (.i b.length):=(rfl)
attribute [go_sem] dLc
def uK:List (List B8)→Option Int
 |[]=>none
 |b::_=>some b.length
noncomputable def dGx:List AV→H→Nat→Option (AV×H×Nat)
 |[.op d 0],hp,nx=>aK (mB hp d) fun t=>aK (uK t.C.rows) fun n=>some (.i n,hp,nx+50)
 |_,_,_=>none
theorem dLu (d:Nat) (hp:H) (nx:Nat):dGx [.op d 0] hp nx=aK (mB hp d) fun t=>aK (uK t.C.rows) fun n=>some (.i n,hp,nx+50):=(rfl)
attribute [go_sem] dLu
theorem dNt:cQ Try.prog GLh 37 dGx:=by
 refine gF Try.func37 (aT rfl) ?_
 intro args hp nx r hp' nx' hg
 unfold dGx at hg
 split at hg
 ·rename_i d
  replace hg:=aJ hg;obtain⟨⟨s,m,C⟩,hD,hg⟩:=hg
  have hD:=mD hD
  replace hg:=aJ hg;obtain⟨n,hn,hg⟩:=hg
  simp only[Option.some.injEq,Prod.mk.injEq]at hg hD;obtain⟨rfl,rfl,rfl⟩:=hg
  refine⟨J1 rfl,by omega,fun hnone=>?_⟩
  have h1:=hD.hd;have h2:=hD.hs;have h3:=hD.hm
  obtain⟨rows,g,dirty,cut,dead⟩:=C
  cases rows with
  |nil=>cases hn
  |cons b rows=>
  obtain rfl:=J0 hn
  simp only at h1 h2 h3
  refine aA rfl (bA [0] rfl rfl rfl fun K hK=>?_)
  simp(disch:=omega) only[Try.f37,go_sem,↓reduceIte]
  refine hK _ ?_
  refine aB (aA rfl (bA [2] rfl rfl rfl fun K hK=>?_))
  simp(disch:=omega) only[Try.f37,go_sem,↓reduceIte,h1,h2,List.length_cons,List.map_cons,J9,J8,Nat.zero_add]
  refine hK _ ?_
  refine aB (aS rfl ?_)
  exact⟨rfl,fun j o h=>h,by simp only;omega⟩
 cases hg
theorem ok9:bX Try.prog GLh 37 (.heap dGx):=⟨⟨_,Try.func37,rfl,rfl⟩,dNt⟩
def atV (C:DC) (i:Int):Int:=if C.dead=true then 82 else if i<0∨i≥C.rows.length then 80 else 0
noncomputable def atG:List AV→H→Nat→Option (AV×H×Nat)
 |[.op d 0,.i i],hp,nx=>aK (mB hp d) fun t=>some (.i (atV t.C i),hp,nx+50)
 |_,_,_=>none
theorem dPs (d:Nat) (i:Int) (hp:H) (nx:Nat):atG [.op d 0,.i i] hp nx=aK (mB hp d) fun t=>some (.i (atV t.C i),hp,nx+50):=(rfl)
attribute [go_sem] dPs
theorem dRp:cQ Try.prog GLh 45 atG:=by
 refine gF Try.func45 (aT rfl) ?_
 intro args hp nx r hp' nx' hg
 unfold atG at hg
 split at hg
 ·rename_i d i
  replace hg:=aJ hg;obtain⟨⟨s,m,C⟩,hD,hg⟩:=hg
  have hD:=mD hD
  simp only[Option.some.injEq,Prod.mk.injEq]at hg hD;obtain⟨rfl,rfl,rfl⟩:=hg
  refine⟨J1 rfl,by omega,fun hnone=>?_⟩
  have h1:=hD.hd;have h2:=hD.hs;have h3:=hD.hm
  refine aA rfl (bA [0,1] rfl rfl rfl fun K hK=>?_)
  simp(disch:=omega) only[Try.f45,go_sem,↓reduceIte]
  refine hK _ ?_
  refine aB (aA rfl (aR 0 rfl rfl (aA rfl (bA [5,0,1] rfl rfl rfl fun K hK=>?_))))
  simp(disch:=omega) only[Try.f45,go_sem,↓reduceIte,h1,J7,J9,J8]
  refine hK _ ?_
  refine aB (eC (.tmp 5) rfl rfl rfl (fun h=>?_) (fun h=>?_))
  ·refine aI rfl ?_
   have e:atV C i=82:=J4 h
   rw[e]
   refine aA rfl (bA [4] rfl rfl rfl fun K hK=>?_)
   simp(disch:=omega) only[Try.f45,go_sem,↓reduceIte]
   refine hK _ ?_
   refine aB (aS rfl (bN (bI ?_)))
   exact⟨rfl,fun j o h=>h,by simp only;omega⟩
  refine aI rfl ?_
  by_cases hi:i<0
  ·have e:atV C i=80:=by unfold atV;rw[J3 (by simp[h]),J4 (.inl hi)]
   rw[e]
   refine aA rfl (bA [10] rfl rfl rfl fun K hK=>?_)
   simp(disch:=omega) only[Try.f45,go_sem,↓reduceIte,J5 hi]
   refine hK _ ?_
   refine aB (eC (.tmp 10) rfl rfl rfl (fun h=>?_) (fun h=>?_))
   ·refine aI rfl (aA rfl (bA [4] rfl rfl rfl fun K hK=>?_))
    simp(disch:=omega) only[Try.f45,go_sem,↓reduceIte]
    refine hK _ ?_
    refine aB (aS rfl (bN (bI ?_)))
    exact⟨rfl,fun j o h=>h,by simp only;omega⟩
   refine aI rfl ?_
   cases h
  have hd1:decide (i<0)=false:=J6 hi
  refine aA rfl (bA [10] rfl rfl rfl fun K hK=>?_)
  simp(disch:=omega) only[Try.f45,go_sem,↓reduceIte,h1,hd1]
  refine hK _ ?_
  refine aB (aW (.tmp 10) rfl rfl rfl (fun h=>?_) (fun h=>?_))
  ·refine aI rfl ?_
   have e:atV C i=80:=by unfold atV;rw[J3 (by simp_all),J4 (.inr h)]
   rw[e]
   refine aA rfl (bA [4] rfl rfl rfl fun K hK=>?_)
   simp(disch:=omega) only[Try.f45,go_sem,↓reduceIte]
   refine hK _ ?_
   refine aB (aS rfl (bN (bI ?_)))
   exact⟨rfl,fun j o h=>h,by simp only;omega⟩
  refine aI rfl ?_
  have e:atV C i=0:=by unfold atV;rw[J3 (by simp_all),J3 (fun q=>q.elim hi h)]
  rw[e]
  refine aQ rfl (bU (aB (aA rfl (bA [4] rfl rfl rfl fun K hK=>?_))))
  simp(disch:=omega) only[Try.f45,go_sem,↓reduceIte]
  refine hK _ ?_
  refine aB (aS rfl ?_)
  exact⟨rfl,fun j o h=>h,by simp only;omega⟩
 cases hg
theorem dQw:bX Try.prog GLh 45 (.heap atG):=⟨⟨_,Try.func45,rfl,rfl⟩,dRp⟩
def pwV (C:DC):Int×DC:=if C.cut=0 then(82,{C with dead:=true})else if 0<C.cut then(0,{C with cut:=W (C.cut-1)})else(0,C)
noncomputable def pwG:List AV→H→Nat→Option (AV×H×Nat)
 |[.op d 0],hp,nx=>aK (mB hp d) fun t=>some (.i (pwV t.C).1,bO d t.s t.m (pwV t.C).2 hp,nx+50)
 |_,_,_=>none
theorem dOc (d:Nat) (hp:H) (nx:Nat):pwG [.op d 0] hp nx=aK (mB hp d) fun t=>some (.i (pwV t.C).1,bO d t.s t.m (pwV t.C).2 hp,nx+50):=(rfl)
attribute [go_sem] dOc
theorem dQj:cQ Try.prog GLh 47 pwG:=by
 refine gF Try.func47 (aT rfl) ?_
 intro args hp nx r hp' nx' hg
 unfold pwG at hg
 split at hg
 ·rename_i d
  replace hg:=aJ hg;obtain⟨⟨s,m,C⟩,hD,hg⟩:=hg
  have hD:=mD hD
  simp only[Option.some.injEq,Prod.mk.injEq]at hg hD;obtain⟨rfl,rfl,rfl⟩:=hg
  refine⟨J1 rfl,by omega,fun hnone=>?_⟩
  have h1:=hD.hd;have h2:=hD.hs;have h3:=hD.hm
  obtain⟨n1,n2,n3,n4,n5,n6⟩:=hD.ne
  refine aA rfl (bA [0] rfl rfl rfl fun K hK=>?_)
  simp(disch:=omega) only[Try.f47,go_sem,↓reduceIte]
  refine hK _ ?_
  refine aB (aA rfl (aA rfl (bA [7,0] rfl rfl rfl fun K hK=>?_)))
  simp(disch:=omega) only[Try.f47,go_sem,↓reduceIte,h1,J7,J9,J8]
  refine hK _ ?_
  refine aB (aW (.tmp 7) rfl rfl rfl (fun h=>?_) (fun h=>?_))
  ·refine aI rfl ?_
   have e:pwV C=(82,{C with dead:=true}):=J4 h
   rw[e]
   refine aA rfl (bA [] rfl rfl rfl fun K hK=>?_)
   simp(disch:=omega) only[Try.f47,go_sem,↓reduceIte,h1]
   refine hK _ ?_
   refine aB (aA rfl (bA [2] rfl rfl rfl fun K hK=>?_))
   simp(disch:=omega) only[Try.f47,go_sem,↓reduceIte]
   refine hK _ ?_
   refine aB (aS rfl (bI ?_))
   refine⟨rfl,dEj (by simp[bJ]) ?_ ?_ ?_,by simp only;omega⟩
   ·simp only[bJ,J3 n4];exact h2
   ·simp only[bJ,J3 n5];exact h3
   intro k o k1 k2 k3 hk
   simp only[bJ,J3 k1];exact hk
  refine aI rfl (aQ rfl (aB (aA rfl (aA rfl (bA [15,0] rfl rfl rfl fun K hK=>?_)))))
  simp(disch:=omega) only[Try.f47,go_sem,↓reduceIte,h1,J7,J9,J8]
  refine hK _ ?_
  refine aB (aW (.tmp 15) rfl rfl rfl (fun h=>?_) (fun h=>?_))
  ·refine aI rfl ?_
   have e:pwV C=(0,{C with cut:=W (C.cut-1)}):=by unfold pwV;rw[J3 (by assumption),J4 h]
   rw[e]
   refine bA [] rfl rfl rfl fun K hK=>?_
   simp(disch:=omega) only[Try.f47,go_sem,↓reduceIte,h1,J7,J9,J8]
   refine hK _ ?_
   refine aB (aA rfl (bA [2] rfl rfl rfl fun K hK=>?_))
   simp(disch:=omega) only[Try.f47,go_sem,↓reduceIte]
   refine hK _ ?_
   refine aB (aS rfl ?_)
   refine⟨rfl,dEj (by simp[bJ]) ?_ ?_ ?_,by simp only;omega⟩
   ·simp only[bJ,J3 n4];exact h2
   ·simp only[bJ,J3 n5];exact h3
   intro k o k1 k2 k3 hk
   simp only[bJ,J3 k1];exact hk
  refine aI rfl ?_
  have e:pwV C=(0,C):=by unfold pwV;rw[J3 (by assumption),J3 h]
  rw[e]
  refine aQ rfl (aB (aA rfl (bA [2] rfl rfl rfl fun K hK=>?_)))
  simp(disch:=omega) only[Try.f47,go_sem,↓reduceIte]
  refine hK _ ?_
  refine aB (aS rfl ?_)
  refine⟨rfl,?_,by simp only;omega⟩
  rw[mC hD];exact fun j o h=>h
 cases hg
theorem cWs:bX Try.prog GLh 47 (.heap pwG):=⟨⟨_,Try.func47,rfl,rfl⟩,dQj⟩
def dRt (C:DC) (n:Int):DC:= {C with cut:=if n<0 then 0 else n}
end Go.AX

namespace Go.AX
open Go Go.Proofs
theorem dFe (i:Int) (l:List (Int×List B8)):aNp (.i i) (dEz l)=some ((iK i l).map zP):=aNo (α:=Int) AV.i dNe zP i l
theorem dLd (i:Int) (b:List B8) (l:List (Int×List B8)):aEh (.i i) (zP b) (dEz l)=some (dEz (kT i b l)):=aNm (α:=Int) AV.i dNe zP i b l
theorem dIw (b:List B8):zP b=.sl b.length (c8 b):=(rfl)
def rdS (C:DC) (i:Int) (nx:Nat) (hp:H):Option (List B8)→Option (AV×H×Nat)
 |some b=>aN (0<b.length∧b.length≤1000000) (some (.tup [.os (nx+71) 0 b.length 1 true,.i 0],upd hp (nx+71) (.cells (c8 b) true),nx+100))
 |none=>aK C.rows[i.toNat]? fun b=>aN (0<b.length∧b.length≤1000000) (some (.tup [.os (nx+77) 0 b.length 1 true,.i 0],upd hp (nx+77) (.cells (c8 b) true),nx+100))
def rdE (C:DC) (i:Int) (nx:Nat) (hp:H):Int→Option (AV×H×Nat)
 |0=>rdS C i nx hp (iK i C.dirty)
 |e=>some (.tup [.v (.slice none 0 0),.i e],hp,nx+100)
noncomputable def rdG:List AV→H→Nat→Option (AV×H×Nat)
 |[.op d 0,.i i],hp,nx=>aK (mB hp d) fun t=>rdE t.C i nx hp (atV t.C i)
 |_,_,_=>none
theorem dNz (d:Nat) (i:Int) (hp:H) (nx:Nat):rdG [.op d 0,.i i] hp nx=aK (mB hp d) fun t=>rdE t.C i nx hp (atV t.C i):=(rfl)
theorem dQi (C:DC) (i:Int) (nx:Nat) (hp:H):rdE C i nx hp 0=rdS C i nx hp (iK i C.dirty):=(rfl)
theorem dQg (C:DC) (i:Int) (nx:Nat) (hp:H) (b:List B8):rdS C i nx hp (some b)=aN (0<b.length∧b.length≤1000000) (some (.tup [.os (nx+71) 0 b.length 1 true,.i 0],upd hp (nx+71) (.cells (c8 b) true),nx+100)):=(rfl)
theorem dQh (C:DC) (i:Int) (nx:Nat) (hp:H):rdS C i nx hp none=aK C.rows[i.toNat]? fun b=>aN (0<b.length∧b.length≤1000000) (some (.tup [.os (nx+77) 0 b.length 1 true,.i 0],upd hp (nx+77) (.cells (c8 b) true),nx+100)):=(rfl)
attribute [go_sem] dNz dQi dQg dQh
theorem dHs {C:DC} {i:Int} (h:atV C i=0):C.dead=false∧0≤i∧i<C.rows.length:=by
 unfold atV at h
 split at h
 ·cases h
 split at h
 ·cases h
 rename_i h1 h2
 refine⟨by simpa using h1,by omega,by omega⟩
set_option maxHeartbeats 1000000 in
theorem dQf:cQ Try.prog GLh 16 rdG:=by
 refine gF Try.func16 (aT rfl) ?_
 intro args hp nx r hp' nx' hg
 unfold rdG at hg
 split at hg
 ·rename_i d i
  replace hg:=aJ hg;obtain⟨⟨s,m,C⟩,hD0,hg⟩:=hg
  have hD:=mD hD0
  simp only[rdE]at hg hD
  have h1:=hD.hd;have h2:=hD.hs;have h3:=hD.hm
  obtain⟨n1,n2,n3,n4,n5,n6⟩:=hD.ne
  refine⟨J1 rfl,?_,fun hnone=>?_⟩
  ·split at hg
   ·unfold rdS at hg
    split at hg
    ·replace hg:=aP hg;obtain⟨_,hg⟩:=hg
     simp only[Option.some.injEq,Prod.mk.injEq]at hg;omega
    replace hg:=aJ hg;obtain⟨b,_,hg⟩:=hg
    replace hg:=aP hg;obtain⟨_,hg⟩:=hg
    simp only[Option.some.injEq,Prod.mk.injEq]at hg;omega
   simp only[Option.some.injEq,Prod.mk.injEq]at hg;omega
  have hlt: ∀k o,hp k=some o→k<nx:=fun k o hk=>cA hnone hk
  refine aA rfl (bA [0,1] rfl rfl rfl fun K hK=>?_)
  simp(disch:=omega) only[Try.f16,go_sem,↓reduceIte]
  refine hK _ ?_
  refine aB (aA rfl (aA rfl (aC (Γ:=bC [(45,.heap atG)]) [0,1,6] (aH dQw aO) rfl rfl rfl (fun K hK=>?_))))
  simp(disch:=omega) only[Try.f16,go_sem,↓reduceIte,hD0]
  refine hK _ ?_
  refine aB (aA rfl (bA [13,0,1,6] rfl rfl rfl fun K hK=>?_))
  simp(disch:=omega) only[Try.f16,go_sem,↓reduceIte]
  refine hK _ ?_
  refine aB (xF (.tmp 13) rfl rfl rfl (fun h=>?_) (fun h=>?_))
  ·refine aI rfl ?_
   split at hg
   ·rename_i h0
    exact absurd h0 h
   simp only[Option.some.injEq,Prod.mk.injEq]at hg;obtain⟨rfl,rfl,rfl⟩:=hg
   refine aA rfl (bA [4,5] rfl rfl rfl fun K hK=>?_)
   simp(disch:=omega) only[Try.f16,go_sem,↓reduceIte]
   refine hK _ ?_
   refine aB (aS rfl (bI ?_))
   exact⟨rfl,fun j o h=>h,by simp only;omega⟩
  refine aI rfl ?_
  have h0:atV C i=0:=h
  rw[h0]at hg
  simp only at hg
  obtain⟨_,hi1,hi2⟩:=dHs h0
  obtain⟨gk,hgk⟩: ∃gk,iK i C.dirty=gk:=⟨_,rfl⟩
  rw[hgk]at hg
  refine aQ rfl (aB (aA rfl (aA rfl ?_)))
  cases gk
  ·simp only[rdS]at hg
   replace hg:=aJ hg;obtain⟨b,hb,hg⟩:=hg
   replace hg:=aP hg;obtain⟨⟨hb0,hb1⟩,hg⟩:=hg
   simp only[Option.some.injEq,Prod.mk.injEq]at hg;obtain⟨rfl,rfl,rfl⟩:=hg
   refine bA [0,1,7,8] rfl rfl rfl fun K hK=>?_
   simp(disch:=omega) only[Try.f16,go_sem,↓reduceIte,h1,h3,J7,J9,J8,dFe,hgk,Option.map_none]
   refine hK _ ?_
   refine aB (aA rfl (bA [24,0,1,7] rfl rfl rfl fun K hK=>?_))
   simp(disch:=omega) only[Try.f16,go_sem,↓reduceIte]
   refine hK _ ?_
   refine aB (eC (.tmp 24) rfl rfl rfl (fun h=>?_) (fun h=>?_))
   ·refine aI rfl ?_
    cases h
   refine aI rfl (aQ rfl (aB (aA rfl ?_)))
   have e1:((C.rows.map zP).drop i.toNat).head? =some (zP b):=by rw[List.head?_drop,List.getElem?_map,hb];rfl
   refine aC (Γ:=bC [(46,.fresh true dDv)]) [4,5] (aH cWr aO) rfl rfl rfl (fun K hK=>?_)
   simp(disch:=omega) only[Try.f16,go_sem,↓reduceIte,h1,h2,J9,J8,e1,dIw,dEw b _ rfl ⟨hb0,hb1⟩,Nat.zero_add,Nat.mul_one]
   refine hK _ ?_
   refine aB (aS rfl ?_)
   refine⟨rfl,fun j o h=>h,by simp only;omega⟩
  rename_i b
  simp only[rdS]at hg
  replace hg:=aP hg;obtain⟨⟨hb0,hb1⟩,hg⟩:=hg
  simp only[Option.some.injEq,Prod.mk.injEq]at hg;obtain⟨rfl,rfl,rfl⟩:=hg
  refine bA [0,1,7,8] rfl rfl rfl fun K hK=>?_
  simp(disch:=omega) only[Try.f16,go_sem,↓reduceIte,h1,h3,J7,J9,J8,dFe,hgk,Option.map_some]
  refine hK _ ?_
  refine aB (aA rfl (bA [24,0,1,7] rfl rfl rfl fun K hK=>?_))
  simp(disch:=omega) only[Try.f16,go_sem,↓reduceIte]
  refine hK _ ?_
  refine aB (eC (.tmp 24) rfl rfl rfl (fun h=>?_) (fun h=>?_))
  ·refine aI rfl (aA rfl (aC (Γ:=bC [(46,.fresh true dDv)]) [4,5] (aH cWr aO) rfl rfl rfl (fun K hK=>?_)))
   simp(disch:=omega) only[Try.f16,go_sem,↓reduceIte,dIw,dEw b _ rfl ⟨hb0,hb1⟩]
   refine hK _ ?_
   refine aB (aS rfl (bI ?_))
   refine⟨rfl,fun j o h=>h,by simp only;omega⟩
  refine aI rfl ?_
  cases h
 cases hg
theorem dQy:bX Try.prog GLh 16 (.heap rdG):=⟨⟨_,Try.func16,rfl,rfl⟩,dQf⟩
end Go.AX

namespace Go.AX
open Go Go.Proofs
theorem dJr (i:Int) (b:List B8) (l:List (Int×List B8)):aEh (.i i) (.sl b.length (c8 b)) (dEz l)=some (dEz (kT i b l)):=dLd i b l
def xBo (off n:Nat):AO→Option (List B8)
 | .cells ys _=>aK (cI ys) fun l=>aN (off+n≤l.length) (some ((l.drop off).take n))
 |_=>none
def xB (hp:H):AV→Option (List B8)
 | .sl n xs=>aK (cI xs) fun b=>aN (b.length=n) (some b)
 | .os i off n e _=>aN (e=1) (aK (hp i) (xBo off n))
 |_=>none
theorem dPw (hp:H) (i off n e:Nat) (g:Bool):xB hp (.os i off n e g)=aN (e=1) (aK (hp i) (xBo off n)):=(rfl)
theorem dPv (off n:Nat) (ys:List AV) (mt:Bool):xBo off n (.cells ys mt)=aK (cI ys) fun l=>aN (off+n≤l.length) (some ((l.drop off).take n)):=(rfl)
attribute [go_sem] dPw dPv iA
structure XBok (hp:H) (x:AV) (b:List B8) (nx d s m:Nat) (C:DC):Prop where
 len: ∀e,aEk x (some (.slice e))=some (.i b.length)
 imm: ∀(C':DC) (mm n2 k:Nat),mm≠1→nx≤n2→cO 4 (mY mm n2 k (bO d s m C' hp)) x=some (.sl b.length (c8 b))
theorem dPx {hp:H} {x:AV} {b:List B8} {nx d s m:Nat} {C:DC} (h:xB hp x=some b) (hD:aZo hp d s m C) (hn: ∀id,nx≤id→hp id=none) {n:Int} (hr:uK C.rows=some n):XBok hp x b nx d s m C:=by
 unfold xB at h
 split at h
 ·rename_i n xs
  replace h:=aJ h;obtain⟨l,hl,h⟩:=h
  replace h:=aP h;obtain⟨hn,h⟩:=h
  obtain rfl:=J0 h
  have:=bW hl
  change xs=c8 l at this
  subst this;subst hn
  exact⟨fun e=>rfl,fun C' mm n2 k _ _=>rfl⟩
 ·rename_i i off n e g
  replace h:=aP h;obtain⟨rfl,h⟩:=h
  replace h:=aJ h;obtain⟨o,ho,h⟩:=h
  cases o with
  |mapo es mt=>cases h
  |cells ys mt=>
   simp only[xBo]at h
   replace h:=aJ h;obtain⟨l,hl,h⟩:=h
   replace h:=aP h;obtain⟨hfit,h⟩:=h
   obtain rfl:=J0 h
   have hys:=bW hl
   change ys=c8 l at hys
   subst hys
   have hi:i<nx:=cA hn ho
   have hlen:((l.drop off).take n).length=n:=by simp;omega
   have i1:i≠d:=by
    intro e;subst e
    have:=ho.symm.trans hD.hd
    have:=(AO.cells.inj (J0 this)).1
    cases l with
    |nil=>cases this
    |cons a r=>cases (List.cons.inj this).1
   have i2:i≠s:=by
    intro e;subst e
    have:=ho.symm.trans hD.hs
    have:=(AO.cells.inj (J0 this)).1
    obtain⟨rows,g,dirty,cut,dead⟩:=C
    cases rows with
    |nil=>cases hr
    |cons b rows=>
     cases l with
     |nil=>cases this
     |cons a r=>cases (List.cons.inj this).1
   have i3:i≠m:=by
    intro e;subst e
    have:=ho.symm.trans hD.hm
    cases this
   refine⟨fun e=>by rw[hlen];rfl,fun C' mm n2 k hm hn2=>?_⟩
   have h5:mY mm n2 k (bO d s m C' hp) i=some (.cells (c8 l) mt):=by
    rw[←ho,←mH hp d s m C' i i1 i2 i3]
    rcases Nat.lt_or_ge mm 2 with h6|h6
    ·obtain rfl:mm=0:=by omega
     rfl
    exact bZs mm n2 k i _ h6 (by omega)
   rw[cNm,h5,aX,cYo]
   rw[cU _ (by rw[iM];omega),tP,Nat.mul_one,rH,lE,J4 (fQ _),aX,hlen]
 cases h
def wrV (C:DC) (i:Int) (b:List B8) (n:Int):Int×DC:=
 if atV C i=0 then(if(b.length:Int)=n then(if(pwV C).1=0 then(0,{(pwV C).2 with dirty:=kT i b (pwV C).2.dirty})else pwV C)else(81,C))else(atV C i,C)
noncomputable def wrG:List AV→H→Nat→Option (AV×H×Nat)
 |[.op d 0,.i i,x],hp,nx=>aK (mB hp d) fun t=>aK (xB hp x) fun b=>aK (uK t.C.rows) fun n=>aN (0<n∧n≤1000000) (some (.i (wrV t.C i b n).1,bO d t.s t.m (wrV t.C i b n).2 hp,nx+400))
 |_,_,_=>none
theorem dNi (d:Nat) (i:Int) (x:AV) (hp:H) (nx:Nat):wrG [.op d 0,.i i,x] hp nx=aK (mB hp d) fun t=>aK (xB hp x) fun b=>aK (uK t.C.rows) fun n=>aN (0<n∧n≤1000000) (some (.i (wrV t.C i b n).1,bO d t.s t.m (wrV t.C i b n).2 hp,nx+400)):=(rfl)
attribute [go_sem] dNi
set_option maxHeartbeats 1000000 in
theorem dPy:cQ Try.prog GLh 17 wrG:=by
 refine gF Try.func17 (aT rfl) ?_
 intro args hp nx r hp' nx' hg
 unfold wrG at hg
 split at hg
 ·rename_i d i x
  replace hg:=aJ hg;obtain⟨⟨s,m,C⟩,hD0,hg⟩:=hg
  have hD:=mD hD0
  replace hg:=aJ hg;obtain⟨b,hb,hg⟩:=hg
  replace hg:=aJ hg;obtain⟨n,hn,hg⟩:=hg
  replace hg:=aP hg;obtain⟨⟨hn0,hn1⟩,hg⟩:=hg
  simp only[Option.some.injEq,Prod.mk.injEq]at hg hD hn;obtain⟨rfl,rfl,rfl⟩:=hg
  refine⟨J1 rfl,by omega,fun hnone=>?_⟩
  have h1:=hD.hd;have h2:=hD.hs;have h3:=hD.hm
  obtain⟨n1,n2,n3,n4,n5,n6⟩:=hD.ne
  have hlt: ∀k o,hp k=some o→k<nx:=fun k o hk=>cA hnone hk
  have hd:=hlt _ _ h1
  have hs:=hlt _ _ h2
  have hm:=hlt _ _ h3
  obtain⟨x1,x2⟩:=dPx hb hD hnone hn
  refine aA rfl (bA [0,1,2] rfl rfl rfl fun K hK=>?_)
  simp(disch:=omega) only[Try.f17,go_sem,↓reduceIte]
  refine hK _ ?_
  refine aB (aA rfl (aA rfl (aC (Γ:=bC [(45,.heap atG)]) [0,1,2,7] (aH dQw aO) rfl rfl rfl (fun K hK=>?_))))
  simp(disch:=omega) only[Try.f17,go_sem,↓reduceIte,hD0]
  refine hK _ ?_
  refine aB (aA rfl (bA [13,0,1,2,7] rfl rfl rfl fun K hK=>?_))
  simp(disch:=omega) only[Try.f17,go_sem,↓reduceIte]
  refine hK _ ?_
  refine aB (xF (.tmp 13) rfl rfl rfl (fun h=>?_) (fun h=>?_))
  ·refine aI rfl ?_
   have e:wrV C i b n=(atV C i,C):=J3 h
   rw[e]
   refine aA rfl (bA [6] rfl rfl rfl fun K hK=>?_)
   simp(disch:=omega) only[Try.f17,go_sem,↓reduceIte]
   refine hK _ ?_
   refine aB (aS rfl (bI ?_))
   refine⟨rfl,?_,by simp only;omega⟩
   rw[mC hD];exact fun j o h=>h
  refine aI rfl ?_
  have h0:=h
  refine aQ rfl (aB (aA rfl (aA rfl (aC (Γ:=bC [(37,.heap dGx)]) [19,0,1,2] (aH ok9 aO) rfl rfl rfl (fun K hK=>?_)))))
  simp(disch:=omega) only[Try.f17,go_sem,↓reduceIte,hD0,x1,hn]
  refine hK _ ?_
  refine aB (xF (.tmp 19) rfl rfl rfl (fun h=>?_) (fun h=>?_))
  ·refine aI rfl ?_
   have e:wrV C i b n=(81,C):=by unfold wrV;rw[J4 h0,J3 h]
   rw[e]
   refine aA rfl (bA [6] rfl rfl rfl fun K hK=>?_)
   simp(disch:=omega) only[Try.f17,go_sem,↓reduceIte]
   refine hK _ ?_
   refine aB (aS rfl (bI ?_))
   refine⟨rfl,?_,by simp only;omega⟩
   rw[mC hD];exact fun j o h=>h
  refine aI rfl ?_
  have h4:=h
  refine aQ rfl (aB (aA rfl (aA rfl (aC (Γ:=bC [(47,.heap pwG)]) [0,1,2,8] (aH cWs aO) rfl rfl rfl (fun K hK=>?_)))))
  simp(disch:=omega) only[Try.f17,go_sem,↓reduceIte,hD0]
  refine hK _ ?_
  refine aB (aA rfl (bA [23,0,1,2,8] rfl rfl rfl fun K hK=>?_))
  simp(disch:=omega) only[Try.f17,go_sem,↓reduceIte]
  refine hK _ ?_
  refine aB (xF (.tmp 23) rfl rfl rfl (fun h=>?_) (fun h=>?_))
  ·refine aI rfl ?_
   have e:wrV C i b n=pwV C:=by unfold wrV;rw[J4 h0,J4 h4,J3 h]
   rw[e]
   refine aA rfl (bA [6] rfl rfl rfl fun K hK=>?_)
   simp(disch:=omega) only[Try.f17,go_sem,↓reduceIte]
   refine hK _ ?_
   refine aB (aS rfl (bI ?_))
   exact⟨rfl,fun j o h=>h,by simp only;omega⟩
  refine aI rfl ?_
  have e:wrV C i b n=(0,{(pwV C).2 with dirty:=kT i b (pwV C).2.dirty}):=by unfold wrV;rw[J4 h0,J4 h4,J4 h]
  rw[e]
  have e3:(c8 b).take b.length=c8 b:=List.take_of_length_le (by rw[iM];exact U3 _)
  generalize (pwV C).2=C2
  refine aQ rfl (aB (aA rfl (bB (Γ:=bC [(46,.fresh true dDv)]) (fun _=>2) [] mixed (aH cWr aO) rfl rfl rfl (by kernel_rfl) (fun K hK=>?_))))
  simp(disch:=omega) only[Try.f17,go_sem,↓reduceIte,J7,J9,J8,x2,dEw b _ rfl (by omega),dJr,Nat.mul_one,Nat.zero_add,e3,iM]
  refine hK _ ?_
  refine aB (aA rfl (bA [6] rfl rfl rfl fun K hK=>?_))
  simp(disch:=omega) only[Try.f17,go_sem,↓reduceIte]
  refine hK _ ?_
  refine aB (aS rfl ?_)
  refine⟨rfl,eL fun j o hj=>?_,by simp only;omega⟩
  have:=hlt j o hj
  simp(disch:=omega) only[bJ,J3]
  exact hj
 cases hg
theorem dRa:bX Try.prog GLh 17 (.heap wrG):=⟨⟨_,Try.func17,rfl,rfl⟩,dPy⟩
end Go.AX

namespace Go.AX
open Go Go.Proofs
theorem dKc (n:Nat):rep n [.w8 0#8]=c8 (List.replicate n 0#8):=by
 induction n with
 |zero=>rfl
 |succ n ih=>unfold rep at ih⊢;rw[List.replicate_succ,List.flatten_cons,ih];rfl
def dGw (z:Int):List B8:=List.replicate (wit z 64 4096).toNat 0#8
theorem dJu (x:Int) (lo hi:Int) (h:lo≤hi):lo≤wit x lo hi∧wit x lo hi≤hi:=by
 unfold wit;split<;>split<;>omega
def nwC (n z:Int):DC:=⟨List.replicate (wit n 1 4096).toNat (dGw z),true,[],-1,false⟩
def bKg:List AV→H→Nat→Option (AV×H×Nat)
 |[.i n,.i z],hp,nx=>some (.op (nx+3) 0,bO (nx+3) (nx+16*(wit n 1 4096).toNat+3) (nx+1) (nwC n z) hp,nx+16*(wit n 1 4096).toNat+50)
 |_,_,_=>none
theorem bWx (n z:Int) (hp:H) (nx:Nat):bKg [.i n,.i z] hp nx=some (.op (nx+3) 0,bO (nx+3) (nx+16*(wit n 1 4096).toNat+3) (nx+1) (nwC n z) hp,nx+16*(wit n 1 4096).toNat+50):=(rfl)
attribute [go_sem] bWx
def dFs (nx k:Nat):Nat:=match k with|0=>nx+8|k+1=>nx+16*k+19
def kC (z:Int) (k:Nat):DC:=⟨List.replicate k (dGw z),true,[],-1,false⟩
theorem dIk (z:Int) (k:Nat):(kC z k).rows=List.replicate k (dGw z):=(rfl)
theorem kC_g (z:Int) (k:Nat):(kC z k).g=true:=(rfl)
theorem dIh (nx k:Nat):nx+8≤dFs nx k∧dFs nx k<nx+9+16*k:=by
 unfold dFs;split<;>omega
set_option maxHeartbeats 1000000 in
theorem cLn:cQ Try.prog GLh 12 bKg:=by
 refine gF Try.func12 (aT rfl) ?_
 intro args hp nx r hp' nx' hg
 unfold bKg at hg
 split at hg
 ·rename_i n z
  simp only[Option.some.injEq,Prod.mk.injEq]at hg;obtain⟨rfl,rfl,rfl⟩:=hg
  refine⟨J1 rfl,by omega,fun hnone=>?_⟩
  have hlt: ∀k o,hp k=some o→k<nx:=fun k o hk=>cA hnone hk
  obtain⟨w1,w2⟩:=dJu n 1 4096 (by omega)
  obtain⟨w3,w4⟩:=dJu z 64 4096 (by omega)
  obtain⟨N,hN⟩: ∃N:Nat,wit n 1 4096=N:=⟨(wit n 1 4096).toNat,by omega⟩
  obtain⟨Z,hZ⟩: ∃Z:Nat,wit z 64 4096=Z:=⟨(wit z 64 4096).toNat,by omega⟩
  have hz:dGw z=List.replicate Z 0#8:=by unfold dGw;rw[hZ,U2]
  have hzl:(dGw z).length=Z:=by rw[hz,List.length_replicate]
  unfold nwC
  rw[hN,U2]
  rw[hN]at w1 w2
  rw[hZ]at w3 w4
  refine aA rfl (bA [0,1] rfl rfl rfl fun K hK=>?_)
  simp(disch:=omega) only[Try.f12,go_sem,↓reduceIte]
  refine hK _ ?_
  refine aB (aA rfl (bA [0,1,5] rfl rfl rfl fun K hK=>?_))
  simp(disch:=omega) only[Try.f12,go_sem,↓reduceIte]
  refine hK _ ?_
  refine aB (aA rfl (aA rfl (aC (Γ:=bC [(28,.pure true dJc)]) [1,5,10,11] (aH dQx aO) rfl rfl rfl (fun K hK=>?_))))
  simp(disch:=omega) only[Try.f12,go_sem,↓reduceIte,hN]
  refine hK _ ?_
  refine aB ?_
  refine aDn (nx+3) 1 [] [.mp (nx+1),.i (-1),.b false] true (by simp(disch:=omega) only[aV,↓reduceIte,eq_self];rfl) (by omega) ?_
  refine aR 0 rfl rfl (bR (fun k:Nat=> {fr:=[(1,.i z),(5,.op (nx+3) 0),(10,.i N),(11,.i k)],hp:=bO (nx+3) (dFs nx k) (nx+1) (kC z k) hp,nx:=0,cx:=nx+9+16*k}) (fun k=>k≤N) (fun k=>N-k) rfl ?_ ?_)
  rotate_left
  rintro k hk n0
  simp only at hk⊢
  refine aA rfl (bA [12,1,5,10,11] rfl rfl rfl fun K hK=>?_)
  simp(disch:=omega) only[Try.f12,go_sem,↓reduceIte]
  refine hK _ ?_
  refine aB (aA rfl (aW (.tmp 12) rfl rfl rfl (fun h=>?_) (fun h=>?_)))
  ·refine aI rfl ?_
   obtain⟨hs1,hs2⟩:=dIh nx k
   refine aQ rfl (aB (aA rfl (aR 1 rfl rfl (bB (Γ:=bC [(28,.pure true dJc)]) (fun k=>if k=9 then 770 else 2) [1,5,10,11] mixed (aH dQx aO) rfl rfl rfl (by kernel_rfl) (fun K hK=>?_)))))
   simp(disch:=omega) only[Try.f12,go_sem,↓reduceIte,dKc,hZ,U2,J9,J8,dIk,kC_g,List.length_replicate,iM,Nat.mul_one,Nat.zero_add,List.length_map,List.take_replicate,Nat.min_self,bFz]
   refine hK _ ?_
   refine bU (aB (bA [1,5,10,11] rfl rfl rfl fun K hK=>?_))
   simp(disch:=omega) only[Try.f12,go_sem,↓reduceIte]
   refine hK _ ?_
   refine bT ?_
   have e5:nx+9+16*k+1+9=dFs nx (k+1):=by simp only[dFs];omega
   have hs3:=(dIh nx (k+1)).1
   rw[e5]
   refine⟨k+1,by omega,by omega,⟨fun _=> .inr ?_,fun j o hj=>dEj (C:=kC z (k+1)) (s:=dFs nx (k+1)) ?_ ?_ ?_ ?_ j o hj,by simp only;omega⟩⟩
   ·simp only[Int.natCast_add,Int.natCast_one]
   ·simp[bJ,kC]
   ·simp only[]
    rw[bJ,J3 (by omega),bJ,J4 rfl,dIk,List.replicate_succ',List.map_append,List.map_singleton,zP,hzl,hz]
   ·simp only[]
    rw[bJ,J3 (by omega),bJ,J3 (by omega),eV,J3 (by omega),dKa _ _ _ _ _ (by omega)];rfl
   intro j o j1 j2 j3 hj
   have:=hlt j o hj
   simp only[bJ,eV]
   rw[J3 (by omega),J3 (by omega),J3 (by omega),mH _ _ _ _ _ _ (by omega) (by omega) (by omega)]
   simp only[bJ]
   rw[J3 (by omega),J3 (by omega),J3 (by omega)];exact hj
  ·refine aI rfl (bF 0 rfl rfl (aY (aZ (bE (aB (aA rfl ?_))))))
   obtain rfl:k=N:=by omega
   refine bA [4] rfl rfl rfl fun K hK=>?_
   simp(disch:=omega) only[Try.f12,go_sem,↓reduceIte]
   refine hK _ ?_
   refine aB (aS rfl ?_)
   refine⟨rfl,?_,by simp only;omega⟩
   have e6:nx+16*k+3=dFs nx k:=by
    cases k with
    |zero=>omega
    |succ k=>simp only[dFs];omega
   rw[e6]
   exact fun j o h=>h
  refine⟨0,Nat.zero_le _,⟨fun _=> .inr rfl,fun j o hj=>?_,by simp only;omega⟩⟩
  refine dEj (C:=kC z 0) (s:=dFs nx 0) ?_ ?_ ?_ ?_ j o hj
  ·simp only[bJ,if_true];rfl
  ·simp[bJ,dFs,kC]
  ·simp only[bJ];rw[J3 (by omega),J3 (by omega),J3 (by omega),if_true];rfl
  intro k o k1 k2 k3 hk
  have:=hlt k o hk
  simp only[bJ]
  rw[J3 (by omega),J3 (by omega),J3 (by omega),J3 (by omega)];exact hk
 cases hg
theorem ok7:bX Try.prog GLh 12 (.heap bKg):=⟨⟨_,Try.func12,rfl,rfl⟩,cLn⟩
end Go.AX

namespace Go.Proofs
open Go.RowKit Go.Maps Go.Sort Go.Shelf
shelf_lay_g SlLaysZI.n7 Ggz 7 at Try 60 as Try.keysA
shelf_lay_g SlLaysZI.n6 Ggz 6 at Try 59 as Try.sortedA
shelf_lay_g SlLaysM.n5 Slgm 5 at Try 63 as Try.sortA
theorem dNr (m:Nat):AnyZI.SortsIn Try.prog Try.sortedA_ren Fence.wide m:=
 ⟨fun blk off cap ss W hH hblk hsz=>callsIn_wide.2 (AnyM.slices_Sort_int Try.sortA blk off cap ss W hH hblk hsz),
 fun p cap W=>callsIn_wide.2 (AnyM.slices_Sort_int_none Try.sortA p cap W)⟩
variable {P : Program} {ρ : Ren}
set_option maxRecDepth 100000 in
set_option maxHeartbeats 1000000 in
theorem dJk (L:SlLaysZI.n10 P ρ) {H:Type} (F:Fence) (n:Nat) (h10:F.fn (ρ.f 10)) (hro:F.round=none) (hn:1≤n) (l Bm ob b nn:Nat) (D0:DataW H) {R:Value→Option (DataW H×List MemPlace)} (J:List Int→World→Prop)
  (hY: ∀pre x W,J pre W→pre.length<Maps.size D0→YieldAt F (n-1) P l #[encZ x] W fun e W'=>e=.returned (.bool true)∧J (pre++[x]) W'∧KeepsWalks W W')
  (W:World) (hJ:AbidesFrom W.heap.size J) (hm:W.cell? ⟨Bm,ob,none⟩=some (.map (some b))) (hown:W.ownsMap P (ρ.t 26) R b nn D0) (h0:J [] W):
  CallsIn F n P (ρ.f 10) #[.func (.yield l) #[] #[],.pointer (some ⟨Bm,ob,none⟩)] W fun e W'=>(∃v,e=.returned v)∧∃ss:List Int,ss.Perm (intKeys D0)∧J ss W':=by
 have mixed:=L.mixed;have t0:=L.t0;have a0:=L.a0;have z0:=L.z0;have v0:=L.v0;have t4:=L.t4;have a4:=L.a4;have z4:=L.z4;have v4:=L.v4;have t23:=L.t23;have a23:=L.a23;have z23:=L.z23;have v23:=L.v23;have t26:=L.t26;have a26:=L.a26;have z26:=L.z26;have v26:=L.v26;have t33:=L.t33;have a33:=L.a33;have z33:=L.z33;have v33:=L.v33
 have u0:=run_underlying L.t0;have u4:=run_underlying L.t4;have u23:=run_underlying L.t23;have u26:=run_underlying L.t26;have u33:=run_underlying L.t33
 obtain⟨_,_,FG⟩:=L.f10
 refine callsIn_of_wp FG rfl h10 ?_ hro
 simp only[SlBodyZ.n10_ntmps ρ,List.size_toArray,List.length_cons,List.length_nil,Nat.reduceAdd,Nat.reduceSub,Array.replicate_succ,Array.replicate_zero,List.push_toArray,List.append_toArray,List.nil_append,List.cons_append]
 gi_wp2_with (first
  |(gi_at_range;refine wpListIn_range_own _ rfl _ (ρ.t 23) rfl (ρ.t 26) (ρ.t 3) (int_keyed L.t26) L.t23 _ b nn _ rfl hown ?_;intro w0 hrg0 hg0 hs0)
  |gi_in)
 go_frame
 gi_loopw [3] (fun _ wr=> ∃(left:Lit→Bool) (cnt:Nat) (ss:List Int),wr.ranges P (ρ.t 26) R b W.heap.size nn D0 left cnt∧ss.length+cnt≤Maps.size D0∧CollectedI D0 left ss∧J ss wr)
  (fun _ wr=>wr.rangeLeft b W.heap.size)
 case atStart=>
  exact⟨_,_,[],hrg0,by simp,CollectedI.start D0,hJ [] W w0 none h0 hg0 (fun r e=>by cases e)⟩
 case round=>
  obtain⟨left,cnt,ss,hrg,hcs,hC,hJs⟩:=hrel
  gi_wp2_with (first
   |(gi_at_next;refine wpListIn_next_ranges _ rfl _ rfl (ρ.t 26) (int_keyed L.t26) R encZ id (fun key kl hk=>by obtain⟨x,hx,_⟩:=Maps.keyOf_i64 L.t26 hk;exact⟨x,hx⟩) (fun v _ _=>⟨v,rfl⟩) b W.heap.size nn _ _ _ rfl hrg ?_ ?_)
   |gi_in)
  ·intro hc0 hl0
   gi_wp2
   go_end0
   exact⟨⟨_,rfl⟩,ss,hC.perm hown (int_keyed L.t26) L.t26 hl0,hJs⟩
  ·intro x c kl yd yp w2 cnt2 hkey hlk hv hat hrg2 hlt hg2 hs2 hen
   obtain⟨x',ex,rfl,_⟩:=Maps.keyOf_i64 L.t26 hkey
   obtain rfl:x=x':=encZ_inj ex
   have hJ2:J ss w2:=hJ ss wr w2 (some W.heap.size) hJs hg2 (fun r e=>by cases e;exact⟨Nat.le_refl _,hrg.iter_walk⟩)
   obtain⟨fn,tmps,assign,body,hy,hR⟩:=hY ss x w2 hJ2 (by omega)
   clear hs2
   gi_wp2
   refine hR.mono ?_
   rintro e W3 ⟨rfl,hJ3,hk3⟩
   gi_wp2
   have hrg3:=hrg2.of_walks hk3
   go_roundw
   case rel=>exact⟨_,cnt2,ss++[x],hrg3,by simp;omega,hC.step hlk hat,hJ3⟩
   case measure=>rw[hrg3.left_eq,hrg.left_eq];exact hlt
theorem dHg (L:SlLaysZI.n10 P ρ) {H:Type} (F:Fence) (n:Nat) (h10:F.fn (ρ.f 10)) (hro:F.round=none) (hn:1≤n) (Bm ob b nn:Nat) (D0:DataW H) {R:Value→Option (DataW H×List MemPlace)} (w:World) (hBm:Bm<w.heap.size)
  (hm:w.cell? ⟨Bm,ob,none⟩=some (.map (some b))) (hown:w.ownsMap P (ρ.t 26) R b nn D0):
  SeqGives F n P (ρ.f 10) #[.pointer (some ⟨Bm,ob,none⟩)] encZ (fun ss=>ss.Perm (intKeys D0)) (Maps.size D0) w:=fun l J W hW hJ hY h0=>by
 have hown':W.ownsMap P (ρ.t 26) R b nn D0:=by
  have hbl:=hown.lt
  obtain⟨es,clock,hb,Ft,hs,hD⟩:=hown
  exact⟨es,clock,(hW.block b hbl).trans hb,Ft,hs,hD⟩
 exact dJk {L with} F n h10 hro hn l Bm ob b nn D0 J hY W hJ ((hW.cell (p:=⟨Bm,ob,none⟩) hBm).trans hm) hown' h0
set_option maxHeartbeats 1000000 in
theorem dGk {H:Type} (Bm ob b nn:Nat) (D0:DataW H) (R:Value→Option (DataW H×List MemPlace)) (w:World) (hBm:Bm<w.heap.size) (hm:w.cell? ⟨Bm,ob,none⟩=some (.map (some b))) (hown:w.ownsMap Try.prog 3 R b nn D0) (hmax:Maps.size D0≤maxLen) (hbytes:Maps.size D0*8≤140737488355328):
  Calls Try.prog 59 #[.func (.func 64) #[] #[.pointer (some ⟨Bm,ob,none⟩)]] w fun e w'=> ∃(v:Value) (ss:List Int),e=.returned v∧ss.Perm (intKeys D0)∧
   w'.ownsRow w.heap.size 3 1 v ss.length ((ss.mergeSort (fun x y=>decide (x≤y))).map encZ)∧(v=.slice none 0 0↔ss=[])∧Below w.heap.size w w':=by
 refine(callsIn_wide (n:=5)).1 ?_
 have hseq:SeqGives Fence.wide 2 Try.prog 64 #[.pointer (some ⟨Bm,ob,none⟩)] encZ (fun ss=>ss.Perm (intKeys D0)) (Maps.size D0) w:=
  dHg (ρ:=Try.keysA_ren) {Try.keysA with} Fence.wide _ trivial rfl (by omega) Bm ob b nn D0 w hBm hm hown
 exact AnyZI.sorted_in Try.sortedA Fence.wide 5 trivial trivial trivial trivial rfl (by omega) (dNr _) (enters_of Try.func63 (by kernel_rfl) rfl) 64 #[.pointer (some ⟨Bm,ob,none⟩)] trivial (enters_of Try.func64 (by kernel_rfl) rfl) _ _ hmax hbytes _ hseq
end Go.Proofs

namespace Go.AX
open Go Go.Proofs
open Go.WideElems (Fit rd rg)
def dJl:List AV→H→Nat→Option (AV×H×Nat)
 |[.mp m],hp,nx=>some (.fn 64 [.op nx 0],upd hp nx (.cells [.mp m] true),nx+10)
 |_,_,_=>none
theorem dMd (m:Nat) (hp:H) (nx:Nat):dJl [.mp m] hp nx=some (.fn 64 [.op nx 0],upd hp nx (.cells [.mp m] true),nx+10):=(rfl)
attribute [go_sem] dMd
theorem dOn:cQ Try.prog GLh 60 dJl:=by
 refine gF Try.func60 (aT rfl) ?_
 intro args hp nx r hp' nx' hg
 unfold dJl at hg
 split at hg
 ·rename_i m
  simp only[Option.some.injEq,Prod.mk.injEq]at hg;obtain⟨rfl,rfl,rfl⟩:=hg
  refine⟨J1 rfl,by omega,fun hnone=>?_⟩
  refine aA rfl (bA [1] rfl rfl rfl fun K hK=>?_)
  simp(disch:=omega) only[Try.f60,go_sem,↓reduceIte]
  refine hK _ ?_
  refine aB (aA rfl (bA [2] rfl rfl rfl fun K hK=>?_))
  simp(disch:=omega) only[Try.f60,go_sem,↓reduceIte]
  refine hK _ ?_
  refine aB (aS rfl ?_)
  exact⟨rfl,fun j o h=>h,by simp only;omega⟩
 cases hg
theorem dQu:bX Try.prog GLh 60 (.heap dJl):=⟨⟨_,Try.func60,rfl,rfl⟩,dOn⟩
def dFl:List (AV×AV)→Option (List Int)
 |[]=>some []
 |p::r=>match p.1 with
  | .i k=>aK (dFl r) fun l=>some (k::l)
  |_=>none
theorem dMc (l:List (Int×List B8)):dFl (dEz l)=some (l.map (·.1)):=by
 induction l with
 |nil=>rfl
 |cons p r ih=>simp only[dEz,List.map_cons,dFl]at ih⊢;rw[ih];rfl
theorem dGh: ∀ {es:List (AV×AV)} {ks:List Int},dFl es=some ks→ks.length=es.length∧∀i (h:i<es.length),es[i].1=.i (ks.getD i 0)
 |[],ks,h=>by obtain rfl:=J0 h;exact⟨rfl,fun i h=>by simp at h⟩
 |p::r,ks,h=>by
  simp only[dFl]at h
  split at h
  ·rename_i k e
   replace h:=aJ h;obtain⟨l,hl,h⟩:=h
   obtain rfl:=J0 h
   obtain⟨i1,i2⟩:=dGh hl
   refine⟨by simp[i1],fun i hi=>?_⟩
   cases i with
   |zero=>exact e
   |succ i=>simpa using i2 i (by simpa using hi)
  cases h
def srt (ks:List Int):List Int:=ks.mergeSort (fun x y=>decide (x≤y))
def dNq (nx:Nat) (hp:H):AO→Option (AV×H×Nat)
 | .mapo es _=>aK (dFl es) fun ks=>aN ((ks.all fun k=>decide (0≤k∧k<1000000))=true∧ks.length≤1000000) (some (.os nx 0 ks.length 1 true,upd hp nx (.cells ((srt ks).map .i) true),nx+1))
 |_=>none
def dLt (nx:Nat) (hp:H):AO→Option (AV×H×Nat)
 | .cells [.mp m] _=>aK (hp m) (dNq nx hp)
 |_=>none
def bGg:List AV→H→Nat→Option (AV×H×Nat)
 |[.fn 64 [.op b 0]],hp,nx=>aK (hp b) (dLt nx hp)
 |_,_,_=>none
theorem aUw (b:Nat) (hp:H) (nx:Nat):bGg [.fn 64 [.op b 0]] hp nx=aK (hp b) (dLt nx hp):=(rfl)
theorem dLs (m nx:Nat) (hp:H) (mt:Bool):dLt nx hp (.cells [.mp m] mt)=aK (hp m) (dNq nx hp):=(rfl)
theorem dIg (nx:Nat) (hp:H) (es:List (AV×AV)) (mt:Bool):dNq nx hp (.mapo es mt)=aK (dFl es) fun ks=>aN ((ks.all fun k=>decide (0≤k∧k<1000000))=true∧ks.length≤1000000) (some (.os nx 0 ks.length 1 true,upd hp nx (.cells ((srt ks).map .i) true),nx+1)):=(rfl)
attribute [go_sem] aUw dLs dIg dMc
def dJi:Value→Option (DataW Unit×List MemPlace):=fun _=>some (.lit (.bool true),[])
theorem dHh (x:Lit×DataW Unit): ∀l,(DataW.insert x l).Perm (x::l)
 |[]=>List.Perm.refl _
 |y::r=>by
  simp only[DataW.insert]
  split
  ·exact List.Perm.refl _
  exact((dHh x r).cons y).trans (List.Perm.swap x y r)
theorem dEy: ∀l:List (Lit×DataW Unit),(l.foldr DataW.insert []).Perm l
 |[]=>List.Perm.refl _
 |x::r=>(dHh x _).trans ((dEy r).cons x)
theorem dNx {σ:Nat→Loc} {I:Nat→Prop} {w:World} {n:Int} {v:Value} (h:Rel σ I w (.i n) v):v=.int .i64 n:=by cases h;rfl
theorem dNk (k:Int) (h:0≤k∧k<1000000):(Lit.int .i64 k).wf=true:=by
 simp[Lit.wf,IntKind.min,IntKind.max,IntKind.signed,IntKind.bits]
 omega
theorem dHc {σ:Nat→Loc} {I:Nat→Prop} {w:World} {es:List (AV×AV)} {blk:Nat} {ks:List Int} (h:yQ σ I w es blk) (hk:dFl es=some ks) (hall: ∀k∈ks,0≤k∧k<1000000) (hlen:ks.length≤1000000):
  ∃D:DataW Unit,w.ownsMap Try.prog 3 dJi blk ks.length D∧(intKeys D).Perm ks∧Maps.size D=ks.length:=by
 obtain⟨⟨ents,cl,h1,h2,h3,h4⟩⟩:=h
 obtain⟨k1,k2⟩:=dGh hk
 have hkey: ∀i (hi:i<ents.size),ents[i].key=.int .i64 (ks.getD i 0):=by
  intro i hi
  have:=(h4 i (by omega)).2.1
  rw[k2 i (by omega)]at this
  have e:ents.getD i default=ents[i]:=by rw[Array.getD_eq_getD_getElem?,Array.getElem?_eq_getElem hi];rfl
  rw[e]at this
  exact dNx this
 have hrd: ∀i (hi:i<ents.size),rd Try.prog 3 dJi ents[i]=some (.int .i64 (ks.getD i 0),.lit (.bool true)):=by
  intro i hi
  have hm:ks.getD i 0∈ks:=by rw[List.getD_eq_getElem?_getD,List.getElem?_eq_getElem (by omega)];exact List.getElem_mem _
  have hw:=dNk _ (hall _ hm)
  have hk:=hkey i hi
  generalize ks.getD i 0=k at hw hk⊢
  simp[rd,hk,keyOf,mapKey,Try.underlying3,hw,dJi]
 have hmap:ents.toList.map (rg Try.prog 3 dJi)=ks.map fun k=>(.int .i64 k,.lit (.bool true)):=by
  apply List.ext_getElem
  ·simp[h2,k1]
  ·intro i hi1 hi2
   simp at hi1 hi2
   simp only[List.getElem_map,Array.getElem_toList,rg,hrd i hi1,Option.getD_some]
   rw[List.getD_eq_getElem?_getD,List.getElem?_eq_getElem hi2];rfl
 refine⟨.map ((ents.toList.map (rg Try.prog 3 dJi)).foldr DataW.insert []),⟨ents,cl,h1,⟨by simp only[maxLen];omega,h3,fun x hx=>?_⟩,by omega,rfl⟩,?_,?_⟩
 ·obtain⟨i,hi,rfl⟩:=List.getElem_of_mem hx
  exact⟨_,hrd i (by simpa using hi)⟩
 ·rw[hmap]
  simp only[intKeys]
  refine((dEy _).map _).trans (List.Perm.of_eq ?_)
  rw[List.map_map]
  exact List.map_id' ks
 ·rw[hmap,Maps.size_eq,(dEy _).length_eq,List.length_map]
theorem dFo (ks:List Int):(srt ks).length=ks.length:=(List.mergeSort_perm ks _).length_eq
set_option maxHeartbeats 1000000 in
theorem bGf:cQ Try.prog GLh 59 bGg:=by
 intro c σ I w hp nx args vals r hp' nx' hGL hi hs hr hg
 unfold bGg at hg
 split at hg
 ·rename_i b
  replace hg:=aJ hg;obtain⟨o,ho,hg⟩:=hg
  unfold dLt at hg
  split at hg
  ·rename_i m mt
   replace hg:=aJ hg;obtain⟨o2,ho2,hg⟩:=hg
   cases o2 with
   |cells xs mt2=>cases hg
   |mapo es mt2=>
   rw[dIg]at hg
   replace hg:=aJ hg;obtain⟨ks,hks,hg⟩:=hg
   replace hg:=aP hg;obtain⟨⟨hall,hlen⟩,hg⟩:=hg
   simp only[Option.some.injEq,Prod.mk.injEq]at hg;obtain⟨rfl,rfl,rfl⟩:=hg
   refine⟨by omega,?_⟩
   have hr0:=hr 0 (by simp)
   simp only[List.getElem_cons_zero]at hr0
   generalize hv0:vals.getD 0 undef=v0 at hr0
   cases hr0 with
   |fn f xs vs hvs hrel=>
   have hrp:=hrel 0 (by simp)
   simp only[List.getElem_cons_zero]at hrp
   obtain⟨blk,base,sz,hl,hp0⟩:=pM hrp
   have hvs1:vs= #[.pointer (some ⟨blk,base+0,none⟩)]:=by
    apply Array.ext
    ·rw[hvs];rfl
    intro i h1 h2
    obtain rfl:i=0:=by simp at h2;omega
    have:vs.getD 0 undef=vs[0]:=by simp[Array.getD,h1]
    rw[←this];simpa using hp0
   have hvals:vals= #[.func (.func 64) #[] #[.pointer (some ⟨blk,base+0,none⟩)]]:=by
    apply Array.ext
    ·rw[hs];rfl
    intro i h1 h2
    obtain rfl:i=0:=by simp at h2;omega
    have:vals.getD 0 undef=vals[0]:=by simp[Array.getD,h1]
    rw[←this,hv0,hvs1];rfl
   have hob:=hi.own b _ ho
   have hrow:=fH hob hl
   obtain⟨v1,hc1,_,hr1⟩:=hrow.get 0 (by simp)
   simp only[List.getElem_cons_zero]at hr1
   obtain⟨mb,e1,hmr,_⟩:=hi.own m _ ho2
   obtain rfl:=aWp hr1 e1
   have hlt:blk<w.heap.size:=hob.lt hl
   have hall': ∀k∈ks,0≤k∧k<1000000:=fun k hk=>of_decide_eq_true (List.all_eq_true.1 hall k hk)
   obtain⟨D,d1,d2,d3⟩:=dHc hmr hks hall' hlen
   rw[hvals]
   refine(dGk blk (base+0) mb ks.length D dJi w hlt hc1 d1 (by rw[d3];simp only[maxLen];omega) (by rw[d3];omega)).mono ?_
   rintro e w' ⟨v,ss,rfl,hperm,hrow2,hnil,hb⟩
   have hp2:=hperm.trans d2
   have hsl:ss.length=ks.length:=hp2.length_eq
   have hms:ss.mergeSort (fun x y=>decide (x≤y))=srt ks:=mergeSort_of_perm_i hp2
   rw[hms,hsl]at hrow2
   have hext:=hi.extend hb.os hb.tape hb.output hb.size (fun k hk=>hb.block k hk) I (fun _ h=>h) (fun k hk=> .inl hk)
   have hun: ∀id,(nx+1≤id∨(id=nx∨(id<nx∧σ id=.unset)))→σ id=.unset:=by
    intro id h
    rcases h with h|h|h
    ·exact hi.un id (by omega)
    ·exact hi.un id (by omega)
    exact h.2
   have hext2:Inv c σ I w' hp (fun k=>nx+1≤k∨(k=nx∨(k<nx∧σ k=.unset))):= {hext with un:=hun}
   obtain⟨v2,σ2,I2,a1,a2,a3,a4⟩:=aCy (I:=I) (Iw:=I) (w:=w) (cx:=nx+1) (un:=fun k=>k=nx∨(k<nx∧σ k=.unset)) (id:=nx) (nn:=ks.length) (ee:=1) (xs:=(srt ks).map .i) (v:=v) (I1:=I) hext2 (.inl rfl) hi.size (fun k hk=>hi.ilt k hk)
    (fun k o blk base sz h1 h2=>(hi.own k o h1).lt h2) ⟨fun _ _=>rfl,fun _ h=>h,fun k hk=>hb.block k (hi.ilt k hk)⟩ (by
     rcases hrow2.2 with⟨rfl,h0⟩|⟨g,cap,cur,rfl,hbg,hgb,hcap,hmax,hsz,htake⟩
     ·left
      refine⟨.inl rfl,h0,?_⟩
      have:=dFo ks
      rw[h0]at this
      rw[List.eq_nil_of_length_eq_zero this];rfl
     right
     have hsl2:=dFo ks
     refine⟨g,0,cap,cap,rfl,hcap,by omega,hbg,fun hI5=>absurd (hi.ilt g hI5) (by omega),⟨cur,3,0,0,hgb,by omega,by rw[List.length_map];omega,⟨U3 _,fun _ _=>by omega⟩,fun i hi5=>?_⟩,fun i hi5=>?_⟩
     ·have hil:i<(srt ks).length:=by simpa using hi5
      rw[List.getElem_map]
      have h6:(cur.toList.take (ks.length*1))[i]? =some (.int .i64 ((srt ks)[i])):=by rw[htake];simp[hil]
      rw[List.getElem?_take_of_lt (by omega)]at h6
      have e6:cur.getD (0+i) undef=.int .i64 ((srt ks)[i]):=by
       rw[Nat.zero_add,Array.getD_eq_getD_getElem?,←Array.getElem?_toList,h6];rfl
      rw[e6];exact .i _
     rw[List.getElem_map];rfl) (fun k h=>by omega)
   cases a1
   exact⟨v,σ2,I2,rfl,a2.mono_un (fun k hk=> .inl hk),a3,a4,fun id hid hun=>a2.un id (.inr ⟨.inr ⟨hid,hun⟩,by omega⟩)⟩
  cases hg
 cases hg
theorem dQv:bX Try.prog GLh 59 (.heap bGg):=⟨⟨_,Try.func59,rfl,rfl⟩,bGf⟩
end Go.AX

namespace Go.AX
open Go Go.Proofs
def syG:List AV→Option AV
 |[.i _]=>some (.b true)
 |_=>none
theorem dNm (k:Int):syG [.i k]=some (.b true):=(rfl)
theorem dPz:cL Try.prog GLh 49 syG:=by
 refine cC Try.func49 (aT rfl) ?_
 intro args r hg
 unfold syG at hg
 split at hg
 ·obtain rfl:=J0 hg
  refine⟨J1 rfl,fun nx=>?_⟩
  refine aA rfl (bA [] rfl rfl rfl fun K hK=>?_)
  simp(disch:=omega) only[Try.f49,go_sem]
  refine hK _ ?_
  refine aB (aA rfl (bA [2] rfl rfl rfl fun K hK=>?_))
  simp(disch:=omega) only[Try.f49,go_sem,↓reduceIte]
  refine hK _ ?_
  refine aB (aS rfl ?_)
  simp(disch:=omega) only[cN,bV,bK,bQ,Try.f49,go_sem,↓reduceIte]
 cases hg
theorem bJh:bX Try.prog GLh 49 (.pure true syG):=⟨⟨_,Try.func49,rfl,rfl⟩,dPz⟩
def dGb (keep:BitVec 64) (k:Nat):Bool:=decide (keep>>>(k%64)&&&1#64=1#64)
def crG:List AV→Option AV
 |[.i k,.rp [.w64 keep]]=>aN (0≤k) (some (.b (dGb keep k.toNat)))
 |_=>none
theorem dPm (k:Int) (keep:BitVec 64):crG [.i k,.rp [.w64 keep]]=aN (0≤k) (some (.b (dGb keep k.toNat))):=(rfl)
theorem dRl:cL Try.prog GLh 50 crG:=by
 refine cC Try.func50 (aT rfl) ?_
 intro args r hg
 unfold crG at hg
 split at hg
 ·rename_i k keep
  replace hg:=aP hg;obtain⟨hk,hg⟩:=hg
  obtain rfl:=J0 hg
  refine⟨J1 rfl,fun nx=>?_⟩
  refine aA rfl (bA [0,1] rfl rfl rfl fun K hK=>?_)
  simp(disch:=omega) only[Try.f50,go_sem,↓reduceIte]
  refine hK _ ?_
  refine aB ?_
  obtain⟨n,rfl⟩: ∃n:Nat,k=n:=⟨k.toNat,by omega⟩
  refine aA rfl (bA [3] rfl rfl rfl fun K hK=>?_)
  simp(disch:=omega) only[Try.f50,go_sem,↓reduceIte,J8]
  refine hK _ ?_
  refine aB (aS rfl ?_)
  simp(disch:=omega) only[cN,bV,bK,bQ,Try.f50,go_sem,↓reduceIte]
  have e:(BitVec.ofInt 64 ((n:Int).tmod 64)).toNat=n%64:=by
   rw[show(n:Int).tmod 64=((n%64:Nat):Int)from rfl,BitVec.ofInt_natCast,BitVec.toNat_ofNat,Nat.mod_eq_of_lt (by omega)]
  simp only[e,dGb]
 cases hg
theorem ok26:bX Try.prog GLh 50 (.pure true crG):=⟨⟨_,Try.func50,rfl,rfl⟩,dRl⟩
theorem dHp (b:List B8):dC (zP b)=some [zP b]:=(rfl)
theorem dJf (hp:H) (d s m:Nat) (C:DC) (n:Nat) (b:List B8) (h1:s≠d) (h2:s≠m):upd (bO d s m C hp) s (.cells ((C.rows.map zP).set n (zP b)) true)=bO d s m {C with rows:=C.rows.set n b} hp:=by
 rw[←List.map_set];exact dJe hp d s m C _ (List.length_set ..) h1 h2
theorem dKb (hp:H) (d s m:Nat) (C:DC) (h1:m≠d):upd (bO d s m C hp) m (.mapo [] true)=bO d s m {C with dirty:=[]} hp:=dGf hp d s m C [] h1
attribute [go_sem] dHp dJf dKb
def mG (kept:Nat→Bool) (ks:List Int) (dirty:List (Int×List B8)) (rows:List (List B8)):Nat→List (List B8)
 |0=>rows
 |k+1=>if kept k=true then(mG kept ks dirty rows k).set (ks.getD k 0).toNat ((iK (ks.getD k 0) dirty).getD [])else mG kept ks dirty rows k
theorem dEk (kept:Nat→Bool) (ks:List Int) (dirty:List (Int×List B8)) (rows:List (List B8)): ∀k,(mG kept ks dirty rows k).length=rows.length
 |0=>rfl
 |k+1=>by
  simp only[mG]
  split
  ·rw[List.length_set];exact dEk kept ks dirty rows k
  exact dEk kept ks dirty rows k
def dFn (kept:Nat→Bool) (C:DC):DC:= {C with rows:=mG kept (srt (C.dirty.map (·.1))) C.dirty C.rows C.dirty.length,dirty:=[]}
def dGm (hp:H):AV→Option (Nat→Bool)
 | .fn 49 []=>some fun _=>true
 | .fn 50 [.op b 0]=>aK (hp b) fun o=>match o with| .cells [.w64 keep] _=>some (dGb keep)|_=>none
 |_=>none
def DOk (C:DC):Bool:=(C.dirty.map (·.1)).all fun i:Int=>decide (0≤i∧i<(C.rows.length:Int))
noncomputable def dJx:List AV→H→Nat→Option (AV×H×Nat)
 |[.op d 0,x],hp,nx=>aK (mB hp d) fun t=>aK (dGm hp x) fun kept=>aN (DOk t.C=true∧t.C.rows.length≤4096∧t.C.dirty.length≤4096) (some (.tup [],bO d t.s t.m (dFn kept t.C) hp,nx+100+24*t.C.dirty.length))
 |_,_,_=>none
theorem dLr (d:Nat) (x:AV) (hp:H) (nx:Nat):dJx [.op d 0,x] hp nx=aK (mB hp d) fun t=>aK (dGm hp x) fun kept=>aN (DOk t.C=true∧t.C.rows.length≤4096∧t.C.dirty.length≤4096) (some (.tup [],bO d t.s t.m (dFn kept t.C) hp,nx+100+24*t.C.dirty.length)):=(rfl)
attribute [go_sem] dLr
theorem wH {i:Int} {l:List (Int×List B8)} (h:i∈l.map (·.1)): ∃b,iK i l=some b:=by
 induction l with
 |nil=>cases h
 |cons p r ih=>
  simp only[iK]
  by_cases e:i=p.1
  ·rw[J4 e];exact⟨_,rfl⟩
  rw[J3 e]
  simp only[List.map_cons,List.mem_cons]at h
  exact ih (h.resolve_left e)
def kC2 (C:DC) (kept:Nat→Bool) (k:Nat):DC:= {C with rows:=mG kept (srt (C.dirty.map (·.1))) C.dirty C.rows k}
theorem dIl (C:DC) (kept:Nat→Bool) (k:Nat):(kC2 C kept k).rows.length=C.rows.length:=dEk ..
theorem dNf {C:DC} {kept:Nat→Bool} {k:Nat} {i:Int} {b:List B8} (hi:(srt (C.dirty.map (·.1))).getD k 0=i) (hb:iK i C.dirty=some b) (h:kept k=true):kC2 C kept (k+1)= {rows:=(kC2 C kept k).rows.set i.toNat b,g:=(kC2 C kept k).g,dirty:=C.dirty,cut:=(kC2 C kept k).cut,dead:=(kC2 C kept k).dead}:=by
 simp only[kC2,mG,h,if_true,hi,hb,Option.getD_some]
theorem dRf {C:DC} {kept:Nat→Bool} {k:Nat} (h:kept k=false):kC2 C kept (k+1)=kC2 C kept k:=by
 simp only[kC2,mG,h,Bool.false_eq_true,if_false]
theorem dIm (C:DC) (kept:Nat→Bool) (k:Nat):(kC2 C kept k).dirty=C.dirty:=(rfl)
set_option maxHeartbeats 2000000 in
theorem dNn {d s m:Nat} {C:DC} {hp:H} {nx:Nat} (hD:aZo hp d s m C) (hok:DOk C=true) (hl1:C.rows.length≤4096) (hl2:C.dirty.length≤4096) (hnone: ∀id,nx≤id→hp id=none):
  Awp Try.prog GLh Try.f48.ntmps (aE Try.f48) (sN [.op d 0,.fn 49 []] hp nx) (bMy Try.prog Try.f48.results.toList (.tup []) (bO d s m (dFn (fun _=>true) C) hp) (nx+100+24*C.dirty.length)):=by
 have hlt: ∀k o,hp k=some o→k<nx:=fun k o hk=>cA hnone hk
 have h1:=hD.hd;have h2:=hD.hs;have h3:=hD.hm
 obtain⟨n1,n2,n3,n4,n5,n6⟩:=hD.ne
 have hd:=hlt _ _ h1
 have hs:=hlt _ _ h2
 have hm:=hlt _ _ h3
 skip
 obtain⟨ks,hks⟩: ∃ks,srt (C.dirty.map (·.1))=ks:=⟨_,rfl⟩
 have hkl:ks.length=C.dirty.length:=by rw[←hks,dFo,List.length_map]
 have hpk:ks.Perm (C.dirty.map (·.1)):=by rw[←hks];exact List.mergeSort_perm _ _
 have hkm: ∀k,k<ks.length→ks.getD k 0∈C.dirty.map (·.1):=by
  intro k hk
  rw[List.getD_eq_getElem?_getD,List.getElem?_eq_getElem hk,Option.getD_some]
  exact hpk.mem_iff.1 (List.getElem_mem hk)
 have hbd: ∀i∈C.dirty.map (·.1),0≤i∧i<(C.rows.length:Int):=fun i hi=>of_decide_eq_true (List.all_eq_true.1 hok i hi)
 have hall:((C.dirty.map (·.1)).all fun k=>decide (0≤k∧k<1000000))=true:=List.all_eq_true.2 fun i hi=>J5 (by have:=hbd i hi;omega)
 have hdl:(C.dirty.map (·.1)).length≤1000000:=by rw[List.length_map];omega
 refine aA rfl ?_
 refine aA rfl ?_
 refine aC (Γ:=bC [(60,.heap dJl),(59,.heap bGg)]) [0,1,11,12,13] (aH dQu (aH dQv aO)) rfl rfl rfl (fun K hK=>?_)
 simp(disch:=omega) only[Try.f48,go_sem,↓reduceIte,h1,h3,J7,J9,J8,hall,hks,List.length_map]
 refine hK _ ?_
 refine aB ?_
 refine aR 0 rfl rfl ?_
 refine bR (fun k:Nat=> {fr:=[(0,.op d 0),(1,.fn 49 []),(11,.os (nx+18) 0 C.dirty.length 1 true),(12,.i C.dirty.length),(13,.i k)],hp:=bO d s m (kC2 C (fun _=>true) k) (upd hp (nx+18) (.cells (ks.map .i) true)),nx:=0,cx:=nx+19+24*k}) (fun k=>k≤C.dirty.length) (fun k=>C.dirty.length-k) rfl ?_ ?_
 rotate_left
 rintro k hk n0
 simp only at hk⊢
 refine aA rfl ?_
 refine bA [14,0,1,11,12,13] rfl rfl rfl fun K hK=>?_
 simp(disch:=omega) only[Try.f48,go_sem,↓reduceIte]
 refine hK _ ?_
 refine aB ?_
 refine aA rfl ?_
 refine aW (.tmp 14) rfl rfl rfl (fun h=>?_) (fun h=>?_)
 ·skip
  refine aI rfl ?_
  have hkd:k<ks.length:=by omega
  have hgk:((ks.map AV.i).drop k).head? =some (.i (ks.getD k 0)):=by rw[List.head?_drop,List.getElem?_map,List.getElem?_eq_getElem hkd,List.getD_eq_getElem?_getD,List.getElem?_eq_getElem hkd];rfl
  obtain⟨i,hi⟩: ∃i,ks.getD k 0=i:=⟨_,rfl⟩
  have him:=hkm k hkd
  rw[hi]at hgk him
  obtain⟨b,hb⟩:=wH him
  obtain⟨hi1,hi2⟩:=hbd i him
  refine aQ rfl ?_
  refine aB ?_
  refine aA rfl ?_
  refine aR 1 rfl rfl ?_
  refine aA rfl ?_
  refine bA [0,1,4,5,11,12,13] rfl rfl rfl fun K hK=>?_
  simp(disch:=omega) only[Try.f48,go_sem,↓reduceIte,hgk,Nat.zero_add,Nat.mul_one,U2]
  refine hK _ ?_
  refine aB ?_
  refine aA rfl ?_
  refine aC (Γ:=bC [(49,.pure true syG)]) [20,0,1,5,11,12,13] (aH bJh aO) rfl rfl rfl (fun K hK=>?_)
  simp(disch:=omega) only[Try.f48,go_sem,↓reduceIte,dNm,List.cons_append,List.nil_append,Nat.zero_add]
  refine hK _ ?_
  refine aB ?_
  refine eC (.tmp 20) rfl rfl rfl (fun h=>?_) (fun h=>?_)
  ·skip
   refine aI rfl ?_
   refine bB (Γ:=aL) (fun _=>2) [0,1,11,12,13] mixed (aD _ _) rfl rfl rfl (by kernel_rfl) (fun K hK=>?_)
   simp(disch:=omega) only[Try.f48,go_sem,↓reduceIte,dIm,dIl,J7,J9,J8,dFe,hb,Option.map_some,Nat.zero_add,Nat.mul_one,List.length_map]
   refine hK _ ?_
   refine bU (aB ?_)
   refine bA [0,1,11,12,13] rfl rfl rfl fun K hK=>?_
   simp(disch:=omega) only[Try.f48,go_sem,↓reduceIte]
   refine hK _ ?_
   refine bT ?_
   have e:=dNf (C:=C) (kept:=fun _=>true) (k:=k) (by rw[hks];exact hi) hb h
   refine⟨k+1,by omega,by omega,⟨fun _=> .inr ?_,fun j o hj=>?_,by simp only;omega⟩⟩
   ·simp only[Int.natCast_add,Int.natCast_one]
   ·simp only[e]at hj;exact hj
  ·skip
   refine aI rfl ?_
   cases h
 ·skip
  refine aI rfl ?_
  refine bF 0 rfl rfl ?_
  refine aY (aZ (bE ?_))
  refine aB ?_
  obtain rfl:k=C.dirty.length:=by omega
  refine bA [] rfl rfl rfl fun K hK=>?_
  simp(disch:=omega) only[Try.f48,go_sem,↓reduceIte,dIm,J7,J9,J8]
  refine hK _ ?_
  refine⟨rfl,fun j o hj=>?_,by simp only;omega⟩
  have e:({kC2 C (fun _=>true) C.dirty.length with dirty:=[]}:DC)=dFn (fun _=>true) C:=(rfl)
  simp only[e]
  refine eL (fun j o hj=>?_) j o hj
  have:=hlt j o hj
  rw[bJ,J3 (by omega)];exact hj
 ·refine⟨0,Nat.zero_le _,⟨fun _=> .inr rfl,fun j o hj=>?_,by simp only;omega⟩⟩
  refine dEj (C:=kC2 C (fun _=>true) 0) ?_ ?_ ?_ ?_ j o hj
  ·simp only[]
   rw[bJ,J3 (by omega),bJ,J3 (by omega)];exact h1
  ·simp only[]
   rw[bJ,J3 (by omega),bJ,J3 (by omega)];exact h2
  ·simp only[]
   rw[bJ,J3 (by omega),bJ,J3 (by omega)];exact h3
  ·intro k o k1 k2 k3 hk
   simp only[bJ]at hk⊢
   by_cases e:k=nx+18
   ·rw[J4 e]at hk;rw[J4 (by omega)];exact hk
   ·rw[J3 e]at hk
    have:=hlt k o hk
    rw[J3 (by omega),J3 (by omega)];exact hk
set_option maxHeartbeats 2000000 in
theorem dNp {d s m:Nat} {C:DC} {hp:H} {nx:Nat} (hD:aZo hp d s m C) (hok:DOk C=true) (hl1:C.rows.length≤4096) (hl2:C.dirty.length≤4096) (hnone: ∀id,nx≤id→hp id=none) {bx:Nat} {mb:Bool} {keep:BitVec 64} (hbx:hp bx=some (.cells [.w64 keep] mb)):
  Awp Try.prog GLh Try.f48.ntmps (aE Try.f48) (sN [.op d 0,.fn 50 [.op bx 0]] hp nx) (bMy Try.prog Try.f48.results.toList (.tup []) (bO d s m (dFn (dGb keep) C) hp) (nx+100+24*C.dirty.length)):=by
 have hlt: ∀k o,hp k=some o→k<nx:=fun k o hk=>cA hnone hk
 have h1:=hD.hd;have h2:=hD.hs;have h3:=hD.hm
 obtain⟨n1,n2,n3,n4,n5,n6⟩:=hD.ne
 have hd:=hlt _ _ h1
 have hs:=hlt _ _ h2
 have hm:=hlt _ _ h3
 have hbl:=hlt _ _ hbx
 have b1:bx≠d:=by
  rintro rfl
  have:=hbx.symm.trans h1
  cases (AO.cells.inj (J0 this)).1
 have b2:bx≠m:=by
  rintro rfl
  have:=hbx.symm.trans h3
  cases this
 have b3:bx≠s:=by
  rintro rfl
  have:=(AO.cells.inj (J0 (hbx.symm.trans h2))).1
  cases hr:C.rows with
  |nil=>rw[hr]at this;cases this
  |cons a r=>rw[hr]at this;cases (List.cons.inj this).1
 obtain⟨ks,hks⟩: ∃ks,srt (C.dirty.map (·.1))=ks:=⟨_,rfl⟩
 have hkl:ks.length=C.dirty.length:=by rw[←hks,dFo,List.length_map]
 have hpk:ks.Perm (C.dirty.map (·.1)):=by rw[←hks];exact List.mergeSort_perm _ _
 have hkm: ∀k,k<ks.length→ks.getD k 0∈C.dirty.map (·.1):=by
  intro k hk
  rw[List.getD_eq_getElem?_getD,List.getElem?_eq_getElem hk,Option.getD_some]
  exact hpk.mem_iff.1 (List.getElem_mem hk)
 have hbd: ∀i∈C.dirty.map (·.1),0≤i∧i<(C.rows.length:Int):=fun i hi=>of_decide_eq_true (List.all_eq_true.1 hok i hi)
 have hall:((C.dirty.map (·.1)).all fun k=>decide (0≤k∧k<1000000))=true:=List.all_eq_true.2 fun i hi=>J5 (by have:=hbd i hi;omega)
 have hdl:(C.dirty.map (·.1)).length≤1000000:=by rw[List.length_map];omega
 refine aA rfl ?_
 refine aA rfl ?_
 refine aC (Γ:=bC [(60,.heap dJl),(59,.heap bGg)]) [0,1,11,12,13] (aH dQu (aH dQv aO)) rfl rfl rfl (fun K hK=>?_)
 simp(disch:=omega) only[Try.f48,go_sem,↓reduceIte,h1,h3,J7,J9,J8,hall,hks,List.length_map]
 refine hK _ ?_
 refine aB ?_
 refine aR 0 rfl rfl ?_
 refine bR (fun k:Nat=> {fr:=[(0,.op d 0),(1,.fn 50 [.op bx 0]),(11,.os (nx+18) 0 C.dirty.length 1 true),(12,.i C.dirty.length),(13,.i k)],hp:=bO d s m (kC2 C (dGb keep) k) (upd hp (nx+18) (.cells (ks.map .i) true)),nx:=0,cx:=nx+19+24*k}) (fun k=>k≤C.dirty.length) (fun k=>C.dirty.length-k) rfl ?_ ?_
 rotate_left
 rintro k hk n0
 simp only at hk⊢
 refine aA rfl ?_
 refine bA [14,0,1,11,12,13] rfl rfl rfl fun K hK=>?_
 simp(disch:=omega) only[Try.f48,go_sem,↓reduceIte]
 refine hK _ ?_
 refine aB ?_
 refine aA rfl ?_
 refine aW (.tmp 14) rfl rfl rfl (fun h=>?_) (fun h=>?_)
 ·skip
  refine aI rfl ?_
  have hkd:k<ks.length:=by omega
  have hgk:((ks.map AV.i).drop k).head? =some (.i (ks.getD k 0)):=by rw[List.head?_drop,List.getElem?_map,List.getElem?_eq_getElem hkd,List.getD_eq_getElem?_getD,List.getElem?_eq_getElem hkd];rfl
  obtain⟨i,hi⟩: ∃i,ks.getD k 0=i:=⟨_,rfl⟩
  have him:=hkm k hkd
  rw[hi]at hgk him
  obtain⟨b,hb⟩:=wH him
  obtain⟨hi1,hi2⟩:=hbd i him
  refine aQ rfl ?_
  refine aB ?_
  refine aA rfl ?_
  refine aR 1 rfl rfl ?_
  refine aA rfl ?_
  refine bA [0,1,4,5,11,12,13] rfl rfl rfl fun K hK=>?_
  simp(disch:=omega) only[Try.f48,go_sem,↓reduceIte,hgk,Nat.zero_add,Nat.mul_one,U2]
  refine hK _ ?_
  refine aB ?_
  refine aA rfl ?_
  refine aC (Γ:=bC [(50,.pure true crG)]) [20,0,1,5,11,12,13] (aH ok26 aO) rfl rfl rfl (fun K hK=>?_)
  simp(disch:=omega) only[Try.f48,go_sem,↓reduceIte,dPm,hbx,List.cons_append,List.nil_append,Nat.zero_add,U2]
  refine hK _ ?_
  refine aB ?_
  refine eC (.tmp 20) rfl rfl rfl (fun h=>?_) (fun h=>?_)
  ·skip
   refine aI rfl ?_
   refine bB (Γ:=aL) (fun _=>2) [0,1,11,12,13] mixed (aD _ _) rfl rfl rfl (by kernel_rfl) (fun K hK=>?_)
   simp(disch:=omega) only[Try.f48,go_sem,↓reduceIte,dIm,dIl,J7,J9,J8,dFe,hb,Option.map_some,Nat.zero_add,Nat.mul_one,List.length_map]
   refine hK _ ?_
   refine bU (aB ?_)
   refine bA [0,1,11,12,13] rfl rfl rfl fun K hK=>?_
   simp(disch:=omega) only[Try.f48,go_sem,↓reduceIte]
   refine hK _ ?_
   refine bT ?_
   have e:=dNf (C:=C) (kept:=dGb keep) (k:=k) (by rw[hks];exact hi) hb h
   refine⟨k+1,by omega,by omega,⟨fun _=> .inr ?_,fun j o hj=>?_,by simp only;omega⟩⟩
   ·simp only[Int.natCast_add,Int.natCast_one]
   ·simp only[e]at hj;exact hj
  ·skip
   refine aI rfl ?_
   refine aQ rfl ?_
   refine bU (aB ?_)
   refine bA [0,1,11,12,13] rfl rfl rfl fun K hK=>?_
   simp(disch:=omega) only[Try.f48,go_sem,↓reduceIte]
   refine hK _ ?_
   refine bT ?_
   have e:=dRf (C:=C) (kept:=dGb keep) (k:=k) h
   refine⟨k+1,by omega,by omega,⟨fun _=> .inr ?_,fun j o hj=>?_,by simp only;omega⟩⟩
   ·simp only[Int.natCast_add,Int.natCast_one]
   ·simp only[e]at hj;exact hj
 ·skip
  refine aI rfl ?_
  refine bF 0 rfl rfl ?_
  refine aY (aZ (bE ?_))
  refine aB ?_
  obtain rfl:k=C.dirty.length:=by omega
  refine bA [] rfl rfl rfl fun K hK=>?_
  simp(disch:=omega) only[Try.f48,go_sem,↓reduceIte,dIm,J7,J9,J8]
  refine hK _ ?_
  refine⟨rfl,fun j o hj=>?_,by simp only;omega⟩
  have e:({kC2 C (dGb keep) C.dirty.length with dirty:=[]}:DC)=dFn (dGb keep) C:=(rfl)
  simp only[e]
  refine eL (fun j o hj=>?_) j o hj
  have:=hlt j o hj
  rw[bJ,J3 (by omega)];exact hj
 ·refine⟨0,Nat.zero_le _,⟨fun _=> .inr rfl,fun j o hj=>?_,by simp only;omega⟩⟩
  refine dEj (C:=kC2 C (dGb keep) 0) ?_ ?_ ?_ ?_ j o hj
  ·simp only[]
   rw[bJ,J3 (by omega),bJ,J3 (by omega)];exact h1
  ·simp only[]
   rw[bJ,J3 (by omega),bJ,J3 (by omega)];exact h2
  ·simp only[]
   rw[bJ,J3 (by omega),bJ,J3 (by omega)];exact h3
  ·intro k o k1 k2 k3 hk
   simp only[bJ]at hk⊢
   by_cases e:k=nx+18
   ·rw[J4 e]at hk;rw[J4 (by omega)];exact hk
   ·rw[J3 e]at hk
    have:=hlt k o hk
    rw[J3 (by omega),J3 (by omega)];exact hk
theorem dNo:cQ Try.prog GLh 48 dJx:=by
 refine gF Try.func48 (aT rfl) ?_
 intro args hp nx r hp' nx' hg
 unfold dJx at hg
 split at hg
 ·rename_i d x
  replace hg:=aJ hg;obtain⟨⟨s,m,C⟩,hD0,hg⟩:=hg
  have hD:=mD hD0
  replace hg:=aJ hg;obtain⟨kept,hk,hg⟩:=hg
  replace hg:=aP hg;obtain⟨⟨g1,g2,g3⟩,hg⟩:=hg
  simp only[Option.some.injEq,Prod.mk.injEq]at hg hD g1 g2 g3;obtain⟨rfl,rfl,rfl⟩:=hg
  refine⟨J1 rfl,by omega,fun hnone=>?_⟩
  unfold dGm at hk
  split at hk
  ·obtain rfl:=J0 hk
   exact dNn hD g1 g2 g3 hnone
  ·rename_i b
   replace hk:=aJ hk;obtain⟨o,ho,hk⟩:=hk
   split at hk
   ·obtain rfl:=J0 hk
    exact dNp hD g1 g2 g3 hnone ho
   cases hk
  cases hk
 cases hg
theorem bWa:bX Try.prog GLh 48 (.heap dJx):=⟨⟨_,Try.func48,rfl,rfl⟩,dNo⟩
end Go.AX

namespace Go.AX
open Go Go.Proofs
theorem dEu (C:DC):(pwV C).2.rows=C.rows:=by unfold pwV;split<;>first|rfl|(split<;>rfl)
theorem dFv (C:DC):(pwV C).2.dirty=C.dirty:=by unfold pwV;split<;>first|rfl|(split<;>rfl)
theorem dOb (C:DC):DOk (pwV C).2=DOk C:=by unfold DOk;rw[dEu,dFv]
theorem dMe (hp:H):dGm hp (.fn 49 [])=some fun _=>true:=(rfl)
def mL (C:DC):Int×DC:=if C.dead=true then(82,C)else if(pwV C).1=0 then(0,dFn (fun _=>true) (pwV C).2)else pwV C
noncomputable def dJd:List AV→H→Nat→Option (AV×H×Nat)
 |[.op d 0],hp,nx=>aK (mB hp d) fun t=>aN (DOk t.C=true∧t.C.rows.length≤4096∧t.C.dirty.length≤4096) (some (.i (mL t.C).1,bO d t.s t.m (mL t.C).2 hp,nx+300+24*t.C.dirty.length))
 |_,_,_=>none
theorem dLq (d:Nat) (hp:H) (nx:Nat):dJd [.op d 0] hp nx=aK (mB hp d) fun t=>aN (DOk t.C=true∧t.C.rows.length≤4096∧t.C.dirty.length≤4096) (some (.i (mL t.C).1,bO d t.s t.m (mL t.C).2 hp,nx+300+24*t.C.dirty.length)):=(rfl)
attribute [go_sem] dLq
theorem dNl:cQ Try.prog GLh 18 dJd:=by
 refine gF Try.func18 (aT rfl) ?_
 intro args hp nx r hp' nx' hg
 unfold dJd at hg
 split at hg
 ·rename_i d
  replace hg:=aJ hg;obtain⟨⟨s,m,C⟩,hD0,hg⟩:=hg
  have hD:=mD hD0
  replace hg:=aP hg;obtain⟨⟨g1,g2,g3⟩,hg⟩:=hg
  simp only[Option.some.injEq,Prod.mk.injEq]at hg hD g1 g2 g3;obtain⟨rfl,rfl,rfl⟩:=hg
  refine⟨J1 rfl,by omega,fun hnone=>?_⟩
  have h1:=hD.hd;have h2:=hD.hs;have h3:=hD.hm
  obtain⟨n1,n2,n3,n4,n5,n6⟩:=hD.ne
  have q1:=dOb C
  have q2:=dEu C
  have q3:=dFv C
  refine aA rfl (bA [0] rfl rfl rfl fun K hK=>?_)
  simp(disch:=omega) only[Try.f18,go_sem,↓reduceIte]
  refine hK _ ?_
  refine aB (aA rfl (aA rfl (bA [7,0] rfl rfl rfl fun K hK=>?_)))
  simp(disch:=omega) only[Try.f18,go_sem,↓reduceIte,h1,J7,J9,J8]
  refine hK _ ?_
  refine aB (eC (.tmp 7) rfl rfl rfl (fun h=>?_) (fun h=>?_))
  ·refine aI rfl ?_
   have e:mL C=(82,C):=J4 h
   rw[e]
   refine aA rfl (bA [2] rfl rfl rfl fun K hK=>?_)
   simp(disch:=omega) only[Try.f18,go_sem,↓reduceIte]
   refine hK _ ?_
   refine aB (aS rfl (bI ?_))
   refine⟨rfl,?_,by simp only;omega⟩
   rw[mC hD];exact fun j o h=>h
  refine aI rfl ?_
  have h4:=h
  refine aQ rfl (aB (aA rfl (aA rfl (aC (Γ:=bC [(47,.heap pwG)]) [0,3] (aH cWs aO) rfl rfl rfl (fun K hK=>?_)))))
  simp(disch:=omega) only[Try.f18,go_sem,↓reduceIte,hD0]
  refine hK _ ?_
  refine aB (aA rfl (bA [11,0,3] rfl rfl rfl fun K hK=>?_))
  simp(disch:=omega) only[Try.f18,go_sem,↓reduceIte]
  refine hK _ ?_
  refine aB (xF (.tmp 11) rfl rfl rfl (fun h=>?_) (fun h=>?_))
  ·refine aI rfl ?_
   have e:mL C=pwV C:=by unfold mL;rw[J3 (by simp[h4]),J3 h]
   rw[e]
   refine aA rfl (bA [2] rfl rfl rfl fun K hK=>?_)
   simp(disch:=omega) only[Try.f18,go_sem,↓reduceIte]
   refine hK _ ?_
   refine aB (aS rfl (bI ?_))
   exact⟨rfl,fun j o h=>h,by simp only;omega⟩
  refine aI rfl ?_
  have e:mL C=(0,dFn (fun _=>true) (pwV C).2):=by unfold mL;rw[J3 (by simp[h4]),J4 h]
  rw[e]
  refine aQ rfl (aB (aA rfl (aC (Γ:=bC [(48,.heap dJx),(49,.pure true syG)]) [] (aH bWa (aH bJh aO)) rfl rfl rfl (fun K hK=>?_))))
  simp(disch:=omega) only[Try.f18,go_sem,↓reduceIte,dMe,q1,g1,q2,q3,g2,g3]
  refine hK _ ?_
  refine aB (aA rfl (bA [2] rfl rfl rfl fun K hK=>?_))
  simp(disch:=omega) only[Try.f18,go_sem,↓reduceIte]
  refine hK _ ?_
  refine aB (aS rfl ?_)
  exact⟨rfl,fun j o h=>h,by simp only;omega⟩
 cases hg
theorem dQz:bX Try.prog GLh 18 (.heap dJd):=⟨⟨_,Try.func18,rfl,rfl⟩,dNl⟩
end Go.AX

namespace Go.AX
open Go Go.Proofs
set_option maxRecDepth 8000
abbrev W64:=BitVec 64
def crS (s:W32):W32:=s>>>1^^^3988292384#32*(s&&&1#32)
def crN:Nat→W32→W32
 |0,s=>s
 |n+1,s=>crS (crN n s)
def crB (s:W32) (x:B8):W32:=crN 8 (s^^^BitVec.setWidth 32 x)
def crF (s:W32) (l:List B8):W32:=l.foldl crB s
def dGd (l:List B8):W32:= ~~~ crF 4294967295#32 l
theorem dHo (s:W32) (l:List B8) (k:Nat) (h:k<l.length):crF s (l.take (k+1))=crB (crF s (l.take k)) (l.getD k 0#8):=by
 unfold crF
 rw[List.take_add_one,List.getElem?_eq_getElem h,List.foldl_append,List.getD_eq_getElem?_getD,List.getElem?_eq_getElem h]
 rfl
def dFf:List AV→Option AV
 |[.sl n xs]=>aK (cI xs) fun l=>aN (l.length=n∧n≤1000000000) (some (.w32 (dGd l)))
 |_=>none
theorem dMt (n:Nat) (xs:List AV):dFf [.sl n xs]=aK (cI xs) fun l=>aN (l.length=n∧n≤1000000000) (some (.w32 (dGd l))):=(rfl)
attribute [go_sem] dMt
set_option maxHeartbeats 1000000 in
theorem dPk:cL Try.prog GLh 10 dFf:=by
 refine cC Try.func10 (aT rfl) ?_
 intro args r hg
 unfold dFf at hg
 split at hg
 ·rename_i n xs
  replace hg:=aJ hg;obtain⟨l,hl,hg⟩:=hg
  have:=bW hl;subst this
  replace hg:=aP hg;obtain⟨⟨hn,hbig⟩,hg⟩:=hg
  obtain rfl:=J0 hg
  subst hn
  refine⟨J1 rfl,fun nx=>?_⟩
  refine aA rfl (bA [0] rfl rfl rfl fun K hK=>?_)
  simp(disch:=omega) only[Try.f10,go_sem,↓reduceIte]
  refine hK _ ?_
  refine aB (aA rfl (bA [0,3] rfl rfl rfl fun K hK=>?_))
  simp(disch:=omega) only[Try.f10,go_sem,↓reduceIte]
  refine hK _ ?_
  refine aB (aA rfl (aA rfl (bA [3,6,7,8] rfl rfl rfl fun K hK=>?_)))
  simp(disch:=omega) only[Try.f10,go_sem,↓reduceIte]
  refine hK _ ?_
  refine aB (aR 0 rfl rfl (bR (fun p:KC=> {fr:=[(3,.w32 (crF 4294967295#32 (l.take p.k))),(6,.sl l.length (c8 l)),(7,.i l.length),(8,.i p.k)],hp:=fun _=>none,nx:=0,cx:=p.c}) (fun p=>p.k≤l.length) (fun p=>l.length-p.k) rfl ⟨⟨0,_⟩,Nat.zero_le _,bD rfl rfl (U3 _)⟩ ?_))
  rintro⟨k,c⟩ hk n0
  simp only at hk⊢
  refine aA rfl (bA [9,3,6,7,8] rfl rfl rfl fun K hK=>?_)
  simp(disch:=omega) only[Try.f10,go_sem,↓reduceIte]
  refine hK _ ?_
  refine aB (aA rfl (aW (.tmp 9) rfl rfl rfl (fun h=>?_) (fun h=>?_)))
  ·refine aI rfl ?_
   have hkl:k<l.length:=by omega
   have hn:=dHo 4294967295#32 l k hkl
   obtain⟨s0,hs0⟩: ∃x,crF 4294967295#32 (l.take k)=x:=⟨_,rfl⟩
   obtain⟨x,hx⟩: ∃x,l.getD k 0#8=x:=⟨_,rfl⟩
   rw[hs0,hx]at hn
   rw[hs0]
   refine aQ rfl (aB (aA rfl (aR 1 rfl rfl (aA rfl (bA [3,5,6,7,8] rfl rfl rfl fun K hK=>?_)))))
   simp(disch:=omega) only[Try.f10,go_sem,↓reduceIte,hx]
   refine hK _ ?_
   refine aB (aA rfl (bA [3,6,7,8] rfl rfl rfl fun K hK=>?_))
   simp(disch:=omega) only[Try.f10,go_sem,↓reduceIte]
   refine hK _ ?_
   refine aB (aA rfl (bA [3,6,7,8,16] rfl rfl rfl fun K hK=>?_))
   simp(disch:=omega) only[Try.f10,go_sem,↓reduceIte]
   refine hK _ ?_
   refine aB (aR 2 rfl rfl (bR (fun q:KC=> {fr:=[(3,.w32 (crN q.k (s0^^^BitVec.setWidth 32 x))),(6,.sl l.length (c8 l)),(7,.i l.length),(8,.i k),(16,.i q.k)],hp:=fun _=>none,nx:=0,cx:=q.c}) (fun q=>q.k≤8) (fun q=>8-q.k) rfl ⟨⟨0,_⟩,Nat.zero_le _,bD rfl rfl (U3 _)⟩ ?_))
   rintro⟨j,c2⟩ hj n0
   simp only at hj⊢
   refine aA rfl (bA [17,3,6,7,8,16] rfl rfl rfl fun K hK=>?_)
   simp(disch:=omega) only[Try.f10,go_sem,↓reduceIte]
   refine hK _ ?_
   refine aB (aA rfl (aW (.tmp 17) rfl rfl rfl (fun h=>?_) (fun h=>?_)))
   ·refine aI rfl ?_
    obtain⟨s1,hs1⟩: ∃y,crN j (s0^^^BitVec.setWidth 32 x)=y:=⟨_,rfl⟩
    rw[hs1]
    refine aQ rfl (aB (aA rfl (aR 3 rfl rfl (bA [3,6,7,8,16] rfl rfl rfl fun K hK=>?_))))
    simp(disch:=omega) only[Try.f10,go_sem,↓reduceIte]
    refine hK _ ?_
    refine bU (aB (bA [3,6,7,8,16] rfl rfl rfl fun K hK=>?_))
    simp(disch:=omega) only[Try.f10,go_sem,↓reduceIte]
    refine hK _ ?_
    refine bT ?_
    refine⟨⟨j+1,_⟩,by simp only;omega,by simp only;omega,bD ?_ rfl (U3 _)⟩
    simp only[Int.natCast_add,Int.natCast_one,crN,hs1]
    rfl
   refine aI rfl ?_
   obtain rfl:j=8:=by omega
   refine bF 2 rfl rfl (aY (aZ (bE (bU (aB (bA [3,6,7,8] rfl rfl rfl fun K hK=>?_))))))
   simp(disch:=omega) only[Try.f10,go_sem,↓reduceIte]
   refine hK _ ?_
   refine bT ?_
   refine⟨⟨k+1,_⟩,by simp only;omega,by simp only;omega,bD ?_ rfl (U3 _)⟩
   simp only[Int.natCast_add,Int.natCast_one,hn]
   rfl
  refine aI rfl ?_
  obtain rfl:k=l.length:=by omega
  rw[List.take_length]
  refine bF 0 rfl rfl (aY (aZ (bE (aB (aA rfl (bA [2] rfl rfl rfl fun K hK=>?_))))))
  simp(disch:=omega) only[Try.f10,go_sem,↓reduceIte]
  refine hK _ ?_
  refine aB (aS rfl ?_)
  simp(disch:=omega) only[cN,bV,bK,bQ,Try.f10,go_sem,↓reduceIte]
  rfl
 cases hg
theorem dHe:bX Try.prog GLh 10 (.pure true dFf):=⟨⟨_,Try.func10,rfl,rfl⟩,dPk⟩
def dJp (v:W64) (l:List B8):W64:=l.foldl (fun v x=>v <<<8|||BitVec.setWidth 64 x) v
def mI (l:List B8):W64:=dJp 0#64 l
theorem dGj (v:W64) (l:List B8) (k:Nat) (h:k<l.length):dJp v (l.take (k+1))=dJp v (l.take k) <<<8|||BitVec.setWidth 64 (l.getD k 0#8):=by
 unfold dJp
 rw[List.take_add_one,List.getElem?_eq_getElem h,List.foldl_append,List.getD_eq_getElem?_getD,List.getElem?_eq_getElem h]
 rfl
def bBg:List AV→Option AV
 |[.sl n xs]=>aK (cI xs) fun l=>aN (l.length=n∧n≤1000000000) (some (.w64 (mI l)))
 |_=>none
theorem bZv (n:Nat) (xs:List AV):bBg [.sl n xs]=aK (cI xs) fun l=>aN (l.length=n∧n≤1000000000) (some (.w64 (mI l))):=(rfl)
attribute [go_sem] bZv
set_option maxHeartbeats 1000000 in
theorem dMm:cL Try.prog GLh 56 bBg:=by
 refine cC Try.func56 (aT rfl) ?_
 intro args r hg
 unfold bBg at hg
 split at hg
 ·rename_i n xs
  replace hg:=aJ hg;obtain⟨l,hl,hg⟩:=hg
  have:=bW hl;subst this
  replace hg:=aP hg;obtain⟨⟨hn,hbig⟩,hg⟩:=hg
  obtain rfl:=J0 hg
  subst hn
  refine⟨J1 rfl,fun nx=>?_⟩
  refine aA rfl (bA [0] rfl rfl rfl fun K hK=>?_)
  simp(disch:=omega) only[Try.f56,go_sem,↓reduceIte]
  refine hK _ ?_
  refine aB (aA rfl (bA [0,3] rfl rfl rfl fun K hK=>?_))
  simp(disch:=omega) only[Try.f56,go_sem,↓reduceIte]
  refine hK _ ?_
  refine aB (aA rfl (aA rfl (bA [3,6,7,8] rfl rfl rfl fun K hK=>?_)))
  simp(disch:=omega) only[Try.f56,go_sem,↓reduceIte]
  refine hK _ ?_
  refine aB (aR 0 rfl rfl (bR (fun p:KC=> {fr:=[(3,.w64 (dJp 0#64 (l.take p.k))),(6,.sl l.length (c8 l)),(7,.i l.length),(8,.i p.k)],hp:=fun _=>none,nx:=0,cx:=p.c}) (fun p=>p.k≤l.length) (fun p=>l.length-p.k) rfl ⟨⟨0,_⟩,Nat.zero_le _,bD rfl rfl (U3 _)⟩ ?_))
  rintro⟨k,c⟩ hk n0
  simp only at hk⊢
  refine aA rfl (bA [9,3,6,7,8] rfl rfl rfl fun K hK=>?_)
  simp(disch:=omega) only[Try.f56,go_sem,↓reduceIte]
  refine hK _ ?_
  refine aB (aA rfl (aW (.tmp 9) rfl rfl rfl (fun h=>?_) (fun h=>?_)))
  ·refine aI rfl ?_
   have hkl:k<l.length:=by omega
   have hn:=dGj 0#64 l k hkl
   obtain⟨s0,hs0⟩: ∃x,dJp 0#64 (l.take k)=x:=⟨_,rfl⟩
   obtain⟨x,hx⟩: ∃x,l.getD k 0#8=x:=⟨_,rfl⟩
   rw[hs0,hx]at hn
   rw[hs0]
   refine aQ rfl (aB (aA rfl (aR 1 rfl rfl (aA rfl (bA [3,5,6,7,8] rfl rfl rfl fun K hK=>?_)))))
   simp(disch:=omega) only[Try.f56,go_sem,↓reduceIte,hx]
   refine hK _ ?_
   refine aB (bA [3,6,7,8] rfl rfl rfl fun K hK=>?_)
   simp(disch:=omega) only[Try.f56,go_sem,↓reduceIte]
   refine hK _ ?_
   refine bU (aB (bA [3,6,7,8] rfl rfl rfl fun K hK=>?_))
   simp(disch:=omega) only[Try.f56,go_sem,↓reduceIte]
   refine hK _ ?_
   refine bT ?_
   refine⟨⟨k+1,_⟩,by simp only;omega,by simp only;omega,bD ?_ rfl (U3 _)⟩
   simp only[Int.natCast_add,Int.natCast_one,hn]
  refine aI rfl ?_
  obtain rfl:k=l.length:=by omega
  rw[List.take_length]
  refine bF 0 rfl rfl (aY (aZ (bE (aB (aA rfl (bA [2] rfl rfl rfl fun K hK=>?_))))))
  simp(disch:=omega) only[Try.f56,go_sem,↓reduceIte]
  refine hK _ ?_
  refine aB (aS rfl ?_)
  simp(disch:=omega) only[cN,bV,bK,bQ,Try.f56,go_sem,↓reduceIte]
  rfl
 cases hg
theorem dIj:bX Try.prog GLh 56 (.pure true bBg):=⟨⟨_,Try.func56,rfl,rfl⟩,dMm⟩
def dHu (n:Nat) (v:W64) (i:Nat):B8:=BitVec.setWidth 8 (v>>>(8*(n-1-i)))
def aMv (n:Nat) (v:W64):List B8:=(List.range n).map (dHu n v)
theorem bH (n:Nat) (v:W64):(aMv n v).length=n:=by simp[aMv]
def bIe:List AV→List AV→Option (AV×List AV)
 |[.os _ off n 1 _,.w64 v],xs=>aK (cI xs) fun l=>aN (off+n≤l.length∧n≤8) (some (.tup [],c8 (jM l off (aMv n v))))
 |_,_=>none
theorem dEh (l:List B8) (k:Nat) (m:List B8) (h:k+m.length≤l.length):(jM l k m).length=l.length:=by
 simp only[jM,List.length_append,List.length_take,List.length_drop];omega
theorem dGs: ∀l:List B8,AV.noMem.noMemL (c8 l)=true
 |[]=>rfl
 |_::r=>by show(true&&AV.noMem.noMemL (c8 r))=true;rw[dGs r];rfl
theorem dKh (l:List B8) (off n k:Nat) (v:W64) (hk:k<n) (h:off+n≤l.length):(jM l off ((aMv n v).take k)).set (off+k) (dHu n v k)=jM l off ((aMv n v).take (k+1)):=by
 have hl:=bH n v
 have hg:(aMv n v)[k]? =some (dHu n v k):=by simp[aMv,hk]
 have h1:((aMv n v).take k).length=k:=by rw[List.length_take];omega
 have hA:(l.take off++(aMv n v).take k).length=off+k:=by rw[List.length_append,h1,List.length_take];omega
 have h3:((aMv n v).take (k+1)).length=k+1:=by rw[List.length_take];omega
 unfold jM
 rw[h1,h3,List.drop_eq_getElem_cons (show off+k<l.length by omega),List.set_append_right _ _ (by rw[hA];exact U3 _),hA,Nat.sub_self,List.set_cons_zero,List.take_add_one,hg]
 simp only[Option.toList_some,List.append_assoc,List.singleton_append,Nat.add_assoc]
theorem bVa (id off n:Nat) (gg:Bool) (v:W64) (xs:List AV):bIe [.os id off n 1 gg,.w64 v] xs=aK (cI xs) fun l=>aN (off+n≤l.length∧n≤8) (some (.tup [],c8 (jM l off (aMv n v)))):=(rfl)
attribute [go_sem] bVa
set_option maxHeartbeats 1000000 in
theorem dMk:cQ Try.prog GLh 57 (dP bIe):=by
 refine dN Try.func57 (aT rfl) ?_
 intro id off n e gg rest nx xs r ys hg
 unfold bIe at hg
 split at hg
 ·rename_i id2 off2 n2 gg2 v heq
  simp only[List.cons.injEq,AV.os.injEq]at heq
  obtain⟨⟨rfl,rfl,rfl,rfl,rfl⟩,rfl⟩:=heq
  replace hg:=aJ hg;obtain⟨l,hl,hg⟩:=hg
  replace hg:=aP hg;obtain⟨⟨hn,h8⟩,hg⟩:=hg
  simp only[Option.some.injEq,Prod.mk.injEq]at hg;obtain⟨rfl,rfl⟩:=hg
  have:=bW hl;subst this
  refine⟨J1 rfl,fun hid=>?_⟩
  have hsl: ∀k,k≤n→(jM l off ((aMv n v).take k)).length=l.length:=fun k hk=>dEh l off _ (by rw[List.length_take,bH];omega)
  have hs0:jM l off ((aMv n v).take 0)=l:=by simp[jM]
  clear hl
  refine aA rfl (bA [0,1,6,7] rfl rfl rfl fun K hK=>?_)
  simp(disch:=omega) only[Try.f57,go_sem,↓reduceIte]
  refine hK _ ?_
  refine aB (aR 0 rfl rfl ?_)
  refine bR (fun p:KC=> {fr:=[(0,.os id off n 1 gg),(1,.w64 v),(6,.i n),(7,.i p.k)],hp:=upd (fun _=>none) id (.cells (c8 (jM l off ((aMv n v).take p.k))) true),nx:=0,cx:=p.c}) (fun p=>p.k≤n∧id<p.c) (fun p=>n-p.k) rfl ⟨⟨0,_⟩,⟨Nat.zero_le _,by simp only;omega⟩,bD rfl (by simp only[hs0]) (U3 _)⟩ ?_
  rintro⟨k,c⟩ ⟨hk,hc⟩ n0
  simp only at hk hc⊢
  refine aA rfl (bA [8,0,1,6,7] rfl rfl rfl fun K hK=>?_)
  simp(disch:=omega) only[Try.f57,go_sem,↓reduceIte]
  refine hK _ ?_
  refine aB (aA rfl (aW (.tmp 8) rfl rfl rfl (fun h=>?_) (fun h=>?_)))
  ·refine aI rfl ?_
   have hkn:k<n:=by omega
   have hsk:=hsl k hk
   have hpn:=dKh l off n k v hkn hn
   obtain⟨T,hT⟩: ∃T,jM l off ((aMv n v).take k)=T:=⟨_,rfl⟩
   rw[hT]at hsk hpn⊢
   have e8:(8*((n:Int)-1-(k:Int)))=((8*(n-1-k):Nat):Int):=by omega
   refine aQ rfl (aB (aA rfl (aR 1 rfl rfl (aA rfl (bA [0,1,4,6,7] rfl rfl rfl fun K hK=>?_)))))
   simp(disch:=omega) only[Try.f57,go_sem,↓reduceIte]
   refine hK _ ?_
   refine aB ?_
   have e9:BitVec.setWidth 8 (v>>>(BitVec.ofInt 64 ((8*(n-1-k):Nat):Int)).toNat)=dHu n v k:=by
    unfold dHu
    rw[BitVec.ofInt_natCast,BitVec.toNat_ofNat,Nat.mod_eq_of_lt (by omega)]
   refine bA [0,1,6,7] rfl rfl rfl fun K hK=>?_
   simp(disch:=omega) only[Try.f57,go_sem,↓reduceIte,iM,hsk,yB,e8,e9,hpn]
   refine hK _ ?_
   refine bU (aB (bA [0,1,6,7] rfl rfl rfl fun K hK=>?_))
   simp(disch:=omega) only[Try.f57,go_sem,↓reduceIte]
   refine hK _ ?_
   refine bT ?_
   refine⟨⟨k+1,_⟩,⟨by simp only;omega,by simp only;omega⟩,by simp only;omega,bD ?_ rfl (U3 _)⟩
   simp only[Int.natCast_add,Int.natCast_one]
  refine aI rfl ?_
  obtain rfl:k=n:=by omega
  rw[List.take_of_length_le (by rw[bH];exact U3 _)]
  exact bF 0 rfl rfl (aY (aZ (bE (⟨rfl,by simp only[bJ,if_true],rfl,dGs _⟩))))
 cases hg
theorem dHd:bX Try.prog GLh 57 (.heap (dP bIe)):=⟨⟨_,Try.func57,rfl,rfl⟩,dMk⟩
end Go.AX

namespace Go.AX
open Go Go.Proofs
inductive FP where
 |all
 |at_ (R W:List Nat)
 |cal (hp hp':H)
def fpV:AV→List Nat
 | .os i _ _ _ _=>[i]
 | .op i _=>[i]
 | .mp i=>[i]
 |_=>[]
def rW (hp:H) (y:AV):Bool:=
 match y with
 | .os j off n e _=>match hp j with
  |some (.cells xs _)=>gH ((xs.drop off).take (n*e))
  |_=>false
 | .sl _ xs=>gH xs
 | .s _=>true
 | .v (.slice none 0 0)=>true
 |_=>false
def fpW (op:Op) (ρ:Operand→AV) (hp:H) (id:Nat):FP:=
 match op with
 | .store _ a _=> .at_ [] (fpV (ρ a))
 | .call c=>match c.callee,c.args.toList,c.argTypes.toList with
  | .builtin .append,[x,y],[_,_]=>if rW hp (ρ y)=true then .at_ (fpV (ρ y)) (id::fpV (ρ x))else .all
  |_,_,_=> .all
 |_=> .all
def fpR (op:Op) (ρ:Operand→AV):FP:=
 match op with
 | .load _ x=> .at_ (fpV (ρ x)) []
 |_=> .all
def fpE (P:Program) (Γ:Env) (m:Nat) (op:Op) (ρ:Operand→AV) (hp:H) (id:Nat):FP:=
 if tI P Γ m op=.P then .at_ [] []else
 match cls P op with
 | .pure=> .at_ [] []
 | .read=>fpR op ρ
 | .new=> .at_ [] [id]
 | .write=>fpW op ρ hp id
 | .call=> .all
def kZ (p:Nat→Option (Option AO)) (hp:H):H:=fun k=>match p k with|some o=>o|none=>hp k
theorem qK (hp:H) (i:Nat) (o:AO):kZ (fun k=>if k=i then some (some o)else none) hp=upd hp i o:=by
 funext k
 simp only[kZ,bJ]
 by_cases h:k=i
 ·simp[h]
 simp[h]
theorem wY (hp:H) (i id:Nat) (o:AO):kZ (fun k=>if k=id then some (some o)else if k=i then some none else none) hp=upd (del hp i) id o:=by
 funext k
 simp only[kZ,bJ,eV]
 by_cases h:k=id
 ·simp[h]
 by_cases h2:k=i
 ·subst h2;simp[h]
 simp[h,h2]
theorem bEt (hp:H) (p q:Nat→Option (Option AO)) (h: ∀k,p k≠none→q k=none):kZ p (kZ q hp)=kZ q (kZ p hp):=by
 funext k
 simp only[kZ]
 cases hp1:p k with
 |none=>simp
 |some o=>
  have:=h k (by rw[hp1];simp)
  rw[this]
def cSa (R W:List Nat) (f:H→Option (AV×H)) (hp:H):Prop:=
 ∀r,f hp=some r→∃p,(∀k,p k≠none→k∈W)∧r.2=kZ p hp∧∀hp2,(∀k,k∈R∨k∈W→hp2 k=hp k)→f hp2=some (r.1,kZ p hp2)
theorem bAr (P:Program) (t:TypeId) (a x:Operand) (ρ:Operand→AV) (id:Nat) (hp:H):cSa [] (fpV (ρ a)) (fun hp=>fR P (.store t a x) ρ hp id) hp:=by
 intro r hr
 simp only[fR]at hr⊢
 cases ha:ρ a with
 |op i off=>
  simp only[ha]at hr⊢
  replace hr:=aJ hr;obtain⟨cs,hcs,hr⟩:=hr
  replace hr:=aJ hr;obtain⟨z,hz,hr⟩:=hr
  replace hr:=aJ hr;obtain⟨o,ho,hr⟩:=hr
  cases o with
  |mapo es mt=>cases hr
  |cells xs mt=>
   simp only at hr
   replace hr:=aP hr;obtain⟨hg,hr⟩:=hr
   obtain rfl:=J0 hr
   refine⟨fun k=>if k=i then some (some (.cells (dV xs off cs) true))else none,fun k hk=>?_,(qK _ _ _).symm,fun hp2 h2=>?_⟩
   ·simp only[fpV]
    by_cases e:k=i
    ·simp[e]
    simp[e]at hk
   have:=h2 i (.inr (by simp[fpV]))
   rw[hcs,aX,hz,aX,this,ho,aX]
   simp only[]
   rw[cU _ hg,qK]
 |_=>simp only[ha]at hr;cases hr
theorem aQw {hp hp2:H} {y:AV} (h2: ∀k,k∈fpV y→hp2 k=hp k):rW hp2 y=rW hp y:=by
 unfold rW
 cases y with
 |os j off n e g=>simp only[];rw[h2 j (by simp[fpV])]
 |v v=>
  cases v with
  |slice a b c=>cases a<;>cases b<;>cases c<;>rfl
  |_=>rfl
 |_=>rfl
theorem bTo {hp hp2:H} {z:Nat} {y:AV} {my:Nat×List AV} (h:tX hp z y=some my) (hn:rW hp y=true) (h2: ∀k,k∈fpV y→hp2 k=hp k):
  gH my.2=true∧tX hp2 z y=some my∧rW hp2 y=true:=by
 unfold tX at h⊢
 unfold rW at hn⊢
 cases y with
 |s l=>
  simp only at h⊢
  replace h:=aP h;obtain⟨hg,h⟩:=h
  obtain rfl:=J0 h
  refine⟨?_,by rw[cU _ hg],trivial⟩
  simp only[gH,Bool.not_eq_true',List.any_eq_false,List.mem_map]
  rintro _ ⟨x,_,rfl⟩
  simp[wG]
 |sl n xs=>
  simp only[fG]at h hn⊢
  replace h:=aP h;obtain⟨hg,h⟩:=h
  obtain rfl:=J0 h
  exact⟨hn,by rw[cU _ hg],hn⟩
 |os j off n e g=>
  simp only[fG]at h hn⊢
  have e2:=h2 j (by simp[fpV])
  replace h:=aJ h;obtain⟨o,ho,h⟩:=h
  rw[e2,ho]
  rw[ho]at hn
  cases o with
  |mapo es mt=>cases h
  |cells xs mt=>
   simp only at h hn⊢
   replace h:=aP h;obtain⟨hg,h⟩:=h
   obtain rfl:=J0 h
   refine⟨?_,by rw[aX];simp only[];rw[cU _ hg],hn⟩
   rw[←hg.1];exact hn
 |v v=>
  cases v with
  |slice a b c=>
   cases a with
   |none=>
    cases b with
    |zero=>cases c with
     |zero=>
      simp only[fG]at h⊢
      obtain rfl:=J0 h
      exact⟨rfl,rfl,trivial⟩
     |succ c=>simp[fG]at h
    |succ b=>simp[fG]at h
   |some a=>simp[fG]at h
  |_=>simp[fG]at h
 |_=>simp[fG]at h
theorem aSh (P:Program) (t:TypeId) (x y:AV) (id:Nat) (hp:H) (hn:rW hp y=true):cSa (fpV y) (id::fpV x) (fun hp=>pK P t x y hp id) hp:=by
 intro r hr
 simp only[pK]at hr⊢
 cases ht:P.underlying t with
 |none=>simp[ht]at hr
 |some d=>
  cases d with
  |slice e=>
   simp only[ht]at hr⊢
   replace hr:=aJ hr;obtain⟨z,hz,hr⟩:=hr
   replace hr:=aJ hr;obtain⟨by_,hb,hr⟩:=hr
   replace hr:=aJ hr;obtain⟨zs,hzs,hr⟩:=hr
   replace hr:=aP hr;obtain⟨hg,hr⟩:=hr
   replace hr:=aJ hr;obtain⟨my,hmy,hr⟩:=hr
   have hsrc:=fun hp2 h2=>bTo (hp2:=hp2) hmy hn h2
   have hno:=(hsrc hp (fun _ _=>rfl)).1
   have hfz: ∀hp:H,uU hp my.2=some (my.2,hp):=fun hp=>J4 hno
   rw[hfz,aX]at hr
   simp only at hr
   have red: ∀hp2:H,(∀k,k∈fpV y→hp2 k=hp k)→(aK (cD P e) fun z=>aK (dU P e) fun by_=>aK (cG P e) fun zs=>aN (0<z∧zs.length=z) (aK (tX hp2 z y) fun my=>aK (uU hp2 my.2) fun fy=>zV z by_ x my.1 fy.1 fy.2 id))=zV z by_ x my.1 my.2 hp2 id:=by
    intro hp2 h2
    rw[hz,aX,hb,aX,hzs,aX,cU _ hg,(hsrc hp2 h2).2.1,aX,hfz,aX]
   have key: ∃p:Nat→Option (Option AO),(∀k,p k≠none→k∈id::fpV x)∧r.2=kZ p hp∧∀hp2:H,(∀k,k∈fpV x→hp2 k=hp k)→zV z by_ x my.1 my.2 hp2 id=some (r.1,kZ p hp2):=by
    unfold zV at hr⊢
    cases x with
    |os i off n e' g=>
     simp only at hr⊢
     replace hr:=aJ hr;obtain⟨o,ho,hr⟩:=hr
     cases o with
     |mapo es mt=>cases hr
     |cells xs mt=>
      simp only at hr
      unfold eqO at hr
      have dom: ∀(w:AO) (k:Nat),(if k=id then some (some w)else if k=i then some none else none:Option (Option AO))≠none→k∈id::fpV (.os i off n e' g):=by
       intro w k hk
       simp only[fpV,List.mem_cons,List.not_mem_nil,or_false]
       by_cases e1:k=id
       ·exact .inl e1
       by_cases e2:k=i
       ·exact .inr e2
       simp[e1,e2]at hk
      split at hr
      ·rename_i he
       simp only[kF]at hr
       replace hr:=aJ hr;obtain⟨o2,ho2,hr⟩:=hr
       obtain rfl:=J0 (ho.symm.trans ho2)
       simp only at hr
       replace hr:=aP hr;obtain⟨hg2,hr⟩:=hr
       obtain rfl:=J0 hr
       refine⟨fun k=>if k=id then some (some (.cells (xs.drop off++my.2) true))else if k=i then some none else none,dom _,(wY _ _ _ _).symm,fun hp2 h2=>?_⟩
       have e3:=h2 i (by simp[fpV])
       rw[e3,ho,aX]
       simp only[eqO]
       rw[J4 he]
       simp only[kF]
       rw[e3,ho,aX]
       simp only[]
       rw[cU _ hg2,wY]
      rename_i he
      unfold aDp at hr
      replace hr:=aP hr;obtain⟨hg2,hr⟩:=hr
      obtain rfl:=J0 hr
      refine⟨fun k=>if k=id then some (some (.cells ((xs.drop off).take (n*z)++my.2) true))else if k=i then some none else none,dom _,(wY _ _ _ _).symm,fun hp2 h2=>?_⟩
      have e3:=h2 i (by simp[fpV])
      rw[e3,ho,aX]
      simp only[eqO]
      rw[J3 he]
      unfold aDp
      rw[cU _ hg2,wY]
    |v v=>
     cases v with
     |slice a b c=>
      cases a with
      |none=>
       cases b with
       |zero=>cases c with
        |zero=>
         simp only[kF]at hr⊢
         replace hr:=aP hr;obtain⟨hg2,hr⟩:=hr
         obtain rfl:=J0 hr
         refine⟨fun k=>if k=id then some (some (.cells my.2 true))else none,fun k hk=>?_,(qK _ _ _).symm,fun hp2 h2=>by rw[cU _ hg2,qK]⟩
         by_cases e1:k=id
         ·simp[e1]
         simp[e1]at hk
        |succ c=>simp[kF]at hr
       |succ b=>simp[kF]at hr
      |some a=>simp[kF]at hr
     |_=>simp[kF]at hr
    |_=>simp[kF]at hr
   obtain⟨p,p1,p2,p3⟩:=key
   exact⟨p,p1,p2,fun hp2 h2=>by rw[red hp2 (fun k hk=>h2 k (.inl hk)),p3 hp2 (fun k hk=>h2 k (.inr (by simp[hk])))]⟩
  |_=>simp[ht]at hr
theorem bMw {m nx n:Nat} {hp hp2:H} {k:Nat} (h:hp2 k=hp k):mY m nx n hp2 k=mY m nx n hp k:=by
 unfold mY
 split
 ·exact h
 ·rfl
 simp only[]
 rw[h]
theorem bLf (P:Program) (t:TypeId) (x:Operand) (ρ:Operand→AV) {hp hp2:H} {v:AV} (h:lA P (.load t x) ρ hp=some v) (h2: ∀k,k∈fpV (ρ x)→hp2 k=hp k):lA P (.load t x) ρ hp2=some v:=by
 simp only[lA]at h⊢
 cases hx:ρ x with
 |op i off=>
  simp only[hx]at h⊢
  rw[h2 i (by simp[hx,fpV])]
  exact h
 |rp ys=>simp only[hx]at h⊢;exact h
 |_=>simp only[hx]at h;cases h
section
variable {P : Program} {Γ : Env} {GL : Nat → Option (List AV)} {md : Nat → Nat} {ops : Array Oper}
theorem aAf {op:Op} {ρ:Operand→AV} {m nx n:Nat} {hp:H} {id cx:Nat} {r:AV×H×Nat} {R W:List Nat} (hf: ∀f,ρ (.func f)=.fn f []) (hr:eff P Γ op ρ m nx n hp id cx=some r) (hfp:fpE P Γ m op ρ hp id=.at_ R W):
  ∃p,(∀k,p k≠none→k∈W)∧r.2.1=kZ p hp∧r.2.2=cx∧∀hp2,(∀k,k∈R∨k∈W→hp2 k=hp k)→(∀cx2,eff P Γ op ρ m nx n hp2 id cx2=some (r.1,kZ p hp2,cx2))∧fpE P Γ m op ρ hp2 id=.at_ R W:=by
 unfold fpE at hfp⊢
 by_cases hP:tI P Γ m op=.P
 ·rw[J4 hP]at hfp
  obtain⟨rfl,rfl⟩:=FP.at_.inj hfp
  refine⟨fun _=>none,fun k hk=>absurd rfl hk,?_,?_,fun hp2 _=>⟨fun cx2=>?_,by rw[J4 hP]⟩⟩
  ·have:=(aDd hf hP hp hp id id cx cx hr).1;rw[this];rfl
  ·have:=(aDd hf hP hp hp id id cx cx hr).1;rw[this]
  ·exact(aDd hf hP hp hp2 id id cx cx2 hr).2
 ·simp only[J3 hP]at hfp⊢
  unfold eff at hr⊢
  cases hc:cls P op with
  |pure=>
   simp only[hc]at hr hfp⊢
   obtain⟨rfl,rfl⟩:=FP.at_.inj hfp
   replace hr:=aJ hr;obtain⟨x,hx,hr⟩:=hr
   obtain rfl:=J0 hr
   exact⟨fun _=>none,fun k hk=>absurd rfl hk,rfl,rfl,fun hp2 _=>⟨fun cx2=>by rw[hx];rfl,by first|rfl|trivial⟩⟩
  |read=>
   simp only[hc]at hr hfp⊢
   replace hr:=aJ hr;obtain⟨x,hx,hr⟩:=hr
   obtain rfl:=J0 hr
   unfold fpR at hfp⊢
   cases op with
   |load t y=>
    simp only at hfp⊢
    obtain⟨rfl,rfl⟩:=FP.at_.inj hfp
    refine⟨fun _=>none,fun k hk=>absurd rfl hk,rfl,by first|rfl|trivial,fun hp2 h2=>⟨fun cx2=>?_,by first|rfl|trivial⟩⟩
    rw[bLf P t y ρ hx (fun k hk=>bMw (h2 k (.inl hk)))]
    rfl
   |_=>simp at hfp
  |new=>
   simp only[hc]at hr hfp⊢
   obtain⟨rfl,rfl⟩:=FP.at_.inj hfp
   replace hr:=aJ hr;obtain⟨x,hx,hr⟩:=hr
   obtain rfl:=J0 hr
   refine⟨fun k=>if k=id then some (some (.cells x.2 true))else none,fun k hk=>?_,(qK _ _ _).symm,rfl,fun hp2 _=>⟨fun cx2=>by rw[hx,aX,qK],by first|rfl|trivial⟩⟩
   by_cases e:k=id
   ·simp[e]
   ·simp[e]at hk
  |write=>
   simp only[hc]at hr hfp⊢
   replace hr:=aJ hr;obtain⟨x,hx,hr⟩:=hr
   obtain rfl:=J0 hr
   have go: ∀ {R W:List Nat},cSa R W (fun hp=>fR P op ρ hp id) hp→(∀hp2,(∀k,k∈R∨k∈W→hp2 k=hp k)→fpW op ρ hp2 id=.at_ R W)→
     ∃p,(∀k,p k≠none→k∈W)∧(x.1,x.2,cx).2.1=kZ p hp∧(x.1,x.2,cx).2.2=cx∧∀hp2,(∀k,k∈R∨k∈W→hp2 k=hp k)→(∀cx2:Nat,(aK (fR P op ρ hp2 id) fun p=>some (p.1,p.2,cx2))=some ((x.1,x.2,cx).1,kZ p hp2,cx2))∧fpW op ρ hp2 id=.at_ R W:=by
    intro R W hL hF
    obtain⟨p,p1,p2,p3⟩:=hL x hx
    exact⟨p,p1,p2,rfl,fun hp2 h2=>⟨fun cx2=>by rw[show fR P op ρ hp2 id=_ from p3 hp2 h2];rfl,hF hp2 h2⟩⟩
   unfold fpW at hfp
   cases op with
   |store t a y=>
    simp only at hfp
    obtain⟨rfl,rfl⟩:=FP.at_.inj hfp
    exact go (bAr P t a y ρ id hp) (fun hp2 _=>rfl)
   |call c=>
    obtain⟨callee,args,ats⟩:=c
    simp only at hfp
    split at hfp
    ·rename_i u v t1 t2 e2 e3
     split at hfp
     ·rename_i hn
      obtain⟨rfl,rfl⟩:=FP.at_.inj hfp
      have hint:eW P t2=true:=by
       simp only[fR]at hx
       rw[e2,e3]at hx
       simp only at hx
       by_cases hi:eW P t2=true
       ·exact hi
       ·rw[J3 hi]at hx
        replace hx:=aP hx;obtain⟨_,hx⟩:=hx
        unfold wX at hx
        cases hd:P.underlying t1 with
        |none=>simp[hd]at hx
        |some d=>
         cases d with
         |slice e=>
          simp only[hd]at hx
          replace hx:=aJ hx;obtain⟨z,hz,hx⟩:=hx
          replace hx:=aJ hx;obtain⟨by_,hb,hx⟩:=hx
          replace hx:=aJ hx;obtain⟨zs,hzs,hx⟩:=hx
          replace hx:=aP hx;obtain⟨hg,hx⟩:=hx
          replace hx:=aJ hx;obtain⟨mm,hmm,hx⟩:=hx
          unfold bCb at hmm
          unfold rW at hn
          cases hv:ρ v with
          |i q=>simp[hv]at hn
          |_=>simp[hv]at hmm
         |_=>simp[hd]at hx
      have hw: ∀hp2:H,fR P (.call ⟨.builtin .append,args,ats⟩) ρ hp2 id=pK P t1 (ρ u) (ρ v) hp2 id:=by
       intro hp2
       simp only[fR]
       rw[e2,e3]
       simp only[]
       rw[J4 hint]
      refine go ?_ (fun hp2 h2=>?_)
      ·have:=aSh P t1 (ρ u) (ρ v) id hp hn
       intro r hr
       simp only[hw]at hr⊢
       exact this r hr
      ·unfold fpW
       simp only[]
       rw[e2,e3]
       simp only[]
       have hxx:pK P t1 (ρ u) (ρ v) hp id=some x:=by rw[←hw];exact hx
       have hs:rW hp2 (ρ v)=true:=by rw[aQw (fun k hk=>h2 k (.inl hk))];exact hn
       rw[J4 hs]
     ·cases hfp
    ·cases hfp
   |_=>simp at hfp
  |call=>simp[hc]at hfp
theorem mZ {op:Op} {ρ ρ':Operand→AV} (m:Nat) (hp:H) (id:Nat) (h: ∀y∈op.operands,ρ y=ρ' y):fpE P Γ m op ρ hp id=fpE P Γ m op ρ' hp id:=by
 unfold fpE
 have e1:fpR op ρ=fpR op ρ':=by
  cases op with
  |load t x=>simp only[fpR];rw[h x (by simp[Op.operands])]
  |_=>rfl
 have e2:fpW op ρ hp id=fpW op ρ' hp id:=by
  cases op with
  |store t a x=>simp only[fpW];rw[h a (by simp[Op.operands])]
  |call c=>
   obtain⟨callee,args,ats⟩:=c
   have hA: ∀y∈args.toList,ρ y=ρ' y:=fun y hy=>h y (by simp only[Op.operands,Call.operands,Array.mem_append];exact .inr (Array.mem_toList_iff.1 hy))
   simp only[fpW]
   split
   ·rename_i x y t t' q1 q2
    rw[hA x (by rw[q1];simp),hA y (by rw[q1];simp)]
   rfl
  |_=>rfl
 rw[e1,e2]
def fpQ (f:FP) (hp hp':H):FP:=match f with
 | .all=> .cal hp hp'
 | .at_ R W=> .at_ R W
 | .cal a b=> .cal a b
def fpS (P:Program) (Γ:Env) (GL:Nat→Option (List AV)) (md:Nat→Nat) (ops:Array Oper) (k:Nat) (o:Oper) (s:S) (hp':H):FP:=
 match gdO ops s.fr o with
 |some true=>fpQ (fpE P Γ (md k) o.op (ev GL s.fr) s.hp (s.nx+k)) s.hp hp'
 |_=> .at_ [] []
def apL (xs ys:List Nat):Prop:= ∀x,x∈xs→∀y,y∈ys→x≠y
def aTz (x:Nat) (ys:List Nat):Prop:= ∀y,y∈ys→x≠y
theorem cEc (ys:List Nat):apL [] ys=True:=by simp[apL]
theorem bRv (x:Nat) (r ys:List Nat):apL (x::r) ys=(aTz x ys∧apL r ys):=by simp[apL,aTz]
theorem bRw (x:Nat):aTz x []=True:=by simp[aTz]
theorem bEw (x y:Nat) (r:List Nat):aTz x (y::r)=(x≠y∧aTz x r):=by simp[aTz]
def agL (xs:List Nat) (hp hp':H):Prop:= ∀x,x∈xs→hp' x=hp x
theorem dDl (hp hp':H):agL [] hp hp'=True:=by simp[agL]
theorem dDj (x:Nat) (r:List Nat) (hp hp':H):agL (x::r) hp hp'=(hp' x=hp x∧agL r hp hp'):=by simp[agL]
def rL:FP→FP→Prop
 | .at_ R W,.at_ R' W'=>apL W R'∧apL W W'∧apL R W'
 | .at_ R W,.all=>R=[]∧W=[]
 | .all,.at_ R W=>R=[]∧W=[]
 | .at_ R W,.cal hp hp'=>W=[]∧agL R hp hp'
 | .cal hp hp',.at_ R W=>W=[]∧agL R hp hp'
 |_,_=>False
theorem cAa {k:Nat} {o:Oper} {s t:S} (he:gC s t) (hp':H):fpS P Γ GL md ops k o s hp'=fpS P Γ GL md ops k o t hp':=by
 obtain⟨e1,e2,e3,e4⟩:=he
 unfold fpS
 rw[aXd e1 o,bNk e1,e2,e3]
theorem dDf {op:Op} {ρ:Operand→AV} {m:Nat} {hp:H} {id:Nat} {a b:H}:fpE P Γ m op ρ hp id≠.cal a b:=by
 unfold fpE
 split
 ·exact fun e=>by cases e
 split
 ·exact fun e=>by cases e
 ·unfold fpR;split<;>exact fun e=>by cases e
 ·exact fun e=>by cases e
 ·unfold fpW
  split
  ·exact fun e=>by cases e
  ·split
   ·split<;>exact fun e=>by cases e
   exact fun e=>by cases e
  exact fun e=>by cases e
 exact fun e=>by cases e
theorem aQv {i j:Nat} {x y:Oper} {s s1 s2:S} (hap:x.apart ops y=true) (_:i≠j)
  (h1:kA P Γ GL md ops i x s=some s1) (h2:kA P Γ GL md ops j y s1=some s2) (hd:rL (fpS P Γ GL md ops i x s s1.hp) (fpS P Γ GL md ops j y s1 s2.hp)):
  ∃t1 t2,kA P Γ GL md ops j y s=some t1∧kA P Γ GL md ops i x t1=some t2∧gC s2 t2∧fpS P Γ GL md ops j y s t1.hp=fpS P Γ GL md ops j y s1 s2.hp∧fpS P Γ GL md ops i x t1 t2.hp=fpS P Γ GL md ops i x s s1.hp:=by
 obtain⟨a1,a2,a3⟩:=Oper.apart_spec hap
 have hfn: ∀fr f,ev GL fr (.func f)=.fn f []:=fun _ _=>rfl
 unfold kA at h1 h2⊢
 unfold fpS at hd⊢
 replace h1:=aJ h1;obtain⟨bx,hbx,h1⟩:=h1
 replace h2:=aJ h2;obtain⟨by',hby,h2⟩:=h2
 cases bx with
 |false=>
  obtain rfl:=J0 h1
  simp only at hby h2 hd
  rw[jT a1]at hby
  rw[hby,aX]
  cases by' with
  |false=>
   obtain rfl:=J0 h2
   refine⟨_,{fr:=fA x.dst (.tup []) (fA y.dst (.tup []) s.fr),hp:=s.hp,nx:=s.nx,cx:=s.cx},rfl,?_,?_,?_,?_⟩
   ·simp only[];rw[jT a3,hbx,aX]
   ·exact⟨fun t=>jV a2 _ _ _ t,rfl,rfl,rfl⟩
   ·simp only[];rw[jT a1,hby]
   ·simp only[];rw[jT a3,hbx]
  |true=>
   replace h2:=aJ h2;obtain⟨r,hr,h2⟩:=h2
   obtain rfl:=J0 h2
   rw[kI _ _ _ _ _ _ (kO a1)]at hr
   simp only[hr,aX]
   refine⟨_,{fr:=fA x.dst (.tup []) (fA y.dst r.1 s.fr),hp:=r.2.1,nx:=s.nx,cx:=r.2.2},rfl,?_,?_,?_,?_⟩
   ·simp only[];rw[jT a3,hbx,aX]
   ·exact⟨fun t=>jV a2 _ _ _ t,rfl,rfl,rfl⟩
   ·rw[jT a1,hby];simp only[];rw[mZ _ _ _ (kO a1)]
   ·simp only[];rw[jT a3,hbx]
 |true=>
  replace h1:=aJ h1;obtain⟨rx,hrx,h1⟩:=h1
  obtain rfl:=J0 h1
  simp only at hby h2 hd
  rw[jT a1]at hby
  rw[hby,aX]
  cases by' with
  |false=>
   obtain rfl:=J0 h2
   refine⟨_,{fr:=fA x.dst rx.1 (fA y.dst (.tup []) s.fr),hp:=rx.2.1,nx:=s.nx,cx:=rx.2.2},rfl,?_,?_,?_,?_⟩
   ·simp only[]
    rw[jT a3,hbx,aX]
    simp only[]
    rw[kI _ _ _ _ _ _ (kO a3),hrx,aX]
   ·exact⟨fun t=>jV a2 _ _ _ t,rfl,rfl,rfl⟩
   ·simp only[];rw[jT a1,hby]
   ·simp only[];rw[jT a3,hbx];simp only[];rw[mZ _ _ _ (kO a3)]
  |true=>
   replace h2:=aJ h2;obtain⟨ry,hry,h2⟩:=h2
   obtain rfl:=J0 h2
   rw[jT a1,hby,hbx]at hd
   simp only at hd
   rw[mZ _ _ _ (kO a1)]at hd
   rw[kI _ _ _ _ _ _ (kO a1)]at hry
   have none_of: ∀ {p:Nat→Option (Option AO)} (_: ∀k,p k≠none→k∈([]:List Nat)) (hp:H),kZ p hp=hp:=by
    intro p hp0 hp
    funext k
    simp only[kZ]
    cases h:p k with
    |none=>rfl
    |some o=>exact absurd (hp0 k (by rw[h];simp)) (by simp)
   have quietX: ∀Rx,fpE P Γ (md i) x.op (ev GL s.fr) s.hp (s.nx+i)=.at_ Rx []→agL Rx rx.2.1 ry.2.1→∃t1 t2,(aK (eff P Γ y.op (ev GL s.fr) (md j) s.nx ops.size s.hp (s.nx+j) s.cx) fun r=>some ({fr:=fA y.dst r.1 s.fr,hp:=r.2.1,nx:=s.nx,cx:=r.2.2}:S))=some t1∧
      (aK (gdO ops t1.fr x) fun b=>match b with
       |true=>aK (eff P Γ x.op (ev GL t1.fr) (md i) t1.nx ops.size t1.hp (t1.nx+i) t1.cx) fun r=>some ({fr:=fA x.dst r.1 t1.fr,hp:=r.2.1,nx:=t1.nx,cx:=r.2.2}:S)
       |false=>some {t1 with fr:=fA x.dst (.tup []) t1.fr})=some t2∧
      gC {fr:=fA y.dst ry.1 (fA x.dst rx.1 s.fr),hp:=ry.2.1,nx:=s.nx,cx:=ry.2.2} t2∧
      fpQ (fpE P Γ (md j) y.op (ev GL s.fr) s.hp (s.nx+j)) s.hp t1.hp=fpQ (fpE P Γ (md j) y.op (ev GL s.fr) rx.2.1 (s.nx+j)) rx.2.1 ry.2.1∧
      (match gdO ops t1.fr x with|some true=>fpQ (fpE P Γ (md i) x.op (ev GL t1.fr) t1.hp (t1.nx+i)) t1.hp t2.hp|_=> .at_ [] [])=.at_ Rx []:=by
    intro Rx hfx hag
    obtain⟨p,p1,p2,p3,p4⟩:=aAf (hfn s.fr) hrx hfx
    rw[none_of p1]at p2
    rw[p2]at hag
    rw[p2,p3]at hry
    obtain⟨x1,x2⟩:=p4 ry.2.1 (fun k hk=>hk.elim (hag k) (fun h=>by simp at h))
    rw[hry,aX]
    refine⟨_,{fr:=fA x.dst rx.1 (fA y.dst ry.1 s.fr),hp:=ry.2.1,nx:=s.nx,cx:=ry.2.2},rfl,?_,⟨fun t=>jV a2 _ _ _ t,rfl,rfl,rfl⟩,by rw[p2],?_⟩
    ·simp only[]
     rw[jT a3,hbx,aX]
     simp only[]
     rw[kI _ _ _ _ _ _ (kO a3),x1 ry.2.2,aX,none_of p1]
    ·simp only[]
     rw[jT a3,hbx]
     simp only[]
     rw[mZ _ _ _ (kO a3),x2]
     rfl
   have quietY: ∀Ry,fpE P Γ (md j) y.op (ev GL s.fr) rx.2.1 (s.nx+j)=.at_ Ry []→agL Ry s.hp rx.2.1→∃t1 t2,(aK (eff P Γ y.op (ev GL s.fr) (md j) s.nx ops.size s.hp (s.nx+j) s.cx) fun r=>some ({fr:=fA y.dst r.1 s.fr,hp:=r.2.1,nx:=s.nx,cx:=r.2.2}:S))=some t1∧
      (aK (gdO ops t1.fr x) fun b=>match b with
       |true=>aK (eff P Γ x.op (ev GL t1.fr) (md i) t1.nx ops.size t1.hp (t1.nx+i) t1.cx) fun r=>some ({fr:=fA x.dst r.1 t1.fr,hp:=r.2.1,nx:=t1.nx,cx:=r.2.2}:S)
       |false=>some {t1 with fr:=fA x.dst (.tup []) t1.fr})=some t2∧
      gC {fr:=fA y.dst ry.1 (fA x.dst rx.1 s.fr),hp:=ry.2.1,nx:=s.nx,cx:=ry.2.2} t2∧
      fpE P Γ (md j) y.op (ev GL s.fr) s.hp (s.nx+j)=.at_ Ry []∧
      (match gdO ops t1.fr x with|some true=>fpQ (fpE P Γ (md i) x.op (ev GL t1.fr) t1.hp (t1.nx+i)) t1.hp t2.hp|_=> .at_ [] [])=fpQ (fpE P Γ (md i) x.op (ev GL s.fr) s.hp (s.nx+i)) s.hp rx.2.1:=by
    intro Ry hfy hag
    obtain⟨q,q1,q2,q3,q4⟩:=aAf (hfn s.fr) hry hfy
    rw[none_of q1]at q2
    obtain⟨y1,y2⟩:=q4 s.hp (fun k hk=>hk.elim (fun h=>(hag k h).symm) (fun h=>by simp at h))
    rw[none_of q1]at y1
    rw[y1 s.cx,aX]
    refine⟨_,{fr:=fA x.dst rx.1 (fA y.dst ry.1 s.fr),hp:=rx.2.1,nx:=s.nx,cx:=rx.2.2},rfl,?_,⟨fun t=>jV a2 _ _ _ t,q2,rfl,q3⟩,y2,?_⟩
    ·simp only[]
     rw[jT a3,hbx,aX]
     simp only[]
     rw[kI _ _ _ _ _ _ (kO a3),hrx,aX]
    ·simp only[]
     rw[jT a3,hbx]
     simp only[]
     rw[mZ _ _ _ (kO a3)]
   rw[jT a1,hby,hbx]
   simp only[]
   rw[mZ _ _ _ (kO a1)]
   cases hfx:fpE P Γ (md i) x.op (ev GL s.fr) s.hp (s.nx+i)with
   |cal a b=>exact absurd hfx dDf
   |all=>
    cases hfy:fpE P Γ (md j) y.op (ev GL s.fr) rx.2.1 (s.nx+j)with
    |cal a b=>exact absurd hfy dDf
    |all=>rw[hfx,hfy]at hd;exact hd.elim
    |at_ Ry Wy=>
     rw[hfx,hfy]at hd
     obtain⟨rfl,hag⟩:=hd
     obtain⟨t1,t2,c1,c2,c3,c4,c5⟩:=quietY Ry hfy hag
     exact⟨t1,t2,c1,c2,c3,by rw[c4];rfl,c5.trans (by rw[hfx])⟩
   |at_ Rx Wx=>
    cases hfy:fpE P Γ (md j) y.op (ev GL s.fr) rx.2.1 (s.nx+j)with
    |cal a b=>exact absurd hfy dDf
    |all=>
     rw[hfx,hfy]at hd
     obtain⟨rfl,hag⟩:=hd
     obtain⟨t1,t2,c1,c2,c3,c4,c5⟩:=quietX Rx hfx hag
     exact⟨t1,t2,c1,c2,c3,c4.trans (by rw[hfy]),c5⟩
    |at_ Ry Wy=>
     rw[hfx,hfy]at hd
     obtain⟨d1,d1',d2⟩:=hd
     obtain⟨p,p1,p2,p3,p4⟩:=aAf (hfn s.fr) hrx hfx
     obtain⟨q,q1,q2,q3,q4⟩:=aAf (hfn s.fr) hry hfy
     have hsame: ∀k,k∈Ry∨k∈Wy→s.hp k=rx.2.1 k:=by
      intro k hk
      rw[p2]
      simp only[kZ]
      cases hp:p k with
      |none=>rfl
      |some o=>
       have h5:=p1 k (by rw[hp];simp)
       rcases hk with hk|hk
       ·exact absurd rfl (d1 k h5 k hk)
       ·exact absurd rfl (d1' k h5 k hk)
     obtain⟨y1,y2⟩:=q4 s.hp hsame
     have hsame2: ∀k,k∈Rx∨k∈Wx→kZ q s.hp k=s.hp k:=by
      intro k hk
      simp only[kZ]
      cases hq:q k with
      |none=>rfl
      |some o=>
       have h5:=q1 k (by rw[hq];simp)
       rcases hk with hk|hk
       ·exact absurd rfl (d2 k hk k h5)
       ·exact absurd rfl (d1' k hk k h5)
     obtain⟨x1,x2⟩:=p4 (kZ q s.hp) hsame2
     have hcomm:kZ q (kZ p s.hp)=kZ p (kZ q s.hp):=bEt _ _ _ (fun k hk=>by
      have h5:=q1 k hk
      cases hp:p k with
      |none=>rfl
      |some o=>exact absurd rfl (d1' k (p1 k (by rw[hp];simp)) k h5))
     refine⟨{fr:=fA y.dst ry.1 s.fr,hp:=kZ q s.hp,nx:=s.nx,cx:=s.cx},{fr:=fA x.dst rx.1 (fA y.dst ry.1 s.fr),hp:=kZ p (kZ q s.hp),nx:=s.nx,cx:=s.cx},?_,?_,?_,?_,?_⟩
     ·rw[y1 s.cx,aX]
     ·simp only[]
      rw[jT a3,hbx,aX]
      simp only[]
      rw[kI _ _ _ _ _ _ (kO a3),x1 s.cx,aX]
     ·exact⟨fun t=>jV a2 _ _ _ t,by simp only[];rw[q2,p2,hcomm],rfl,by simp only[];rw[q3,p3]⟩
     ·rw[y2];rfl
     ·simp only[]
      rw[jT a3,hbx]
      simp only[]
      rw[mZ _ _ _ (kO a3),x2]
      rfl
end
end Go.AX

namespace Go.AX
open Go Go.Proofs
section
variable {P : Program} {Γ : Env} {c : Ctx} {σ0 : Nat → Loc} {I0 : Nat → Prop} {w0 : World} {GL : Nat → Option (List AV)} {md : Nat → Nat} {ops : Array Oper}
def aQn (P:Program) (Γ:Env) (GL:Nat→Option (List AV)) (md:Nat→Nat) (ops:Array Oper):List (Nat×FP)→S→S→Prop
 |[],s,sf=>s=sf
 |a::r,s,sf=> ∃o s1,ops[a.1]? =some o∧kA P Γ GL md ops a.1 o s=some s1∧fpS P Γ GL md ops a.1 o s s1.hp=a.2∧aQn P Γ GL md ops r s1 sf
theorem aQm: ∀(L:List (Nat×FP)) {s t sf:S},aQn P Γ GL md ops L s sf→gC s t→∃tf,aQn P Γ GL md ops L t tf∧gC sf tf
 |[],s,t,sf,h,he=>by obtain rfl:=h;exact⟨t,rfl,he⟩
 |a::r,s,t,sf,h,he=>by
  obtain⟨o,s1,h1,h2,h3,h4⟩:=h
  obtain⟨t1,e1,e2⟩:=aFn h2 he
  obtain⟨tf,e3,e4⟩:=aQm r h4 e2
  exact⟨tf,⟨o,t1,h1,e1,by rw[←cAa he,←e2.2.1];exact h3,e3⟩,e4⟩
theorem aOq {i:Nat} {x:Oper} {f:FP} (hx:ops[i]? =some x): ∀(L1 L2:List (Nat×FP)) {s sf:S},
  (∀a∈L1,a.1≠i∧∃y,ops[a.1]? =some y∧y.apart ops x=true∧rL a.2 f)→
  aQn P Γ GL md ops (L1++(i,f)::L2) s sf→∃s1 sf',kA P Γ GL md ops i x s=some s1∧fpS P Γ GL md ops i x s s1.hp=f∧aQn P Γ GL md ops (L1++L2) s1 sf'∧gC sf sf'
 |[],L2,s,sf,_,h=>by
  obtain⟨o,s1,h1,h2,h3,h4⟩:=h
  rw[hx]at h1
  obtain rfl:=J0 h1
  exact⟨s1,sf,h2,h3,h4,gC.refl _⟩
 |a::r,L2,s,sf,hl,h=>by
  obtain⟨hji,y,hy,hap,hc⟩:=hl a (by simp)
  obtain⟨o,sj,h1,h2,h3,h4⟩:=h
  rw[hy]at h1
  obtain rfl:=J0 h1
  obtain⟨s2,sf2,e1,e1',e2,e3⟩:=aOq hx r L2 (fun k hk=>hl k (by simp[hk])) h4
  obtain⟨t1,t2,c1,c2,c3,c4,c5⟩:=aQv hap hji h2 e1 (by rw[h3,e1'];exact hc)
  obtain⟨sf3,g1,g2⟩:=aQm (r++L2) e2 c3
  exact⟨t1,sf3,c1,c4.trans e1',⟨y,t2,hy,c2,c5.trans h3,g1⟩,e3.trans g2⟩
def cWi (ops:Array Oper) (a b:Nat×FP):Prop:=
 ((Region.before ops).getD b.1 0).testBit a.1=true∨∃x y,ops[a.1]? =some x∧ops[b.1]? =some y∧x.apart ops y=true∧rL a.2 b.2
theorem aJx (hΓ:eJ P c.GL Γ) {Q:Exit→Act→World→Prop} (hdst:fK c.nt ops.toList=true)
  (hedge: ∀j y,ops[j]? =some y→∀e∈y.after,Region.binds .any e=true→e.on<j) {s':S}
  (hQ: ∀a' w',R c σ0 I0 w0 (fun _=>False) s' a' w'→Q .normal a' w'):
  ∀(fuel:Nat) (listed:Array Bool) (L:List (Nat×FP)) (s sf:S) (a:Act) (w:World),listed.size=ops.size→L.length≤fuel→L.map Prod.fst=unl ops.size listed→
   (∀m o,listed.getD m false=true→ops[m]? =some o→∀e∈o.after,Region.binds .any e=true→listed.getD e.on false=true)→L.Pairwise (cWi ops)→
   aQn P Γ c.GL md ops L s sf→gC s' sf→R c σ0 I0 w0 (fun k=>k∈unl ops.size listed) s a w→wpAny P .any ops Q fuel listed a w:=by
 have mem_unl: ∀(listed:Array Bool) i,i∈unl ops.size listed↔i<ops.size∧listed.getD i true=false:=by
  intro listed i;simp[unl]
 have done: ∀(listed:Array Bool) (L:List (Nat×FP)) (s sf:S) (a:Act) (w:World),L.map Prod.fst=unl ops.size listed→unl ops.size listed=[]→aQn P Γ c.GL md ops L s sf→gC s' sf→R c σ0 I0 w0 (fun k=>k∈unl ops.size listed) s a w→Q .normal a w:=by
  intro listed L s sf a w hL h0 hrun heq hR
  rw[h0]at hL hR
  have:L=[]:=List.map_eq_nil_iff.1 hL
  subst this
  obtain rfl:=hrun
  exact hQ _ _ ((hR.un fun k hk=>hk.elim).eqv heq.symm)
 have noready: ∀(listed:Array Bool),listed.size=ops.size→(Region.ready .any ops listed=[]↔unl ops.size listed=[]):=by
  intro listed hsz
  constructor
  ·intro hr
   refine List.eq_nil_iff_forall_not_mem.2 fun i=>?_
   induction i using Nat.strongRecOn with
   |_ i ih=>
    intro hi
    obtain⟨hlt,hun⟩:=(mem_unl listed i).1 hi
    have:i∈Region.ready .any ops listed:=by
     rw[mem_ready]
     refine⟨hun,ops[i],Array.getElem?_eq_getElem hlt,fun e he hb=>?_⟩
     have hlt':=hedge i _ (Array.getElem?_eq_getElem hlt) e he hb
     have hn:=ih e.on hlt'
     rw[mem_unl]at hn
     have hs2:e.on<listed.size:=by omega
     rw[Array.getD_eq_getD_getElem?,Array.getElem?_eq_getElem hs2]at hn⊢
     simp only[Option.getD_some]at hn⊢
     cases hv:listed[e.on]with
     |true=>rfl
     |false=>exact absurd ⟨by omega,hv⟩ hn
    rw[hr]at this;cases this
  ·intro h0
   refine List.eq_nil_iff_forall_not_mem.2 fun i hi=>?_
   rw[mem_ready]at hi
   obtain⟨h1,o,ho,_⟩:=hi
   have:i∈unl ops.size listed:=(mem_unl listed i).2 ⟨(Array.getElem?_eq_some_iff.1 ho).1,h1⟩
   rw[h0]at this;cases this
 intro fuel
 induction fuel with
 |zero=>
  intro listed L s sf a w hsz hlen hL hdc hpw hrun heq hR
  have hL0:L=[]:=List.eq_nil_of_length_eq_zero (by omega)
  have h0:unl ops.size listed=[]:=by rw[←hL,hL0];rfl
  exact⟨(noready listed hsz).2 h0,done listed L s sf a w hL h0 hrun heq hR⟩
 |succ fuel ih=>
  intro listed L s sf a w hsz hlen hL hdc hpw hrun heq hR
  refine⟨fun hr=>done listed L s sf a w hL ((noready listed hsz).1 hr) hrun heq hR,fun i hi=>?_⟩
  obtain⟨hun,x,hx,hall⟩:=mem_ready.1 hi
  have hlt:=(Array.getElem?_eq_some_iff.1 hx).1
  have hmem:i∈unl ops.size listed:=(mem_unl listed i).2 ⟨hlt,hun⟩
  have hanc: ∀m j,Anc ops m j→(∀o,ops[m]? =some o→∀e∈o.after,Region.binds .any e=true→listed.getD e.on false=true)→listed.getD j false=true:=by
   intro m j ha
   induction ha with
   |edge ho he hb=>exact fun h=>h _ ho _ he hb
   |step ho he hb _ ih2=>exact fun h=>ih2 fun o ho' e' he' hb'=>hdc _ o (h _ ho _ he hb) ho' e' he' hb'
  have hmemL:i∈L.map Prod.fst:=by rw[hL];exact hmem
  obtain⟨⟨i',f⟩,hf,rfl⟩:=List.mem_map.1 hmemL
  obtain⟨L1,L2,hl⟩:=List.append_of_mem hf
  subst hl
  have hpu:(unl ops.size listed).Pairwise (· < ·):=List.Pairwise.filter _ List.pairwise_lt_range
  rw[←hL,List.map_append,List.map_cons]at hpu
  simp only at hpu
  have hlt1: ∀j∈L1.map Prod.fst,j<i':=fun j hj=>(List.pairwise_append.1 hpu).2.2 j hj i' (by simp)
  have hlt2: ∀j∈L2.map Prod.fst,i'<j:=fun j hj=>(List.pairwise_cons.1 (List.pairwise_append.1 hpu).2.1).1 j hj
  obtain⟨s1,sf1,f1,f1',f2,f3⟩:=aOq hx L1 L2 (fun a0 ha0=>by
   have hjm:a0.1∈unl ops.size listed:=by rw[←hL];simp only[List.map_append,List.mem_append];exact .inl (List.mem_map_of_mem ha0)
   obtain⟨hjlt,hjun⟩:=(mem_unl listed a0.1).1 hjm
   have hj1:=hlt1 a0.1 (List.mem_map_of_mem ha0)
   refine⟨by omega,?_⟩
   rcases(List.pairwise_append.1 hpw).2.2 a0 ha0 (i',f) (by simp)with h|⟨y,x',hy,hx',hap,hap1⟩
   ·have:=hanc i' a0.1 (oR ops i' a0.1 h) (fun o ho e he hb=>by rw[hx]at ho;obtain rfl:=J0 ho;exact hall e he hb)
    have hs2:a0.1<listed.size:=by omega
    rw[Array.getD_eq_getD_getElem?,Array.getElem?_eq_getElem hs2]at hjun this
    simp only[Option.getD_some]at hjun this
    rw[hjun]at this;cases this
   ·rw[hx]at hx'
    obtain rfl:=J0 hx'
    exact⟨y,hy,hap,hap1⟩) hrun
  have hnew:unl ops.size (listed.setIfInBounds i' true)=(L1++L2).map Prod.fst:=by
   have e1:unl ops.size (listed.setIfInBounds i' true)=(unl ops.size listed).filter (fun k=>k !=i'):=by
    unfold unl
    rw[List.filter_filter]
    refine List.filter_congr fun k hk=>?_
    by_cases hki:k=i'
    ·subst hki
     rw[Array.getD_eq_getD_getElem?,Array.getElem?_setIfInBounds_self_of_lt (by omega)];simp
    ·rw[getD_set_ne true (Ne.symm hki)]
     simp[hki]
   rw[e1,←hL,List.map_append,List.map_append,List.filter_append,List.map_cons,List.filter_cons]
   simp only[bne_self_eq_false,Bool.false_eq_true,if_false]
   congr 1
   ·exact List.filter_eq_self.2 fun k hk=>by have:=hlt1 k hk;simp;omega
   ·exact List.filter_eq_self.2 fun k hk=>by have:=hlt2 k hk;simp;omega
  have hun2: ∀k,k∈unl ops.size (listed.setIfInBounds i' true)→k∈unl ops.size listed∧k≠i':=by
   intro k hk
   rw[hnew,List.map_append,List.mem_append]at hk
   rw[←hL,List.map_append,List.map_cons,List.mem_append,List.mem_cons]
   rcases hk with hk|hk
   ·exact⟨.inl hk,by have:=hlt1 k hk;omega⟩
   ·exact⟨.inr (.inr hk),by have:=hlt2 k hk;omega⟩
  have hstep:=fX (K:=wpAny P .any ops Q fuel (listed.setIfInBounds i' true)) (Q:=Q) (ops:=ops) hΓ f1 (lU hdst (Array.mem_toList_iff.2 (Array.mem_of_getElem? hx))) (rem:=fun k=>k∈unl ops.size listed) hmem hR (fun a' w' hR'=>
   ih (listed.setIfInBounds i' true) (L1++L2) s1 sf1 a' w' (by simpa using hsz) (by simp at hlen⊢;omega) hnew.symm (fun m o hm ho e he hb=>by
     by_cases hmi:m=i'
     ·subst hmi
      rw[hx]at ho;obtain rfl:=J0 ho
      exact getD_set_true (hall e he hb)
     ·rw[getD_set_ne false (Ne.symm hmi)]at hm
      exact getD_set_true (hdc m o hm ho e he hb))
    (by
     rw[List.pairwise_append]at hpw⊢
     exact⟨hpw.1,(List.pairwise_cons.1 hpw.2.1).2,fun a ha b hb=>hpw.2.2 a ha b (by simp[hb])⟩)
    f2 (heq.trans f3) (hR'.un fun k hk=>hun2 k hk))
  unfold wpOp
  simp only[hx]
  split
  ·rename_i hw;rw[J4 hw]at hstep;exact .inl hstep
  ·rename_i hw;rw[J3 hw]at hstep;exact hstep
def fpP (P:Program) (Γ:Env) (GL:Nat→Option (List AV)) (m k:Nat) (o:LOp) (s:S) (hp':H):FP:=
 match gdS s.fr o.g with
 |some true=>fpQ (fpE P Γ m o.op (ev GL s.fr) s.hp (s.nx+k)) s.hp hp'
 |_=> .at_ [] []
def bEz (b:Bool) (k:Nat) (f:FP) (acc:List (Nat×FP)):List (Nat×FP):=if b=true then(k,f)::acc else acc
def aBs (P:Program) (Γ:Env) (GL:Nat→Option (List AV)) (md:Nat→Nat) (n:Nat) (hv:Nat→Bool):Nat→List LOp→List (Nat×FP)→S→Option (S×List (Nat×FP))
 |_,[],acc,s=>some (s,acc)
 |k,o::r,acc,s=>aK (rO P Γ GL (md k) n k o s) fun s'=>aBs P Γ GL md n hv (k+1) r (bEz (hv k) k (fpP P Γ GL (md k) k o s s'.hp) acc) s'
def pC:List (Nat×FP)→Nat→FP
 |[],_=> .all
 |a::r,i=>if i=a.1 then a.2 else pC r i
def aDr:List (Nat×Nat)→List (Nat×FP)→Prop
 |[],_=>True
 |p::r,acc=>rL (pC acc p.1) (pC acc p.2)∧aDr r acc
theorem aHt {acc:List (Nat×FP)}: ∀ {prs:List (Nat×Nat)},aDr prs acc→∀p∈prs,rL (pC acc p.1) (pC acc p.2)
 |q::r,h,p,hp=>by
  rcases List.mem_cons.1 hp with rfl|hp
  ·exact h.1
  exact aHt h.2 p hp
theorem cZp (P:Program) (Γ:Env) (GL:Nat→Option (List AV)) (md:Nat→Nat) (ops:Array Oper) (k:Nat) (o:Oper) (s:S) (hp':H):fpS P Γ GL md ops k o s hp'=fpP P Γ GL (md k) k (aG ops o) s hp':=by
 have:gdO ops s.fr o=gdS s.fr (aG ops o).g:=by
  unfold gdO aG
  cases o.guard with
  |none=>rfl
  |some p=>
   obtain⟨j,want⟩:=p
   simp only[Option.map_some]
   cases ops[j]? with
   |none=>rfl
   |some y=>
    simp only[Option.bind_some]
    cases y.dst with
    |none=>rfl
    |some t=>rfl
 unfold fpS fpP
 rw[this]
 rfl
theorem aBr {hv:Nat→Bool}: ∀(l:List Oper) (k:Nat) (acc:List (Nat×FP)) {s sf:S} {acc':List (Nat×FP)},(∀m,l[m]? =if m<l.length then ops[k+m]? else none)→
  aBs P Γ GL md ops.size hv k (l.map (aG ops)) acc s=some (sf,acc')→
  ∃L,L.map Prod.fst=List.range' k l.length∧aQn P Γ GL md ops L s sf∧(∀a∈L,hv a.1=true→pC acc' a.1=a.2)∧(∀a∈L,∃o s hp',ops[a.1]? =some o∧fpS P Γ GL md ops a.1 o s hp'=a.2)∧∀i,i<k→pC acc' i=pC acc i
 |[],k,acc,s,sf,acc',_,h=>by
  simp only[List.map_nil,aBs,Option.some.injEq,Prod.mk.injEq]at h
  obtain⟨rfl,rfl⟩:=h
  exact⟨[],rfl,rfl,fun _ h=>absurd h (by simp),fun _ h=>absurd h (by simp),fun _ _=>rfl⟩
 |o::r,k,acc,s,sf,acc',hl,h=>by
  simp only[List.map_cons,aBs]at h
  replace h:=aJ h;obtain⟨s1,h1,h⟩:=h
  have h0:ops[k]? =some o:=by have:=(hl 0).symm;simpa using this
  obtain⟨L,e1,e2,e3,e3',e4⟩:=aBr r (k+1) _ (fun m=>by have:=hl (m+1);simpa [Nat.add_assoc,Nat.add_comm 1 m]using this) h
  refine⟨(k,fpS P Γ GL md ops k o s s1.hp)::L,by simp[e1,List.range'_succ],⟨o,s1,h0,by rw[vJ];exact h1,rfl,e2⟩,fun a ha hh=>?_,fun a ha=>?_,fun i hi=>?_⟩
  ·rcases List.mem_cons.1 ha with rfl|ha
   ·have:=e4 k (by omega)
    rw[this]
    simp only at hh
    rw[hh,bEz,J4 rfl,pC,J4 rfl,cZp]
   ·exact e3 a ha hh
  ·rcases List.mem_cons.1 ha with rfl|ha
   ·exact⟨o,s,s1.hp,h0,rfl⟩
   ·exact e3' a ha
  ·rw[e4 i (by omega)]
   unfold bEz
   split
   ·rw[pC,J3 (by omega)]
   ·rfl
def aWc (P:Program) (Γ:Env) (md:Nat→Nat) (hv:Nat→Bool) (prs:List (Nat×Nat)) (ops:Array Oper):Bool:=
 let b:=Region.before ops
 (List.range ops.size).all fun j=>match ops[j]? with
  |none=>true
  |some y=>y.after.all (fun e=> !Region.binds .any e||decide (e.on<j))&&
   let bj:=b.getD j 0
   (List.range j).all fun i=>bj.testBit i||match ops[i]? with
    |none=>true
    |some x=>x.apart ops y&&(decide (tI P Γ (md i) x.op=.P)||decide (tI P Γ (md j) y.op=.P)||(hv i&&hv j&&prs.contains (i,j)))
theorem cFz {k:Nat} {o:Oper} {s:S} {hp':H} (h:tI P Γ (md k) o.op=.P):fpS P Γ GL md ops k o s hp'=.at_ [] []:=by
 unfold fpS
 split
 ·unfold fpE;rw[J4 h];rfl
 rfl
theorem bRr (f:FP):rL (.at_ [] []) f:=by
 cases f with
 |all=>exact⟨rfl,rfl⟩
 |cal a b=>exact⟨rfl,fun _ h=>by simp at h⟩
 |at_ R W=>exact⟨fun _ h=>by simp at h,fun _ h=>by simp at h,fun _ h=>by simp at h⟩
theorem bRq (f:FP):rL f (.at_ [] []):=by
 cases f with
 |all=>exact⟨rfl,rfl⟩
 |cal a b=>exact⟨rfl,fun _ h=>by simp at h⟩
 |at_ R W=>exact⟨fun _ _ _ h=>by simp at h,fun _ _ _ h=>by simp at h,fun _ _ _ h=>by simp at h⟩
theorem aPc (hm:P.follows .mixedOrders=true) (hΓ:eJ P c.GL Γ) {hv:Nat→Bool} {prs:List (Nat×Nat)} {id:Nat} {Q:Exit→Act→World→Prop} (hdst:fK c.nt ops.toList=true) (hok:aWc P Γ md hv prs ops=true) {s s':S} {acc:List (Nat×FP)} {a:Act} {w:World}
  (h:aBs P Γ c.GL md ops.size hv 0 (ops.toList.map (aG ops)) [] (cX ops.size s)=some (s',acc)) (hp:aDr prs acc) (hR:R c σ0 I0 w0 (fun _=>False) s a w) (hQ: ∀a' w',R c σ0 I0 w0 (fun _=>False) s' a' w'→Q .normal a' w'):
  (Code.region id ops true).wp P Q a w:=by
 have h0:unl ops.size (Array.replicate ops.size false)=List.range ops.size:=by
  unfold unl
  refine List.filter_eq_self.2 fun k hk=>?_
  rw[List.mem_range]at hk
  rw[Array.getD_eq_getD_getElem?,Array.getElem?_replicate,J4 hk];rfl
 have hchk: ∀j y,ops[j]? =some y→(∀e∈y.after,Region.binds .any e=true→e.on<j)∧∀i x,i<j→ops[i]? =some x→((Region.before ops).getD j 0).testBit i=true∨(x.apart ops y=true∧(tI P Γ (md i) x.op=.P∨tI P Γ (md j) y.op=.P∨(hv i=true∧hv j=true∧(i,j)∈prs))):=by
  intro j y hy
  have hlt:=(Array.getElem?_eq_some_iff.1 hy).1
  have h:=List.all_eq_true.1 hok j (List.mem_range.2 hlt)
  simp only[hy,Bool.and_eq_true]at h
  refine⟨fun e he hb=>?_,fun i x hi hx=>?_⟩
  ·have:=Array.all_eq_true_iff_forall_mem.1 h.1 e he
   simpa [hb]using this
  ·have:=List.all_eq_true.1 h.2 i (List.mem_range.2 hi)
   simp only[hx,Bool.or_eq_true,Bool.and_eq_true,decide_eq_true_eq]at this
   rcases this with h|⟨h1,(h2|h2)|⟨⟨h2,h3⟩,h4⟩⟩
   ·exact .inl h
   ·exact .inr ⟨h1,.inl h2⟩
   ·exact .inr ⟨h1,.inr (.inl h2)⟩
   ·exact .inr ⟨h1,.inr (.inr ⟨h2,h3,List.contains_iff_mem.1 h4⟩)⟩
 obtain⟨L,e1,e2,e3,e3',_⟩:=aBr ops.toList 0 [] (fun m=>by
  rw[Nat.zero_add]
  split
  ·rw[Array.getElem?_toList]
  ·rename_i hh;rw[List.getElem?_eq_none (by omega)]) h
 rw[Array.length_toList,←List.range_eq_range']at e1
 have hpw:L.Pairwise (cWi ops):=by
  have hlt:L.Pairwise fun a b=>a.1<b.1:=by
   have:(L.map Prod.fst).Pairwise (· < ·):=by rw[e1];exact List.pairwise_lt_range
   exact List.pairwise_map.1 this
  refine hlt.imp_of_mem fun {a b} ha hb hab=>?_
  obtain⟨x,sa,ha',hx,fx⟩:=e3' a ha
  obtain⟨y,sb,hb',hy,fy⟩:=e3' b hb
  rcases(hchk b.1 y hy).2 a.1 x hab hx with h|⟨hap,h|h|⟨h1,h2,h3⟩⟩
  ·exact .inl h
  ·refine .inr ⟨x,y,hx,hy,hap,?_⟩
   rw[←fx,cFz h];exact bRr _
  ·refine .inr ⟨x,y,hx,hy,hap,?_⟩
   rw[←fy,cFz h];exact bRq _
  ·refine .inr ⟨x,y,hx,hy,hap,?_⟩
   have:=aHt hp _ h3
   rw[e3 a ha h1,e3 b hb h2]at this
   exact this
 have hlen:L.length=ops.size:=by have:=congrArg List.length e1;simpa using this
 refine wp_region_any hm (aJx hΓ hdst (fun j y hy=>(hchk j y hy).1) hQ ops.size _ L (cX ops.size s) s' a _ (by simp) (by omega) (by rw[e1,h0]) (fun m o hl=>?_) hpw e2 (gC.refl _) ?_)
 ·rw[Array.getD_eq_getD_getElem?,Array.getElem?_replicate]at hl;split at hl<;>cases hl
 ·exact((hR.enter ops.size).un fun k hk=>by rw[h0]at hk;exact List.mem_range.1 hk).world rfl rfl rfl rfl
end
def bGm (o:Option (S×List (Nat×FP))) (Q:S→List (Nat×FP)→Prop):Prop:=match o with|some t=>Q t.1 t.2|none=>False
theorem aYa {P:Program} {GL:Nat→Option (List AV)} {nt:Nat} {Q:Exit→S→Prop} {s:S} {code:Code} {Γ:Env} (hv:Nat→Bool) (prs:List (Nat×Nat)) (md:Nat→Nat) (ks:List Nat) (hm:P.follows .mixedOrders=true) (hΓ:eJ P GL Γ) (hc:rS code=true) (hd:lZ code=true) (ho:fK nt (aM code).toList=true) (hk:aWc P Γ md hv prs (aM code)=true)
  (h: ∀K:S→Prop,(∀t,Q .normal t→K t)→bGm (aBs P Γ GL md (rN code) hv 0 (aF code) [] (cX (rN code) s)) fun t acc=>aDr prs acc∧K {t with fr:=gL ks t.fr}):Awp P GL nt code s Q:=by
 have h':=h (Q .normal) fun _ h=>h
 clear h
 refine sX ?_
 cases code<;>first|(cases hc;done)|skip
 rename_i id ops d
 simp only[lZ]at hd
 subst hd
 intro c h1 h2 σ0 I0 w0 a w hR
 subst h1;subst h2
 simp only[aM,aF,rN]at ho hk h'
 unfold bGm at h'
 split at h'
 ·rename_i t e
  obtain⟨t,acc⟩:=t
  obtain⟨hp,hq⟩:=h'
  exact aPc hm hΓ ho hk e hp hR fun a' w' hR'=>⟨t,⟨_,hq,dWs ks t,rfl⟩,hR'⟩
 ·exact h'.elim
theorem bHi (P Γ GL md n hv k acc s):aBs P Γ GL md n hv k [] acc s=some (s,acc):=(rfl)
theorem aZk (P Γ GL md n hv k o r acc s):aBs P Γ GL md n hv k (o::r) acc s=aK (rO P Γ GL (md k) n k o s) fun s2=>aBs P Γ GL md n hv (k+1) r (bEz (hv k) k (fpP P Γ GL (md k) k o s s2.hp) acc) s2:=(rfl)
theorem cRy (k:Nat) (f:FP) (acc:List (Nat×FP)):bEz false k f acc=acc:=(rfl)
theorem cRx (k:Nat) (f:FP) (acc:List (Nat×FP)):bEz true k f acc=(k,f)::acc:=(rfl)
theorem aQy (t:S) (acc:List (Nat×FP)) (Q:S→List (Nat×FP)→Prop):bGm (some (t,acc)) Q=Q t acc:=(rfl)
@[congr] theorem cIe {P : Program} {Γ : Env} {GL : Nat → Option (List AV)} {md : Nat → Nat} {n k k' : Nat} {hv : Nat → Bool} {l : List LOp} {acc acc' : List (Nat × FP)} {s s' : S} (hk : k = k') (ha : acc = acc') (h : s = s') : aBs P Γ GL md n hv k l acc s = aBs P Γ GL md n hv k' l acc' s' := by rw [h, hk, ha]
def fpG (b:Option Bool) (f:FP):FP:=match b with|some true=>f|_=> .at_ [] []
theorem cZr (f:FP):fpG (some true) f=f:=(rfl)
theorem cOv (P Γ GL m k d op g fr hp nx cx hp'):fpP P Γ GL m k {d:=d,op:=op,g:=g} {fr:=fr,hp:=hp,nx:=nx,cx:=cx} hp'=fpG (gdS fr g) (fpQ (fpE P Γ m op (ev GL fr) hp (nx+k)) hp hp'):=by
 simp only[fpP,fpG]
theorem cZd (fr:List (Nat×AV)):gdS fr none=some true:=(rfl)
theorem bBk (P Γ t x ρ hp id):fpE P Γ 2 (.load t x) ρ hp id=.at_ (fpV (ρ x)) []:=(rfl)
theorem bBm (P Γ m t n ps ρ hp id):fpE P Γ m (.buildSlice t n ps) ρ hp id=.at_ [] [id]:=(rfl)
theorem cOt (i off:Nat):fpV (.op i off)=[i]:=(rfl)
theorem bEx (acc:List (Nat×FP)):aDr [] acc=True:=(rfl)
theorem aUd (i j:Nat) (r:List (Nat×Nat)) (acc:List (Nat×FP)):aDr ((i,j)::r) acc=(rL (pC acc i) (pC acc j)∧aDr r acc):=(rfl)
theorem aSg (k:Nat) (f:FP) (r:List (Nat×FP)) (i:Nat):pC ((k,f)::r) i=if i=k then f else pC r i:=(rfl)
theorem dDm (R W:List Nat) (hp hp':H):fpQ (.at_ R W) hp hp'=.at_ R W:=(rfl)
theorem dDk (hp hp':H):fpQ .all hp hp'=.cal hp hp':=(rfl)
def fpC (m:Nat):Option bFb→FP
 |some (.pure true _)=>if m=1 then .at_ [] []else .all
 |some (.pure false _)=>if m=0 then .all else .at_ [] []
 |_=> .all
theorem dDo (m:Nat) (G):fpC m (some (.heap G))=.all:=(rfl)
theorem dDi (P Γ m f xs ts ρ hp id):fpE P Γ m (.call {callee:=.value (.func f),args:=xs,argTypes:=ts}) ρ hp id=fpC m (Γ f):=by
 have hc:cls P (.call {callee:=.value (.func f),args:=xs,argTypes:=ts})=.call:=rfl
 unfold fpE tI
 rw[hc]
 simp only[]
 cases hG:Γ f with
 |none=>simp[fpC]
 |some g=>
  cases g with
  |pure b G=>
   cases b with
   |true=>
    simp only[fpC]
    by_cases h0:m=0
    ·subst h0;simp
    by_cases h1:m=1
    ·subst h1;simp
    rw[J3 h0,J3 h1,J3 h1];simp
   |false=>
    simp only[fpC]
    by_cases h0:m=0
    ·subst h0;simp
    rw[J3 h0,J3 h0];simp[h0]
  |fresh b G=>
   by_cases h0:m=0
   ·subst h0;simp[fpC]
   simp[fpC,h0]
  |heap G=>simp[fpC]
theorem dDh (R W:List Nat) (hp hp':H):rL (.at_ R W) (.cal hp hp')=(W=[]∧agL R hp hp'):=(rfl)
theorem dDg (R W:List Nat) (hp hp':H):rL (.cal hp hp') (.at_ R W)=(W=[]∧agL R hp hp'):=(rfl)
theorem bEv (R W R' W':List Nat):rL (.at_ R W) (.at_ R' W')=(apL W R'∧apL W W'∧apL R W'):=(rfl)
theorem bRu: ∀(xs:List Nat),apL xs []=True:=fun xs=>by simp[apL]
attribute [go_sem] dDm dDk dDo dDi dDh dDg dDl dDj bHi aZk cRy cRx aQy cZr cOv cZd bBk bBm cOt bEx aUd aSg bEv cEc bRu bRv bRw bEw
end Go.AX

namespace Go.AX
open Go Go.Proofs
set_option maxRecDepth 8000
structure JC where
 d:Nat
 side:Int
 b:List B8
 com:W64
structure JT where
 J:JC
 s:Nat
 m:Nat
 C:DC
structure mE (hp:H) (j:Nat) (t:JT):Prop where
 hj:hp j=some (.cells [.op t.J.d 0,.i t.J.side,.sl t.J.b.length (c8 t.J.b),.w64 t.J.com] true)
 hd:aZo hp t.J.d t.s t.m t.C
 ne:j≠t.J.d∧j≠t.s∧j≠t.m
theorem mE.uniq {hp:H} {j:Nat} {t t':JT} (h:mE hp j t) (h':mE hp j t'):t=t':=by
 have e:=h.hj.symm.trans h'.hj
 simp only[Option.some.injEq,AO.cells.injEq,List.cons.injEq,AV.op.injEq,AV.i.injEq,AV.sl.injEq,AV.w64.injEq]at e
 obtain⟨⟨⟨e1,_⟩,e2,⟨_,e3⟩,e4,_⟩,_⟩:=e
 have e5:=dFw e3
 clear e3
 obtain⟨⟨d1,s1,b1,c1⟩,x1,m1,C1⟩:=t
 obtain⟨⟨d2,s2,b2,c2⟩,x2,m2,C2⟩:=t'
 simp only at e1 e2 e5 e4
 subst e1;subst e2;subst e5;subst e4
 obtain⟨q1,q2,q3⟩:=h.hd.uniq h'.hd
 simp only at q1 q2 q3
 rw[q1,q2,q3]
open Classical in
noncomputable def mJ (hp:H) (j:Nat):Option JT:=if h: ∃t:JT,mE hp j t then some (Classical.choose h)else none
theorem hE {hp:H} {j:Nat} {t:JT} (h:mE hp j t):mJ hp j=some t:=by
 have hx: ∃t:JT,mE hp j t:=⟨t,h⟩
 unfold mJ
 rw[dif_pos hx,(Classical.choose_spec hx).uniq h]
theorem mA {hp:H} {j:Nat} {t:JT} (h:mJ hp j=some t):mE hp j t:=by
 unfold mJ at h
 split at h
 ·rename_i hx
  obtain rfl:=J0 h
  exact Classical.choose_spec hx
 cases h
def cS (j:Nat) (t:JT) (hp:H):H:=bO t.J.d t.s t.m t.C (upd hp j (.cells [.op t.J.d 0,.i t.J.side,.sl t.J.b.length (c8 t.J.b),.w64 t.J.com] true))
theorem dFb (hp:H) (j:Nat) (t:JT) (h1:t.J.d≠t.s) (h2:t.J.d≠t.m) (h3:t.s≠t.m) (h4:j≠t.J.d∧j≠t.s∧j≠t.m):mE (cS j t hp) j t:=
 ⟨by unfold cS;rw[mH _ _ _ _ _ _ h4.1 h4.2.1 h4.2.2,bJ,J4 rfl],dEp h1 h2 h3,h4⟩
theorem dFt {hp:H} {j:Nat} {t:JT} (h:mE hp j t):mB hp t.J.d=some ⟨t.s,t.m,t.C⟩:=mK h.hd
def eH (C:DC):Nat:=(C.rows.length-1)/2
noncomputable def dFy:List AV→H→Nat→Option (AV×H×Nat)
 |[.op j 0],hp,nx=>aK (mJ hp j) fun t=>aN (1≤t.C.rows.length∧t.C.rows.length≤4096) (some (.i (eH t.C),hp,nx+100))
 |_,_,_=>none
theorem dKs (j:Nat) (hp:H) (nx:Nat):dFy [.op j 0] hp nx=aK (mJ hp j) fun t=>aN (1≤t.C.rows.length∧t.C.rows.length≤4096) (some (.i (eH t.C),hp,nx+100)):=(rfl)
attribute [go_sem] dKs
set_option maxHeartbeats 1000000 in
theorem dMi:cQ Try.prog GLh 36 dFy:=by
 refine gF Try.func36 (aT rfl) ?_
 intro args hp nx r hp' nx' hg
 unfold dFy at hg
 split at hg
 ·rename_i j
  replace hg:=aJ hg;obtain⟨⟨⟨d,sd,b,co⟩,s,m,C⟩,hJ,hg⟩:=hg
  replace hg:=aP hg;obtain⟨hn,hg⟩:=hg
  have hJ:=mA hJ
  simp only[Option.some.injEq,Prod.mk.injEq]at hg hJ hn;obtain⟨rfl,rfl,rfl⟩:=hg
  refine⟨J1 rfl,by omega,fun hnone=>?_⟩
  have h1:=hJ.hj;have h2:=dFt hJ
  simp only at h1 h2
  unfold eH
  have e2:((C.rows.length:Int)-1).tdiv 2=(((C.rows.length-1)/2:Nat):Int):=by rw[Int.tdiv_eq_ediv_of_nonneg (by omega)];omega
  refine aA rfl (bA [0] rfl rfl rfl fun K hK=>?_)
  simp(disch:=omega) only[Try.f36,go_sem,↓reduceIte]
  refine hK _ ?_
  refine aB (aA rfl (aC (Γ:=bC [(29,.heap dGz)]) [2] (aH ok8 aO) rfl rfl rfl (fun K hK=>?_)))
  simp(disch:=omega) only[Try.f36,go_sem,↓reduceIte,h1,h2,e2]
  refine hK _ ?_
  refine aB (aS rfl ?_)
  exact⟨rfl,fun j o h=>h,by simp only;omega⟩
 cases hg
theorem dKl:bX Try.prog GLh 36 (.heap dFy):=⟨⟨_,Try.func36,rfl,rfl⟩,dMi⟩
noncomputable def dJm:List AV→H→Nat→Option (AV×H×Nat)
 |[.op j 0],hp,nx=>aK (mJ hp j) fun t=>aK (uK t.C.rows) fun z=>aN ((1≤t.C.rows.length∧t.C.rows.length≤4096)∧0≤z∧z≤4096) (some (.i ((eH t.C:Int)*z),hp,nx+300))
 |_,_,_=>none
theorem dMl (j:Nat) (hp:H) (nx:Nat):dJm [.op j 0] hp nx=aK (mJ hp j) fun t=>aK (uK t.C.rows) fun z=>aN ((1≤t.C.rows.length∧t.C.rows.length≤4096)∧0≤z∧z≤4096) (some (.i ((eH t.C:Int)*z),hp,nx+300)):=(rfl)
attribute [go_sem] dMl
theorem dQd {n:Nat} {z:Int} (hn:n≤4096) (h0:0≤z) (hz:z≤4096):0≤(((n-1)/2:Nat):Int)*z∧(((n-1)/2:Nat):Int)*z≤16777216:=by
 refine⟨Int.mul_nonneg (by omega) h0,?_⟩
 have h1:(((n-1)/2:Nat):Int)≤4096:=by omega
 calc
  (((n-1)/2:Nat):Int)*z≤4096*z:=Int.mul_le_mul_of_nonneg_right h1 h0
  _≤16777216:=by omega
set_option maxHeartbeats 1000000 in
theorem dOu:cQ Try.prog GLh 41 dJm:=by
 refine gF Try.func41 (aT rfl) ?_
 intro args hp nx r hp' nx' hg
 unfold dJm at hg
 split at hg
 ·rename_i j
  replace hg:=aJ hg;obtain⟨⟨⟨d,sd,b,co⟩,s,m,C⟩,hJ,hg⟩:=hg
  replace hg:=aJ hg;obtain⟨z,hz,hg⟩:=hg
  replace hg:=aP hg;obtain⟨⟨hn,hz0,hz1⟩,hg⟩:=hg
  have h3:=hJ
  have hJ:=mA hJ
  simp only[Option.some.injEq,Prod.mk.injEq]at hg hJ hn hz;obtain⟨rfl,rfl,rfl⟩:=hg
  refine⟨J1 rfl,by omega,fun hnone=>?_⟩
  have h1:=hJ.hj;have h2:=dFt hJ
  simp only at h1 h2
  have hm:=dQd hn.2 hz0 hz1
  have hjl:=cA hnone h1
  unfold eH
  refine aA rfl (bA [0] rfl rfl rfl fun K hK=>?_)
  simp(disch:=omega) only[Try.f41,go_sem,↓reduceIte]
  refine hK _ ?_
  refine aB (aA rfl (aYa (Γ:=bC [(36,.heap dFy),(37,.heap dGx)]) (fun k=>if k=1 then true else if k=5 then true else false) [(1,5)] (fun k=>if k=6 then 0 else if k=1 then 0 else 2) [2] mixed (aH dKl (aH ok9 aO)) rfl rfl rfl (by kernel_rfl) (fun K hK=>?_)))
  simp(maxSteps:=400000) (disch:=omega) only[Try.f41,go_sem,and_self,and_true,true_and,↓reduceIte,h1,h2,h3,hn,hz,eH,true_and]
  refine hK _ ?_
  refine aB (aS rfl ?_)
  exact⟨rfl,fun j o h=>h,by simp only;omega⟩
 cases hg
theorem dNa:bX Try.prog GLh 41 (.heap dJm):=⟨⟨_,Try.func41,rfl,rfl⟩,dOu⟩
end Go.AX

namespace Go.AX
open Go Go.Proofs
theorem aIb: ∀ {xs:List AV} {ps:List (List B8)},unP xs=some ps→xs=cP ps
 |[],ps,h=>by obtain rfl:=J0 h;rfl
 |x::r,ps,h=>by
  cases x<;>simp only[unP]at h<;>first|(cases h;done)|skip
  replace h:=aJ h;obtain⟨b,hb,h⟩:=h
  replace h:=aP h;obtain⟨hn,h⟩:=h
  replace h:=aJ h;obtain⟨l,hl,h⟩:=h
  obtain rfl:=J0 h
  rw[iX _ hb,aIb hl,←hn];rfl
attribute [go_sem] fQ aUi aLq bFj aTh aXs aUj bFl kK List.length_append
theorem dUc {P:Program} {GL:Nat→Option (List AV)} {nt:Nat} {code:Code} {Q:Exit→S→Prop} {fr:List (Nat×AV)} {hp:H} {nx cx:Nat} (cx':Nat) (hc:cx≤cx')
  (h:Awp P GL nt code {fr:=fr,hp:=hp,nx:=nx,cx:=cx'} Q):Awp P GL nt code {fr:=fr,hp:=hp,nx:=nx,cx:=cx} Q:=tU h ⟨fun _=> .inr rfl,fun _ _ h=>h,hc⟩ rfl
def dHi:List AV→H→Nat→Option (AV×H×Nat)
 |[.v (.slice none 0 0),.i n],hp,nx=>aN (0≤n∧n≤1000000) (some (.os (nx+1+2+8+2+5) 0 0 1 true,upd hp (nx+1+2+8+2+5) (.cells [] true),nx+1+2+8+2+10+2))
 |_,_,_=>none
theorem dKy (n:Int) (hp:H) (nx:Nat):dHi [.v (.slice none 0 0),.i n] hp nx=aN (0≤n∧n≤1000000) (some (.os (nx+1+2+8+2+5) 0 0 1 true,upd hp (nx+1+2+8+2+5) (.cells [] true),nx+1+2+8+2+10+2)):=(rfl)
attribute [go_sem] dKy bTw
set_option maxHeartbeats 1000000 in
theorem dMo:cQ Try.prog GLh 58 dHi:=by
 refine gF Try.func58 (aT rfl) ?_
 intro args hp nx r hp' nx' hg
 unfold dHi at hg
 split at hg
 ·rename_i n
  replace hg:=aP hg;obtain⟨⟨h0,hbig⟩,hg⟩:=hg
  simp only[Option.some.injEq,Prod.mk.injEq]at hg;obtain⟨rfl,rfl,rfl⟩:=hg
  refine⟨J1 rfl,by omega,fun hnone=>?_⟩
  refine aA rfl (bA [0,1] rfl rfl rfl fun K hK=>?_)
  simp(disch:=omega) only[Try.f58,go_sem,↓reduceIte]
  refine hK _ ?_
  refine aB (aA rfl (aA rfl (bA [6,0,1] rfl rfl rfl fun K hK=>?_)))
  simp(disch:=omega) only[Try.f58,go_sem,↓reduceIte]
  refine hK _ ?_
  refine aB (aW (.tmp 6) rfl rfl rfl (fun h=>?_) (fun h=>?_))
  ·refine aI rfl ?_
   omega
  refine aI rfl ?_
  have e1:n-(0-0)=n:=by omega
  refine aQ rfl (aB (aA rfl (aA rfl (bA [0,1] rfl rfl rfl fun K hK=>?_))))
  simp(disch:=omega) only[Try.f58,go_sem,↓reduceIte,Int.sub_zero]
  refine hK _ ?_
  refine aB (aA rfl (bA [16,0,1] rfl rfl rfl fun K hK=>?_))
  simp(disch:=omega) only[Try.f58,go_sem,↓reduceIte]
  refine hK _ ?_
  refine aB (aW (.tmp 16) rfl rfl rfl (fun h=>?_) (fun h=>?_))
  ·refine aI rfl (bA [0] rfl rfl rfl fun K hK=>?_)
   simp(disch:=omega) only[Try.f58,go_sem,↓reduceIte]
   refine hK _ ?_
   refine aB (cSp (nx+1+2+8+2+5) 0 _ (by simp only[upd,↓reduceIte];rfl) ?_)
   simp only[U1]
   refine aA rfl (bA [4] rfl rfl rfl fun K hK=>?_)
   simp(disch:=omega) only[Try.f58,go_sem,↓reduceIte]
   refine hK _ ?_
   refine aB (aS rfl (⟨rfl,fun j o h=>?_,U3 _⟩))
   simp only at h⊢
   grind [bJ]
  refine aI rfl (aQ rfl (aB (dUc (nx+1+2+8+2+5) (by omega) (iE 0 1 rfl (fF [0] ?_)))))
  simp only[iB,fU,eB,↓reduceIte]
  refine aA rfl (bA [4] rfl rfl rfl fun K hK=>?_)
  simp(disch:=omega) only[Try.f58,go_sem,↓reduceIte]
  refine hK _ ?_
  refine aB (aS rfl ?_)
  refine⟨rfl,fun j o h=>h,by simp only;omega⟩
 cases hg
theorem ok85:bX Try.prog GLh 58 (.heap dHi):=⟨⟨_,Try.func58,rfl,rfl⟩,dMo⟩
def gO (ps:List (List B8)):List B8:=ps.flatten
theorem dFj (ps:List (List B8)) (k:Nat) (h:k<ps.length):gO (ps.take (k+1))=gO (ps.take k)++ps.getD k []:=by
 have e:ps.take (k+1)=ps.take k++[ps.getD k []]:=by rw[List.take_succ_eq_append_getElem h];simp[List.getD,List.getElem?_eq_getElem h,-List.take_append_getElem]
 rw[e];unfold gO;rw[List.flatten_append];simp only[List.flatten_cons,List.flatten_nil,List.append_nil]
theorem dGr (ps:List (List B8)) (k:Nat):(gO (ps.take k)).length≤(gO ps).length:=by
 have e:gO ps=gO (ps.take k)++gO (ps.drop k):=by unfold gO;rw[←List.flatten_append,List.take_append_drop]
 rw[e,List.length_append];omega
theorem dHk (ps:List (List B8)) (k:Nat) (h:k<ps.length):(gO (ps.take k)).length+(ps.getD k []).length≤(gO ps).length:=by
 rw[←List.length_append,←dFj ps k h];exact dGr ps (k+1)
def dEv:List AV→Option (Nat×Nat×List AV)
 |[.sl n xs]=>aK (unP xs) fun ps=>aN (ps.length=n∧n≤1000000∧(gO ps).length≤1000000) (some ((gO ps).length,1,c8 (gO ps)))
 |_=>none
theorem dGa (n:Nat) (xs:List AV):dEv [.sl n xs]=aK (unP xs) fun ps=>aN (ps.length=n∧n≤1000000∧(gO ps).length≤1000000) (some ((gO ps).length,1,c8 (gO ps))):=(rfl)
attribute [go_sem] dGa
set_option maxHeartbeats 1000000 in
theorem dJt:dH Try.prog GLh 43 dEv:=by
 refine cT Try.func43 (aT rfl) ?_
 intro args r hg
 unfold dEv at hg
 split at hg
 ·rename_i n xs
  replace hg:=aJ hg;obtain⟨ps,hb,hg⟩:=hg
  replace hg:=aP hg;obtain⟨⟨hn,hbig,hbig2⟩,hg⟩:=hg
  obtain rfl:=J0 hg
  have:=aIb hb;subst this
  subst hn
  clear hg hb
  refine⟨J1 rfl,fun nx=>?_⟩
  refine aA rfl (bA [0] rfl rfl rfl fun K hK=>?_)
  simp(disch:=omega) only[Try.f43,go_sem,↓reduceIte]
  refine hK _ ?_
  refine aB (aA rfl (bA [0,3] rfl rfl rfl fun K hK=>?_))
  simp(disch:=omega) only[Try.f43,go_sem,↓reduceIte]
  refine hK _ ?_
  refine aB (aA rfl (aA rfl (bA [0,3,9,10,11] rfl rfl rfl fun K hK=>?_)))
  simp(disch:=omega) only[Try.f43,go_sem,↓reduceIte]
  refine hK _ ?_
  refine aB (aR 0 rfl rfl (bR (fun p:KC=> {fr:=[(0,.sl ps.length (cP ps)),(3,.i (gO (ps.take p.k)).length),(9,.sl ps.length (cP ps)),(10,.i ps.length),(11,.i p.k)],hp:=fun _=>none,nx:=0,cx:=p.c}) (fun p=>p.k≤ps.length) (fun p=>ps.length-p.k) rfl ⟨⟨0,_⟩,Nat.zero_le _,bD rfl rfl (U3 _)⟩ ?_))
  rintro⟨k,c⟩ hk n0
  simp only at hk⊢
  refine aA rfl (bA [12,0,3,9,10,11] rfl rfl rfl fun K hK=>?_)
  simp(disch:=omega) only[Try.f43,go_sem,↓reduceIte]
  refine hK _ ?_
  refine aB (aA rfl (aW (.tmp 12) rfl rfl rfl (fun h=>?_) (fun h=>?_)))
  ·refine aI rfl ?_
   have hkl:k<ps.length:=by omega
   have ht:=dGr ps k
   have hm:=dHk ps k hkl
   have e6:=dFj ps k hkl
   obtain⟨l,hl⟩: ∃l,ps.getD k []=l:=⟨_,rfl⟩
   rw[hl]at hm e6
   refine aQ rfl (aB (aA rfl (aR 1 rfl rfl (aA rfl (bA [0,3,5,9,10,11] rfl rfl rfl fun K hK=>?_)))))
   simp(disch:=omega) only[Try.f43,go_sem,↓reduceIte,hl]
   refine hK _ ?_
   refine aB (aA rfl (bA [0,3,9,10,11] rfl rfl rfl fun K hK=>?_))
   simp(disch:=omega) only[Try.f43,go_sem,↓reduceIte]
   refine hK _ ?_
   refine aB (aA rfl (bA [20,0,3,9,10,11] rfl rfl rfl fun K hK=>?_))
   simp(disch:=omega) only[Try.f43,go_sem,↓reduceIte]
   refine hK _ ?_
   refine aB (aW (.tmp 20) rfl rfl rfl (fun h=>?_) (fun h=>?_))
   ·refine aI rfl ?_
    omega
   refine aI rfl (aQ rfl (bU (aB (bA [0,3,9,10,11] rfl rfl rfl fun K hK=>?_))))
   simp(disch:=omega) only[Try.f43,go_sem,↓reduceIte]
   refine hK _ ?_
   refine bT ?_
   refine⟨⟨k+1,_⟩,by simp only;omega,by simp only;omega,bD ?_ rfl (U3 _)⟩
   simp only[e6,List.length_append,Int.natCast_add,Int.natCast_one]
  refine aI rfl (bF 0 rfl rfl (aY (aZ (bE (aB (aA rfl ?_))))))
  obtain rfl:k=ps.length:=by omega
  have e8:ps.take ps.length=ps:=List.take_length
  refine aC (Γ:=bC [(58,.heap dHi)]) [0,6] (aH ok85 aO) rfl rfl rfl (fun K hK=>?_)
  simp(disch:=omega) only[Try.f43,go_sem,↓reduceIte,e8]
  refine hK _ ?_
  refine aB (aA rfl (aA rfl (bA [6,25,26,27] rfl rfl rfl fun K hK=>?_)))
  simp(disch:=omega) only[Try.f43,go_sem,↓reduceIte]
  refine hK _ ?_
  refine aB ?_
  clear hk h
  refine aR 2 rfl rfl ?_
  refine bR (fun p:KIC=> {fr:=[(6,.os p.id 0 (gO (ps.take p.k)).length 1 true),(25,.sl ps.length (cP ps)),(26,.i ps.length),(27,.i p.k)],hp:=upd (fun _=>none) p.id (.cells (c8 (gO (ps.take p.k))) true),nx:=0,cx:=p.c}) (fun p=>p.k≤ps.length∧p.id<p.c) (fun p=>ps.length-p.k) rfl ⟨⟨0,_,_⟩,⟨Nat.zero_le _,by simp only;omega⟩,bD rfl rfl (U3 _)⟩ ?_
  rintro⟨k,id,c⟩ ⟨hk,hid⟩ n0
  simp only at hk hid⊢
  refine aA rfl (bA [28,6,25,26,27] rfl rfl rfl fun K hK=>?_)
  simp(disch:=omega) only[Try.f43,go_sem,↓reduceIte]
  refine hK _ ?_
  refine aB (aA rfl (aW (.tmp 28) rfl rfl rfl (fun h=>?_) (fun h=>?_)))
  ·refine aI rfl ?_
   have hkl:k<ps.length:=by omega
   have ht:=dGr ps k
   have hm:=dHk ps k hkl
   have e6:=dFj ps k hkl
   obtain⟨l,hl⟩: ∃l,ps.getD k []=l:=⟨_,rfl⟩
   rw[hl]at hm e6
   have e7:(gO (ps.take (k+1))).length=(gO (ps.take k)).length+l.length:=by rw[e6,List.length_append]
   refine aQ rfl (aB (aA rfl (aR 3 rfl rfl (aA rfl (bA [6,8,25,26,27] rfl rfl rfl fun K hK=>?_)))))
   simp(disch:=omega) only[Try.f43,go_sem,↓reduceIte,hl]
   refine hK _ ?_
   refine aB (bA [6,25,26,27] rfl rfl rfl fun K hK=>?_)
   simp(disch:=omega) only[Try.f43,go_sem,↓reduceIte]
   refine hK _ ?_
   refine bU (aB (bA [6,25,26,27] rfl rfl rfl fun K hK=>?_))
   simp(disch:=omega) only[Try.f43,go_sem,↓reduceIte]
   refine hK _ ?_
   refine bT ?_
   refine⟨⟨k+1,c+1+3+2,_⟩,⟨by simp only;omega,by simp only;omega⟩,by simp only;omega,⟨fun _=> .inr ?_,fun j o h=>?_,U3 _⟩⟩
   ·simp only[e7,Int.natCast_add,Int.natCast_one]
   simp only at h
   exact bS (by simp(disch:=omega) only[aV,↓reduceIte,eq_self,e6]) (cB) j o h
  refine aI rfl (bF 2 rfl rfl (aY (aZ (bE (aB (aA rfl ?_))))))
  obtain rfl:k=ps.length:=by omega
  refine bA [2] rfl rfl rfl fun K hK=>?_
  simp(disch:=omega) only[Try.f43,go_sem,↓reduceIte,e8]
  refine hK _ ?_
  refine aB (aS rfl ?_)
  simp(disch:=omega) only[fE,eO,bV,bK,bQ,Try.f43,go_sem,↓reduceIte,fQ]
 cases hg
theorem ok76:bX Try.prog GLh 43 (.fresh true dEv):=⟨⟨_,Try.func43,rfl,rfl⟩,dJt⟩
end Go.AX

namespace Go.AX
open Go Go.Proofs
set_option maxRecDepth 8000
def dEo:List (List B8)→Int→Bool
 |[],_=>true
 |x::r,rm=>if rm<4∨rm-4<x.length then false else dEo r (rm-(4+x.length))
def uL:List (List B8)→Nat
 |[]=>0
 |x::r=>4+x.length+uL r
def dHl:List AV→Option AV
 |[.sl n xs,.i rm]=>aK (unP xs) fun l=>aN (l.length=n∧n≤1000000∧rm≤1000000000∧ -1000000000≤rm∧uL l≤1000000000) (some (.b (dEo l rm)))
 |_=>none
theorem dLb (n:Nat) (xs:List AV) (rm:Int):dHl [.sl n xs,.i rm]=aK (unP xs) fun l=>aN (l.length=n∧n≤1000000∧rm≤1000000000∧ -1000000000≤rm∧uL l≤1000000000) (some (.b (dEo l rm))):=(rfl)
attribute [go_sem] dLb
theorem dLf {l:List (List B8)} {k:Nat} (h:k<l.length):l.drop k=l.getD k []::l.drop (k+1):=by
 rw[List.drop_eq_getElem_cons h,List.getD_eq_getElem?_getD,List.getElem?_eq_getElem h];rfl
structure FTI where
 k:Nat
 rm:Int
 c:Nat
set_option maxHeartbeats 1000000 in
theorem dMq:cL Try.prog GLh 40 dHl:=by
 refine cC Try.func40 (aT rfl) ?_
 intro args r hg
 unfold dHl at hg
 split at hg
 ·rename_i n xs rm
  replace hg:=aJ hg;obtain⟨l,hl,hg⟩:=hg
  have:=aIb hl;subst this
  replace hg:=aP hg;obtain⟨⟨hn,hbig,hr1,hr2,hlb⟩,hg⟩:=hg
  obtain rfl:=J0 hg
  subst hn
  refine⟨J1 rfl,fun nx=>?_⟩
  obtain⟨R,hR⟩: ∃x,dEo l rm=x:=⟨_,rfl⟩
  rw[hR]
  refine aA rfl (bA [0,1] rfl rfl rfl fun K hK=>?_)
  simp(disch:=omega) only[Try.f40,go_sem,↓reduceIte]
  refine hK _ ?_
  refine aB (aA rfl (aA rfl (bA [1,7,8,9] rfl rfl rfl fun K hK=>?_)))
  simp(disch:=omega) only[Try.f40,go_sem,↓reduceIte]
  refine hK _ ?_
  refine aB (aR 0 rfl rfl ?_)
  refine bR (fun p:FTI=> {fr:=[(1,.i p.rm),(7,.sl l.length (cP l)),(8,.i l.length),(9,.i p.k)],hp:=fun _=>none,nx:=0,cx:=p.c}) (fun p=>p.k≤l.length∧dEo (l.drop p.k) p.rm=R∧p.rm≤1000000000∧ -1000000000≤p.rm∧uL (l.drop p.k)≤1000000000) (fun p=>l.length-p.k) rfl ⟨⟨0,rm,_⟩,⟨Nat.zero_le _,by simp only[J9];exact hR,hr1,hr2,by simp only[J9];exact hlb⟩,bD rfl rfl (U3 _)⟩ ?_
  rintro⟨k,rm,c⟩ ⟨hk,hf,ha,hb,hle⟩ n0
  simp only at hk hf ha hb hle⊢
  refine aA rfl (bA [10,1,7,8,9] rfl rfl rfl fun K hK=>?_)
  simp(disch:=omega) only[Try.f40,go_sem,↓reduceIte]
  refine hK _ ?_
  refine aB (aA rfl (aW (.tmp 10) rfl rfl rfl (fun h=>?_) (fun h=>?_)))
  ·refine aI rfl ?_
   have hkl:k<l.length:=by omega
   rw[dLf hkl,dEo]at hf
   rw[dLf hkl,uL]at hle
   have hh:=aXs l k hkl
   obtain⟨x,hx⟩: ∃x,l.getD k []=x:=⟨_,rfl⟩
   rw[hx]at hf hle hh
   clear h
   refine aQ rfl (aB (aA rfl (aR 1 rfl rfl (aA rfl (bA [1,6,7,8,9] rfl rfl rfl fun K hK=>?_)))))
   simp(disch:=omega) only[Try.f40,go_sem,↓reduceIte,hh]
   refine hK _ ?_
   refine aB ?_
   by_cases h1:rm<4
   ·have d1:decide (rm<4)=true:=J5 h1
    rw[J4 (.inl h1)]at hf
    refine aA rfl (aA rfl (bA [21,1,6,7,8,9] rfl rfl rfl fun K hK=>?_))
    simp(disch:=omega) only[Try.f40,go_sem,↓reduceIte,d1]
    refine hK _ ?_
    refine aB ?_
    simp(disch:=omega) only[go_sem]
    refine eC (.tmp 21) rfl rfl rfl (fun h=>?_) (fun h=>?_)
    ·refine aI rfl (aA rfl (bA [4] rfl rfl rfl fun K hK=>?_))
     simp(disch:=omega) only[Try.f40,go_sem,↓reduceIte]
     refine hK _ ?_
     refine aB (aS rfl (bI (bN (bI (dF (bN (bI ?_)))))))
     simp(disch:=omega) only[cN,bV,bK,bQ,Try.f40,go_sem,↓reduceIte,hf]
    refine aI rfl ?_
    cases h
   have d1:decide (rm<4)=false:=J6 h1
   by_cases h2:rm-4<x.length
   ·have d2:decide (rm-4<(x.length:Int))=true:=J5 h2
    rw[J4 (.inr h2)]at hf
    refine aA rfl (aA rfl (bA [21,1,6,7,8,9] rfl rfl rfl fun K hK=>?_))
    simp(disch:=omega) only[Try.f40,go_sem,↓reduceIte,d1,d2]
    refine hK _ ?_
    refine aB (eC (.tmp 21) rfl rfl rfl (fun h=>?_) (fun h=>?_))
    ·refine aI rfl (aA rfl (bA [4] rfl rfl rfl fun K hK=>?_))
     simp(disch:=omega) only[Try.f40,go_sem,↓reduceIte]
     refine hK _ ?_
     refine aB (aS rfl (bI (bN (bI (dF (bN (bI ?_)))))))
     simp(disch:=omega) only[cN,bV,bK,bQ,Try.f40,go_sem,↓reduceIte,hf]
    refine aI rfl ?_
    cases h
   have d2:decide (rm-4<(x.length:Int))=false:=J6 h2
   rw[J3 (fun e=>e.elim h1 h2)]at hf
   refine aA rfl (aA rfl (bA [21,1,6,7,8,9] rfl rfl rfl fun K hK=>?_))
   simp(disch:=omega) only[Try.f40,go_sem,↓reduceIte,d1,d2]
   refine hK _ ?_
   refine aB (eC (.tmp 21) rfl rfl rfl (fun h=>?_) (fun h=>?_))
   ·refine aI rfl ?_
    cases h
   refine aI rfl ?_
   clear h
   refine aQ rfl (aB (bA [1,7,8,9] rfl rfl rfl fun K hK=>?_))
   simp(disch:=omega) only[Try.f40,go_sem,↓reduceIte]
   refine hK _ ?_
   refine bU (aB (bA [1,7,8,9] rfl rfl rfl fun K hK=>?_))
   simp(disch:=omega) only[Try.f40,go_sem,↓reduceIte]
   refine hK _ ?_
   refine bT ?_
   refine⟨⟨k+1,rm-(4+x.length),_⟩,⟨by simp only;omega,hf,by simp only;omega,by simp only;omega,by simp only;omega⟩,by simp only;omega,bD ?_ rfl (U3 _)⟩
   simp only[Int.natCast_add,Int.natCast_one]
  refine aI rfl ?_
  obtain rfl:k=l.length:=by omega
  rw[List.drop_length,dEo]at hf
  refine bF 0 rfl rfl (aY (aZ (bE (aB (aA rfl (bA [4] rfl rfl rfl fun K hK=>?_))))))
  simp(disch:=omega) only[Try.f40,go_sem,↓reduceIte]
  refine hK _ ?_
  refine aB (aS rfl ?_)
  simp(disch:=omega) only[cN,bV,bK,bQ,Try.f40,go_sem,↓reduceIte,hf]
 cases hg
theorem dQn:bX Try.prog GLh 40 (.pure true dHl):=⟨⟨_,Try.func40,rfl,rfl⟩,dMq⟩
end Go.AX

namespace Go.AX
open Go Go.Proofs
set_option maxRecDepth 8000
def nzG:List AV→Option AV
 |[.w8 x]=>some (.b (!decide (x=0#8)))
 |_=>none
theorem dOm (x:B8):nzG [.w8 x]=some (.b (!decide (x=0#8))):=(rfl)
attribute [go_sem] dOm
theorem dRd:cL Try.prog GLh 53 nzG:=by
 refine cC Try.func53 (aT rfl) ?_
 intro args r hg
 unfold nzG at hg
 split at hg
 ·rename_i x
  obtain rfl:=J0 hg
  refine⟨J1 rfl,fun nx=>?_⟩
  refine aA rfl (bA [0] rfl rfl rfl fun K hK=>?_)
  simp(disch:=omega) only[Try.f53,go_sem,↓reduceIte]
  refine hK _ ?_
  refine aB (aA rfl (bA [2] rfl rfl rfl fun K hK=>?_))
  simp(disch:=omega) only[Try.f53,go_sem,↓reduceIte]
  refine hK _ ?_
  refine aB (aS rfl ?_)
  simp(disch:=omega) only[cN,bV,bK,bQ,Try.f53,go_sem,↓reduceIte]
 cases hg
theorem dKk:bX Try.prog GLh 53 (.pure true nzG):=⟨⟨_,Try.func53,rfl,rfl⟩,dRd⟩
def ixN:List B8→Nat→Int
 |[],_=> -1
 |x::r,k=>if x=0#8 then ixN r (k+1)else(k:Int)
theorem dKt: ∀(l:List B8) (k:Nat),ixN l k= -1∨0≤ixN l k
 |[],_=> .inl rfl
 |x::r,k=>by
  unfold ixN
  split
  ·exact dKt r (k+1)
  exact .inr (by omega)
def dEs (l:List B8):Bool:=decide (ixN l 0<0)
def ixG:List AV→Option AV
 |[.sl n xs,.fn 53 []]=>aK (cI xs) fun l=>aN (l.length=n∧n≤1000000000) (some (.i (ixN l 0)))
 |_=>none
theorem dOw (n:Nat) (xs:List AV):ixG [.sl n xs,.fn 53 []]=aK (cI xs) fun l=>aN (l.length=n∧n≤1000000000) (some (.i (ixN l 0))):=(rfl)
attribute [go_sem] dOw
theorem dPh {l:List B8} {k:Nat} (h:k<l.length):l.drop k=l.getD k 0#8::l.drop (k+1):=by
 rw[List.drop_eq_getElem_cons h,List.getD_eq_getElem?_getD,List.getElem?_eq_getElem h];rfl
set_option maxHeartbeats 1000000 in
theorem cYi:cL Try.prog GLh 61 ixG:=by
 refine cC Try.func61 (aT rfl) ?_
 intro args r hg
 unfold ixG at hg
 split at hg
 ·rename_i n xs
  replace hg:=aJ hg;obtain⟨l,hl,hg⟩:=hg
  have:=bW hl;subst this
  replace hg:=aP hg;obtain⟨⟨hn,hbig⟩,hg⟩:=hg
  obtain rfl:=J0 hg
  subst hn
  refine⟨J1 rfl,fun nx=>?_⟩
  obtain⟨R,hR⟩: ∃x,ixN l 0=x:=⟨_,rfl⟩
  rw[hR]
  refine aA rfl (bA [0,1] rfl rfl rfl fun K hK=>?_)
  simp(disch:=omega) only[Try.f61,go_sem,↓reduceIte]
  refine hK _ ?_
  refine aB (aA rfl (aA rfl (bA [0,1,7,8] rfl rfl rfl fun K hK=>?_)))
  simp(disch:=omega) only[Try.f61,go_sem,↓reduceIte]
  refine hK _ ?_
  refine aB (aR 0 rfl rfl (bR (fun p:KC=> {fr:=[(0,.sl l.length (c8 l)),(1,.fn 53 []),(7,.i l.length),(8,.i p.k)],hp:=fun _=>none,nx:=0,cx:=p.c}) (fun p=>p.k≤l.length∧ixN (l.drop p.k) p.k=R) (fun p=>l.length-p.k) rfl ⟨⟨0,_⟩,⟨Nat.zero_le _,hR⟩,bD rfl rfl (U3 _)⟩ ?_))
  rintro⟨k,c⟩ ⟨hk,hf⟩ n0
  simp only at hk hf⊢
  refine aA rfl (bA [9,0,1,7,8] rfl rfl rfl fun K hK=>?_)
  simp(disch:=omega) only[Try.f61,go_sem,↓reduceIte]
  refine hK _ ?_
  refine aB (aA rfl (aW (.tmp 9) rfl rfl rfl (fun h=>?_) (fun h=>?_)))
  ·refine aI rfl ?_
   have hkl:k<l.length:=by omega
   rw[dPh hkl,ixN]at hf
   have hh:=oC l k hkl
   obtain⟨x,hx⟩: ∃x,l.getD k 0#8=x:=⟨_,rfl⟩
   rw[hx]at hf hh
   clear h
   refine aQ rfl (aB (aA rfl (aR 1 rfl rfl (aA rfl (bA [0,1,5,7,8] rfl rfl rfl fun K hK=>?_)))))
   simp(disch:=omega) only[Try.f61,go_sem,↓reduceIte]
   refine hK _ ?_
   refine aB ?_
   by_cases h1:x=0#8
   ·have d1:decide (x=0#8)=true:=J5 h1
    rw[J4 h1]at hf
    refine aA rfl (aC (Γ:=bC [(53,.pure true nzG)]) [16,0,1,5,7,8] (aH dKk aO) rfl rfl rfl (fun K hK=>?_))
    simp(disch:=omega) only[Try.f61,go_sem,↓reduceIte,hx,d1,Bool.not_true]
    refine hK _ ?_
    refine aB (eC (.tmp 16) rfl rfl rfl (fun h=>?_) (fun h=>?_))
    ·refine aI rfl ?_
     cases h
    refine aI rfl ?_
    clear h
    refine aQ rfl (bU (aB (bA [0,1,7,8] rfl rfl rfl fun K hK=>?_)))
    simp(disch:=omega) only[Try.f61,go_sem,↓reduceIte]
    refine hK _ ?_
    refine bT ?_
    refine⟨⟨k+1,_⟩,⟨by simp only;omega,hf⟩,by simp only;omega,bD ?_ rfl (U3 _)⟩
    simp only[Int.natCast_add,Int.natCast_one]
   have d1:decide (x=0#8)=false:=J6 h1
   rw[J3 h1]at hf
   refine aA rfl (aC (Γ:=bC [(53,.pure true nzG)]) [16,0,1,5,7,8] (aH dKk aO) rfl rfl rfl (fun K hK=>?_))
   simp(disch:=omega) only[Try.f61,go_sem,↓reduceIte,hx,d1,Bool.not_false]
   refine hK _ ?_
   refine aB (eC (.tmp 16) rfl rfl rfl (fun h=>?_) (fun h=>?_))
   ·refine aI rfl (aA rfl (bA [4] rfl rfl rfl fun K hK=>?_))
    simp(disch:=omega) only[Try.f61,go_sem,↓reduceIte]
    refine hK _ ?_
    refine aB (aS rfl (bN (bI (dF (bN (bI ?_))))))
    simp(disch:=omega) only[cN,bV,bK,bQ,Try.f61,go_sem,↓reduceIte,hf]
   refine aI rfl ?_
   cases h
  refine aI rfl ?_
  obtain rfl:k=l.length:=by omega
  rw[List.drop_length,ixN]at hf
  refine bF 0 rfl rfl (aY (aZ (bE (aB (aA rfl (bA [4] rfl rfl rfl fun K hK=>?_))))))
  simp(disch:=omega) only[Try.f61,go_sem,↓reduceIte]
  refine hK _ ?_
  refine aB (aS rfl ?_)
  simp(disch:=omega) only[cN,bV,bK,bQ,Try.f61,go_sem,↓reduceIte,hf]
 cases hg
theorem dQk:bX Try.prog GLh 61 (.pure true ixG):=⟨⟨_,Try.func61,rfl,rfl⟩,cYi⟩
def dLh:List AV→Option AV
 |[.sl n xs,.fn 53 []]=>aK (cI xs) fun l=>aN (l.length=n∧n≤1000000000) (some (.b (!dEs l)))
 |_=>none
theorem dMu (n:Nat) (xs:List AV):dLh [.sl n xs,.fn 53 []]=aK (cI xs) fun l=>aN (l.length=n∧n≤1000000000) (some (.b (!dEs l))):=(rfl)
attribute [go_sem] dMu
set_option maxHeartbeats 1000000 in
theorem dPn:cL Try.prog GLh 52 dLh:=by
 refine cC Try.func52 (aT rfl) ?_
 intro args r hg
 unfold dLh at hg
 split at hg
 ·rename_i n xs
  replace hg:=aJ hg;obtain⟨l,hl,hg⟩:=hg
  have:=bW hl;subst this
  replace hg:=aP hg;obtain⟨⟨hn,hbig⟩,hg⟩:=hg
  obtain rfl:=J0 hg
  subst hn
  refine⟨J1 rfl,fun nx=>?_⟩
  have e:decide (0≤ixN l 0)= !dEs l:=by
   unfold dEs
   rcases dKt l 0 with h|h
   ·rw[h];rfl
   rw[J5 h,J6 (show¬ixN l 0<0 by omega)];rfl
  refine aA rfl (bA [0,1] rfl rfl rfl fun K hK=>?_)
  simp(disch:=omega) only[Try.f52,go_sem,↓reduceIte]
  refine hK _ ?_
  refine aB (aA rfl (aC (Γ:=bC [(61,.pure true ixG)]) [4] (aH dQk aO) rfl rfl rfl (fun K hK=>?_)))
  simp(disch:=omega) only[Try.f52,go_sem,↓reduceIte,iA,hbig,e]
  refine hK _ ?_
  refine aB (aS rfl ?_)
  simp(disch:=omega) only[cN,bV,bK,bQ,Try.f52,go_sem,↓reduceIte]
 cases hg
theorem dQl:bX Try.prog GLh 52 (.pure true dLh):=⟨⟨_,Try.func52,rfl,rfl⟩,dPn⟩
def dIf:List AV→Option AV
 |[.sl n xs]=>aK (cI xs) fun l=>aN (l.length=n∧n≤1000000000) (some (.b (dEs l)))
 |_=>none
theorem dMv (n:Nat) (xs:List AV):dIf [.sl n xs]=aK (cI xs) fun l=>aN (l.length=n∧n≤1000000000) (some (.b (dEs l))):=(rfl)
attribute [go_sem] dMv
set_option maxHeartbeats 1000000 in
theorem dPq:cL Try.prog GLh 31 dIf:=by
 refine cC Try.func31 (aT rfl) ?_
 intro args r hg
 unfold dIf at hg
 split at hg
 ·rename_i n xs
  replace hg:=aJ hg;obtain⟨l,hl,hg⟩:=hg
  have:=bW hl;subst this
  replace hg:=aP hg;obtain⟨⟨hn,hbig⟩,hg⟩:=hg
  obtain rfl:=J0 hg
  subst hn
  refine⟨J1 rfl,fun nx=>?_⟩
  refine aA rfl (bA [0] rfl rfl rfl fun K hK=>?_)
  simp(disch:=omega) only[Try.f31,go_sem,↓reduceIte]
  refine hK _ ?_
  refine aB (aA rfl (aC (Γ:=bC [(52,.pure true dLh),(53,.pure true nzG)]) [2] (aH dQl (aH dKk aO)) rfl rfl rfl (fun K hK=>?_)))
  simp(disch:=omega) only[Try.f31,go_sem,↓reduceIte,iA,hbig,Bool.not_not]
  refine hK _ ?_
  refine aB (aS rfl ?_)
  simp(disch:=omega) only[cN,bV,bK,bQ,Try.f31,go_sem,↓reduceIte]
 cases hg
theorem dKm:bX Try.prog GLh 31 (.pure true dIf):=⟨⟨_,Try.func31,rfl,rfl⟩,dPq⟩
def dQe (most:Int) (n:Nat):Int:=if most-n-4<0 then 0 else most-n-4
noncomputable def dVi:List AV→H→Nat→Option (AV×H×Nat)
 |[.op j 0],hp,nx=>aK (mJ hp j) fun t=>aK (uK t.C.rows) fun z=>aN (((1≤t.C.rows.length∧t.C.rows.length≤4096)∧0≤z∧z≤4096)∧t.J.b.length≤1000000000) (some (.i (dQe ((eH t.C:Int)*z) t.J.b.length),hp,nx+600))
 |_,_,_=>none
theorem dVo (j:Nat) (hp:H) (nx:Nat):dVi [.op j 0] hp nx=aK (mJ hp j) fun t=>aK (uK t.C.rows) fun z=>aN (((1≤t.C.rows.length∧t.C.rows.length≤4096)∧0≤z∧z≤4096)∧t.J.b.length≤1000000000) (some (.i (dQe ((eH t.C:Int)*z) t.J.b.length),hp,nx+600)):=(rfl)
attribute [go_sem] dVo
noncomputable def dJn:List AV→H→Nat→Option (AV×H×Nat)
 |[.op j 0],hp,nx=>aK (mJ hp j) fun t=>some (.w64 t.J.com,hp,nx+100)
 |_,_,_=>none
theorem dIo (j:Nat) (hp:H) (nx:Nat):dJn [.op j 0] hp nx=aK (mJ hp j) fun t=>some (.w64 t.J.com,hp,nx+100):=(rfl)
attribute [go_sem] dIo
set_option maxHeartbeats 1000000 in
theorem dOv:cQ Try.prog GLh 25 dJn:=by
 refine gF Try.func25 (aT rfl) ?_
 intro args hp nx r hp' nx' hg
 unfold dJn at hg
 split at hg
 ·rename_i j
  replace hg:=aJ hg;obtain⟨⟨⟨d,sd,b,co⟩,s,m,C⟩,hJ,hg⟩:=hg
  have hJ:=mA hJ
  simp only[Option.some.injEq,Prod.mk.injEq]at hg hJ;obtain⟨rfl,rfl,rfl⟩:=hg
  refine⟨J1 rfl,by omega,fun hnone=>?_⟩
  have h1:=hJ.hj
  simp only at h1
  refine aA rfl (bA [0] rfl rfl rfl fun K hK=>?_)
  simp(disch:=omega) only[Try.f25,go_sem,↓reduceIte]
  refine hK _ ?_
  refine aB (aA rfl (bA [2] rfl rfl rfl fun K hK=>?_))
  simp(disch:=omega) only[Try.f25,go_sem,↓reduceIte,h1]
  refine hK _ ?_
  refine aB (aS rfl ?_)
  exact⟨rfl,fun j o h=>h,by simp only;omega⟩
 cases hg
theorem dQs:bX Try.prog GLh 25 (.heap dJn):=⟨⟨_,Try.func25,rfl,rfl⟩,dOv⟩
end Go.AX

namespace Go.AX
open Go Go.Proofs
set_option maxRecDepth 8000
def dKg (x:List B8):List B8:=aMv 4 (BitVec.ofInt 64 x.length)++x
def eR (l:List (List B8)):List B8:=l.flatMap dKg
theorem dKf (x:List B8):(dKg x).length=4+x.length:=by rw[dKg,List.length_append,bH]
theorem dKz (l:List (List B8)) (k:Nat) (h:k<l.length):eR (l.take (k+1))=eR (l.take k)++aMv 4 (BitVec.ofInt 64 (l.getD k []).length)++l.getD k []:=by
 unfold eR
 rw[List.take_add_one,List.getElem?_eq_getElem h,List.flatMap_append,List.getD_eq_getElem?_getD,List.getElem?_eq_getElem h]
 simp[dKg]
theorem dFd: ∀l:List (List B8),(eR l).length=uL l
 |[]=>rfl
 |x::r=>by
  have ih:=dFd r
  unfold eR at ih⊢
  rw[List.flatMap_cons,List.length_append,dKf,ih];rfl
theorem dGg: ∀(l:List (List B8)) (k:Nat),uL (l.take k)≤uL l
 |[],k=>by simp
 |x::r,0=>Nat.zero_le _
 |x::r,k+1=>by have:=dGg r k;rw[U0,uL,uL];omega
theorem dHf: ∀(l:List (List B8)) (k:Nat),(l.getD k []).length≤uL l
 |[],k=>by simp
 |x::r,0=>by show x.length≤4+x.length+uL r;omega
 |x::r,k+1=>by have:=dHf r k;show(r.getD k []).length≤4+x.length+uL r;omega
def dLa:List AV→Option AV
 |[.sl n xs]=>aK (unP xs) fun l=>aN (l.length=n∧n≤1000000∧uL l≤100000000) (some (.sl (eR l).length (c8 (eR l))))
 |_=>none
theorem dMp (n:Nat) (xs:List AV):dLa [.sl n xs]=aK (unP xs) fun l=>aN (l.length=n∧n≤1000000∧uL l≤100000000) (some (.sl (eR l).length (c8 (eR l)))):=(rfl)
attribute [go_sem] dMp
theorem rep4:List.replicate 4 (AV.w8 0#8)=c8 [0#8,0#8,0#8,0#8]:=(rfl)
theorem spl4 (P:List B8) (h:P.length=4):jM [0#8,0#8,0#8,0#8] 0 P=P:=by
 unfold jM
 rw[h];simp
theorem len4:([0#8,0#8,0#8,0#8]:List B8).length=4:=(rfl)
set_option maxHeartbeats 2000000 in
theorem dPe:cL Try.prog GLh 44 dLa:=by
 refine cC Try.func44 (aT rfl) ?_
 intro args r hg
 unfold dLa at hg
 split at hg
 ·rename_i n xs
  replace hg:=aJ hg;obtain⟨l,hl,hg⟩:=hg
  have:=aIb hl;subst this
  replace hg:=aP hg;obtain⟨⟨hn,hbig,hlb⟩,hg⟩:=hg
  obtain rfl:=J0 hg
  subst hn
  refine⟨J1 rfl,fun nx=>?_⟩
  refine aA rfl (bA [0] rfl rfl rfl fun K hK=>?_)
  simp(disch:=omega) only[Try.f44,go_sem,↓reduceIte]
  refine hK _ ?_
  refine aB (aA rfl (bA [0,3] rfl rfl rfl fun K hK=>?_))
  simp(disch:=omega) only[Try.f44,go_sem,↓reduceIte]
  refine hK _ ?_
  refine aB (aA rfl (aA rfl (bA [3,7,8,9] rfl rfl rfl fun K hK=>?_)))
  simp(disch:=omega) only[Try.f44,go_sem,↓reduceIte]
  refine hK _ ?_
  refine aB (iE 3 1 rfl (fF [3,7,8,9] ?_))
  simp only[iB,fU,eB,↓reduceIte,Nat.reduceEqDiff]
  refine aR 0 rfl rfl ?_
  refine bR (fun p:KIC=> {fr:=[(3,.os p.id 0 (eR (l.take p.k)).length 1 true),(7,.sl l.length (cP l)),(8,.i l.length),(9,.i p.k)],hp:=upd (fun _=>none) p.id (.cells (c8 (eR (l.take p.k))) true),nx:=0,cx:=p.c}) (fun p=>p.k≤l.length∧nx≤p.id∧p.id<p.c) (fun p=>l.length-p.k) rfl ⟨⟨0,_,_⟩,⟨Nat.zero_le _,by simp only;omega,by simp only;omega⟩,bD rfl rfl (U3 _)⟩ ?_
  rintro⟨k,id,c⟩ ⟨hk,hid,hc⟩ n0
  simp only at hk hid hc⊢
  refine aA rfl (bA [10,3,7,8,9] rfl rfl rfl fun K hK=>?_)
  simp(disch:=omega) only[Try.f44,go_sem,↓reduceIte]
  refine hK _ ?_
  refine aB (aA rfl (aW (.tmp 10) rfl rfl rfl (fun h=>?_) (fun h=>?_)))
  ·refine aI rfl ?_
   have hkl:k<l.length:=by omega
   have hn:=dKz l k hkl
   have hh:=aXs l k hkl
   have hl1:=dFd (l.take k)
   have hl2:=dGg l k
   have hl3:=dHf l k
   obtain⟨x,hx⟩: ∃x,l.getD k []=x:=⟨_,rfl⟩
   rw[hx]at hn hh hl3
   obtain⟨F,hF⟩: ∃F,eR (l.take k)=F:=⟨_,rfl⟩
   rw[hF]at hn hl1⊢
   have hS:=spl4 (aMv 4 (BitVec.ofInt 64 x.length)) (bH _ _)
   have hPl:=bH 4 (BitVec.ofInt 64 x.length)
   obtain⟨P,hP⟩: ∃P,aMv 4 (BitVec.ofInt 64 x.length)=P:=⟨_,rfl⟩
   rw[hP]at hn hPl
   rw[hP]at hS
   have hPt:P.take 4=P:=List.take_of_length_le (by omega)
   have hnl:(F++P++x).length=F.length+4+x.length:=by rw[List.length_append,List.length_append,hPl]
   clear h
   refine aQ rfl (aB (aA rfl (aR 1 rfl rfl (aA rfl (bA [3,5,7,8,9] rfl rfl rfl fun K hK=>?_)))))
   simp(disch:=omega) only[Try.f44,go_sem,↓reduceIte,hx]
   refine hK _ ?_
   refine aB (aA rfl (bA [3,5,6,7,8,9] rfl rfl rfl fun K hK=>?_))
   simp(disch:=omega) only[Try.f44,go_sem,↓reduceIte,rep4]
   refine hK _ ?_
   refine aB (aA rfl (aC (Γ:=bC [(57,.heap (dP bIe))]) [3,5,6,7,8,9] (aH dHd aO) rfl rfl rfl (fun K hK=>?_)))
   simp(disch:=omega) only[Try.f44,go_sem,↓reduceIte,len4,hP,hS]
   refine hK _ ?_
   refine aB (bA [3,7,8,9] rfl rfl rfl fun K hK=>?_)
   simp(disch:=omega) only[Try.f44,go_sem,↓reduceIte,hPl,hPt,iM,aDj]
   refine hK _ ?_
   refine bU (aB (bA [3,7,8,9] rfl rfl rfl fun K hK=>?_))
   simp(disch:=omega) only[Try.f44,go_sem,↓reduceIte]
   refine hK _ ?_
   refine bT ?_
   trace_state
   refine⟨⟨k+1,_,_⟩,⟨by simp only;omega,?_,?_⟩,by simp only;omega,⟨fun y=> .inr (by simp only[hn,hnl,Int.natCast_add,Int.natCast_one];rfl),fun j o hj=>?_,U3 _⟩⟩
   ·simp only;omega
   ·simp only;omega
   simp only[hn,bJ]at hj
   simp only[bJ]
   split at hj
   ·rename_i e;rw[J4 e];exact hj
   cases hj
  refine aI rfl ?_
  obtain rfl:k=l.length:=by omega
  rw[List.take_length]
  refine bF 0 rfl rfl (aY (aZ (bE (aB (aA rfl ?_)))))
  have hfl:=dFd l
  refine pS 3 id 0 _ 1 rfl (by rw[bJ,J4 rfl]) (by rw[iM];omega) ?_
  rw[J9,List.take_of_length_le (by rw[iM];omega)]
  refine bA [2] rfl rfl rfl fun K hK=>?_
  simp(disch:=omega) only[Try.f44,go_sem,↓reduceIte]
  refine hK _ ?_
  refine aB (aS rfl ?_)
  simp(disch:=omega) only[cN,bV,bK,bQ,Try.f44,go_sem,↓reduceIte]
 cases hg
theorem dQm:bX Try.prog GLh 44 (.pure false dLa):=⟨⟨_,Try.func44,rfl,rfl⟩,dPe⟩
end Go.AX

namespace Go.AX
open Go Go.Proofs
set_option maxRecDepth 8000
theorem aZo.upd {hp:H} {d s m:Nat} {C:DC} (h:aZo hp d s m C) (i:Nat) (o:AO) (h1:i≠d) (h2:i≠s) (h3:i≠m):aZo (upd hp i o) d s m C:=
 ⟨by rw[bJ,J3 (Ne.symm h1)];exact h.hd,by rw[bJ,J3 (Ne.symm h2)];exact h.hs,by rw[bJ,J3 (Ne.symm h3)];exact h.hm,h.ne⟩
theorem mE.upd {hp:H} {j:Nat} {t:JT} (h:mE hp j t) (i:Nat) (o:AO) (h0:i≠j) (h1:i≠t.J.d) (h2:i≠t.s) (h3:i≠t.m):mE (upd hp i o) j t:=
 ⟨by rw[bJ,J3 (Ne.symm h0)];exact h.hj,h.hd.upd i o h1 h2 h3,h.ne⟩
def rdV (C:DC) (i:Nat):Option (List B8):=match iK (i:Int) C.dirty with
 |some b=>some b
 |none=>C.rows[i]?
def mM (C:DC) (f:Nat):Nat→Option (List B8)
 |0=>some []
 |n+1=>aK (mM C f n) fun a=>aK (rdV C (f+n)) fun b=>aN (0<b.length∧b.length≤4096) (some (a++b))
theorem dEt {C:DC} {f:Nat}: ∀ {n:Nat} {l:List B8},mM C f n=some l→l.length≤4096*n
 |0,l,h=>by obtain rfl:=J0 h;exact Nat.zero_le _
 |n+1,l,h=>by
  rw[mM]at h
  replace h:=aJ h;obtain⟨a,ha,h⟩:=h
  replace h:=aJ h;obtain⟨b,hb,h⟩:=h
  replace h:=aP h;obtain⟨hl,h⟩:=h
  obtain rfl:=J0 h
  have:=dEt ha
  rw[List.length_append];omega
theorem dIi {C:DC} {f:Nat}: ∀ {n:Nat} {l:List B8},mM C f n=some l→∀k,k<n→∃a b,mM C f k=some a∧rdV C (f+k)=some b∧(0<b.length∧b.length≤4096)∧mM C f (k+1)=some (a++b)
 |0,l,h,k,hk=>by omega
 |n+1,l,h,k,hk=>by
  rw[mM]at h
  have h0:=h
  replace h:=aJ h;obtain⟨a,ha,h⟩:=h
  replace h:=aJ h;obtain⟨b,hb,h⟩:=h
  replace h:=aP h;obtain⟨hl,h⟩:=h
  rcases Nat.lt_or_ge k n with e|e
  ·exact dIi ha k e
  obtain rfl:k=n:=by omega
  refine⟨a,b,ha,hb,hl,?_⟩
  rw[mM,ha,aX,hb,aX,cU _ hl]
noncomputable def dIa:List AV→H→Nat→Option (AV×H×Nat)
 |[.op j 0,.i f,.i n],hp,nx=>aK (mJ hp j) fun t=>aN ((t.C.dead=false∧0≤f∧0≤n)∧f+n≤t.C.rows.length∧t.C.rows.length≤4096)
   (aK (mM t.C f.toNat n.toNat) fun l=>some (.tup [.sl l.length (c8 l),.i 0],hp,nx+500+200*n.toNat))
 |_,_,_=>none
theorem dMj (j:Nat) (f n:Int) (hp:H) (nx:Nat):dIa [.op j 0,.i f,.i n] hp nx=aK (mJ hp j) fun t=>aN ((t.C.dead=false∧0≤f∧0≤n)∧f+n≤t.C.rows.length∧t.C.rows.length≤4096)
   (aK (mM t.C f.toNat n.toNat) fun l=>some (.tup [.sl l.length (c8 l),.i 0],hp,nx+500+200*n.toNat)):=(rfl)
attribute [go_sem] dMj
structure RDI where
 k:Nat
 id:Nat
 l:List B8
 c:Nat
set_option maxHeartbeats 2000000 in
theorem dOt:cQ Try.prog GLh 30 dIa:=by
 refine gF Try.func30 (aT rfl) ?_
 intro args hp nx r hp' nx' hg
 unfold dIa at hg
 split at hg
 ·rename_i j f0 n0
  replace hg:=aJ hg;obtain⟨⟨⟨d,sd,b,co⟩,s,m,C⟩,hJ,hg⟩:=hg
  replace hg:=aP hg;obtain⟨⟨⟨hdd,hf0,hn0⟩,hfn,hrl⟩,hg⟩:=hg
  replace hg:=aJ hg;obtain⟨L,hL,hg⟩:=hg
  have hJ:=mA hJ
  simp only[Option.some.injEq,Prod.mk.injEq]at hg hJ hdd hfn hrl hL;obtain⟨rfl,rfl,rfl⟩:=hg
  obtain⟨f,rfl⟩:=Int.eq_ofNat_of_zero_le hf0
  obtain⟨n,rfl⟩:=Int.eq_ofNat_of_zero_le hn0
  simp only[U2]at*
  refine⟨J1 rfl,by omega,fun hnone=>?_⟩
  have h1:=hJ.hj
  have hD:=hJ.hd
  simp only at h1 hD
  have hlt: ∀k o,hp k=some o→k<nx:=fun k o hk=>cA hnone hk
  have hjl:=hlt _ _ h1
  have hdl:=hlt _ _ hD.hd
  have hsl:=hlt _ _ hD.hs
  have hml:=hlt _ _ hD.hm
  have hLl:=dEt hL
  refine aA rfl (bA [0,1,2] rfl rfl rfl fun K hK=>?_)
  simp(disch:=omega) only[Try.f30,go_sem,↓reduceIte]
  refine hK _ ?_
  refine aB (aA rfl (bA [0,1,2,8] rfl rfl rfl fun K hK=>?_))
  simp(disch:=omega) only[Try.f30,go_sem,↓reduceIte]
  refine hK _ ?_
  refine aB (aA rfl (aA rfl (bA [0,1,8,12,13] rfl rfl rfl fun K hK=>?_)))
  simp(disch:=omega) only[Try.f30,go_sem,↓reduceIte]
  refine hK _ ?_
  refine aB (iE 8 1 rfl (fF [0,1,8,12,13] ?_))
  simp only[iB,fU,eB,↓reduceIte,Nat.reduceEqDiff]
  refine aR 0 rfl rfl ?_
  refine bR (fun p:RDI=> {fr:=[(0,.op j 0),(1,.i f),(8,.os p.id 0 p.l.length 1 true),(12,.i n),(13,.i p.k)],hp:=upd hp p.id (.cells (c8 p.l) true),nx:=0,cx:=p.c}) (fun p=>p.k≤n∧nx≤p.id∧p.id<p.c∧mM C f p.k=some p.l∧p.c≤nx+20+150*p.k) (fun p=>n-p.k) rfl ⟨⟨0,_,[],_⟩,⟨Nat.zero_le _,by simp only;omega,by simp only;omega,rfl,by simp only;omega⟩,bD rfl rfl (U3 _)⟩ ?_
  rintro⟨k,id,l,c⟩ ⟨hk,hid,hc,hl,hcb⟩ n0
  simp only at hk hid hc hl hcb⊢
  refine aA rfl (bA [14,0,1,8,12,13] rfl rfl rfl fun K hK=>?_)
  simp(disch:=omega) only[Try.f30,go_sem,↓reduceIte]
  refine hK _ ?_
  refine aB (aA rfl (aW (.tmp 14) rfl rfl rfl (fun h=>?_) (fun h=>?_)))
  ·refine aI rfl ?_
   have hkn:k<n:=by omega
   obtain⟨a,bb,r1,r2,r3,r4⟩:=dIi hL k hkn
   rw[hl]at r1
   obtain rfl:=J0 r1
   have hll:=dEt hl
   have hat:atV C ((f:Int)+(k:Int))=0:=by
    unfold atV
    rw[J3 (by rw[hdd];decide),J3 (by omega)]
   have htn:((f:Int)+(k:Int)).toNat=f+k:=by omega
   have hDu:=mK (hD.upd id (.cells (c8 l) true) (by omega) (by omega) (by omega))
   have h1u:upd hp id (.cells (c8 l) true) j=some (.cells [.op d 0,.i sd,.sl b.length (c8 b),.w64 co] true):=by rw[bJ,J3 (by omega)];exact h1
   obtain⟨B,hB⟩: ∃B,upd hp id (.cells (c8 l) true)=B:=⟨_,rfl⟩
   have hBi:B id=some (.cells (c8 l) true):=by rw[←hB,bJ,J4 rfl]
   have hBh: ∀q o,hp q=some o→B q=some o:=fun q o hq=>by have:=hlt q o hq;rw[←hB,bJ,J3 (by omega)];exact hq
   rw[hB]at hDu h1u⊢
   clear h
   refine aQ rfl (aB (aA rfl (aR 1 rfl rfl (aA rfl (bA [0,1,8,9,12,13] rfl rfl rfl fun K hK=>?_)))))
   simp(disch:=omega) only[Try.f30,go_sem,↓reduceIte]
   refine hK _ ?_
   refine aB ?_
   unfold rdV at r2
   have ef:((f+k:Nat):Int)=(f:Int)+(k:Int):=by omega
   rw[ef]at r2
   rcases hgk:iK ((f:Int)+(k:Int)) C.dirty with _|b1
   ·rw[hgk]at r2
    simp only at r2
    refine aA rfl (aC (Γ:=bC [(16,.heap rdG)]) [0,1,8,10,11,12,13] (aH dQy aO) rfl rfl rfl (fun K hK=>?_))
    simp(disch:=omega) only[Try.f30,go_sem,↓reduceIte,h1u,hDu,hat,hgk,htn,r2,r3]
    refine hK _ ?_
    refine aB (aA rfl (aA rfl (bA [28,0,1,8,10,11,12,13] rfl rfl rfl fun K hK=>?_)))
    simp(disch:=omega) only[Try.f30,go_sem,↓reduceIte]
    refine hK _ ?_
    refine aB (eC (.tmp 28) rfl rfl rfl (fun h=>?_) (fun h=>?_))
    ·refine aI rfl ?_
     cases h
    refine aI rfl ?_
    clear h
    refine aQ rfl (aB (bA [0,1,8,12,13] rfl rfl rfl fun K hK=>?_))
    simp(disch:=omega) only[Try.f30,go_sem,↓reduceIte,hBi,iM,aDj]
    refine hK _ ?_
    refine bU (aB (bA [0,1,8,12,13] rfl rfl rfl fun K hK=>?_))
    simp(disch:=omega) only[Try.f30,go_sem,↓reduceIte]
    refine hK _ ?_
    refine bT ?_
    refine⟨⟨k+1,_,l++bb,_⟩,⟨by simp only;omega,?_,?_,r4,?_⟩,by simp only;omega,⟨fun y=> .inr (by simp only[List.length_append,Int.natCast_add,Int.natCast_one];rfl),fun q o hq=>?_,U3 _⟩⟩
    ·simp only;omega
    ·simp only;omega
    ·simp only;omega
    simp only[bJ]at hq
    simp only[bJ]
    split at hq
    ·rename_i e;rw[J4 e];exact hq
    rename_i e
    have:=hlt q o hq
    rw[J3 e,eV,J3 (by omega),bJ,J3 (by omega)]
    exact hBh q o hq
   rw[hgk]at r2
   simp only[Option.some.injEq]at r2
   subst r2
   refine aA rfl (aC (Γ:=bC [(16,.heap rdG)]) [0,1,8,10,11,12,13] (aH dQy aO) rfl rfl rfl (fun K hK=>?_))
   simp(disch:=omega) only[Try.f30,go_sem,↓reduceIte,h1u,hDu,hat,hgk,r3]
   refine hK _ ?_
   refine aB (aA rfl (aA rfl (bA [28,0,1,8,10,11,12,13] rfl rfl rfl fun K hK=>?_)))
   simp(disch:=omega) only[Try.f30,go_sem,↓reduceIte]
   refine hK _ ?_
   refine aB (eC (.tmp 28) rfl rfl rfl (fun h=>?_) (fun h=>?_))
   ·refine aI rfl ?_
    cases h
   refine aI rfl ?_
   clear h
   refine aQ rfl (aB (bA [0,1,8,12,13] rfl rfl rfl fun K hK=>?_))
   simp(disch:=omega) only[Try.f30,go_sem,↓reduceIte,hBi,iM,aDj]
   refine hK _ ?_
   refine bU (aB (bA [0,1,8,12,13] rfl rfl rfl fun K hK=>?_))
   simp(disch:=omega) only[Try.f30,go_sem,↓reduceIte]
   refine hK _ ?_
   refine bT ?_
   refine⟨⟨k+1,_,l++b1,_⟩,⟨by simp only;omega,?_,?_,r4,?_⟩,by simp only;omega,⟨fun y=> .inr (by simp only[List.length_append,Int.natCast_add,Int.natCast_one];rfl),fun q o hq=>?_,U3 _⟩⟩
   ·simp only;omega
   ·simp only;omega
   ·simp only;omega
   simp only[bJ]at hq
   simp only[bJ]
   split at hq
   ·rename_i e;rw[J4 e];exact hq
   rename_i e
   have:=hlt q o hq
   rw[J3 e,eV,J3 (by omega),bJ,J3 (by omega)]
   exact hBh q o hq
  refine aI rfl ?_
  obtain rfl:k=n:=by omega
  rw[hL]at hl
  obtain rfl:=J0 hl
  refine bF 0 rfl rfl (aY (aZ (bE (aB (aA rfl (pS 8 id 0 _ 1 rfl (by rw[bJ,J4 rfl]) (by rw[iM];omega) ?_))))))
  rw[J9,List.take_of_length_le (by rw[iM];omega)]
  refine bA [6,7] rfl rfl rfl fun K hK=>?_
  simp(disch:=omega) only[Try.f30,go_sem,↓reduceIte]
  refine hK _ ?_
  refine aB (aS rfl ?_)
  exact⟨rfl,fun q o hq=>by {have:=hlt q o hq;simp only[bJ];rw[J3 (by omega)];exact hq},by simp only;omega⟩
 cases hg
theorem dKn:bX Try.prog GLh 30 (.heap dIa):=⟨⟨_,Try.func30,rfl,rfl⟩,dOt⟩
end Go.AX

namespace Go.AX
open Go Go.Proofs
set_option maxRecDepth 8000
def dFx:W64:=8316291910762508337#64
def hd1 (z:Nat):List B8:=jM (List.replicate z 0#8) 0 (aMv 8 dFx)
def hd2 (z:Nat) (side:Int):List B8:=(hd1 z).set 8 (BitVec.ofInt 8 side)
def hd3 (z:Nat) (side:Int) (n:Nat):List B8:=jM (hd2 z side) 9 (aMv 8 (BitVec.ofInt 64 n))
def hd4 (z:Nat) (side:Int) (n:Nat) (com:W64):List B8:=jM (hd3 z side n) 17 (aMv 8 (com+1#64))
def hdV (z:Nat) (side:Int) (n:Nat) (com:W64):List B8:=jM (hd4 z side n com) 25 (aMv 4 (BitVec.setWidth 64 (dGd ((hd4 z side n com).take 25))))
theorem dIq {z:Nat} (h:64≤z):(hd1 z).length=z:=by rw[hd1,dEh _ _ _ (by rw[bH,List.length_replicate];omega),List.length_replicate]
theorem dGq {z:Nat} (h:64≤z) (side:Int):(hd2 z side).length=z:=by rw[hd2,List.length_set,dIq h]
theorem dGp {z:Nat} (h:64≤z) (side:Int) (n:Nat):(hd3 z side n).length=z:=by rw[hd3,dEh _ _ _ (by rw[bH,dGq h];omega),dGq h]
theorem dGo {z:Nat} (h:64≤z) (side:Int) (n:Nat) (com:W64):(hd4 z side n com).length=z:=by rw[hd4,dEh _ _ _ (by rw[bH,dGp h];omega),dGp h]
theorem dEm {z:Nat} (h:64≤z) (side:Int) (n:Nat) (com:W64):(hdV z side n com).length=z:=by rw[hdV,dEh _ _ _ (by rw[bH,dGo h];omega),dGo h]
theorem hdk1 (z:Nat):jM (List.replicate z 0#8) 0 (aMv 8 8316291910762508337#64)=hd1 z:=(rfl)
theorem hdk2 (z:Nat) (side:Int):(hd1 z).set 8 (BitVec.ofInt 8 side)=hd2 z side:=(rfl)
theorem hdk3 (z:Nat) (side:Int) (n:Nat):jM (hd2 z side) 9 (aMv 8 (BitVec.ofInt 64 n))=hd3 z side n:=(rfl)
theorem hdk4 (z:Nat) (side:Int) (n:Nat) (com:W64):jM (hd3 z side n) 17 (aMv 8 (com+1#64))=hd4 z side n com:=(rfl)
theorem hdk5 (z:Nat) (side:Int) (n:Nat) (com:W64):jM (hd4 z side n com) 25 (aMv 4 (BitVec.setWidth 64 (dGd ((hd4 z side n com).take 25))))=hdV z side n com:=(rfl)
theorem dIn {hp:H} {j:Nat} {t:JT} (h:mE hp j t) (C:DC):mE (bO t.J.d t.s t.m C hp) j ⟨t.J,t.s,t.m,C⟩:=
 ⟨by rw[mH _ _ _ _ _ _ h.ne.1 h.ne.2.1 h.ne.2.2];exact h.hj,dEp h.hd.ne.1 h.hd.ne.2.1 h.hd.ne.2.2.1,h.ne⟩
set_option maxHeartbeats 4000000 in
theorem dMh {Q:Exit→S→Prop} {j d s m z nx o:Nat} {sd side:Int} {b bb:List B8} {co:W64} {C:DC} {hp:H} (hh: ∀k o',hp k=some o'→k<o) (hJ:mE hp j ⟨⟨d,sd,bb,co⟩,s,m,C⟩) (hz:64≤z) (hz2:z≤4096) (_:b.length≤1000000000)
  (hQ: ∀id nx2 cx2,o≤id→id<cx2→cx2≤o+2000→Awp Try.prog GLh Try.f42.ntmps (cr (cr (cr (cr (cr (cr (cr (cr (cr (cr (aE Try.f42))))))))))) {fr:=[(0,.op j 0),(1,.i side),(2,.sl b.length (c8 b)),(14,.os id 0 z 1 true)],hp:=upd hp id (.cells (c8 (hdV z side b.length co)) true),nx:=nx2,cx:=cx2} Q):
  Awp Try.prog GLh Try.f42.ntmps (cr (cr (cr (cr (aE Try.f42))))) {fr:=[(0,.op j 0),(1,.i side),(2,.sl b.length (c8 b)),(9,.i z)],hp:=hp,nx:=nx,cx:=o} Q:=by
 have h1:=hJ.hj
 simp only at h1
 have hjl:=hh _ _ h1
 have l1:=dIq hz
 have l2:=dGq hz side
 have l3:=dGp hz side b.length
 have l4:=dGo hz side b.length co
 have l5:=dEm hz side b.length co
 have l6:((hd4 z side b.length co).take 25).length=25:=by rw[List.length_take,l4];omega
 refine aA rfl ?_
 refine bA [0,1,2,14] rfl rfl rfl fun K hK=>?_
 simp(disch:=omega) only[Try.f42,go_sem,↓reduceIte,dKc,U2]
 refine hK _ ?_
 refine aB ?_
 refine aA rfl ?_
 refine aC (Γ:=bC [(57,.heap (dP bIe))]) [0,1,2,14] (aH dHd aO) rfl rfl rfl (fun K hK=>?_)
 simp(disch:=omega) only[Try.f42,go_sem,↓reduceIte,List.length_replicate,hdk1]
 refine hK _ ?_
 refine aB ?_
 refine aA rfl ?_
 refine bA [0,1,2,14] rfl rfl rfl fun K hK=>?_
 simp(disch:=omega) only[Try.f42,go_sem,↓reduceIte,iM,yB,l1,hdk2]
 refine hK _ ?_
 refine aB ?_
 refine aA rfl ?_
 refine aC (Γ:=bC [(57,.heap (dP bIe))]) [0,1,2,14] (aH dHd aO) rfl rfl rfl (fun K hK=>?_)
 simp(disch:=omega) only[Try.f42,go_sem,↓reduceIte,l2,hdk3]
 refine hK _ ?_
 refine aB ?_
 refine aA rfl ?_
 refine aYa (Γ:=bC [(57,.heap (dP bIe))]) (fun _=>false) [] (fun k=>if k=7 then 0 else 2) [0,1,2,14] mixed (aH dHd aO) rfl rfl rfl (by kernel_rfl) (fun K hK=>?_)
 simp(maxSteps:=400000) (disch:=omega) only[Try.f42,go_sem,and_self,and_true,true_and,↓reduceIte,h1,l3,hdk4]
 refine hK _ ?_
 refine aB ?_
 refine aA rfl ?_
 refine aYa (Γ:=bC [(10,.pure true dFf),(57,.heap (dP bIe))]) (fun _=>false) [] (fun k=>if k=6 then 0 else if k=4 then 0 else 2) [0,1,2,14] mixed (aH dHe (aH dHd aO)) rfl rfl rfl (by kernel_rfl) (fun K hK=>?_)
 simp(maxSteps:=400000) (disch:=omega) only[Try.f42,go_sem,and_true,true_and,↓reduceIte,iM,rH,l4,l6,hdk5]
 refine hK _ ?_
 refine aB ?_
 exact hQ (o+1) _ _ (by omega) (by omega) (by omega)
end Go.AX
