/-
  AX, part AyC: calls that panic: what has been done is left, and all own objects are given up. AX, part AyD: a region that draws its order and ends with a call that panics. Data, part A: what gives up reading. AX, part AyE: functions that turn one own object in place, answer with what may be read from then on, or panic. Data, part B: bytes taken off a reader. Data, part C: numbers, texts, all the rest, off a reader. Data, part D: a slice cloned. Data, part E: all the rest, texts, off a reader. AX, part AyF: functions that defer one closure, which recovers. Data, part F: a name read off bytes. Data, part G: a name's labels read. AX, part AyG: a region that draws its order, walked in each order that it may take (where operations meet that need not wait for each other, such as a load of one own object and a store to another). Data, part H: a name read, or what is wrong with it. Data, part I: a name read, its ends caught. AX, part AyH: a plain function that is handed a closure over an own object. Data, part J: name.Open, and a reader's name. Data, part K: a name taken off a reader. Data, part L: texts taken off a reader. Data, part M: the shape of data that is asked nothing more. AX, part AyI: a plain function that is handed something and a closure over an own object. Data, part N: what reads whole data, of the kinds that have no sort. Data, part O: whole data read, and what gives up caught. Data, part P: a SOA's data read. Data, part Q: Soa, Key, Target, Check. Data, part R: data checked. Data, part S: names' bytes and small letters.
-/
import Derived.Test.YtndohkbppgmbjaaBB
import Derived.WalkKit
import Derived.Tactics
import Derived.Tactics2
import Derived.Defers
import Derived.Recover
namespace Go.AX
open Go
def dE (P:Program) (GL:Nat→Option (List AV)) (f:FuncId) (ch:List PanicEntry) (g:List AV→H→Nat→Option (H×Nat)):Prop:=
 ∀(c:Ctx) (σ:Nat→Loc) (I:Nat→Prop) (w:World) (hp:H) (nx:Nat) (args:List AV) (vals:Array Value) (hp':H) (nx':Nat),
  c.GL=GL→Inv c σ I w hp (fun id=>nx≤id)→vals.size=args.length→(∀i (_h:i<args.length),Rel σ I w args[i] (vals.getD i undef))→g args hp nx=some (hp',nx')→
  nx≤nx'∧Calls P f vals w fun e w'=> ∃σ' I',e=.panicked ch∧Inv c σ' I' w' hp' (fun id=>nx'≤id)∧Grow σ I w σ' I' w'∧(∀id,id<nx→σ id=.unset→σ' id=.unset)
def bIo (GL:Nat→Option (List AV)) (f:FuncId) (g:List AV→H→Nat→Option (H×Nat)) (Z:S→Prop) (o:LOp) (t:S):Prop:=
 gdS t.fr o.g=some true∧match o.op with
  | .call c=>match c.callee with
   | .value fo=>match ev GL t.fr fo with
    | .fn f' caps=>f'=f∧∃p,g (c.args.toList.map (ev GL t.fr)++caps) t.hp t.cx=some p∧Z {fr:=t.fr,hp:=p.1,nx:=t.nx,cx:=p.2}
    |_=>False
   |_=>False
  |_=>False
section
variable {P : Program} {GL : Nat → Option (List AV)} {nt : Nat} {Q : Exit → S → Prop}
theorem bBh {ops:Array Oper} {o:Oper} {fr:List (Nat×AV)} {a:Act} {σ:Nat→Loc} {I:Nat→Prop} {w:World} {b:Bool} (hb:gdO ops fr o=some b) (hf: ∀t,Rel σ I w (dG fr t) (a.tmps.getD t undef)):Region.wanted o (yielded ops a.tmps)=b:=by
 unfold gdO at hb
 cases hgd:o.guard with
 |none=>rw[hgd]at hb;obtain rfl:=J0 hb;simp[Region.wanted,hgd]
 |some jw=>
  obtain⟨j,want⟩:=jw
  rw[hgd]at hb
  simp only at hb
  split at hb
  ·rename_i t ht
   simp only[Region.wanted,hgd]
   exact aHc (s:= {fr:=fr,hp:=fun _=>none,nx:=0,cx:=0}) ht hb hf
  cases hb
theorem bNa (ops:Array Oper) (fr:List (Nat×AV)) (o:Oper):gdO ops fr o=gdS fr (aG ops o).g:=by
 unfold gdO aG
 cases o.guard with
 |none=>rfl
 |some p=>
  simp only[Option.map_some]
  cases (ops[p.1]?).bind (·.dst)<;>rfl
theorem bIn {c:Ctx} {σ0:Nat→Loc} {I0:Nat→Prop} {w0:World} {rem:Nat→Prop} {t:S} {a:Act} {w:World} {ops:Array Oper} {o:Oper} {f:FuncId} {ch:List PanicEntry} {g:List AV→H→Nat→Option (H×Nat)} {K:Act→World→Prop} {Q':Exit→Act→World→Prop}
  (hpan:dE P c.GL f ch g) (hcall:cJ P f) {Z:S→Prop} (hc:bIo c.GL f g Z (aG ops o) t) (hR:R c σ0 I0 w0 rem t a w)
  (hQ: ∀t' a' w',Z t'→R c σ0 I0 w0 (fun _=>False) t' a' w'→Q' (.panic ch) a' w'):
  Region.wanted o (yielded ops a.tmps)=true∧o.wp P a w K Q':=by
 obtain⟨hgd,hc⟩:=hc
 obtain⟨⟨σ,I,hi,hg,hf⟩,hd,hsz,hlt,hlt0⟩:=hR
 refine⟨bBh (by rw[bNa];exact hgd) hf,?_⟩
 have hρ:=aJt hi hf
 obtain⟨dst,op,type,pos,after,guard⟩:=o
 simp only[aG]at hc
 split at hc
 rotate_left
 ·exact hc.elim
 rename_i cl
 obtain⟨callee,cargs,argTypes⟩:=cl
 simp only at hc
 split at hc
 rotate_left
 ·exact hc.elim
 rename_i fo
 split at hc
 rotate_left
 ·exact hc.elim
 rename_i f' caps hfo
 obtain⟨rfl,⟨hp',nx'⟩,hgt,hZ⟩:=hc
 have hfv:=hρ fo
 rw[hfo]at hfv
 have hv: ∃vs:Array Value,a.eval fo=.func (.func f') #[] vs∧vs.size=caps.length∧∀i (_h:i<caps.length),Rel σ I w caps[i] (vs.getD i undef):=by
  generalize a.eval fo=u at hfv
  cases hfv with
  |fn _ _ vs h1 h2=>exact⟨vs,rfl,h1,h2⟩
 obtain⟨vs,hv,hvs,hvr⟩:=hv
 have hsize:(cargs.map a.eval++vs).size=(cargs.toList.map (ev c.GL t.fr)++caps).length:=by simp[hvs]
 have hargs: ∀i (_h:i<(cargs.toList.map (ev c.GL t.fr)++caps).length),Rel σ I w (cargs.toList.map (ev c.GL t.fr)++caps)[i] ((cargs.map a.eval++vs).getD i undef):=by
  intro i hi'
  rw[List.getElem_append]
  rw[Array.getD_eq_getD_getElem?,Array.getElem?_append]
  split
  ·rename_i hlt
   rw[J4 (by simpa using hlt)]
   have:=aAc (l:=cargs.toList) hρ i hlt
   rw[fI,List.getD_eq_getElem?_getD]at this
   have e:(Array.map a.eval cargs)[i]? =(List.map a.eval cargs.toList)[i]?:=by rw[←Array.toList_map,Array.getElem?_toList]
   rw[e];exact this
  ·rename_i hge
   rw[J3 (by simpa using hge)]
   simp only[List.length_map,Array.length_toList,Array.size_map]at hge⊢
   have:=hvr (i-cargs.size) (by simp at hi';omega)
   rw[Array.getD_eq_getD_getElem?]at this
   exact this
 obtain⟨fn,h1,h2,h3⟩:=hcall
 have hrun:(execOp a.eval {dst:=dst,op:=.call {callee:=.value fo,args:=cargs,argTypes:=argTypes},type:=type,pos:=pos,after:=after,guard:=guard}).run P w=.ok (.enter f' (cargs.map a.eval++vs)) w:=by
  simp only[execOp,resolve,hv,Deferred.ofValue,Array.empty_append,Sem.run_bind,Sem.run_pure,Result.andThen_ok,invoke,callFunc,run_program,h1,h2,h3,Bool.false_eq_true,if_false]
 unfold Oper.wp
 rw[hrun]
 obtain⟨hle,hcalls⟩:=hpan c σ I w t.hp t.cx _ _ hp' nx' rfl (hi.mono_un fun id hid=> .inl hid) hsize hargs hgt
 refine hcalls.mono ?_
 rintro e w' ⟨σ',I',rfl,hinv,hgr,hun⟩
 refine hQ _ a w' hZ ⟨⟨σ',I',{hinv with un:=fun id hid=>?_},hg.trans hgr,fun k=>(hf k).grow hgr⟩,hd,hsz,fun _ h=>h.elim,fun id hid=>⟨(hlt0 id hid).1,Nat.lt_of_lt_of_le (hlt0 id hid).2 hle⟩⟩
 rcases hid with hid|⟨k,hk,_⟩|hid
 ·exact hinv.un id hid
 ·exact hk.elim
 ·exact hun id (hlt0 id hid).2 (hi.un id (.inr (.inr hid)))
theorem aMj {Γ:Env} {c:Ctx} {σ0:Nat→Loc} {I0:Nat→Prop} {w0:World} {md:Nat→Nat} (hΓ:eJ P c.GL Γ) {ops:Array Oper} {Q':Exit→Act→World→Prop} (hdst:fK c.nt ops.toList=true) {t:S} {o:Oper} {post:List Oper}
  {f:FuncId} {ch:List PanicEntry} {g:List AV→H→Nat→Option (H×Nat)} (hpan:dE P c.GL f ch g) (hcall:cJ P f) {Z:S→Prop} (hc:bIo c.GL f g Z (aG ops o) t)
  (hQ: ∀t' a' w',Z t'→R c σ0 I0 w0 (fun _=>False) t' a' w'→Q' (.panic ch) a' w'):
  ∀(l:List Oper) (k:Nat) (s:S) (a:Act) (w:World),(∀o∈l,o∈ops.toList)→k+l.length<ops.size→oT P Γ c.GL md ops k l s=some t→R c σ0 I0 w0 (fun m=>k≤m∧m<ops.size) s a w→wpList P ops Q' (l++o::post) a w
 |[],k,s,a,w,_,hk,h,hR=>by
  obtain rfl:=J0 h
  obtain⟨h1,h2⟩:=bIn (K:=wpList P ops Q' post) (ops:=ops) hpan hcall hc hR hQ
  rw[List.nil_append]
  unfold wpList
  rw[J4 h1];exact .inl h2
 |x::r,k,s,a,w,hmem,hk,h,hR=>by
  simp only[oT]at h
  replace h:=aJ h;obtain⟨s1,hs1,h⟩:=h
  simp only[List.length_cons]at hk
  have:=fX (K:=wpList P ops Q' (r++o::post)) (Q:=Q') hΓ hs1 (lU hdst (hmem x (by simp))) (rem:=fun m=>k≤m∧m<ops.size) ⟨U3 _,by omega⟩ hR (fun a' w' hR'=>
   aMj hΓ hdst hpan hcall hc hQ r (k+1) s1 a' w' (fun o ho=>hmem o (by simp[ho])) (by omega) h (hR'.un fun m hm=>⟨⟨by omega,hm.2⟩,by omega⟩))
  rw[List.cons_append]
  unfold wpList
  split
  ·rename_i hw;rw[J4 hw]at this;exact .inl this
  ·rename_i hw;rw[J3 hw]at this;exact this
def bVn (GL:Nat→Option (List AV)) (f:FuncId) (g:List AV→H→Nat→Option (H×Nat)) (Z:S→Prop):Option LOp→S→Prop
 |some o,t=>bIo GL f g Z o t
 |none,_=>False
def cJt (f:FuncId) (g:List AV→H→Nat→Option (H×Nat)) (Z:S→Prop) (args:List AV) (fr:List (Nat×AV)) (hp:H) (nx cx:Nat):AV→Prop
 | .fn f' caps=>f'=f∧∃p,g (args++caps) hp cx=some p∧Z {fr:=fr,hp:=p.1,nx:=nx,cx:=p.2}
 |_=>False
theorem cSi (GL:Nat→Option (List AV)) (f:FuncId) (g:List AV→H→Nat→Option (H×Nat)) (Z:S→Prop) (d:Option Tmp) (fo:Operand) (args:Array Operand) (ty:Array TypeId) (fr:List (Nat×AV)) (hp:H) (nx cx:Nat) (gd:Option (Option Tmp×Bool)):
  bVn GL f g Z (some {d:=d,op:=.call {callee:=.value fo,args:=args,argTypes:=ty},g:=gd}) {fr:=fr,hp:=hp,nx:=nx,cx:=cx}=(gdS fr gd=some true∧cJt f g Z (args.toList.map (ev GL fr)) fr hp nx cx (ev GL fr fo)):=by
 simp only[bVn,bIo]
 unfold cJt
 cases ev GL fr fo<;>rfl
theorem dXs (f f':FuncId) (g:List AV→H→Nat→Option (H×Nat)) (Z:S→Prop) (args caps:List AV) (fr:List (Nat×AV)) (hp:H) (nx cx:Nat):cJt f g Z args fr hp nx cx (.fn f' caps)=(f'=f∧∃p,g (args++caps) hp cx=some p∧Z {fr:=fr,hp:=p.1,nx:=nx,cx:=p.2}):=(rfl)
theorem bIm {o:Option (H×Nat)} {Z:H×Nat→Prop} {p:H×Nat} (h:o=some p):(∃q,o=some q∧Z q)=Z p:=by
 subst h
 exact propext ⟨fun⟨_,e,h⟩=>by obtain rfl:=J0 e;exact h,fun h=>⟨p,rfl,h⟩⟩
theorem bP (p:H×Nat) (Z:H×Nat→Prop):(∃q,some p=some q∧Z q)=Z p:=bIm rfl
theorem dCn {s:S} {code:Code} {Γ:Env} (k:Nat) {f:FuncId} {ch:List PanicEntry} {g:List AV→H→Nat→Option (H×Nat)} (hpan:dE P GL f ch g) (hcall:cJ P f) (hΓ:eJ P GL Γ) (hc:eEs code=true) (hd:lZ code=false) (ho:fK nt (aM code).toList=true)
  (h: ∀Z:S→Prop,(∀t,Q (.panic ch) t→Z t)→nH (aRf P Γ GL (fun _=>0) (rN code) ((aF code).take k) (cX (rN code) s)) (bVn GL f g Z (aF code)[k]?)):Awp P GL nt code s Q:=by
 replace h:=h (Q (.panic ch)) fun _ h=>h
 cases code with
 |region id ops dr=>
  simp only[lZ]at hd
  subst hd
  intro c h1 h2 σ0 I0 w0 a w hR
  subst h1;subst h2
  have hk: ∃o,ops.toList[k]? =some o:=by
   cases e:ops.toList[k]? with
   |some o=>exact⟨o,rfl⟩
   |none=>
    have:(aF (.region id ops false))[k]? =none:=by simp only[aF,aM,List.getElem?_map,e,Option.map_none]
    rw[this]at h
    unfold nH at h
    split at h
    ·exact h.elim
    ·exact h.elim
  obtain⟨o,hk⟩:=hk
  have hl:(aF (.region id ops false))[k]? =some (aG ops o):=by simp only[aF,aM,List.getElem?_map,hk,Option.map_some]
  have ht:(aF (.region id ops false)).take k=(ops.toList.take k).map (aG ops):=by simp only[aF,aM,List.map_take]
  rw[hl,ht]at h
  have hr:aRf P Γ c.GL (fun _=>0) (rN (.region id ops false)) ((ops.toList.take k).map (aG ops)) (cX (rN (.region id ops false)) s)=oT P Γ c.GL (fun _=>0) ops 0 (ops.toList.take k) (cX ops.size s):=by
   rw[aBn];rfl
  rw[hr]at h
  have hex: ∃t,oT P Γ c.GL (fun _=>0) ops 0 (ops.toList.take k) (cX ops.size s)=some t∧bIo c.GL f g (Q (.panic ch)) (aG ops o) t:=by
   unfold nH at h
   split at h
   ·rename_i t e;exact⟨t,e,h⟩
   ·exact h.elim
  obtain⟨t,e1,e2⟩:=hex
  have hlt:k<ops.toList.length:=(List.getElem?_eq_some_iff.1 hk).1
  have hsplit:ops.toList=ops.toList.take k++o::ops.toList.drop (k+1):=by
   have:=(List.getElem?_eq_some_iff.1 hk).2
   rw[←this,←List.drop_eq_getElem_cons hlt,List.take_append_drop]
  refine wp_region_list ?_
  have:=aMj (post:=ops.toList.drop (k+1)) (Q':=fun e a' w'=> ∃s',Q e s'∧R c σ0 I0 w0 (fun _=>False) s' a' w') hΓ ho hpan hcall e2 (fun t' a' w' hZ hR'=>⟨t',hZ,hR'⟩) (ops.toList.take k) 0 (cX ops.size s) a w (fun _ h=>List.mem_of_mem_take h) (by show 0+(ops.toList.take k).length<ops.size;rw[Nat.zero_add,List.length_take];have:ops.toList.length=ops.size:=Array.length_toList;omega) e1 ((hR.enter ops.size).un fun _ hm=>hm.2)
  rw[←hsplit]at this;exact this
 |_=>cases hc
end
end Go.AX

namespace Go.AX
open Go
section
variable {P : Program} {Γ : Env} {c : Ctx} {σ0 : Nat → Loc} {I0 : Nat → Prop} {w0 : World} {md : Nat → Nat} {ops : Array Oper}
theorem bBy (hΓ:eJ P c.GL Γ) {Q:Exit→Act→World→Prop} (hdst:fK c.nt ops.toList=true) (hok:sF P Γ md ops=true) {m:Nat} {o:Oper} (hm:ops[m]? =some o) (hn:ops.size=m+1)
  (hb: ∀j,j<m→((Region.before ops).getD m 0).testBit j=true) {s':S}
  (hP: ∀a w,R c σ0 I0 w0 (fun k=>k=m) s' a w→Region.wanted o (yielded ops a.tmps)=true∧∀K,o.wp P a w K Q):
  ∀(fuel:Nat) (listed:Array Bool) (s sf:S) (a:Act) (w:World),listed.size=ops.size→listed.getD m true=false→(unl ops.size listed).length≤fuel→
   (∀m o,listed.getD m false=true→ops[m]? =some o→∀e∈o.after,Region.binds .any e=true→listed.getD e.on false=true)→
   dQ P Γ c.GL md ops ((unl ops.size listed).filter (· !=m)) s=some sf→gC s' sf→R c σ0 I0 w0 (fun k=>k∈unl ops.size listed) s a w→wpAny P .any ops Q fuel listed a w:=by
 have hchk: ∀j y,ops[j]? =some y→(∀e∈y.after,Region.binds .any e=true→e.on<j)∧∀i x,i<j→ops[i]? =some x→((Region.before ops).getD j 0).testBit i=true∨(x.apart ops y=true∧eEq i j (tI P Γ (md i) x.op) (tI P Γ (md j) y.op)=true):=by
  intro j y hy
  have hlt:=(Array.getElem?_eq_some_iff.1 hy).1
  have h:=List.all_eq_true.1 hok j (List.mem_range.2 hlt)
  simp only[hy,Bool.and_eq_true]at h
  refine⟨fun e he hb=>?_,fun i x hi hx=>?_⟩
  ·have:=Array.all_eq_true_iff_forall_mem.1 h.1 e he
   simpa [hb]using this
  ·have:=List.all_eq_true.1 h.2 i (List.mem_range.2 hi)
   simp only[hx,Bool.or_eq_true,Bool.and_eq_true]at this
   exact this
 have mem_unl: ∀(listed:Array Bool) i,i∈unl ops.size listed↔i<ops.size∧listed.getD i true=false:=by
  intro listed i;simp[unl]
 have noready: ∀(listed:Array Bool),listed.size=ops.size→Region.ready .any ops listed=[]→unl ops.size listed=[]:=by
  intro listed hsz hr
  refine List.eq_nil_iff_forall_not_mem.2 fun i=>?_
  induction i using Nat.strongRecOn with
  |_ i ih=>
   intro hi
   obtain⟨hlt,hun⟩:=(mem_unl listed i).1 hi
   have:i∈Region.ready .any ops listed:=by
    rw[mem_ready]
    refine⟨hun,ops[i],Array.getElem?_eq_getElem hlt,fun e he hb=>?_⟩
    have hlt':=(hchk i _ (Array.getElem?_eq_getElem hlt)).1 e he hb
    have hn:=ih e.on hlt'
    rw[mem_unl]at hn
    have hs2:e.on<listed.size:=by omega
    rw[Array.getD_eq_getD_getElem?,Array.getElem?_eq_getElem hs2]at hn⊢
    simp only[Option.getD_some]at hn⊢
    cases hv:listed[e.on]with
    |true=>rfl
    |false=>exact absurd ⟨by omega,hv⟩ hn
   rw[hr]at this;cases this
 have hmu: ∀(listed:Array Bool),listed.getD m true=false→m∈unl ops.size listed:=fun listed h=>(mem_unl listed m).2 ⟨by omega,h⟩
 intro fuel
 induction fuel with
 |zero=>
  intro listed s sf a w hsz hml hlen hdc hrun heq hR
  have h0:unl ops.size listed=[]:=List.eq_nil_of_length_eq_zero (by omega)
  have:=hmu listed hml
  rw[h0]at this;cases this
 |succ fuel ih=>
  intro listed s sf a w hsz hml hlen hdc hrun heq hR
  refine⟨fun hr=>?_,fun i hi=>?_⟩
  ·have h0:=noready listed hsz hr
   have:=hmu listed hml
   rw[h0]at this;cases this
  obtain⟨hun,x,hx,hall⟩:=mem_ready.1 hi
  have hlt:=(Array.getElem?_eq_some_iff.1 hx).1
  have hmem:i∈unl ops.size listed:=(mem_unl listed i).2 ⟨hlt,hun⟩
  have hanc: ∀m j,Anc ops m j→(∀o,ops[m]? =some o→∀e∈o.after,Region.binds .any e=true→listed.getD e.on false=true)→listed.getD j false=true:=by
   intro m j ha
   induction ha with
   |edge ho he hb=>exact fun h=>h _ ho _ he hb
   |step ho he hb _ ih2=>exact fun h=>ih2 fun o ho' e' he' hb'=>hdc _ o (h _ ho _ he hb) ho' e' he' hb'
  by_cases him:i=m
  ·subst him
   rw[hm]at hx
   obtain rfl:=J0 hx
   have hlisted: ∀j,j<i→j∉unl ops.size listed:=by
    intro j hj hju
    have h1:=hanc i j (oR ops i j (hb j hj)) (fun o' ho e he hb=>by rw[hm]at ho;obtain rfl:=J0 ho;exact hall e he hb)
    have h2:=((mem_unl listed j).1 hju).2
    have hs2:j<listed.size:=by omega
    rw[Array.getD_eq_getD_getElem?,Array.getElem?_eq_getElem hs2]at h1 h2
    simp only[Option.getD_some]at h1 h2
    rw[h1]at h2;cases h2
   have honly: ∀j,j∈unl ops.size listed→j=i:=by
    intro j hj
    have:=((mem_unl listed j).1 hj).1
    apply Classical.byContradiction
    intro hne
    exact hlisted j (by omega) hj
   have hnil:(unl ops.size listed).filter (· !=i)=[]:=by
    refine List.filter_eq_nil_iff.2 fun j hj=>?_
    rw[honly j hj];simp
   rw[hnil]at hrun
   obtain rfl:=J0 hrun
   obtain⟨h1,h2⟩:=hP a w ((hR.un fun k hk=>by subst hk;exact hmem).eqv heq.symm)
   unfold wpOp
   simp only[hm]
   rw[J4 h1];exact .inl (h2 _)
  ·have hmem2:i∈(unl ops.size listed).filter (· !=m):=List.mem_filter.2 ⟨hmem,by simpa using him⟩
   obtain⟨l1,l2,hl⟩:=List.append_of_mem hmem2
   have hpw:((unl ops.size listed).filter (· !=m)).Pairwise (· < ·):=List.Pairwise.filter _ (List.Pairwise.filter _ List.pairwise_lt_range)
   rw[hl]at hpw hrun
   have hlt1: ∀j∈l1,j<i:=fun j hj=>(List.pairwise_append.1 hpw).2.2 j hj i (by simp)
   have hlt2: ∀j∈l2,i<j:=fun j hj=>(List.pairwise_cons.1 (List.pairwise_append.1 hpw).2.1).1 j hj
   obtain⟨s1,sf1,f1,f2,f3⟩:=wK hx l1 l2 (fun j hj=>by
    have hjm:j∈unl ops.size listed:=(List.mem_filter.1 (show j∈(unl ops.size listed).filter (· !=m)by rw[hl];simp[hj])).1
    obtain⟨hjlt,hjun⟩:=(mem_unl listed j).1 hjm
    refine⟨by have:=hlt1 j hj;omega,ops[j],Array.getElem?_eq_getElem hjlt,?_⟩
    rcases(hchk i x hx).2 j _ (hlt1 j hj) (Array.getElem?_eq_getElem hjlt)with h|h
    ·have:=hanc i j (oR ops i j h) (fun o ho e he hb=>by rw[hx]at ho;obtain rfl:=J0 ho;exact hall e he hb)
     have hs2:j<listed.size:=by omega
     rw[Array.getD_eq_getD_getElem?,Array.getElem?_eq_getElem hs2]at hjun this
     simp only[Option.getD_some]at hjun this
     rw[hjun]at this;cases this
    ·exact h) hrun
   have e0:unl ops.size (listed.setIfInBounds i true)=(unl ops.size listed).filter (fun k=>k !=i):=by
    unfold unl
    rw[List.filter_filter]
    refine List.filter_congr fun k hk=>?_
    by_cases hki:k=i
    ·subst hki
     rw[Array.getD_eq_getD_getElem?,Array.getElem?_setIfInBounds_self_of_lt (by omega)];simp
    ·rw[getD_set_ne true (Ne.symm hki)]
     simp[hki]
   have hnew:(unl ops.size (listed.setIfInBounds i true)).filter (· !=m)=l1++l2:=by
    have e1:(unl ops.size (listed.setIfInBounds i true)).filter (· !=m)=((unl ops.size listed).filter (· !=m)).filter (fun k=>k !=i):=by
     rw[e0,List.filter_filter,List.filter_filter]
     refine List.filter_congr fun k _=>Bool.and_comm _ _
    rw[e1,hl,List.filter_append,List.filter_cons]
    simp only[bne_self_eq_false,Bool.false_eq_true,if_false]
    congr 1
    ·exact List.filter_eq_self.2 fun k hk=>by have:=hlt1 k hk;simp;omega
    ·exact List.filter_eq_self.2 fun k hk=>by have:=hlt2 k hk;simp;omega
   have hlen2:(unl ops.size (listed.setIfInBounds i true)).length<(unl ops.size listed).length:=by
    rw[e0]
    refine Nat.lt_of_le_of_ne (List.length_filter_le _ _) fun e=>?_
    have:=List.length_filter_eq_length_iff.1 e i hmem
    simp at this
   have hstep:=fX (K:=wpAny P .any ops Q fuel (listed.setIfInBounds i true)) (Q:=Q) (ops:=ops) hΓ f1 (lU hdst (Array.mem_toList_iff.2 (Array.mem_of_getElem? hx))) (rem:=fun k=>k∈unl ops.size listed) hmem hR (fun a' w' hR'=>
    ih (listed.setIfInBounds i true) s1 sf1 a' w' (by simpa using hsz) (by rw[getD_set_ne true him];exact hml) (by omega) (fun m' o' hm' ho e he hb=>by
      by_cases hmi:m'=i
      ·subst hmi
       rw[hx]at ho;obtain rfl:=J0 ho
       exact getD_set_true (hall e he hb)
      ·rw[getD_set_ne false (Ne.symm hmi)]at hm'
       exact getD_set_true (hdc m' o' hm' ho e he hb))
     (by rw[hnew];exact f2) (heq.trans f3) (hR'.un fun k hk=>by
      rw[e0,List.mem_filter]at hk
      exact⟨hk.1,by simpa using hk.2⟩))
   unfold wpOp
   simp only[hx]
   split
   ·rename_i hw;rw[J4 hw]at hstep;exact .inl hstep
   ·rename_i hw;rw[J3 hw]at hstep;exact hstep
end
def cRj (c:Code) (m:Nat):Bool:=(List.range m).all fun j=>((Region.before (aM c)).getD m 0).testBit j
theorem dCo {P:Program} {GL:Nat→Option (List AV)} {nt:Nat} {Q:Exit→S→Prop} {s:S} {code:Code} {Γ:Env} (k:Nat) (md:Nat→Nat) {f:FuncId} {ch:List PanicEntry} {g:List AV→H→Nat→Option (H×Nat)} (hm:P.follows .mixedOrders=true) (hpan:dE P GL f ch g) (hcall:cJ P f) (hΓ:eJ P GL Γ) (hc:eEs code=true) (hd:lZ code=true) (ho:fK nt (aM code).toList=true)
  (hk:sF P Γ md (aM code)=true) (hn:(aM code).size=k+1) (hb:cRj code k=true)
  (h: ∀Z:S→Prop,(∀t,Q (.panic ch) t→Z t)→nH (aRf P Γ GL md (rN code) ((aF code).take k) (cX (rN code) s)) (bVn GL f g Z (aF code)[k]?)):Awp P GL nt code s Q:=by
 replace h:=h (Q (.panic ch)) fun _ h=>h
 cases code with
 |region id ops dr=>
  simp only[lZ]at hd
  subst hd
  intro c h1 h2 σ0 I0 w0 a w hR
  subst h1;subst h2
  simp only[aM]at hn ho hk
  have hlt:k<ops.toList.length:=by rw[Array.length_toList];omega
  have hk2:ops.toList[k]? =some ops.toList[k]:=List.getElem?_eq_getElem hlt
  obtain⟨o,hko⟩: ∃o,ops.toList[k]=o:=⟨_,rfl⟩
  rw[hko]at hk2
  have hka:ops[k]? =some o:=by rw[←Array.getElem?_toList];exact hk2
  have hl:(aF (.region id ops true))[k]? =some (aG ops o):=by simp only[aF,aM,List.getElem?_map,hk2,Option.map_some]
  have ht:(aF (.region id ops true)).take k=(ops.toList.take k).map (aG ops):=by simp only[aF,aM,List.map_take]
  rw[hl,ht]at h
  have hr:aRf P Γ c.GL md (rN (.region id ops true)) ((ops.toList.take k).map (aG ops)) (cX (rN (.region id ops true)) s)=oT P Γ c.GL md ops 0 (ops.toList.take k) (cX ops.size s):=by
   rw[aBn];rfl
  rw[hr]at h
  obtain⟨t,e1,e2⟩:=mR h
  have h0:unl ops.size (Array.replicate ops.size false)=List.range ops.size:=by
   unfold unl
   refine List.filter_eq_self.2 fun k hk=>?_
   rw[List.mem_range]at hk
   rw[Array.getD_eq_getD_getElem?,Array.getElem?_replicate,J4 hk];rfl
  have h0f:(unl ops.size (Array.replicate ops.size false)).filter (· !=k)=List.range k:=by
   rw[h0,hn,List.range_succ,List.filter_append]
   have a1:(List.range k).filter (· !=k)=List.range k:=List.filter_eq_self.2 fun j hj=>by have:=List.mem_range.1 hj;simp;omega
   rw[a1];simp
  have hbk: ∀j,j<k→((Region.before ops).getD k 0).testBit j=true:=fun j hj=>List.all_eq_true.1 hb j (List.mem_range.2 hj)
  have hlk:(ops.toList.take k).length=k:=by rw[List.length_take];omega
  have hrun2:dQ P Γ c.GL md ops (List.range k) (cX ops.size s)=some t:=by
   have hgen: ∀(l:List Oper) (q:Nat) (s:S),(∀m,m<l.length→l[m]? =ops[q+m]?)→oT P Γ c.GL md ops q l s=dQ P Γ c.GL md ops (List.range' q l.length) s:=by
    intro l
    induction l with
    |nil=>intro q s _;rfl
    |cons o r ih=>
     intro q s hq
     have h0:ops[q]? =some o:=by have:=(hq 0 (by simp)).symm;simpa using this
     simp only[oT,List.length_cons,List.range'_succ,dQ,h0]
     congr 1
     funext s'
     exact ih (q+1) s' (fun m hm=>by have:=hq (m+1) (by simpa using hm);simpa [Nat.add_assoc,Nat.add_comm 1 m]using this)
   have:=hgen (ops.toList.take k) 0 (cX ops.size s) (fun m hm=>by rw[hlk]at hm;rw[List.getElem?_take,J4 hm,Nat.zero_add,Array.getElem?_toList])
   rw[hlk]at this
   rw[List.range_eq_range',←this];exact e1
  refine wp_region_any hm (bBy (σ0:=σ0) (I0:=I0) (w0:=w0) hΓ ho hk hka hn hbk (fun a' w' hR'=>?_) ops.size _ (cX ops.size s) t a _ (by simp) ?_ (by rw[h0];simp) (fun m o hl=>?_) (by rw[h0f];exact hrun2) (gC.refl _) ?_)
  ·have key:=fun K=>bIn (K:=K) (ops:=ops) (Q':=fun e a' w'=> ∃s',Q e s'∧R c σ0 I0 w0 (fun _=>False) s' a' w') hpan hcall e2 hR' (fun t' a' w' hZ hR'=>⟨t',hZ,hR'⟩)
   exact⟨(key fun _ _=>True).1,fun K=>(key K).2⟩
  ·rw[Array.getD_eq_getD_getElem?,Array.getElem?_replicate,J4 (by omega)];rfl
  ·rw[Array.getD_eq_getD_getElem?,Array.getElem?_replicate]at hl;split at hl<;>cases hl
  ·exact((hR.enter ops.size).un fun k hk=>by rw[h0]at hk;exact List.mem_range.1 hk).world rfl rfl rfl rfl
 |_=>cases hc
end Go.AX

namespace Go.AX
open Go Go.Proofs
def GLh:Nat→Option (List AV):=fun _=>none
def chM:List PanicEntry:=[{v:=.iface 117 (.agg #[]),recovered:=false}]
def chF (k:Int):List PanicEntry:=[{v:=.iface 134 (.agg #[.int .i64 k]),recovered:=false}]
theorem dXo (P:Program) (t:TypeId) (v:Value) (w:World):(Instr.panic (.iface t v)).run P w=.halt (.panic (.iface t v)) w:=rfl
theorem fGm {σ:Nat→Loc} {I:Nat→Prop} {w:World} {n:Int} {v:Value} (h:Rel σ I w (.i n) v):v=.int .i64 n:=by cases h;rfl
theorem dXw (w:World):Calls Try.prog 60 #[.bool false] w fun e w'=>e=.panicked chM∧w'=w:=by
 go_enter Try.func60,Try.ntmps60
 go_wp2
 simp only[dXo]
 exact⟨rfl,rfl,rfl⟩
theorem eVt (w:World):Calls Try.prog 60 #[.bool true] w fun e w'=>e=.returned (.tuple #[])∧w'=w:=by
 go_enter Try.func60,Try.ntmps60
 go_wp2
 exact⟨rfl,_,results_none rfl _ _ _,rfl,rfl⟩
theorem eZf (k:Int) (w:World):Calls Try.prog 81 #[.int .i64 k] w fun e w'=>e=.panicked (chF k)∧w'=w:=by
 go_enter Try.func81,Try.ntmps81
 go_wp2
 simp only[dXo]
 exact⟨rfl,rfl,rfl⟩
section
variable {P : Program} {GL : Nat → Option (List AV)} {f : FuncId}
theorem dXi {ch:List PanicEntry} {g:List AV→H→Nat→Option (H×Nat)} (h: ∀args hp nx hp' nx',g args hp nx=some (hp',nx')→hp'=hp∧nx'=nx∧∀(σ:Nat→Loc) (I:Nat→Prop) (w:World) (vals:Array Value),vals.size=args.length→(∀i (_h:i<args.length),Rel σ I w args[i] (vals.getD i undef))→Calls P f vals w fun e w'=>e=.panicked ch∧w'=w):dE P GL f ch g:=by
 intro c σ I w hp nx args vals hp' nx' _ hi hs hr hg
 obtain⟨rfl,rfl,hc⟩:=h args hp nx hp' nx' hg
 refine⟨U3 _,(hc σ I w vals hs hr).mono ?_⟩
 rintro e w' ⟨rfl,rfl⟩
 exact⟨σ,I,rfl,hi,Grow.refl _ _ _,fun _ _ h=>h⟩
theorem eSu {g:List AV→Option AV} (h: ∀args r,g args=some r→∀(σ:Nat→Loc) (I:Nat→Prop) (w:World) (vals:Array Value),vals.size=args.length→(∀i (_h:i<args.length),Rel σ I w args[i] (vals.getD i undef))→∃v,Rel σ I w r v∧Calls P f vals w fun e w'=>e=.returned v∧w'=w):cL P GL f g:=by
 intro σ I w nx args vals r h1 h2 h3 hs hr hg
 obtain⟨v,hv,hc⟩:=h args r hg σ I w vals hs hr
 refine hc.mono ?_
 rintro e w' ⟨rfl,rfl⟩
 exact⟨v,σ,I,rfl,rfl,rfl,rfl,U3 _,fun _ _=>rfl,fun _ _=>rfl,fun _ h=> .inl h,h2,hv⟩
end
theorem dXv {σ:Nat→Loc} {I:Nat→Prop} {w:World} {x:AV} {vals:Array Value} (hs:vals.size=[x].length) (hr: ∀i (_h:i<[x].length),Rel σ I w [x][i] (vals.getD i undef)): ∃v,vals= #[v]∧Rel σ I w x v:=by
 have h0:=hr 0 (by simp)
 obtain⟨l⟩:=vals
 simp only[List.size_toArray,List.length_cons,List.length_nil,Nat.zero_add]at hs
 match l,hs with
 |[v],_=>exact⟨v,rfl,h0⟩
def eM:List AV→Option AV
 |[.b true]=>some (.tup [])
 |_=>none
theorem dKp:eM [.b true]=some (.tup []):=(rfl)
def dXl:List AV→H→Nat→Option (H×Nat)
 |[.b false],hp,nx=>some (hp,nx)
 |_,_,_=>none
theorem dXk (hp:H) (nx:Nat):dXl [.b false] hp nx=some (hp,nx):=(rfl)
def eQa (k:Int):List AV→H→Nat→Option (H×Nat)
 |[.i n],hp,nx=>aN (n=k) (some (hp,nx))
 |_,_,_=>none
theorem eWl (k n:Int) (hp:H) (nx:Nat):eQa k [.i n] hp nx=aN (n=k) (some (hp,nx)):=(rfl)
attribute [go_sem] dKp dXk eWl cSi dXs
theorem dMa:cL Try.prog GLh 60 eM:=by
 refine eSu fun args r hg σ I w vals hs hr=>?_
 unfold eM at hg
 split at hg
 ·obtain rfl:=J0 hg
  obtain⟨v,rfl,hv⟩:=dXv hs hr
  obtain rfl:=bQs hv
  exact⟨_,.tup _ _ rfl (fun i h=>by simp at h),eVt w⟩
 cases hg
theorem fC:dE Try.prog GLh 60 chM dXl:=by
 refine dXi fun args hp nx hp' nx' hg=>?_
 unfold dXl at hg
 split at hg
 ·simp only[Option.some.injEq,Prod.mk.injEq]at hg;obtain⟨rfl,rfl⟩:=hg
  refine⟨rfl,rfl,fun σ I w vals hs hr=>?_⟩
  obtain⟨v,rfl,hv⟩:=dXv hs hr
  obtain rfl:=bQs hv
  exact dXw w
 cases hg
theorem ePz (k:Int):dE Try.prog GLh 81 (chF k) (eQa k):=by
 refine dXi fun args hp nx hp' nx' hg=>?_
 unfold eQa at hg
 split at hg
 ·replace hg:=aP hg;obtain⟨rfl,hg⟩:=hg
  simp only[Option.some.injEq,Prod.mk.injEq]at hg;obtain⟨rfl,rfl⟩:=hg
  refine⟨rfl,rfl,fun σ I w vals hs hr=>?_⟩
  obtain⟨v,rfl,hv⟩:=dXv hs hr
  obtain rfl:=fGm hv
  exact eZf _ w
 cases hg
theorem rD:cJ Try.prog 60:=⟨_,Try.func60,rfl,rfl⟩
theorem ePc:cJ Try.prog 81:=⟨_,Try.func81,rfl,rfl⟩
theorem rP:bX Try.prog GLh 60 (.pure true eM):=⟨rD,dMa⟩
end Go.AX

namespace Go.AX
open Go
def rdH (g:List AV→List AV→Option (Option (AV×List AV))):List AV→H→Nat→Option (AV×H×Nat)
 | .op id off::rest,hp,nx=>aK (hp id) fun o=>match o with
  | .cells xs mt=>aN (mt=true) (aK (g (.op id off::rest) xs) fun p=>aK p fun q=>some (q.1,upd hp id (.cells q.2 true),nx))
  |_=>none
 |_,_,_=>none
def rdP (g:List AV→List AV→Option (Option (AV×List AV))):List AV→H→Nat→Option (H×Nat)
 | .op id off::rest,hp,nx=>aK (hp id) fun o=>match o with
  | .cells xs mt=>aN (mt=true) (aK (g (.op id off::rest) xs) fun p=>match p with
   |some _=>none
   |none=>some (del hp id,nx))
  |_=>none
 |_,_,_=>none
def rdO (g:List AV→List AV→Option (Option (AV×List AV))) (args:List AV) (id:Nat) (hp:H) (nx:Nat):AO→Option (AV×H×Nat)
 | .cells xs mt=>aN (mt=true) (aK (g args xs) fun p=>aK p fun q=>some (q.1,upd hp id (.cells q.2 true),nx))
 |_=>none
theorem cIz (g:List AV→List AV→Option (Option (AV×List AV))) (id off:Nat) (rest:List AV) (hp:H) (nx:Nat):rdH g (.op id off::rest) hp nx=aK (hp id) (rdO g (.op id off::rest) id hp nx):=by
 unfold rdH rdO;rfl
theorem cUp (g:List AV→List AV→Option (Option (AV×List AV))) (args:List AV) (id:Nat) (hp:H) (nx:Nat) (xs:List AV) (mt:Bool):rdO g args id hp nx (.cells xs mt)=aN (mt=true) (aK (g args xs) fun p=>aK p fun q=>some (q.1,upd hp id (.cells q.2 true),nx)):=(rfl)
def rdR (id:Nat) (hp:H) (nx:Nat):Option (AV×List AV)→Option (H×Nat)
 |some _=>none
 |none=>some (del hp id,nx)
def rdU (g:List AV→List AV→Option (Option (AV×List AV))) (args:List AV) (id:Nat) (hp:H) (nx:Nat):AO→Option (H×Nat)
 | .cells xs mt=>aN (mt=true) (aK (g args xs) (rdR id hp nx))
 |_=>none
theorem cIy (g:List AV→List AV→Option (Option (AV×List AV))) (id off:Nat) (rest:List AV) (hp:H) (nx:Nat):rdP g (.op id off::rest) hp nx=aK (hp id) (rdU g (.op id off::rest) id hp nx):=by
 unfold rdP rdU rdR;rfl
theorem cUn (g:List AV→List AV→Option (Option (AV×List AV))) (args:List AV) (id:Nat) (hp:H) (nx:Nat) (xs:List AV) (mt:Bool):rdU g args id hp nx (.cells xs mt)=aN (mt=true) (aK (g args xs) (rdR id hp nx)):=(rfl)
theorem cUo (id:Nat) (hp:H) (nx:Nat):rdR id hp nx none=some (del hp id,nx):=(rfl)
attribute [go_sem] cIz cUp cIy cUn cUo
theorem bQw (P:Program) (t:TypeId) (n:Nat) (xs:List AV):bM P .eql t (.sl n xs) (.v (.slice none 0 0))=aN (oQ P t=true∧0<n) (some (.b false)):=(rfl)
attribute [go_sem] bQw
theorem bQo (P:Program) (t t':TypeId) (v:Value):bM P .neq t (.v (.iface t' v)) (.v .nilIface)=aN (uG P t=true) (some (.b true)):=(rfl)
def cGt (P:Program) (t:TypeId):AV→Option AV
 | .v (.iface t' v)=>aN (t'=t∧uG P t=false∧(P.underlying t).isSome=true) (some (.tup [ofV v,.b true]))
 |_=>none
theorem bTb (P:Program) (t t':TypeId) (v:Value):cGt P t (.v (.iface t' v))=aN (t'=t∧uG P t=false∧(P.underlying t).isSome=true) (some (.tup [ofV v,.b true])):=(rfl)
theorem dAl {P:Program} {Γ:Env} {ρ:Operand→AV} {m nx n id cx:Nat} {hp:H} {x:Operand} {xt t:TypeId}:eff P Γ (.typeAssert x xt t true) ρ m nx n hp id cx=aK (cGt P t (ρ x)) fun y=>some (y,hp,cx):=by
 simp only[eff,cls,dI,cGt]
 generalize ρ x=y
 cases y<;>first|rfl|(rename_i v;cases v<;>rfl)
theorem bWf:ofV .nilIface=.v .nilIface:=(rfl)
attribute [go_sem] bQo bTb dAl bWf
structure bSi (P:Program) (rs:List ResultVar) (r:AV) (id:Nat) (ys:List AV) (t:S):Prop where
 res:aK (bV P rs t) (cO 4 (del t.hp id))=some r
 row:t.hp id=some (.cells ys true)
 ids:r.ids=0
 idys:AV.ids.idsL ys=0
def rdQ (P:Program) (rs:List ResultVar) (ch:List PanicEntry) (id:Nat):Option (AV×List AV)→Exit→S→Prop
 |some (r,ys),.ret,t=>bSi P rs r id ys t
 |some (r,ys),.normal,t=>bSi P rs r id ys t
 |none,.panic c,_=>c=ch
 |_,_,_=>False
section
variable {P : Program} {GL : Nat → Option (List AV)}
theorem dT {f:FuncId} {fn:Func} {code:Code} {ch:List PanicEntry} {g:List AV→List AV→Option (Option (AV×List AV))} (hf:P.funcs[f]? =some fn) (hb:fn.body=some code)
  (h: ∀id off rest nx xs o,g (.op id off::rest) xs=some o→rest.length+1≤fn.ntmps∧(id<nx→Awp P GL fn.ntmps code (sN (.op id off::rest) (upd (fun _=>none) id (.cells xs true)) nx) (rdQ P fn.results.toList ch id o))):cQ P GL f (rdH g)∧dE P GL f ch (rdP g):=by
 have main: ∀(c:Ctx) (σ:Nat→Loc) (I:Nat→Prop) (w:World) (hp:H) (nx:Nat) (id off:Nat) (rest:List AV) (vals:Array Value) (xs:List AV) (o:Option (AV×List AV)),c.GL=GL→Inv c σ I w hp (fun id=>nx≤id)→hp id=some (.cells xs true)→
   vals.size=(AV.op id off::rest).length→(∀i (_h:i<(AV.op id off::rest).length),Rel σ I w (AV.op id off::rest)[i] (vals.getD i undef))→g (.op id off::rest) xs=some o→
   Calls P f vals w fun e w'=>(∃r ys v I',o=some (r,ys)∧e=.returned v∧Inv c σ I' w' (upd hp id (.cells ys true)) (fun id=>nx≤id)∧Rel σ I' w' r v∧Grow σ I w σ I' w')∨
    (o=none∧e=.panicked ch∧Inv c σ I w' (del hp id) (fun id=>nx≤id)∧Grow σ I w σ I w'):=by
  intro c σ I w hp nx id off rest vals xs o hGL hi ho hs hr hg
  obtain⟨hlen,haw⟩:=h id off rest nx xs o hg
  have hset:σ id≠.unset:=by
   intro hu
   have:=hi.own id _ ho
   simp[cF,hu]at this
  have hid:id<nx:=by
   apply Classical.byContradiction
   intro hc
   exact hset (hi.un id (by omega))
  have get1: ∀k o,upd (fun _=>none:H) id (.cells xs true) k=some o→k=id∧o=.cells xs true:=by
   intro k o hk
   rw[bJ]at hk
   split at hk
   ·rename_i e;exact⟨e,(J0 hk).symm⟩
   ·cases hk
  have hnI: ∀blk base sz,σ id=.at_ blk base sz→¬I blk:=by
   intro blk base sz e1
   have:=hi.own id _ ho
   simp only[cF,e1]at this
   exact this.2.1 trivial
  let c':Ctx:= {w0:=w,σ0:=σ,I0:=I,O:=fun k=> ∃base sz,σ id=.at_ k base sz,GL:=GL,nt:=fn.ntmps,u0:=fun k=>k<nx∧σ k=.unset}
  have hi':Inv c' σ I w (upd (fun _=>none) id (.cells xs true)) (fun k=>nx≤k∨(k<nx∧σ k=.unset)):=by
   refine⟨fun _ _=>rfl,fun _ h=>h,fun _ _=>rfl,rfl,rfl,rfl,U3 _,fun _ _ _=>rfl,hi.ilt,fun k o hk=>?_,fun k k' zs o' blk base sz base' sz' h1 hm h2 hne e1=>?_,fun k zs blk base sz h1 hm e1=>?_,fun k hk=>hk.elim (hi.un k) (fun h=>h.2),fun g xs hg=>hi.glob g xs (by rw[hGL];exact hg),fun _ h=> .inl h⟩
   ·obtain⟨rfl,rfl⟩:=get1 k o hk;exact hi.own _ _ ho
   ·obtain⟨rfl,_⟩:=get1 k _ h1
    obtain⟨rfl,_⟩:=get1 k' _ h2
    exact absurd rfl hne
   ·obtain⟨rfl,_⟩:=get1 k _ h1
    exact .inr ⟨base,sz,e1⟩
  refine calls_of_wp hf hb (wp_mono (haw hid c' rfl rfl σ I w {tmps:=vals++Array.replicate (fn.ntmps-vals.size) undef,defers:=[]} w ?_) ?_)
  ·refine⟨⟨σ,I,?_,Grow.refl _ _ _,fun t=>oG hs hr t⟩,rfl,(by show _=fn.ntmps;simp at hs⊢;omega),fun k hk=>hk.elim,fun id hid=>⟨hid.1,hid.1⟩⟩
   refine hi'.mono_un fun id hid=>?_
   rcases hid with hid|⟨k,hk,_⟩|hid
   ·exact .inl hid
   ·exact hk.elim
   ·exact .inr hid
  rintro e a w' ⟨t,hq,hR⟩
  have hd:a.defers=[]:=hR.defers
  obtain⟨⟨σ',I',a1,a2,a3⟩,_⟩:=hR
  have hold: ∀k,k<w.heap.size→(∀base sz,σ id≠.at_ k base sz)→w'.heap[k]? =w.heap[k]?:=fun k hk hn=>a1.old k hk (fun⟨base,sz,e⟩=>hn base sz e)
  have hIs: ∀k,I k→w'.heap[k]? =w.heap[k]?:=fun k hk=>hold k (hi.ilt k hk) (fun base sz e=>hnI k base sz e hk)
  have hO: ∀k,k<c.w0.heap.size→¬c.O k→w'.heap[k]? =c.w0.heap[k]?:=fun k hk hO=>by
   rw[hold k (Nat.lt_of_lt_of_le hk hi.size) (fun base sz e=>?_)]
   ·exact hi.old k hk hO
   ·rcases hi.lim id _ k base sz ho rfl e with h5|h5
    ·omega
    ·exact hO h5
  have other: ∀(J:Nat→Prop),(∀k,I k→J k)→(∀k,J k→I k∨w.heap.size≤k)→∀k o,k≠id→hp k=some o→cF σ J w' k o:=by
   intro J hJ1 hJ2 k o hne h2
   have h3:=hi.own k o h2
   refine h3.mono (fun _ _=>rfl) hJ1 hIs fun blk base sz e1=>⟨hold blk (h3.lt e1) (fun base' sz' e2=>?_),fun _ hn hb=>?_⟩
   ·exact hi.inj id k _ o blk base' sz' base sz ho rfl h2 (fun e=>hne e.symm) e2 e1
   ·rcases hJ2 blk hb with h|h
    ·exact hn h
    ·have:=h3.lt e1;omega
  match o,e,hq with
  |none,.panic c2,hq=>
   obtain rfl:c2=ch:=hq
   refine⟨hd,.inr ⟨rfl,rfl,?_,⟨fun _ _=>rfl,fun _ h=>h,hIs⟩⟩⟩
   refine⟨hi.ext,hi.imm,fun k hk=>by rw[hIs k (hi.imm k hk)];exact hi.iw k hk,by rw[a1.os];exact hi.os,by rw[a1.tape];exact hi.tape,by rw[a1.output];exact hi.output,Nat.le_trans hi.size a1.size,hO,fun k hk=>Nat.lt_of_lt_of_le (hi.ilt k hk) a1.size,fun k o hk=>?_,fun k k' zs o' blk base sz base' sz' h1 hm h2 hne e1=>?_,fun k zs blk base sz h1 hm e1=>?_,hi.un,fun g zs hg=>(hi.glob g zs hg).mono (fun _ _=>rfl) (fun _ h=>h) hIs,hi.inew⟩
   ·rw[eV]at hk
    split at hk
    ·cases hk
    ·rename_i hne;exact other I (fun _ h=>h) (fun _ h=> .inl h) k o hne hk
   ·rw[eV]at h1 h2
    split at h1
    ·cases h1
    ·split at h2
     ·cases h2
     ·exact hi.inj k k' zs o' blk base sz base' sz' h1 hm h2 hne e1
   ·rw[eV]at h1
    split at h1
    ·cases h1
    ·exact hi.lim k zs blk base sz h1 hm e1
  |some (r,ys),e,hq=>
   have hq2:(e=.ret∨e=.normal)∧bSi P fn.results.toList r id ys t:=by
    cases e<;>first|exact⟨.inl rfl,hq⟩|exact⟨.inr rfl,hq⟩|exact hq.elim
   obtain⟨he,q1,q2,q3,q4⟩:=hq2
   replace q1:=aJ q1;obtain⟨x,hx,him⟩:=q1
   obtain⟨v,hv,hrel⟩:=eZ (P:=P) a1 a3 hx
   have h4:σ' id=σ id:=a2.loc id hset
   have hidI: ∀blk base sz,σ id=.at_ blk base sz→¬I' blk:=by
    intro blk base sz e1
    have:=a1.own id _ q2
    simp only[cF,h4,e1]at this
    exact this.2.1 trivial
   obtain⟨J,hJ⟩: ∃J:Nat→Prop,∀k,J k↔(I' k∨∃k' o base sz,del t.hp id k'=some o∧σ' k'=.at_ k base sz):=⟨_,fun _=>Iff.rfl⟩
   have hJI': ∀k,I' k→J k:=fun k hk=>(hJ k).2 (.inl hk)
   have hI'c: ∀k,I' k→I k∨w.heap.size≤k:=by
    intro k hk
    rcases a1.inew k hk with h|h|⟨base,sz,h⟩
    ·exact .inl h
    ·exact .inr h
    ·exact absurd hk (hidI k base sz h)
   have hJc: ∀k,J k→(I k∨w.heap.size≤k)∧k<w'.heap.size∧∀base sz,σ id≠.at_ k base sz:=by
    intro k hk
    rcases(hJ k).1 hk with hk|⟨k',o,base,sz,e1,e2⟩
    ·exact⟨hI'c k hk,a1.ilt k hk,fun base sz e=>hidI k base sz e hk⟩
    ·rw[eV]at e1
     split at e1
     ·cases e1
     rename_i hne
     have hcl: ∀base sz,σ id≠.at_ k base sz:=by
      intro base' sz' e3
      exact a1.inj id k' _ o k base' sz' base sz q2 rfl e1 (fun e=>hne e.symm) (by rw[h4];exact e3) e2
     refine⟨?_,(a1.own k' o e1).lt e2,hcl⟩
     cases hm:o.mt with
     |true=>
      rcases a1.lim k' o k base sz e1 hm e2 with h|⟨base',sz',h⟩
      ·exact .inr h
      ·exact absurd h (hcl base' sz')
     |false=>exact hI'c k ((a1.own k' _ e1).fz hm e2)
   obtain⟨him',_⟩:=qH (a1.sub (aAh t.hp id)) hJI' (fun k' o blk base sz e1 e2=>(hJ blk).2 (.inr ⟨k',o,base,sz,e1,e2⟩)) 4 him hrel
   have hIJ: ∀k,I k→J k:=fun k hk=>hJI' k (a2.imm k hk)
   have hres:Rel σ J w' r v:=him'.congr_ids fun k hk=>by rw[q3]at hk;omega
   have hinv:Inv c σ J w' (upd hp id (.cells ys true)) (fun id=>nx≤id):=by
    refine⟨hi.ext,fun k hk=>hIJ k (hi.imm k hk),fun k hk=>by rw[hIs k (hi.imm k hk)];exact hi.iw k hk,by rw[a1.os];exact hi.os,by rw[a1.tape];exact hi.tape,by rw[a1.output];exact hi.output,Nat.le_trans hi.size a1.size,hO,fun k hk=>(hJc k hk).2.1,fun k o hk=>?_,(hi.updIL ho (.cells ys true) fun _=>rfl).1,(hi.updIL ho (.cells ys true) fun _=>rfl).2,hi.un,fun g zs hg=>(hi.glob g zs hg).mono (fun _ _=>rfl) hIJ hIs,fun k hk=>?_⟩
    ·rw[bJ]at hk
     split at hk
     ·rename_i e
      subst e
      obtain rfl:=J0 hk
      have h3:=a1.own k _ q2
      have h6:=hi.own k _ ho
      simp only[cF,h4]at h3 h6⊢
      cases e5:σ k with
      |unset=>exact absurd e5 hset
      |nil=>simp only[e5]at h3⊢;exact h3
      |at_ blk base sz=>
       simp only[e5]at h3 h6⊢
       obtain⟨⟨⟨cs,T,lo,hi2,b1,b2,b3,b4,b5⟩,b6⟩,b7⟩:=h3
       refine⟨⟨⟨cs,T,lo,hi2,b1,b2,b3,b4,fun i hi3=>?_⟩,b6⟩,fun _ hb=>(hJc blk hb).2.2 base sz e5,fun hm=>by cases hm⟩
       exact((b5 i hi3).congr_ids (σ':=σ) fun k hk=>by have:=AV.ids_get ys i hi3;omega).mono (fun _ _=>rfl) hJI' (fun _ _=>rfl)
     ·rename_i hne;exact other J hIJ (fun k hk=>(hJc k hk).1) k o hne hk
    ·rcases(hJc k hk).1 with h|h
     ·exact hi.inew k h
     ·exact .inr (.inl (Nat.le_trans hi.size h))
   have fin:a.defers=[]∧∃v,(results fn a.tmps).run P w'=.ok v w'∧((∃r' ys' v' I',some (r,ys)=some (r',ys')∧Ending.returned v=.returned v'∧Inv c σ I' w' (upd hp id (.cells ys' true)) (fun id=>nx≤id)∧Rel σ I' w' r' v'∧Grow σ I w σ I' w')∨
     (some (r,ys)=none∧Ending.returned v=.panicked ch∧Inv c σ I w' (del hp id) (fun id=>nx≤id)∧Grow σ I w σ I w')):=
    ⟨hd,v,hv,.inl ⟨r,ys,v,J,rfl,rfl,hinv,hres,⟨fun _ _=>rfl,hIJ,hIs⟩⟩⟩
   rcases he with rfl|rfl
   ·exact fin
   ·exact fin
 refine⟨?_,?_⟩
 ·intro c σ I w hp nx args vals r hp' nx' hGL hi hs hr hg
  unfold rdH at hg
  split at hg
  case h_2=>cases hg
  rename_i id off rest
  replace hg:=aJ hg;obtain⟨o,ho,hg⟩:=hg
  obtain⟨xs,mt,rfl⟩: ∃a b,o=AO.cells a b:=by cases o<;>first|exact⟨_,_,rfl⟩|(simp at hg)
  simp only at hg
  replace hg:=aP hg;obtain⟨rfl,hg⟩:=hg
  replace hg:=aJ hg;obtain⟨p,hp1,hg⟩:=hg
  replace hg:=aJ hg;obtain⟨⟨r0,ys⟩,rfl,hg⟩:=hg
  simp only[Option.some.injEq,Prod.mk.injEq]at hg
  obtain⟨rfl,rfl,rfl⟩:=hg
  refine⟨U3 _,(main c σ I w hp nx id off rest vals xs _ hGL hi ho hs hr hp1).mono ?_⟩
  rintro e w' (⟨r',ys',v,I',e1,rfl,b1,b2,b3⟩|⟨e1,_⟩)
  ·simp only[Option.some.injEq,Prod.mk.injEq]at e1;obtain⟨rfl,rfl⟩:=e1
   exact⟨v,σ,I',rfl,b1,b2,b3,fun _ _ h=>h⟩
  ·cases e1
 ·intro c σ I w hp nx args vals hp' nx' hGL hi hs hr hg
  unfold rdP at hg
  split at hg
  case h_2=>cases hg
  rename_i id off rest
  replace hg:=aJ hg;obtain⟨o,ho,hg⟩:=hg
  obtain⟨xs,mt,rfl⟩: ∃a b,o=AO.cells a b:=by cases o<;>first|exact⟨_,_,rfl⟩|(simp at hg)
  simp only at hg
  replace hg:=aP hg;obtain⟨rfl,hg⟩:=hg
  replace hg:=aJ hg;obtain⟨p,hp1,hg⟩:=hg
  split at hg
  ·cases hg
  simp only[Option.some.injEq,Prod.mk.injEq]at hg
  obtain⟨rfl,rfl⟩:=hg
  refine⟨U3 _,(main c σ I w hp nx id off rest vals xs _ hGL hi ho hs hr hp1).mono ?_⟩
  rintro e w' (⟨r',ys',v,I',e1,_⟩|⟨_,rfl,b1,b2⟩)
  ·cases e1
  ·exact⟨σ,I,rfl,b1,b2,fun _ _ h=>h⟩
end
def ppG (g:List AV→Option (Option AV)) (args:List AV):Option AV:=aK (g args) fun o=>o
def ppR (hp:H) (nx:Nat):Option AV→Option (H×Nat)
 |some _=>none
 |none=>some (hp,nx)
def ppP (g:List AV→Option (Option AV)) (args:List AV) (hp:H) (nx:Nat):Option (H×Nat):=aK (g args) (ppR hp nx)
theorem cJl (g:List AV→Option (Option AV)) (args:List AV):ppG g args=aK (g args) fun o=>o:=(rfl)
theorem cJk (g:List AV→Option (Option AV)) (args:List AV) (hp:H) (nx:Nat):ppP g args hp nx=aK (g args) (ppR hp nx):=(rfl)
theorem cVa (hp:H) (nx:Nat):ppR hp nx none=some (hp,nx):=(rfl)
attribute [go_sem] cJl cJk cVa
def ppQ (P:Program) (rs:List ResultVar) (ch:List PanicEntry):Option AV→Exit→S→Prop
 |some r,e,t=>cN P rs r e t
 |none,.panic c,_=>c=ch
 |none,_,_=>False
theorem cVb (P:Program) (rs:List ResultVar) (ch:List PanicEntry) (r:AV) (e:Exit) (t:S):ppQ P rs ch (some r) e t=cN P rs r e t:=(rfl)
attribute [go_sem] cVb
section
variable {P : Program} {GL : Nat → Option (List AV)}
theorem cSh {f:FuncId} {fn:Func} {code:Code} {ch:List PanicEntry} {g:List AV→Option (Option AV)} (hf:P.funcs[f]? =some fn) (hb:fn.body=some code)
  (h: ∀args o,g args=some o→args.length≤fn.ntmps∧∀nx,Awp P GL fn.ntmps code (sN args (fun _=>none) nx) (ppQ P fn.results.toList ch o)):cL P GL f (ppG g)∧dE P GL f ch (ppP g):=by
 refine⟨cC hf hb fun args r hg=>?_,?_⟩
 ·unfold ppG at hg
  replace hg:=aJ hg;obtain⟨o,ho,rfl⟩:=hg
  exact h args _ ho
 intro c σ I w hp nx args vals hp' nx' hGL hi hs hr hg
 unfold ppP at hg
 replace hg:=aJ hg;obtain⟨o,ho,hg⟩:=hg
 cases o with
 |some r=>cases hg
 |none=>
  obtain⟨rfl,rfl⟩:hp'=hp∧nx'=nx:=by
   simp only[ppR,Option.some.injEq,Prod.mk.injEq]at hg;exact⟨hg.1.symm,hg.2.symm⟩
  obtain⟨hlen,haw⟩:=h args none ho
  refine⟨U3 _,?_⟩
  have h1: ∀id,nx'≤id→σ id=.unset:=fun id h=>hi.un id h
  have h3: ∀g xs,GL g=some xs→Rel σ I w (.rp xs) (.pointer (some ⟨g,0,none⟩)):=fun g xs h=>hi.glob g xs (by rw[hGL];exact h)
  refine calls_of_wp hf hb (wp_mono (haw nx' (aPf σ I w GL fn.ntmps nx') rfl rfl σ I w {tmps:=vals++Array.replicate (fn.ntmps-vals.size) undef,defers:=[]} w ?_) ?_)
  ·refine⟨⟨σ,I,?_,Grow.refl _ _ _,fun t=>oG hs hr t⟩,rfl,(by show _=fn.ntmps;simp[hs];omega),fun k hk=>hk.elim,fun id hid=>⟨hid.1,hid.1⟩⟩
   refine(bYs h1 hi.ilt h3).mono_un fun id hid=>?_
   rcases hid with hid|⟨k,hk,_⟩|hid
   ·exact .inl hid
   ·exact hk.elim
   ·exact .inr hid
  rintro e a w' ⟨t,hq,hR⟩
  have hd:a.defers=[]:=hR.defers
  obtain⟨⟨σ',I',a1,a2,a3⟩,_⟩:=hR
  cases e with
  |panic c2=>
   obtain rfl:c2=ch:=hq
   have hold: ∀k,k<w.heap.size→w'.heap[k]? =w.heap[k]?:=fun k hk=>a1.old k hk (fun h=>h)
   have hIs: ∀k,I k→w'.heap[k]? =w.heap[k]?:=fun k hk=>hold k (hi.ilt k hk)
   refine⟨hd,σ,I,rfl,?_,⟨fun _ _=>rfl,fun _ h=>h,hIs⟩,fun _ _ h=>h⟩
   exact hi.extend a1.os a1.tape a1.output a1.size hold I (fun _ h=>h) (fun _ h=> .inl h)
  |_=>exact hq.elim
end
end Go.AX

namespace Go.AX
open Go Go.Proofs
theorem fEy (x y z:AV):[x,y].set 1 z=[x,z]:=(rfl)
theorem eZe (x:AV) (l:List AV):(x::l).head? =some x:=(rfl)
theorem dr_1 (x:AV) (l:List AV):List.drop 1 (x::l)=l:=(rfl)
attribute [go_sem] fEy eZe dr_1
theorem bG (fr:List (Nat×AV)):gdS fr none=some true:=(rfl)
def eSc (l:List B8) (k a:Nat):Option (AV×List AV):=if k≤l.length-a then some (.sl k (c8 ((l.drop a).take k)),[.sl l.length (c8 l),.i ((a+k:Nat):Int)])else none
theorem eMu {l:List B8} {k a:Nat} (h:k≤l.length-a):eSc l k a=some (.sl k (c8 ((l.drop a).take k)),[.sl l.length (c8 l),.i ((a+k:Nat):Int)]):=J4 h
theorem eOp {l:List B8} {k a:Nat} (h: ¬k≤l.length-a):eSc l k a=none:=J3 h
def fJ:List AV→List AV→Option (Option (AV×List AV))
 |[.op _ 0,.i k],[.sl n xs,.i a]=>aK (cI xs) fun l=>aN (l.length=n∧0≤k∧k≤100000∧0≤a∧a≤n∧n≤100000) (some (eSc l k.toNat a.toNat))
 |_,_=>none
theorem eUf (id n:Nat) (k a:Int) (xs:List AV):fJ [.op id 0,.i k] [.sl n xs,.i a]=aK (cI xs) fun l=>aN (l.length=n∧0≤k∧k≤100000∧0≤a∧a≤n∧n≤100000) (some (eSc l k.toNat a.toNat)):=(rfl)
attribute [go_sem] eUf
theorem fCm (l:List B8):AV.ids.idsL (c8 l)=0:=by
 induction l with
 |nil=>rfl
 |cons x l ih=>show max (AV.ids (.w8 x)) (AV.ids.idsL (c8 l))=0;rw[ih];rfl
theorem eLf (n:Nat) (l:List B8):AV.ids (.sl n (c8 l))=0:=fCm l
theorem eD (n:Nat) (l:List B8) (a:Int):AV.ids.idsL [.sl n (c8 l),.i a]=0:=by
 show max (AV.ids (.sl n (c8 l))) (max 0 0)=0
 rw[eLf];rfl
set_option maxHeartbeats 2000000 in
theorem eNz:cQ Try.prog GLh 45 (rdH fJ)∧dE Try.prog GLh 45 chM (rdP fJ):=by
 refine dT Try.func45 (aT rfl) ?_
 intro id off rest nx xs o hg
 unfold fJ at hg
 split at hg
 ·rename_i id2 k0 n xs2 a0 heq
  simp only[List.cons.injEq,AV.op.injEq]at heq
  obtain⟨⟨rfl,rfl⟩,rfl⟩:=heq
  replace hg:=aJ hg;obtain⟨l,hl,hg⟩:=hg
  replace hg:=aP hg;obtain⟨⟨rfl,hk,hkb,ha,han,hnb⟩,hg⟩:=hg
  obtain rfl:=J0 hg
  have:=bW hl;subst this
  obtain⟨k,rfl⟩:=Int.eq_ofNat_of_zero_le hk
  obtain⟨a,rfl⟩:=Int.eq_ofNat_of_zero_le ha
  simp only[U2]at*
  refine⟨J1 rfl,fun hid=>?_⟩
  clear hl hg
  refine aA rfl (aW [0,1] rfl rfl rfl fun K hK=>?_)
  simp(disch:=omega) only[Try.f45,go_sem,↓reduceIte]
  refine hK _ ?_
  refine aB ?_
  by_cases hka:k≤l.length-a
  ·rw[eMu hka]
   have hd:decide ((k:Int)≤(l.length:Int)-(a:Int))=true:=J5 (by omega)
   refine aA rfl (bB (Γ:=bC [(60,.pure true eM)]) (fun k=>if k=12 then 0 else 2) [0,1] bZ (aH rP aO) rfl rfl rfl (by kernel_rfl) (fun K hK=>?_))
   simp(disch:=omega) only[Try.f45,go_sem,↓reduceIte,hd]
   refine hK _ ?_
   refine aB ?_
   have ea:(a:Int)+(k:Int)=((a+k:Nat):Int):=rfl
   refine aA rfl (aW [0,1] rfl rfl rfl fun K hK=>?_)
   simp(disch:=omega) only[Try.f45,go_sem,↓reduceIte,ea]
   refine hK _ ?_
   refine aB ?_
   have es:((a+k:Nat):Int)-(k:Int)=(a:Int):=by omega
   have e2:a+k-a=k:=by omega
   refine aA rfl (bB (Γ:=aL) (fun _=>2) [4] bZ (aD _ _) rfl rfl rfl (by kernel_rfl) (fun K hK=>?_))
   simp(disch:=omega) only[Try.f45,go_sem,↓reduceIte,es,e2,U2]
   refine hK _ ?_
   exact aB (aS rfl (⟨by simp only[bV,bK,bQ,Try.f45,go_sem],by simp only[aV,if_true],eLf _ _,eD _ _ _⟩))
  rw[eOp hka]
  have hd:decide ((k:Int)≤(l.length:Int)-(a:Int))=false:=J6 (by omega)
  refine aA rfl (dCo (Γ:=bC [(60,.pure true eM)]) 12 (fun _=>2) bZ (fC) rD (aH rP aO) rfl rfl rfl (by kernel_rfl) rfl (by kernel_rfl) (fun Z hZ=>?_))
  simp(disch:=omega) only[Try.f45,go_sem,↓reduceIte,bG,eq_self,true_and,bP,List.map_cons,List.map_nil,List.append_nil,hd,U0,U1]
  refine hZ _ ?_;clear hZ Z
  exact rfl
 cases hg
theorem rH:dE Try.prog GLh 45 chM (rdP fJ):=eNz.2
theorem eLj:cJ Try.prog 45:=⟨_,Try.func45,rfl,rfl⟩
theorem eLb:bX Try.prog GLh 45 (.heap (rdH fJ)):=⟨⟨_,Try.func45,rfl,rfl⟩,eNz.1⟩
end Go.AX

namespace Go.AX
open Go Go.Proofs
theorem idF8 (s:List B8) (k:Nat) (h:k<s.length):s[k]? =some (s.getD k 0#8):=by rw[List.getD_eq_getElem?_getD,List.getElem?_eq_getElem h];rfl
def eK (l:List B8):BitVec 32:=l.foldl (fun n x=>(n <<<8)|||x.setWidth 32) 0#32
theorem eOi (l:List B8) (k:Nat) (h:k<l.length):eK (l.take (k+1))=(eK (l.take k) <<<8)|||(l.getD k 0#8).setWidth 32:=by
 unfold eK
 rw[List.take_succ_eq_append_getElem h,List.foldl_append,List.getD_eq_getElem?_getD,List.getElem?_eq_getElem h];rfl
def rL (l:List B8) (k a:Nat):Option (AV×List AV):=if k≤l.length-a then some (.w32 (eK ((l.drop a).take k)),[.sl l.length (c8 l),.i ((a+k:Nat):Int)])else none
theorem eKs {l:List B8} {k a:Nat} (h:k≤l.length-a):rL l k a=some (.w32 (eK ((l.drop a).take k)),[.sl l.length (c8 l),.i ((a+k:Nat):Int)]):=J4 h
theorem fB {l:List B8} {k a:Nat} (h: ¬k≤l.length-a):rL l k a=none:=J3 h
def eN:List AV→List AV→Option (Option (AV×List AV))
 |[.op _ 0,.i k],[.sl n xs,.i a]=>aK (cI xs) fun l=>aN (l.length=n∧0≤k∧k≤4∧0≤a∧a≤n∧n≤100000) (some (rL l k.toNat a.toNat))
 |_,_=>none
theorem eYu (id n:Nat) (k a:Int) (xs:List AV):eN [.op id 0,.i k] [.sl n xs,.i a]=aK (cI xs) fun l=>aN (l.length=n∧0≤k∧k≤4∧0≤a∧a≤n∧n≤100000) (some (rL l k.toNat a.toNat)):=(rfl)
attribute [go_sem] eYu
structure KC5 where
 k:Nat
 c:Nat
set_option maxHeartbeats 4000000 in
theorem ePt:cQ Try.prog GLh 49 (rdH eN)∧dE Try.prog GLh 49 chM (rdP eN):=by
 refine dT Try.func49 (aT rfl) ?_
 intro id off rest nx xs o hg
 unfold eN at hg
 split at hg
 ·rename_i id2 k0 n xs2 a0 heq
  simp only[List.cons.injEq,AV.op.injEq]at heq
  obtain⟨⟨rfl,rfl⟩,rfl⟩:=heq
  replace hg:=aJ hg;obtain⟨l,hl,hg⟩:=hg
  replace hg:=aP hg;obtain⟨⟨rfl,hk,hkb,ha,han,hnb⟩,hg⟩:=hg
  obtain rfl:=J0 hg
  have:=bW hl;subst this
  obtain⟨k,rfl⟩:=Int.eq_ofNat_of_zero_le hk
  obtain⟨a,rfl⟩:=Int.eq_ofNat_of_zero_le ha
  simp only[U2]at*
  refine⟨J1 rfl,fun hid=>?_⟩
  clear hl hg
  refine aA rfl (aW [0,1] rfl rfl rfl fun K hK=>?_)
  simp(disch:=omega) only[Try.f49,go_sem,↓reduceIte]
  refine hK _ ?_
  refine aB (aA rfl (aW [0,1,5] rfl rfl rfl fun K hK=>?_))
  simp(disch:=omega) only[Try.f49,go_sem,↓reduceIte]
  refine hK _ ?_
  refine aB ?_
  by_cases hka:k≤l.length-a
  ·rw[eKs hka]
   have ht:=eMu hka
   obtain⟨d,hd⟩: ∃d,(l.drop a).take k=d:=⟨_,rfl⟩
   rw[hd]at ht⊢
   have hdl:d.length=k:=by rw[←hd,List.length_take,List.length_drop];omega
   refine aA rfl (aA rfl (aC (Γ:=bC [(45,.heap (rdH fJ))]) [5,10,11,12] (aH eLb aO) rfl rfl rfl (fun K hK=>?_)))
   simp(disch:=omega) only[Try.f49,go_sem,↓reduceIte,ht,U2]
   refine hK _ ?_
   refine aB (aR 0 rfl rfl (bR (fun p:KC5=> {fr:=[(5,.w32 (eK (d.take p.k))),(10,.sl k (c8 d)),(11,.i (k:Int)),(12,.i (p.k:Int))],hp:=upd (fun _=>none) id (.cells [.sl l.length (c8 l),.i ((a+k:Nat):Int)] true),nx:=0,cx:=p.c}) (fun p=>p.k≤k) (fun p=>k-p.k) rfl ⟨⟨0,_⟩,Nat.zero_le _,bD rfl rfl (U3 _)⟩ ?_))
   rintro⟨i,c⟩ hi n0
   simp only at hi⊢
   refine aA rfl (aW [13,5,10,11,12] rfl rfl rfl fun K hK=>?_)
   simp(disch:=omega) only[Try.f49,go_sem,↓reduceIte]
   refine hK _ ?_
   refine aB (aA rfl (bA (.tmp 13) rfl rfl rfl (fun h=>?_) (fun h=>?_)))
   ·refine aI rfl ?_
    have hil:i<d.length:=by omega
    have hix:=idF8 d i hil
    have hst:=eOi d i hil
    refine aQ rfl (aB (aA rfl (aR 1 rfl rfl (aA rfl (aW [5,7,10,11,12] rfl rfl rfl fun K hK=>?_)))))
    simp(disch:=omega) only[Try.f49,go_sem,↓reduceIte]
    refine hK _ ?_
    refine aB (aW [5,10,11,12] rfl rfl rfl fun K hK=>?_)
    simp(disch:=omega) only[Try.f49,go_sem,↓reduceIte]
    refine hK _ ?_
    refine bU (aB (aW [5,10,11,12] rfl rfl rfl fun K hK=>?_))
    simp(disch:=omega) only[Try.f49,go_sem,↓reduceIte]
    refine hK _ ?_
    refine bT ?_
    refine⟨⟨i+1,_⟩,by simp only;omega,by simp only;omega,bD ?_ rfl (U3 _)⟩
    simp only[hst,Int.natCast_add,Int.natCast_one]
   refine aI rfl ?_
   obtain rfl:i=k:=by omega
   have e1:d.take i=d:=List.take_of_length_le (by omega)
   refine bF 0 rfl rfl (aY (aZ (bE (aB (aA rfl (aW [4] rfl rfl rfl fun K hK=>?_))))))
   simp(disch:=omega) only[Try.f49,go_sem,↓reduceIte,e1]
   refine hK _ ?_
   exact aB (aS rfl (⟨by simp only[bV,bK,bQ,Try.f49,go_sem],by simp only[aV,if_true],rfl,eD _ _ _⟩))
  rw[fB hka]
  have ht:=eOp hka
  refine aA rfl (aA rfl (dCn (Γ:=bC [(45,.heap (rdH fJ))]) 2 (rH) eLj (aH eLb aO) rfl rfl rfl (fun Z hZ=>?_)))
  simp(disch:=omega) only[Try.f49,go_sem,↓reduceIte,bG,eq_self,true_and,bP,List.map_cons,List.map_nil,List.append_nil,ht,U2,U0,U1]
  refine hZ _ ?_;clear hZ Z
  exact rfl
 cases hg
theorem dK:dE Try.prog GLh 49 chM (rdP eN):=ePt.2
theorem eI:cJ Try.prog 49:=⟨_,Try.func49,rfl,rfl⟩
theorem fL:bX Try.prog GLh 49 (.heap (rdH eN)):=⟨⟨_,Try.func49,rfl,rfl⟩,ePt.1⟩
end Go.AX

namespace Go.AX
open Go Go.Proofs
theorem eSk {P:Program} {t e:TypeId} (hu:P.underlying t=some (.slice e)) (w:World):(binOp .eql t (.slice none 0 0) (.slice none 0 0)).run P w=.ok (.bool true) w:=by
 have k:(Op.equal t (.slice none 0 0) (.slice none 0 0)).run P w=.ok true w:=by
  show(Op.equalIn (9999+1) t _ _).run P w=_
  rw[Op.equalIn,Sem.run_bind,run_underlying hu];rfl
 simp only[binOp,Sem.run_bind,k,Result.andThen_ok,Sem.run_pure]
theorem eSl {P:Program} {t e:TypeId} (hu:P.underlying t=some (.slice e)) (a:Addr) (n cap:Nat) (w:World):(binOp .eql t (.slice (some a) n cap) (.slice none 0 0)).run P w=.ok (.bool false) w:=by
 have k:(Op.equal t (.slice (some a) n cap) (.slice none 0 0)).run P w=.ok false w:=by
  show(Op.equalIn (9999+1) t _ _).run P w=_
  rw[Op.equalIn,Sem.run_bind,run_underlying hu];rfl
 simp only[binOp,Sem.run_bind,k,Result.andThen_ok,Sem.run_pure]
set_option maxRecDepth 100000 in
theorem eTj (w:World):Calls Try.prog 36 #[.slice none 0 0] w fun e w'=>e=.returned (.slice none 0 0)∧w'=w:=by
 have hd: ∀w,(binOp .eql 23 (.slice none 0 0) (.slice none 0 0)).run Try.prog w=.ok (.bool true) w:=eSk Try.underlying23
 go_enter Try.func36,Try.ntmps36
 go_wp2
 exact⟨rfl,_,results_tmp rfl _ _ _,rfl,rfl⟩
set_option maxRecDepth 100000 in
theorem eQv (a:Addr) (cap:Nat) (w:World):Calls Try.prog 36 #[.slice (some a) 0 cap] w fun e w'=>(∃b,e=.returned (.slice (some b) 0 0))∧w'=w.alloc (.cells #[] 5):=by
 have hd: ∀w,(binOp .eql 23 (.slice (some a) 0 cap) (.slice none 0 0)).run Try.prog w=.ok (.bool false) w:=eSl Try.underlying23 a 0 cap
 go_enter Try.func36,Try.ntmps36
 go_wp2
 exact⟨rfl,_,results_tmp rfl _ _ _,⟨_,rfl⟩,rfl⟩
theorem rep0 (a:AV):rep 0 [a]=[]:=(rfl)
attribute [go_sem] rep0
def dDv:List AV→Option (Nat×Nat×List AV)
 |[.sl n xs]=>aK (cI xs) fun l=>aN (l.length=n∧n≤100000) (some (l.length,1,c8 l))
 |_=>none
theorem eTk (n:Nat) (xs:List AV):dDv [.sl n xs]=aK (cI xs) fun l=>aN (l.length=n∧n≤100000) (some (l.length,1,c8 l)):=(rfl)
def ePb:List AV→Option (Nat×Nat×List AV)
 |[.sl n xs]=>aK (cI xs) fun l=>aN (l.length=n∧n≤100000∧0<n) (some (l.length,1,c8 l))
 |_=>none
theorem isl23:oQ Try.prog 23=true:=by kernel_rfl
attribute [go_sem] eTk isl23
set_option maxHeartbeats 2000000 in
theorem eTl:dH Try.prog GLh 36 ePb:=by
 refine cT Try.func36 (aT rfl) ?_
 intro args r hg
 unfold ePb at hg
 split at hg
 ·rename_i n xs
  replace hg:=aJ hg;obtain⟨l,hl,hg⟩:=hg
  replace hg:=aP hg;obtain⟨⟨hn,hnb,hpos⟩,hg⟩:=hg
  obtain rfl:=J0 hg
  have:=bW hl;subst this
  refine⟨J1 rfl,fun nx=>?_⟩
  clear hl hg
  subst hn
  refine aA rfl (aW [0] rfl rfl rfl fun K hK=>?_)
  simp(disch:=omega) only[Try.f36,go_sem,↓reduceIte]
  refine hK _ ?_
  refine aB (aA rfl (aA rfl (aW [4,0] rfl rfl rfl fun K hK=>?_)))
  simp(disch:=omega) only[Try.f36,go_sem,↓reduceIte]
  refine hK _ ?_
  refine aB (eC (.tmp 4) rfl rfl rfl (fun h=>?_) (fun h=>?_))
  ·refine aI rfl ?_
   cases h
  refine aI rfl ?_
  clear h
  refine aQ rfl (aB (aA rfl (aW [2] rfl rfl rfl fun K hK=>?_)))
  simp(disch:=omega) only[Try.f36,go_sem,↓reduceIte,List.length_nil,List.nil_append]
  refine hK _ ?_
  refine aB (aS rfl ?_)
  simp(disch:=omega) only[fE,eO,bV,bK,bQ,Try.f36,go_sem,↓reduceIte]
 cases hg
theorem dLj:dH Try.prog GLh 36 dDv:=by
 intro σ I w nx args vals n e xs h1 h2 h3 hs hr hg
 have hg0:=hg
 unfold dDv at hg
 split at hg
 ·rename_i m ys
  replace hg:=aJ hg;obtain⟨l,hl,hg⟩:=hg
  replace hg:=aP hg;obtain⟨⟨hn,hnb⟩,hg⟩:=hg
  by_cases hm:0<m
  ·refine eTl σ I w nx _ vals n e xs h1 h2 h3 hs hr ?_
   unfold ePb
   simp only[hl,aX]
   rw[cU _ ⟨hn,hnb,hm⟩];exact hg
  obtain rfl:m=0:=by omega
  obtain rfl:l=[]:=List.eq_nil_of_length_eq_zero hn
  simp only[Option.some.injEq,Prod.mk.injEq]at hg;obtain⟨rfl,rfl,rfl⟩:=hg
  obtain⟨v,rfl,hv⟩:=dXv hs hr
  have key: ∀a cap,v=.slice (some a) 0 cap→Calls Try.prog 36 #[v] w fun e' w'=> ∃v σ' I',e'=.returned v∧w'.os=w.os∧w'.tape=w.tape∧w'.output=w.output∧w.heap.size≤w'.heap.size∧(∀k,k<w.heap.size→w'.heap[k]? =w.heap[k]?)∧
    (∀id,id<nx→σ' id=σ id)∧(∀k,I' k→I k∨w.heap.size≤k)∧(∀k,I' k→k<w'.heap.size)∧
    (((v=.slice none 0 0∨∃a,v=.slice (some a) 0 0)∧([]:List B8).length=0∧c8 []=[])∨∃blk base sz cap,v=.slice (some ⟨blk,base,none⟩) ([]:List B8).length cap∧([]:List B8).length≤cap∧base+cap*1≤sz∧w.heap.size≤blk∧¬I' blk∧uM σ' I' w' (c8 []) blk base sz):=by
   intro a cap e
   subst e
   refine(eQv a cap w).mono ?_
   rintro e' w' ⟨⟨b,rfl⟩,rfl⟩
   obtain⟨o,hw⟩: ∃o,(w.alloc (.cells #[] 5)).heap=w.heap.push o:=⟨_,rfl⟩
   have hsz:(w.alloc (.cells #[] 5)).heap.size=w.heap.size+1:=by rw[hw,Array.size_push]
   refine⟨_,σ,I,rfl,rfl,rfl,rfl,by omega,fun k hk=>?_,fun _ _=>rfl,fun _ h=> .inl h,fun k hk=>by have:=h2 k hk;omega,.inl ⟨.inr ⟨b,rfl⟩,rfl,rfl⟩⟩
   rw[hw,Array.getElem?_push]
   rw[J3 (by omega)]
  cases hv with
  |sl _ _ blk off cap f g1 g2 g3 g4 g5=>exact key _ _ rfl
  |slzero a=>exact key _ _ rfl
  |slnil=>
   refine(eTj w).mono ?_
   rintro e' w' ⟨rfl,rfl⟩
   exact⟨_,σ,I,rfl,rfl,rfl,rfl,U3 _,fun _ _=>rfl,fun _ _=>rfl,fun _ h=> .inl h,h2,.inl ⟨.inl rfl,rfl,rfl⟩⟩
 cases hg
theorem cWp:bX Try.prog GLh 36 (.fresh true dDv):=⟨⟨_,Try.func36,rfl,rfl⟩,dLj⟩
end Go.AX

namespace Go.AX
open Go Go.Proofs
def eUw (l:List B8) (a:Nat):Option (AV×List AV):=some (.sl (l.length-a) (c8 (l.drop a)),[.sl l.length (c8 l),.i (l.length:Int)])
def rB:List AV→List AV→Option (Option (AV×List AV))
 |[.op _ 0],[.sl n xs,.i a]=>aK (cI xs) fun l=>aN (l.length=n∧0≤a∧a≤n∧n≤100000) (some (eUw l a.toNat))
 |_,_=>none
theorem eUx (id n:Nat) (a:Int) (xs:List AV):rB [.op id 0] [.sl n xs,.i a]=aK (cI xs) fun l=>aN (l.length=n∧0≤a∧a≤n∧n≤100000) (some (eUw l a.toNat)):=(rfl)
theorem rA (l:List B8) (a:Nat):eUw l a=some (.sl (l.length-a) (c8 (l.drop a)),[.sl l.length (c8 l),.i (l.length:Int)]):=(rfl)
attribute [go_sem] eUx
set_option maxHeartbeats 4000000 in
theorem eSm:cQ Try.prog GLh 56 (rdH rB)∧dE Try.prog GLh 56 chM (rdP rB):=by
 refine dT Try.func56 (aT rfl) ?_
 intro id off rest nx xs o hg
 unfold rB at hg
 split at hg
 ·rename_i id2 n xs2 a0 heq
  simp only[List.cons.injEq,AV.op.injEq]at heq
  obtain⟨⟨rfl,rfl⟩,rfl⟩:=heq
  replace hg:=aJ hg;obtain⟨l,hl,hg⟩:=hg
  replace hg:=aP hg;obtain⟨⟨rfl,ha,han,hnb⟩,hg⟩:=hg
  obtain rfl:=J0 hg
  have:=bW hl;subst this
  obtain⟨a,rfl⟩:=Int.eq_ofNat_of_zero_le ha
  simp only[U2]at*
  refine⟨J1 rfl,fun hid=>?_⟩
  clear hl hg
  have ht:=eMu (l:=l) (k:=l.length-a) (a:=a) (U3 _)
  have ed:(l.drop a).take (l.length-a)=l.drop a:=List.take_of_length_le (by rw[List.length_drop];omega)
  have ea:a+(l.length-a)=l.length:=by omega
  rw[ed,ea]at ht
  have es:(l.length:Int)-(a:Int)=((l.length-a:Nat):Int):=by omega
  have hdl:(l.drop a).length=l.length-a:=List.length_drop ..
  obtain⟨d,hd⟩: ∃d,l.drop a=d:=⟨_,rfl⟩
  rw[hd]at ht hdl
  rw[rA,hd]
  refine aA rfl (aW [0] rfl rfl rfl fun K hK=>?_)
  simp(disch:=omega) only[Try.f56,go_sem,↓reduceIte]
  refine hK _ ?_
  refine aB (aA rfl (bB (Γ:=bC [(45,.heap (rdH fJ)),(36,.fresh true dDv)]) (fun k=>if k=11 then 0 else if k=12 then 0 else 2) [2] bZ (aH eLb (aH cWp aO)) rfl rfl rfl (by kernel_rfl) (fun K hK=>?_)))
  simp(disch:=omega) only[Try.f56,go_sem,↓reduceIte,es,U2,ht,hdl]
  refine hK _ ?_
  refine aB (aS rfl (⟨by simp(disch:=omega) only[bV,bK,bQ,Try.f56,go_sem,aV,kE,bY,eq_self,↓reduceIte,hdl],by simp(disch:=omega) only[aV,bY,↓reduceIte,eq_self],?_,?_⟩))
  ·exact eLf _ _
  exact eD _ _ _
 cases hg
theorem eMl:bX Try.prog GLh 56 (.heap (rdH rB)):=⟨⟨_,Try.func56,rfl,rfl⟩,eSm.1⟩
def rS (l:List B8) (a:Nat):Option (AV×List AV):=if a<l.length∧(l.getD a 0#8).toNat≤l.length-(a+1)then some (.sl (l.getD a 0#8).toNat (c8 ((l.drop (a+1)).take (l.getD a 0#8).toNat)),[.sl l.length (c8 l),.i ((a+1+(l.getD a 0#8).toNat:Nat):Int)])else none
def hS:List AV→List AV→Option (Option (AV×List AV))
 |[.op _ 0],[.sl n xs,.i a]=>aK (cI xs) fun l=>aN (l.length=n∧0≤a∧a≤n∧n≤100000) (some (rS l a.toNat))
 |_,_=>none
theorem eUb (id n:Nat) (a:Int) (xs:List AV):hS [.op id 0] [.sl n xs,.i a]=aK (cI xs) fun l=>aN (l.length=n∧0≤a∧a≤n∧n≤100000) (some (rS l a.toNat)):=(rfl)
attribute [go_sem] eUb
theorem get1 (l:List B8) (a:Nat) (h:a<l.length):eK ((l.drop a).take 1)=(l.getD a 0#8).setWidth 32:=by
 have h2:0<(l.drop a).length:=by rw[List.length_drop];omega
 rw[eOi _ 0 h2,U1]
 have:(l.drop a).getD 0 0#8=l.getD a 0#8:=by rw[List.getD_eq_getElem?_getD,List.getElem?_drop,←List.getD_eq_getElem?_getD];rfl
 rw[this]
 show 0#32 <<<8|||_=_
 simp
theorem fBe (x:B8):(x.setWidth 32).toNat=x.toNat:=by rw[BitVec.toNat_setWidth];exact Nat.mod_eq_of_lt (by have:=x.isLt;omega)
set_option maxHeartbeats 4000000 in
theorem eNy:cQ Try.prog GLh 59 (rdH hS)∧dE Try.prog GLh 59 chM (rdP hS):=by
 refine dT Try.func59 (aT rfl) ?_
 intro id off rest nx xs o hg
 unfold hS at hg
 split at hg
 ·rename_i id2 n xs2 a0 heq
  simp only[List.cons.injEq,AV.op.injEq]at heq
  obtain⟨⟨rfl,rfl⟩,rfl⟩:=heq
  replace hg:=aJ hg;obtain⟨l,hl,hg⟩:=hg
  replace hg:=aP hg;obtain⟨⟨rfl,ha,han,hnb⟩,hg⟩:=hg
  obtain rfl:=J0 hg
  have:=bW hl;subst this
  obtain⟨a,rfl⟩:=Int.eq_ofNat_of_zero_le ha
  simp only[U2]at*
  refine⟨J1 rfl,fun hid=>?_⟩
  clear hl hg
  refine aA rfl (aW [0] rfl rfl rfl fun K hK=>?_)
  simp(disch:=omega) only[Try.f59,go_sem,↓reduceIte]
  refine hK _ ?_
  refine aB ?_
  by_cases h1:a<l.length
  ·have hn1:=eKs (l:=l) (k:=1) (a:=a) (by omega)
   rw[get1 l a h1]at hn1
   have hx:=(l.getD a 0#8).isLt
   have hx32:=fBe (l.getD a 0#8)
   obtain⟨x,hxx⟩: ∃x,l.getD a 0#8=x:=⟨_,rfl⟩
   rw[hxx]at hn1 hx hx32
   by_cases h2:x.toNat≤l.length-(a+1)
   ·have ht:=eMu h2
    have hans:rS l a=some (.sl x.toNat (c8 ((l.drop (a+1)).take x.toNat)),[.sl l.length (c8 l),.i ((a+1+x.toNat:Nat):Int)]):=by unfold rS;rw[hxx];exact J4 ⟨h1,h2⟩
    obtain⟨d,hd⟩: ∃d,(l.drop (a+1)).take x.toNat=d:=⟨_,rfl⟩
    have hdl:d.length=x.toNat:=by rw[←hd,List.length_take,List.length_drop];omega
    rw[hd]at ht hans
    rw[hans]
    refine aA rfl (aC (Γ:=bC [(49,.heap (rdH eN)),(45,.heap (rdH fJ)),(36,.fresh true dDv)]) [2] (aH fL (aH eLb (aH cWp aO))) rfl rfl rfl (fun K hK=>?_))
    simp(disch:=omega) only[Try.f59,go_sem,↓reduceIte,hn1,hx32,U2,ht,hdl]
    refine hK _ ?_
    refine aB (aS rfl (⟨by simp(disch:=omega) only[bV,bK,bQ,Try.f59,go_sem,aV,kE,bY,eq_self,↓reduceIte,hdl],by simp(disch:=omega) only[aV,bY,↓reduceIte,eq_self],?_,?_⟩))
    ·exact eLf _ _
    exact eD _ _ _
   have ht:=eOp h2
   have hans:rS l a=none:=by unfold rS;rw[hxx];exact J3 fun h=>h2 h.2
   rw[hans]
   refine aA rfl (dCn (Γ:=bC [(49,.heap (rdH eN)),(45,.heap (rdH fJ)),(36,.fresh true dDv)]) 4 (rH) eLj (aH fL (aH eLb (aH cWp aO))) rfl rfl rfl (fun Z hZ=>?_))
   simp(disch:=omega) only[Try.f59,go_sem,↓reduceIte,bG,eq_self,true_and,bP,List.map_cons,List.map_nil,List.append_nil,hn1,hx32,U2,ht,U0,U1]
   refine hZ _ ?_;clear hZ Z
   exact rfl
  have hn1:=fB (l:=l) (k:=1) (a:=a) (by omega)
  have hans:rS l a=none:=by unfold rS;exact J3 fun h=>h1 h.1
  rw[hans]
  refine aA rfl (dCn (Γ:=bC [(49,.heap (rdH eN)),(45,.heap (rdH fJ)),(36,.fresh true dDv)]) 2 (dK) eI (aH fL (aH eLb (aH cWp aO))) rfl rfl rfl (fun Z hZ=>?_))
  simp(disch:=omega) only[Try.f59,go_sem,↓reduceIte,bG,eq_self,true_and,bP,List.map_cons,List.map_nil,List.append_nil,hn1,U2,U0,U1]
  refine hZ _ ?_;clear hZ Z
  exact rfl
 cases hg
theorem eKq:dE Try.prog GLh 59 chM (rdP hS):=eNy.2
theorem eNr:cJ Try.prog 59:=⟨_,Try.func59,rfl,rfl⟩
theorem eMk:bX Try.prog GLh 59 (.heap (rdH hS)):=⟨⟨_,Try.func59,rfl,rfl⟩,eNy.1⟩
end Go.AX

namespace Go.AX
open Go
def bSj (P:Program) (GL:Nat→Option (List AV)) (f:FuncId) (u u':FrameMode) (g:List AV→H→Nat→Option (H×Nat)):Prop:=
 ∀(c:Ctx) (σ:Nat→Loc) (I:Nat→Prop) (w:World) (hp:H) (nx:Nat) (args:List AV) (vals:Array Value) (hp':H) (nx':Nat),
  c.GL=GL→Inv c σ I w hp (fun id=>nx≤id)→vals.size=args.length→(∀i (_h:i<args.length),Rel σ I w args[i] (vals.getD i undef))→g args hp nx=some (hp',nx')→
  nx≤nx'∧CallsD P f vals u w fun e u1 w'=> ∃v σ' I',e=.returned v∧u1=u'∧Inv c σ' I' w' hp' (fun id=>nx'≤id)∧Grow σ I w σ' I' w'∧(∀id,id<nx→σ id=.unset→σ' id=.unset)
def cIv:FrameMode→Option (Value×FrameMode)
 | .panicking ({v,recovered:=false,goexit:=false}::older)=>some (v,.panicking ({v,recovered:=true}::older))
 |_=>none
theorem uD (c₀:Frame) (cs:List Frame):recoverD (c₀::cs)=(cIv c₀.mode).map fun p=>(p.1,{c₀ with mode:=p.2}::cs):=by
 obtain⟨fn,tmps,todo,defers,mode,kind,roundOf⟩:=c₀
 cases mode with
 |run=>rfl
 |returning=>rfl
 |panicking l=>
  cases l with
  |nil=>rfl
  |cons p r=>
   obtain⟨v,rec,ge⟩:=p
   cases rec<;>cases ge<;>rfl
section
variable {P : Program} {GL : Nat → Option (List AV)}
theorem fZ {f:FuncId} {fn:Func} {rest:Code} {id:Nat} {a b:Tmp} {ty1 ty2:TypeId} {p1 p2:String} {af1 af2:Array Edge} {u u':FrameMode} {rv:Value} {g:List AV→H→Nat→Option (H×Nat)} (hf:P.funcs[f]? =some fn)
  (hb:fn.body=some (.seq (.region id #[{dst:=some a,op:=.call {callee:=.builtin .recover,args:= #[],argTypes:= #[]},type:=ty1,pos:=p1,after:=af1,guard:=none},{dst:=some b,op:=.assign (.tmp a),type:=ty2,pos:=p2,after:=af2,guard:=none}] false) rest))
  (hu:(cIv u=some (rv,u'))∨(cIv u=none∧rv=.nilIface∧u'=u)) (hab:a<fn.ntmps∧b<fn.ntmps)
  (h: ∀args hp nx hp' nx',g args hp nx=some (hp',nx')→args.length≤fn.ntmps∧nx≤nx'∧((∀id,nx≤id→hp id=none)→Awp P GL fn.ntmps rest {fr:=(b,ofV rv)::(a,ofV rv)::aOo 0 args,hp:=hp,nx:=nx,cx:=nx} (bMy P fn.results.toList (.tup []) hp' nx'))):bSj P GL f u u' g:=by
 intro c σ I w hp nx args vals hp' nx' hGL hi hs hr hg
 obtain⟨hlen,hle,haw⟩:=h args hp nx hp' nx' hg
 refine⟨hle,?_⟩
 have hi':Inv {c with nt:=fn.ntmps,u0:=fun id=>id<nx∧σ id=.unset,df:=[]} σ I w hp (fun id=>nx≤id∨(id<nx∧σ id=.unset)):=
  ⟨hi.ext,hi.imm,hi.iw,hi.os,hi.tape,hi.output,hi.size,hi.old,hi.ilt,hi.own,hi.inj,hi.lim,fun id h=>h.elim (hi.un id) (fun h=>h.2),hi.glob,hi.inew⟩
 let a0:Act:= {tmps:=vals++Array.replicate (fn.ntmps-vals.size) undef,defers:=[]}
 have hsz0:a0.tmps.size=fn.ntmps:=by show(vals++Array.replicate (fn.ntmps-vals.size) undef).size=_;simp[hs];omega
 let a1:Act:=(a0.put (some a) rv).put (some b) rv
 have ha1:(a0.put (some a) rv).eval (.tmp a)=rv:=by
  show((a0.tmps.setIfInBounds a rv).getD a undef)=rv
  rw[Array.getD_eq_getD_getElem?,Array.getElem?_setIfInBounds_self_of_lt (by rw[hsz0];exact hab.1)];rfl
 refine callsD_of_wpS hf hb fun c₀ cs hmode=>?_
 have key:rest.wpS P (bodyPostS P fn c₀ cs (fun e u1 w'=> ∃v σ' I',e=.returned v∧u1=u'∧Inv c σ' I' w' hp' (fun id=>nx'≤id)∧Grow σ I w σ' I' w'∧(∀id,id<nx→σ id=.unset→σ' id=.unset))) a1 ({c₀ with mode:=u'}::cs) w:=by
  refine wpS_of_wp (wp_mono (haw (fun id hid=>hi.none_un hid) {c with nt:=fn.ntmps,u0:=fun id=>id<nx∧σ id=.unset,df:=[]} hGL rfl σ I w a1 w ?_) ?_)
  ·refine⟨⟨σ,I,?_,Grow.refl _ _ _,?_⟩,rfl,by rw[pX,pX];exact hsz0,fun k hk=>hk.elim,fun id hid=>⟨hid.1,hid.1⟩⟩
   ·refine hi'.mono_un fun id hid=>?_
    rcases hid with hid|⟨k,hk,_⟩|hid
    ·exact .inl hid
    ·exact hk.elim
    ·exact .inr hid
   ·have h1:=vT (n:=fn.ntmps) (dst:=some a) (x:=ofV rv) (v:=rv) hsz0 (fun d hd=>by obtain rfl:=J0 hd;exact hab.1) (fun _=>vP rv) (fun t=>oG (n:=fn.ntmps-vals.size) hs hr t)
    exact vT (n:=fn.ntmps) (dst:=some b) (x:=ofV rv) (v:=rv) (by rw[pX];exact hsz0) (fun d hd=>by obtain rfl:=J0 hd;exact hab.2) (fun _=>vP rv) h1
  ·rintro e a' w' ⟨t,hq,hR⟩
   have hd:a'.defers=[]:=hR.defers
   obtain⟨⟨σ',I',b1,b2,b3⟩,_⟩:=hR
   have hq2:(e=.ret∨e=.normal)∧wZ P fn.results.toList (.tup []) hp' nx' t:=by
    cases e<;>first|exact⟨.inl rfl,hq⟩|exact⟨.inr rfl,hq⟩|exact hq.elim
   obtain⟨he,q1,q2,q3⟩:=hq2
   obtain⟨v,hv,hrel⟩:=eZ (P:=P) b1 b3 q1
   have b1':=b1.sub q2
   have fin:a'.defers=[]∧∃u1,({c₀ with mode:=u'}::cs:List Frame)= {c₀ with mode:=u1}::cs∧∃v,(results fn a'.tmps).run P w'=.ok v w'∧∃v1 σ' I',Ending.returned v=.returned v1∧u1=u'∧Inv c σ' I' w' hp' (fun id=>nx'≤id)∧Grow σ I w σ' I' w'∧(∀id,id<nx→σ id=.unset→σ' id=.unset):=
    ⟨hd,u',rfl,v,hv,v,σ',I',rfl,rfl,⟨b1'.ext,b1'.imm,b1'.iw,b1'.os,b1'.tape,b1'.output,b1'.size,b1'.old,b1'.ilt,b1'.own,b1'.inj,b1'.lim,fun id h=>b1'.un id (.inl (Nat.le_trans q3 h)),b1'.glob,b1'.inew⟩,b2,fun id hid hun=>b1.un id (.inr (.inr ⟨hid,hun⟩))⟩
   rcases he with rfl|rfl
   ·exact fin
   ·exact fin
 generalize bodyPostS P fn c₀ cs _=Q at key⊢
 have hav:a<vals.size+(fn.ntmps-vals.size):=Nat.lt_of_lt_of_le hab.1 (by omega)
 apply wpS_seq
 apply wpS_region
 rcases hu with hu|⟨hu,rfl,rfl⟩
 ·simp[wpOpsS,go_sem,uD,hmode,hu,Exit.thenS,hav]
  exact key
 ·have hc:({c₀ with mode:=u'}:Frame)=c₀:=by cases c₀;simp at hmode;subst hmode;rfl
  rw[hc]at key
  simp[wpOpsS,go_sem,uD,hmode,hu,Exit.thenS,hav]
  exact key
def fDc (P:Program) (rs:List ResultVar) (ch:List PanicEntry) (gI gP:List AV→H→Nat→Option (H×Nat)) (capsA:List AV) (r:AV):Exit→S→Prop
 | .ret,t=> ∃p,gI capsA t.hp t.cx=some p∧aK (bV P rs {t with hp:=p.1}) (cO 4 p.1)=some r
 | .normal,t=> ∃p,gI capsA t.hp t.cx=some p∧aK (bV P rs {t with hp:=p.1}) (cO 4 p.1)=some r
 | .panic c,t=>c=ch∧∃p,gP capsA t.hp t.cx=some p∧aK (bV P rs {t with hp:=p.1}) (cO 4 p.1)=some r
 |_,_=>False
def dBa (k:Tmp) (d:FuncId) (capsA:List AV) (t:S):S:= {fr:=(k,.fn d capsA)::t.fr,hp:=t.hp,nx:=t.nx,cx:=t.cx}
def dYy (P:Program) (GL:Nat→Option (List AV)) (nt:Nat) (C:Code) (k:Tmp) (d:FuncId) (caps:List Operand) (capsA:List AV) (Q:Exit→S→Prop):Exit→S→Prop
 | .normal,t=>caps.map (ev GL t.fr)=capsA∧Awp P GL nt C (dBa k d capsA t) Q
 |_,_=>False
theorem cUy {f d:FuncId} {fn:Func} {r0 C:Code} {id:Nat} {k:Tmp} {caps:Array Operand} {ty1 ty2:TypeId} {p1 p2:String} {af1 af2:Array Edge} {ch:List PanicEntry} {u':FrameMode} {gI gP:List AV→H→Nat→Option (H×Nat)} {g:List AV→Option AV} (hf:P.funcs[f]? =some fn)
  (hb:fn.body=some (.seq r0 (.seq (.region id #[{dst:=some k,op:=.makeFunc (.func d) #[] caps,type:=ty1,pos:=p1,after:=af1,guard:=none},{dst:=none,op:=.defer {callee:=.value (.tmp k),args:= #[],argTypes:= #[]},type:=ty2,pos:=p2,after:=af2,guard:=none}] false) C)))
  (hk:k<fn.ntmps) (hd:cJ P d) (hI:bSj P GL d .returning .returning gI) (hP:bSj P GL d (.panicking ch) u' gP) (hu:settle u'=.returning)
  (h: ∀args r,g args=some r→args.length≤fn.ntmps∧∀nx,∃capsA,Awp P GL fn.ntmps r0 (sN args (fun _=>none) nx) (dYy P GL fn.ntmps C k d caps.toList capsA (fDc P fn.results.toList ch gI gP capsA r))):cL P GL f g:=by
 intro σ I w nx args vals r h1 h2 h3 hs hr hg
 obtain⟨hlen,haw⟩:=h args r hg
 obtain⟨capsA,haw⟩:=haw nx
 let c:=aPf σ I w GL fn.ntmps nx
 refine calls_of_wp_defers hf hb ?_
 refine wp_seq (wp_mono (haw c rfl rfl σ I w {tmps:=vals++Array.replicate (fn.ntmps-vals.size) undef,defers:=[]} w ?_) ?_)
 ·refine⟨⟨σ,I,?_,Grow.refl _ _ _,fun t=>oG hs hr t⟩,rfl,by show _=fn.ntmps;simp[hs];omega,fun k hk=>hk.elim,fun id hid=>⟨hid.1,hid.1⟩⟩
  refine(bYs h1 h2 h3).mono_un fun id hid=>?_
  rcases hid with hid|⟨k,hk,_⟩|hid
  ·exact .inl hid
  ·exact hk.elim
  ·exact .inr hid
 rintro e a0 w0 ⟨t0,hq,hR⟩
 cases e with
 |normal=>
  obtain⟨hcaps,hC⟩:=hq
  refine wp_seq ?_
  refine wp_region_list ?_
  obtain⟨⟨σ1,I1,b1,b2,b3⟩,bd,bs,blt,blt0⟩:=hR
  obtain⟨V,hV⟩: ∃V,caps.map a0.eval=V:=⟨_,rfl⟩
  have hVs:V.size=capsA.length:=by rw[←hV,←hcaps];simp
  have hVr: ∀i (_h:i<capsA.length),Rel σ1 I1 w0 capsA[i] (V.getD i undef):=by
   subst hcaps
   intro i hi
   have:=aAc (l:=caps.toList) (aJt b1 b3) i (by simpa using hi)
   rw[fI,List.getD_eq_getElem?_getD]at this
   have e:V[i]? =(List.map a0.eval caps.toList)[i]?:=by rw[←hV,←Array.toList_map,Array.getElem?_toList]
   rw[Array.getD_eq_getD_getElem?,e];exact this
  let D:Deferred:= {target:=.fn (.func d) V,args:= #[]}
  let a1:Act:=a0.put (some k) (.func (.func d) #[] V)
  let a2:Act:= {a1 with defers:=D::a1.defers}
  have hbs:a0.tmps.size=fn.ntmps:=bs
  have ha1:a1.eval (.tmp k)=.func (.func d) #[] V:=by
   show((a0.tmps.setIfInBounds k _).getD k undef)=_
   rw[Array.getD_eq_getD_getElem?,Array.getElem?_setIfInBounds_self_of_lt (by rw[hbs];exact hk)];rfl
  unfold wpList
  rw[J4 (by simp[Region.wanted])]
  refine .inl ?_
  have e1:(execOp a0.eval {dst:=some k,op:=.makeFunc (.func d) #[] caps,type:=ty1,pos:=p1,after:=af1,guard:=none}).run P w0=.ok (.value (.func (.func d) #[] V)) w0:=by
   rw[←hV]
   simp only[execOp,Instr.makeFunc,Array.map_empty,Sem.run_bind,Sem.run_pure,Result.andThen_ok]
  unfold Oper.wp
  rw[e1]
  show wpList P _ _ _ a1 w0
  unfold wpList
  rw[J4 (by simp[Region.wanted])]
  refine .inl ?_
  have e2:(execOp a1.eval {dst:=none,op:=.defer {callee:=.value (.tmp k),args:= #[],argTypes:= #[]},type:=ty2,pos:=p2,after:=af2,guard:=none}).run P w0=.ok (.defer D) w0:=by
   simp only[execOp,resolve,ha1,Deferred.ofValue,Sem.run_bind,Sem.run_pure,Result.andThen_ok,Array.map_empty,Array.append_empty];rfl
  unfold Oper.wp
  rw[e2]
  show Code.wp P C _ a2 w0
  have hadf:a0.defers=[]:=bd
  have hR2:R {c with df:=[D]} σ1 I1 w0 (fun _=>False) (dBa k d capsA t0) a2 w0:=by
   refine⟨⟨σ1,I1,⟨b1.ext,b1.imm,b1.iw,b1.os,b1.tape,b1.output,b1.size,b1.old,b1.ilt,b1.own,b1.inj,b1.lim,b1.un,b1.glob,b1.inew⟩,Grow.refl _ _ _,?_⟩,?_,?_,fun k hk=>hk.elim,blt0⟩
   ·exact vT (n:=fn.ntmps) (dst:=some k) (x:=.fn d capsA) (v:=.func (.func d) #[] V) hbs (fun d' hd'=>by obtain rfl:=J0 hd';exact hk) (fun _=> .fn d capsA V hVs hVr) b3
   ·show D::a0.defers=[D];rw[hadf]
   ·show(a0.put (some k) _).tmps.size=_;rw[pX];exact hbs
  refine wp_mono (hC {c with df:=[D]} rfl rfl σ1 I1 w0 a2 w0 hR2) ?_
  rintro e a' w' ⟨t,hq,hR'⟩
  have hd':a'.defers=[D]:=hR'.defers
  obtain⟨⟨σ2,I2,c1,c2,c3⟩,_,_,_,clt0⟩:=hR'
  obtain⟨fnd,q1,q2,q3⟩:=hd
  have hinv:(invoke (.fn (.func d) V) #[]).run P w'=.ok (.enter d V) w':=by
   simp only[invoke,Array.empty_append,callFunc,Sem.run_bind,run_program,Result.andThen_ok,q1,q2,q3,Bool.false_eq_true,if_false,Sem.run_pure]
  have hVr2: ∀i (_h:i<capsA.length),Rel σ2 I2 w' capsA[i] (V.getD i undef):=fun i hi=>(hVr i hi).grow c2
  have fin: ∀(p:H×Nat) (σ3:Nat→Loc) (I3:Nat→Prop) (w3:World),aK (bV P fn.results.toList {t with hp:=p.1}) (cO 4 p.1)=some r→Inv {c with df:=[D]} σ3 I3 w3 p.1 (fun id=>p.2≤id)→Grow σ2 I2 w' σ3 I3 w3→(∀id,id<t.cx→σ2 id=.unset→σ3 id=.unset)→
    ∃v,(results fn a'.tmps).run P w3=.ok v w3∧∃v' σ' I',Ending.returned v=.returned v'∧w3.os=w.os∧w3.tape=w.tape∧w3.output=w.output∧w.heap.size≤w3.heap.size∧(∀k,k<w.heap.size→w3.heap[k]? =w.heap[k]?)∧
     (∀id,id<nx→σ' id=σ id)∧(∀k,I' k→I k∨w.heap.size≤k)∧(∀k,I' k→k<w3.heap.size)∧Rel σ' I' w3 r v':=by
   intro p σ3 I3 w3 hres d1 d2 d3
   replace hres:=aJ hres;obtain⟨x,hx,him⟩:=hres
   obtain⟨v,hv,hrel⟩:=eZ (P:=P) (t:= {t with hp:=p.1}) d1 (fun k=>(c3 k).grow d2) hx
   have hI: ∀k,I3 k→(I3 k∨∃id o base sz,p.1 id=some o∧σ3 id=.at_ k base sz):=fun k hk=> .inl hk
   obtain⟨him',_⟩:=qH d1 hI (fun id o blk base sz e1 e2=> .inr ⟨id,o,base,sz,e1,e2⟩) 4 him hrel
   have hkeep: ∀id,id<nx→σ3 id=σ id:=by
    intro id hid
    by_cases e:σ id=.unset
    ·have hu0:c.u0 id:=⟨hid,e⟩
     rw[e];exact d3 id (clt0 id hu0).2 (c1.un id (.inr (.inr hu0)))
    ·exact d1.ext id e
   refine⟨v,hv,v,σ3,fun k=>I3 k∨∃id o base sz,p.1 id=some o∧σ3 id=.at_ k base sz,rfl,d1.os,d1.tape,d1.output,d1.size,fun k hk=>d1.old k hk (fun h=>h),hkeep,fun k hk=>?_,fun k hk=>?_,him'⟩
   ·rcases hk with hk|⟨id,o,base,sz,e1,e2⟩
    ·rcases d1.inew k hk with h|h|h
     ·exact .inl h
     ·exact .inr h
     ·exact h.elim
    ·rcases d1.blkNew e1 e2 with h|h|h
     ·exact .inl h
     ·exact .inr h
     ·exact h.elim
   ·rcases hk with hk|⟨id,o,base,sz,e1,e2⟩
    ·exact d1.ilt k hk
    ·exact(d1.own id o e1).lt e2
  have c1':Inv {c with df:=[D]} σ2 I2 w' t.hp (fun id=>t.cx≤id):=c1.mono_un fun id hid=> .inl hid
  have ret:(∃p,gI capsA t.hp t.cx=some p∧aK (bV P fn.results.toList {t with hp:=p.1}) (cO 4 p.1)=some r)→Leaves P fn a'.tmps (fun e w3=> ∃v' σ' I',e=.returned v'∧w3.os=w.os∧w3.tape=w.tape∧w3.output=w.output∧w.heap.size≤w3.heap.size∧(∀k,k<w.heap.size→w3.heap[k]? =w.heap[k]?)∧
     (∀id,id<nx→σ' id=σ id)∧(∀k,I' k→I k∨w.heap.size≤k)∧(∀k,I' k→k<w3.heap.size)∧Rel σ' I' w3 r v') a'.defers .returning w':=by
   rintro⟨p,hp1,hres⟩
   rw[hd']
   obtain⟨_,hcalls⟩:=hI {c with df:=[D]} σ2 I2 w' t.hp t.cx capsA V p.1 p.2 rfl c1' hVs hVr2 hp1
   refine leaves_cons (by simp) hinv (fun c₀ cs hm=>?_)
   obtain⟨e',u1,w3,fr',hRR,hst⟩:=hcalls c₀ cs hm
   refine⟨e',u1,w3,fr',?_,hst⟩
   obtain⟨v,σ3,I3,rfl,rfl,d1,d2,d3⟩:=hRR
   exact fin p σ3 I3 w3 hres d1 d2 d3
  cases e with
  |ret=>exact ret hq
  |normal=>exact ret hq
  |panic ch'=>
   obtain⟨rfl,p,hp1,hres⟩:=hq
   show Leaves P fn a'.tmps _ a'.defers (.panicking ch') w'
   rw[hd']
   obtain⟨_,hcalls⟩:=hP {c with df:=[D]} σ2 I2 w' t.hp t.cx capsA V p.1 p.2 rfl c1' hVs hVr2 hp1
   refine leaves_cons (by simp) hinv (fun c₀ cs hm=>?_)
   obtain⟨e',u1,w3,fr',hRR,hst⟩:=hcalls c₀ cs hm
   refine⟨e',u1,w3,fr',?_,hst⟩
   obtain⟨v,σ3,I3,rfl,rfl,d1,d2,d3⟩:=hRR
   show Leaves P fn a'.tmps _ [] (settle u1) w3
   rw[hu]
   exact fin p σ3 I3 w3 hres d1 d2 d3
  |_=>exact hq.elim
 |_=>exact hq.elim
end
end Go.AX

namespace Go.AX
open Go Go.Proofs
abbrev Nm:=List (List B8)
def wl (ls:Nm):Nat:=1+(ls.map fun l=>l.length+1).sum
theorem fBj:wl []=1:=rfl
theorem eKu (l:List B8) (r:Nm):wl (l::r)=wl r+(l.length+1):=by unfold wl;simp only[List.map_cons,List.sum_cons];omega
theorem fBk (p q:Nm):wl (p++q)+1=wl p+wl q:=by unfold wl;simp only[List.map_append,List.sum_append];omega
theorem eXm (p:Nm) (l:List B8):wl (p++[l])=wl p+(l.length+1):=by have:=fBk p [l];rw[eKu,fBj]at this;omega
theorem eRc (ls:Nm) (k:Nat) (h:k<ls.length):wl (ls.take (k+1))=wl (ls.take k)+((ls.getD k []).length+1):=by
 rw[List.take_succ_eq_append_getElem h,eXm,List.getD_eq_getElem?_getD,List.getElem?_eq_getElem h];rfl
def gZ (l:List B8):Prop:=1≤l.length∧l.length≤63
instance (l:List B8):Decidable (gZ l):=by unfold gZ;infer_instance
theorem eKw:ofV (Value.string {data:= #[]})=.s []:=(rfl)
def eTn:List AV→Option AV
 |[.sl n xs]=>aK (unS xs) fun ls=>aN (ls.length=n∧n≤1000000∧∀l∈ls,gZ l) (some (.i (if 255<wl ls then 31 else 0)))
 |_=>none
theorem eZq (n:Nat) (xs:List AV):eTn [.sl n xs]=aK (unS xs) fun ls=>aN (ls.length=n∧n≤1000000∧∀l∈ls,gZ l) (some (.i (if 255<wl ls then 31 else 0))):=(rfl)
attribute [go_sem] eZq
theorem eWb {ls:Nm} (h: ∀l∈ls,gZ l) {k:Nat} (hk:k<ls.length):gZ (ls.getD k []):=by
 rw[List.getD_eq_getElem?_getD,List.getElem?_eq_getElem hk];exact h _ (List.getElem_mem hk)
set_option maxHeartbeats 2000000 in
theorem fDk:cL Try.prog GLh 86 eTn:=by
 refine cC Try.func86 (aT rfl) ?_
 intro args r hg
 unfold eTn at hg
 split at hg
 ·rename_i n xs
  replace hg:=aJ hg;obtain⟨ls,hl,hg⟩:=hg
  replace hg:=aP hg;obtain⟨⟨rfl,hn,hall⟩,hg⟩:=hg
  obtain rfl:=J0 hg
  have:=gT hl;subst this
  refine⟨J1 rfl,fun nx=>?_⟩
  clear hl hg
  refine aA rfl (aW [0] rfl rfl rfl fun K hK=>?_)
  simp(disch:=omega) only[Try.f86,go_sem,↓reduceIte]
  refine hK _ ?_
  refine aB (aA rfl (aW [0,3,4] rfl rfl rfl fun K hK=>?_))
  simp(disch:=omega) only[Try.f86,go_sem,↓reduceIte]
  refine hK _ ?_
  refine aB (aA rfl (aA rfl (aW [3,4,7,8,9] rfl rfl rfl fun K hK=>?_)))
  simp(disch:=omega) only[Try.f86,go_sem,↓reduceIte]
  refine hK _ ?_
  refine aB (aR 0 rfl rfl (bR (fun p:KC5=> {fr:=[(3,.i ((min (wl (ls.take p.k)) 510:Nat):Int)),(4,.b false),(7,.sl ls.length (cS ls)),(8,.i (ls.length:Int)),(9,.i (p.k:Int))],hp:=fun _=>none,nx:=0,cx:=p.c}) (fun p=>p.k≤ls.length) (fun p=>ls.length-p.k) rfl ⟨⟨0,_⟩,Nat.zero_le _,bD rfl rfl (U3 _)⟩ ?_))
  rintro⟨k,c⟩ hk n0
  simp only at hk⊢
  refine aA rfl (aW [10,3,4,7,8,9] rfl rfl rfl fun K hK=>?_)
  simp(disch:=omega) only[Try.f86,go_sem,↓reduceIte]
  refine hK _ ?_
  refine aB (aA rfl (bA (.tmp 10) rfl rfl rfl (fun h=>?_) (fun h=>?_)))
  ·refine aI rfl ?_
   have hkl:k<ls.length:=by omega
   have hlk:=eWb hall hkl
   have hst:=eRc ls k hkl
   obtain⟨l,hl⟩: ∃l,ls.getD k []=l:=⟨_,rfl⟩
   rw[hl]at hlk hst
   unfold gZ at hlk
   have hne:decide (l=[])=false:=J6 fun e=>by rw[e]at hlk;simp at hlk
   refine aQ rfl (aB (aA rfl (aR 1 rfl rfl (aA rfl (aW [3,4,6,7,8,9] rfl rfl rfl fun K hK=>?_)))))
   simp(disch:=omega) only[Try.f86,go_sem,↓reduceIte,hl]
   refine hK _ ?_
   refine aB (aA rfl (aA rfl (aW [14,3,4,6,7,8,9] rfl rfl rfl fun K hK=>?_)))
   simp(disch:=omega) only[Try.f86,go_sem,↓reduceIte,hne,eKw]
   refine hK _ ?_
   refine aB (eC (.tmp 14) rfl rfl rfl (fun h=>?_) (fun h=>?_))
   ·refine aI rfl ?_
    cases h
   refine aI rfl ?_
   clear h
   refine aQ rfl (aB (aA rfl ?_))
   have h63:decide (63<(l.length:Int))=false:=J6 (by omega)
   refine aW [3,4,6,7,8,9] rfl rfl rfl fun K hK=>?_
   simp(disch:=omega) only[Try.f86,go_sem,↓reduceIte,h63]
   refine hK _ ?_
   refine aB ?_
   have e1:(if(255:Int)<(l.length:Int)then(255:Int)else(l.length:Int))=(l.length:Int):=J3 (by omega)
   have e2:(if(510:Int)<((min (wl (ls.take k)) 510:Nat):Int)+1+(l.length:Int)then(510:Int)else((min (wl (ls.take k)) 510:Nat):Int)+1+(l.length:Int))=((min (wl (ls.take (k+1))) 510:Nat):Int):=by rw[hst];split<;>omega
   refine aW [3,4,7,8,9] rfl rfl rfl fun K hK=>?_
   simp(disch:=omega) only[Try.f86,go_sem,↓reduceIte,e1,e2]
   refine hK _ ?_
   refine bU (aB (aW [3,4,7,8,9] rfl rfl rfl fun K hK=>?_))
   simp(disch:=omega) only[Try.f86,go_sem,↓reduceIte]
   refine hK _ ?_
   refine bT ?_
   refine⟨⟨k+1,_⟩,by simp only;omega,by simp only;omega,bD ?_ rfl (U3 _)⟩
   simp only[Int.natCast_add,Int.natCast_one]
  refine aI rfl ?_
  obtain rfl:k=ls.length:=by omega
  have et:ls.take ls.length=ls:=List.take_length
  refine bF 0 rfl rfl (aY (aZ (bE (aB (aA rfl (aA rfl ?_))))))
  by_cases hw:255<wl ls
  ·have hd:decide (255<((min (wl ls) 510:Nat):Int))=true:=J5 (by omega)
   refine aW [33] rfl rfl rfl fun K hK=>?_
   simp(disch:=omega) only[Try.f86,go_sem,↓reduceIte,et,hd]
   refine hK _ ?_
   refine aB (eC (.tmp 33) rfl rfl rfl (fun h=>?_) (fun h=>?_))
   ·refine aI rfl (aA rfl (aW [2] rfl rfl rfl fun K hK=>?_))
    simp(disch:=omega) only[Try.f86,go_sem,↓reduceIte]
    refine hK _ ?_
    refine aB (aS rfl (bI ?_))
    simp(disch:=omega) only[cN,bV,bK,bQ,Try.f86,go_sem,↓reduceIte,hw]
   refine aI rfl ?_
   cases h
  have hd:decide (255<((min (wl ls) 510:Nat):Int))=false:=J6 (by omega)
  refine aW [33] rfl rfl rfl fun K hK=>?_
  simp(disch:=omega) only[Try.f86,go_sem,↓reduceIte,et,hd]
  refine hK _ ?_
  refine aB (eC (.tmp 33) rfl rfl rfl (fun h=>?_) (fun h=>?_))
  ·refine aI rfl ?_
   cases h
  refine aI rfl ?_
  clear h
  refine aQ rfl (aB (aA rfl (aW [2] rfl rfl rfl fun K hK=>?_)))
  simp(disch:=omega) only[Try.f86,go_sem,↓reduceIte]
  refine hK _ ?_
  refine aB (aS rfl ?_)
  simp(disch:=omega) only[cN,bV,bK,bQ,Try.f86,go_sem,↓reduceIte,hw]
 cases hg
theorem fFg:bX Try.prog GLh 86 (.pure true eTn):=⟨⟨_,Try.func86,rfl,rfl⟩,fDk⟩
end Go.AX

namespace Go.AX
open Go Go.Proofs
theorem cvb5 (hp hp2:H) (cx id:Nat) (x:AV) (sd:Bool):cvF hp hp2 cx id x Try.prog.underlying sd (some (.slice 5)) (some .string)=aK (fG hp2 1 x) fun nl=>aK (cI nl.2) fun l=>some (.s l,hp,cx):=aXn _ _ _ _ _ _ _ _ Try.underlying5
theorem cvs5 (hp hp2:H) (cx id:Nat) (l:List B8) (sd:Bool):cvF hp hp2 cx id (.s l) Try.prog.underlying sd (some .string) (some (.slice 5))=aN (l.length≤140737488355328) (some (.os id 0 l.length 1 true,upd hp id (.cells (l.map .w8) true),cx)):=aXm _ _ _ _ _ _ _ _ Try.underlying5
attribute [go_sem] cvb5 cvs5
def opN:Nat→List B8→Option (Nm×Nat)
 |0,_=>none
 |_+1,[]=>none
 |f+1,k::r=>if k.toNat=0 then some ([],1)else if 63<k.toNat∨r.length<k.toNat then none else match opN f (r.drop k.toNat)with
  |some (n,s)=>some (r.take k.toNat::n,s+1+k.toNat)
  |none=>none
def eRb (ns:Nm) (i:Nat):Option (Nm×Nat)→Option (Nm×Nat)
 |some (n,s)=>some (ns++n,i+s)
 |none=>none
theorem eYo (f:Nat):opN (f+1) []=none:=rfl
theorem eYp {f:Nat} {b:List B8} {i:Nat} (h:i<b.length) (hk:(b.getD i 0#8).toNat=0):opN (f+1) (b.drop i)=some ([],1):=by
 rw[List.drop_eq_getElem_cons h,opN]
 rw[List.getD_eq_getElem?_getD,List.getElem?_eq_getElem h]at hk
 exact J4 hk
theorem eYq {f:Nat} {b:List B8} {i:Nat} (h:i<b.length) (hk: ¬(b.getD i 0#8).toNat=0) (h2:63<(b.getD i 0#8).toNat∨b.length-(i+1)<(b.getD i 0#8).toNat):opN (f+1) (b.drop i)=none:=by
 rw[List.drop_eq_getElem_cons h,opN]
 rw[List.getD_eq_getElem?_getD,List.getElem?_eq_getElem h]at hk h2
 simp only[Option.getD_some]at hk h2
 rw[J3 hk,J4 (by rw[List.length_drop];exact h2)]
theorem eVh {f:Nat} {b:List B8} {i:Nat} (ns:Nm) (h:i<b.length) (hk: ¬(b.getD i 0#8).toNat=0) (h2: ¬63<(b.getD i 0#8).toNat) (h3: ¬b.length-(i+1)<(b.getD i 0#8).toNat):
  eRb ns i (opN (f+1) (b.drop i))=eRb (ns++[(b.drop (i+1)).take (b.getD i 0#8).toNat]) (i+1+(b.getD i 0#8).toNat) (opN f (b.drop (i+1+(b.getD i 0#8).toNat))):=by
 rw[List.drop_eq_getElem_cons h,opN]
 rw[List.getD_eq_getElem?_getD,List.getElem?_eq_getElem h]at hk h2 h3⊢
 simp only[Option.getD_some]at hk h2 h3⊢
 rw[J3 hk,J3 (by rw[List.length_drop];omega),List.drop_drop]
 cases opN f (b.drop (i+1+b[i].toNat))with
 |none=>rfl
 |some p=>obtain⟨n,s⟩:=p;simp only[eRb,List.append_assoc,List.singleton_append];congr 2;omega
theorem eOv: ∀(f:Nat) (b:List B8) (n:Nm) (s:Nat),opN f b=some (n,s)→(∀l∈n,gZ l)∧wl n=s∧s≤b.length
 |0,_,_,_,h=>by cases h
 |_+1,[],_,_,h=>by cases h
 |f+1,k::r,n,s,h=>by
  rw[opN]at h
  split at h
  ·simp only[Option.some.injEq,Prod.mk.injEq]at h;obtain⟨rfl,rfl⟩:=h
   exact⟨fun l hl=>(by cases hl),rfl,by simp⟩
  rename_i h1
  split at h
  ·cases h
  rename_i h2
  split at h
  ·rename_i n2 s2 e
   simp only[Option.some.injEq,Prod.mk.injEq]at h;obtain⟨rfl,rfl⟩:=h
   obtain⟨a1,a2,a3⟩:=eOv f _ _ _ e
   rw[List.length_drop]at a3
   have hl:(r.take k.toNat).length=k.toNat:=by rw[List.length_take];omega
   refine⟨fun l hl2=>?_,?_,by rw[List.length_cons];omega⟩
   ·rcases List.mem_cons.1 hl2 with rfl|hl2
    ·unfold gZ;omega
    exact a1 l hl2
   rw[eKu,hl,a2];omega
  cases h
def o1T:Option (Nm×Nat)→Option AV
 |some (n,s)=>some (.tup [.sl n.length (cS n),.i (s:Int)])
 |none=>none
theorem fFz (n:Nm) (s:Nat):o1T (some (n,s))=some (.tup [.sl n.length (cS n),.i (s:Int)]):=(rfl)
attribute [go_sem] fFz
def o1G:List AV→Option (Option AV)
 |[.rp [.sl n xs]]=>aK (cI xs) fun b=>aN (b.length=n∧n≤100000) (some (o1T (opN (b.length+1) b)))
 |_=>none
theorem fCg (n:Nat) (xs:List AV):o1G [.rp [.sl n xs]]=aK (cI xs) fun b=>aN (b.length=n∧n≤100000) (some (o1T (opN (b.length+1) b))):=(rfl)
attribute [go_sem] fCg
theorem eQt:dE Try.prog GLh 81 (chF 30) (eQa 30):=ePz 30
structure SON where
 i:Nat
 f:Nat
 id:Nat
 ns:Nm
 c:Nat
set_option maxHeartbeats 4000000 in
theorem eRq:cL Try.prog GLh 80 (ppG o1G)∧dE Try.prog GLh 80 (chF 30) (ppP o1G):=by
 refine cSh Try.func80 (aT rfl) ?_
 intro args o hg
 unfold o1G at hg
 split at hg
 ·rename_i n xs
  replace hg:=aJ hg;obtain⟨b,hl,hg⟩:=hg
  replace hg:=aP hg;obtain⟨⟨rfl,hn⟩,hg⟩:=hg
  obtain rfl:=J0 hg
  have:=bW hl;subst this
  refine⟨J1 rfl,fun nx=>?_⟩
  clear hl hg
  obtain⟨ans,hans⟩: ∃a,opN (b.length+1) b=a:=⟨_,rfl⟩
  rw[hans]
  have hadd:eRb [] 0 (opN (b.length+1) (b.drop 0))=ans:=by
   rw[J9,hans]
   cases ans with
   |none=>rfl
   |some p=>obtain⟨n,s⟩:=p;simp[eRb]
  refine aA rfl (aW [0] rfl rfl rfl fun K hK=>?_)
  simp(disch:=omega) only[Try.f80,go_sem,↓reduceIte]
  refine hK _ ?_
  refine aB (aA rfl (aW [0,3] rfl rfl rfl fun K hK=>?_))
  simp(disch:=omega) only[Try.f80,go_sem,↓reduceIte]
  refine hK _ ?_
  refine aB (aA rfl (aW [0,3,4] rfl rfl rfl fun K hK=>?_))
  simp(disch:=omega) only[Try.f80,go_sem,↓reduceIte]
  refine hK _ ?_
  refine aB (iE 3 1 rfl (fF [0,3,4] ?_))
  simp only[iB,fU,eW,↓reduceIte,Nat.reduceEqDiff]
  refine aR 0 rfl rfl ?_
  refine bR (fun p:SON=> {fr:=[(0,.rp [.sl b.length (c8 b)]),(3,.os p.id 0 p.ns.length 1 true),(4,.i (p.i:Int))],hp:=upd (fun _=>none) p.id (.cells (cS p.ns) true),nx:=0,cx:=p.c}) (fun p=>p.i≤b.length∧p.ns.length≤p.i∧b.length<p.i+p.f∧eRb p.ns p.i (opN p.f (b.drop p.i))=ans∧p.id<p.c) (fun p=>b.length-p.i) rfl ⟨⟨0,b.length+1,_,[],_⟩,⟨Nat.zero_le _,Nat.zero_le _,by simp only;omega,hadd,by simp only;omega⟩,bD rfl rfl (U3 _)⟩ ?_
  rintro⟨i,f,id,ns,cx⟩ ⟨hi,hnl,hf,hop,hid⟩ n0
  simp only at hi hnl hf hop hid⊢
  refine aR 1 rfl rfl (aA rfl (aA rfl (aW [9,0,3,4] rfl rfl rfl fun K hK=>?_)))
  simp(disch:=omega) only[Try.f80,go_sem,↓reduceIte]
  refine hK _ ?_
  refine aB (bA (.tmp 9) rfl rfl rfl (fun h=>?_) (fun h=>?_))
  ·refine aI rfl ?_
   obtain⟨g,rfl⟩: ∃g,f=g+1:=⟨f-1,by omega⟩
   have hno:ans=none:=by
    rw[←hop,List.drop_of_length_le (by omega),eYo];rfl
   refine dCn (Γ:=aL) 0 (eQt) ePc (aD _ _) rfl rfl rfl (fun Z hZ=>?_)
   simp(disch:=omega) only[Try.f80,go_sem,bG,eq_self,true_and,bP,List.map_cons,List.map_nil,List.append_nil,U1]
   refine hZ _ ?_;clear hZ Z
   rw[hno]
   exact rfl
  refine aI rfl ?_
  have hil:i<b.length:=by omega
  obtain⟨g,rfl⟩: ∃g,f=g+1:=⟨f-1,by omega⟩
  have hend:=eYp (f:=g) hil
  have hbad:=eYq (f:=g) hil
  have hstep:=eVh (f:=g) ns hil
  obtain⟨k,hk⟩: ∃k,b.getD i 0#8=k:=⟨_,rfl⟩
  rw[hk]at hend hbad hstep
  have hkl:=k.isLt
  refine aQ rfl (aB (aA rfl (aW [0,3,4,5] rfl rfl rfl fun K hK=>?_)))
  simp(disch:=omega) only[Try.f80,go_sem,↓reduceIte,hk]
  refine hK _ ?_
  refine aB (aA rfl (aA rfl (aW [17,0,3,4,5] rfl rfl rfl fun K hK=>?_)))
  simp(disch:=omega) only[Try.f80,go_sem,↓reduceIte]
  refine hK _ ?_
  refine aB (bA (.tmp 17) rfl rfl rfl (fun h=>?_) (fun h=>?_))
  ·refine aI rfl ?_
   have hno:ans=none:=by rw[←hop,hbad (by omega) (.inl (by omega))];rfl
   refine dCn (Γ:=aL) 0 (eQt) ePc (aD _ _) rfl rfl rfl (fun Z hZ=>?_)
   simp(disch:=omega) only[Try.f80,go_sem,bG,eq_self,true_and,bP,List.map_cons,List.map_nil,List.append_nil,U1]
   refine hZ _ ?_;clear hZ Z
   rw[hno]
   exact rfl
  refine aI rfl (aQ rfl (aB (aA rfl (aW [0,3,4,5] rfl rfl rfl fun K hK=>?_))))
  simp(disch:=omega) only[Try.f80,go_sem,↓reduceIte]
  refine hK _ ?_
  refine aB (aA rfl (aA rfl (aW [22,0,3,4,5] rfl rfl rfl fun K hK=>?_)))
  simp(disch:=omega) only[Try.f80,go_sem,↓reduceIte]
  refine hK _ ?_
  refine aB (bA (.tmp 22) rfl rfl rfl (fun h=>?_) (fun h=>?_))
  ·refine aI rfl ?_
   have hyes:ans=some (ns,i+1):=by rw[←hop,hend (by omega)];simp[eRb]
   refine aA rfl (aW [1,2] rfl rfl rfl fun K hK=>?_)
   simp(disch:=omega) only[Try.f80,go_sem,↓reduceIte]
   refine hK _ ?_
   refine aB ?_
   rw[hyes]
   have ei:(i:Int)+1=((i+1:Nat):Int):=rfl
   refine aS rfl (bI (bN (dF (bN ?_))))
   simp(disch:=omega) only[cN,bV,bK,bQ,Try.f80,go_sem,↓reduceIte,ei]
  refine aI rfl (aQ rfl (aB (aA rfl (aA rfl (aW [30,0,3,4,5] rfl rfl rfl fun K hK=>?_)))))
  simp(disch:=omega) only[Try.f80,go_sem,↓reduceIte]
  refine hK _ ?_
  refine aB (bA (.tmp 30) rfl rfl rfl (fun h=>?_) (fun h=>?_))
  ·refine aI rfl ?_
   have hno:ans=none:=by rw[←hop,hbad (by omega) (.inr (by omega))];rfl
   refine dCn (Γ:=aL) 0 (eQt) ePc (aD _ _) rfl rfl rfl (fun Z hZ=>?_)
   simp(disch:=omega) only[Try.f80,go_sem,bG,eq_self,true_and,bP,List.map_cons,List.map_nil,List.append_nil,U1]
   refine hZ _ ?_;clear hZ Z
   rw[hno]
   exact rfl
  refine aI rfl ?_
  have hst:=hstep (by omega) (by omega) (by omega)
  rw[hop]at hst
  have e1:((i:Int)+1).toNat=i+1:=by omega
  have e2:((i:Int)+1+(k.toNat:Int)).toNat=i+1+k.toNat:=by omega
  have e3:i+1+k.toNat-(i+1)=k.toNat:=by omega
  obtain⟨d,hd⟩: ∃d,(b.drop (i+1)).take k.toNat=d:=⟨_,rfl⟩
  have hdl:d.length=k.toNat:=by rw[←hd,List.length_take,List.length_drop];omega
  rw[hd]at hst
  refine aQ rfl (aB (aW [0,3,4] rfl rfl rfl fun K hK=>?_))
  simp(disch:=omega) only[Try.f80,go_sem,↓reduceIte,e1,e2,e3,hd,hdl]
  refine hK _ ?_
  refine bU (bT ?_)
  have hsn:cS ns++[AV.s d]=cS (ns++[d]):=cQq ns [d]
  refine⟨⟨i+1+k.toNat,g,cx+4+6+2+3+2+6+9,ns++[d],_⟩,⟨by simp only;omega,by simp only[List.length_append,List.length_singleton];omega,by simp only;omega,hst.symm,by simp only;omega⟩,by simp only;omega,⟨fun _=> .inr ?_,fun j o h=>?_,U3 _⟩⟩
  ·simp only[List.length_append,List.length_singleton,Int.natCast_add,Int.natCast_one]
  simp only at h
  exact bS (by simp(disch:=omega) only[aV,↓reduceIte,eq_self,hsn]) (cB) j o h
 cases hg
theorem dYp:dE Try.prog GLh 80 (chF 30) (ppP o1G):=eRq.2
theorem fDn:cJ Try.prog 80:=⟨_,Try.func80,rfl,rfl⟩
theorem cKo:bX Try.prog GLh 80 (.pure false (ppG o1G)):=⟨⟨_,Try.func80,rfl,rfl⟩,eRq.1⟩
end Go.AX

namespace Go.AX
open Go
def uO (i:Nat) (L:List (List Nat)):List (List Nat):=L.filterMap fun l=>match l with|[]=>none|j::r=>if j=i then some r else none
theorem aCi {i:Nat} {L:List (List Nat)} {r:List Nat}:r∈uO i L↔(i::r)∈L:=by
 unfold uO
 rw[List.mem_filterMap]
 constructor
 ·rintro⟨l,hl,h⟩
  cases l with
  |nil=>cases h
  |cons j q=>
   simp only at h
   split at h
   ·rename_i e;obtain rfl:=J0 h;subst e;exact hl
   cases h
 intro h;exact⟨_,h,by simp⟩
def wR (ops:Array Oper):Nat→Array Bool→List (List Nat)→Bool
 |0,listed,L=>(Region.ready .any ops listed).isEmpty&&L.contains []
 |n+1,listed,L=>(!(Region.ready .any ops listed).isEmpty||L.contains [])&&(Region.ready .any ops listed).all fun i=> !(uO i L).isEmpty&&wR ops n (listed.setIfInBounds i true) (uO i L)
section
variable {P : Program} {Γ : Env} {c : Ctx} {σ0 : Nat → Loc} {I0 : Nat → Prop} {w0 : World} {md : Nat → Nat} {ops : Array Oper}
theorem aZt (hΓ:eJ P c.GL Γ) {Q:Exit→Act→World→Prop} (hdst:fK c.nt ops.toList=true):
  ∀(fuel:Nat) (listed:Array Bool) (L:List (List Nat)) (s:S) (a:Act) (w:World),listed.size=ops.size→wR ops fuel listed L=true→
   (∀l∈L,∃s',dQ P Γ c.GL md ops l s=some s'∧∀a' w',R c σ0 I0 w0 (fun _=>False) s' a' w'→Q .normal a' w')→R c σ0 I0 w0 (fun k=>k∈unl ops.size listed) s a w→wpAny P .any ops Q fuel listed a w:=by
 have fin: ∀(L:List (List Nat)) (rem:Nat→Prop) (s:S) (a:Act) (w:World),L.contains []=true→(∀l∈L,∃s',dQ P Γ c.GL md ops l s=some s'∧∀a' w',R c σ0 I0 w0 (fun _=>False) s' a' w'→Q .normal a' w')→R c σ0 I0 w0 rem s a w→Q .normal a w:=by
  intro L rem s a w hL h hR
  obtain⟨s',h1,h2⟩:=h [] (by simpa using hL)
  obtain rfl:=J0 h1
  exact h2 _ _ (hR.un fun _ h=>h.elim)
 intro fuel
 induction fuel with
 |zero=>
  intro listed L s a w _ hc h hR
  simp only[wR,Bool.and_eq_true,List.isEmpty_iff]at hc
  exact⟨hc.1,fin L _ s a w hc.2 h hR⟩
 |succ fuel ih=>
  intro listed L s a w hsz hc h hR
  simp only[wR,Bool.and_eq_true,Bool.or_eq_true,Bool.not_eq_true',List.all_eq_true]at hc
  refine⟨fun hr=>?_,fun i hi=>?_⟩
  ·rcases hc.1 with h1|h1
   ·rw[hr]at h1;cases h1
   ·exact fin L _ s a w h1 h hR
  obtain⟨hne,hcov⟩:=hc.2 i hi
  obtain⟨hun,x,hx,hall⟩:=mem_ready.1 hi
  have hlt:=(Array.getElem?_eq_some_iff.1 hx).1
  have hmem:i∈unl ops.size listed:=by unfold unl;rw[List.mem_filter,List.mem_range];exact⟨hlt,by rw[hun];rfl⟩
  obtain⟨r0,hr0⟩: ∃r,r∈uO i L:=by
   cases hT:uO i L with
   |nil=>rw[hT]at hne;cases hne
   |cons r q=>exact⟨r,by simp⟩
  obtain⟨sf,hf,_⟩:=h _ (aCi.1 hr0)
  simp only[dQ,hx]at hf
  replace hf:=aJ hf;obtain⟨s1,f1,_⟩:=hf
  have hstep:=fX (K:=wpAny P .any ops Q fuel (listed.setIfInBounds i true)) (Q:=Q) (ops:=ops) hΓ f1 (lU hdst (Array.mem_toList_iff.2 (Array.mem_of_getElem? hx))) (rem:=fun k=>k∈unl ops.size listed) hmem hR (fun a' w' hR'=>
   ih (listed.setIfInBounds i true) (uO i L) s1 a' w' (by simpa using hsz) hcov (fun l hl=>by
     obtain⟨s',g1,g2⟩:=h _ (aCi.1 hl)
     simp only[dQ,hx]at g1
     rw[f1,aX]at g1
     exact⟨s',g1,g2⟩)
    (hR'.un fun k hk=>by
     simp only[unl,List.mem_filter,List.mem_range]at hk⊢
     by_cases hki:k=i
     ·subst hki
      rw[Array.getD_eq_getD_getElem?,Array.getElem?_setIfInBounds_self_of_lt (by omega)]at hk
      simp at hk
     ·rw[getD_set_ne true (Ne.symm hki)]at hk
      exact⟨hk,hki⟩))
  unfold wpOp
  simp only[hx]
  split
  ·rename_i hw;rw[J4 hw]at hstep;exact .inl hstep
  ·rename_i hw;rw[J3 hw]at hstep;exact hstep
end
def yR (P:Program) (Γ:Env) (GL:Nat→Option (List AV)) (m n k:Nat) (s:S):Option LOp→Option S
 |some o=>eEj P Γ GL m n k o s
 |none=>none
def aIk (P:Program) (Γ:Env) (GL:Nat→Option (List AV)) (n:Nat) (ls:List LOp):List Nat→S→Option S
 |[],s=>some s
 |i::r,s=>aK (yR P Γ GL 0 n i s ls[i]?) fun s'=>aIk P Γ GL n ls r s'
@[congr] theorem cId {P : Program} {Γ : Env} {GL : Nat → Option (List AV)} {n : Nat} {ls : List LOp} {l : List Nat} {s s' : S} (h : s = s') : aIk P Γ GL n ls l s = aIk P Γ GL n ls l s' := by rw [h]
theorem cUg (P Γ GL n ls s):aIk P Γ GL n ls [] s=some s:=(rfl)
theorem cSg (P Γ GL n ls i r s):aIk P Γ GL n ls (i::r) s=aK (yR P Γ GL 0 n i s ls[i]?) fun s'=>aIk P Γ GL n ls r s':=(rfl)
theorem eDt (P Γ GL m n k s o):yR P Γ GL m n k s (some o)=eEj P Γ GL m n k o s:=(rfl)
def aUe (f:List Nat→Prop):List (List Nat)→Prop
 |[]=>True
 |l::r=>f l∧aUe f r
theorem aQh (f):aUe f []=True:=(rfl)
theorem aHu (f l r):aUe f (l::r)=(f l∧aUe f r):=(rfl)
theorem aDs {f:List Nat→Prop}: ∀ {L:List (List Nat)},aUe f L→∀l∈L,f l
 |[],_,l,h=>by cases h
 |x::r,h,l,hl=>by
  rcases List.mem_cons.1 hl with e|hl
  ·subst e;exact h.1
  exact aDs h.2 l hl
def dBc (c:Code) (L:List (List Nat)):Bool:=wR (aM c) (aM c).size (Array.replicate (aM c).size false) L
theorem dCp {P:Program} {GL:Nat→Option (List AV)} {nt:Nat} {Q:Exit→S→Prop} {s:S} {code:Code} {Γ:Env} (L:List (List Nat)) (ks:List Nat) (hm:P.follows .mixedOrders=true) (hΓ:eJ P GL Γ) (hc:eEs code=true) (hd:lZ code=true) (ho:fK nt (aM code).toList=true) (hk:dBc code L=true)
  (h: ∀K:S→Prop,(∀t,Q .normal t→K t)→aUe (fun l=>nH (aIk P Γ GL (rN code) (aF code) l (cX (rN code) s)) fun t=>K {t with fr:=gL ks t.fr}) L):Awp P GL nt code s Q:=by
 have h':=aDs (h (Q .normal) fun _ h=>h)
 clear h
 refine sX ?_
 cases code<;>first|(cases hc;done)|skip
 rename_i id ops d
 simp only[lZ]at hd
 subst hd
 intro c h1 h2 σ0 I0 w0 a w hR
 subst h1;subst h2
 simp only[aM,dBc]at ho hk
 have h0:unl ops.size (Array.replicate ops.size false)=List.range ops.size:=by
  unfold unl
  refine List.filter_eq_self.2 fun k hk=>?_
  rw[List.mem_range]at hk
  rw[Array.getD_eq_getD_getElem?,Array.getElem?_replicate,J4 hk];rfl
 have hrun: ∀(l:List Nat) (s:S),aIk P Γ c.GL (rN (.region id ops true)) (aF (.region id ops true)) l s=dQ P Γ c.GL (fun _=>0) ops l s:=by
  intro l
  induction l with
  |nil=>intro s;rfl
  |cons i r ih=>
   intro s
   have hl:(aF (.region id ops true))[i]? =(ops[i]?).map (aG ops):=by simp only[aF,aM,List.getElem?_map,Array.getElem?_toList]
   simp only[aIk,dQ,hl]
   cases ops[i]? with
   |none=>rfl
   |some o=>
    simp only[Option.map_some,yR,vJ]
    congr 1
    funext s'
    exact ih s'
 refine wp_region_any hm (aZt (σ0:=σ0) (I0:=I0) (w0:=w0) (md:=fun _=>0) hΓ ho ops.size _ L (cX ops.size s) a _ (by simp) hk (fun l hl=>?_) ?_)
 ·obtain⟨t,e1,e2⟩:=mR (h' l hl)
  rw[hrun]at e1
  exact⟨t,e1,fun a' w' hR'=>⟨t,⟨_,e2,dWs ks t,rfl⟩,hR'⟩⟩
 ·exact((hR.enter ops.size).un fun k hk=>by rw[h0]at hk;exact List.mem_range.1 hk).world rfl rfl rfl rfl
end Go.AX

namespace Go.AX
open Go Go.Proofs
set_option maxRecDepth 20000
theorem dPj {f:FuncId} {n:Nat} (h: ∀(vals:Array Value) (w:World),vals.size=n→CallsD Try.prog f vals .returning w fun e u1 w'=>e=.returned (.tuple #[])∧u1=.returning∧w'=w):bSj Try.prog GLh f .returning .returning (fun args hp nx=>aN (args.length=n) (some (hp,nx))):=by
 intro c σ I w hp nx args vals hp' nx' _ hi hs hr hg
 replace hg:=aP hg;obtain⟨hn,hg⟩:=hg
 simp only[Option.some.injEq,Prod.mk.injEq]at hg;obtain⟨rfl,rfl⟩:=hg
 refine⟨U3 _,fun c₀ cs hm=>?_⟩
 obtain⟨e,u1,w',fr,⟨rfl,rfl,rfl⟩,hst⟩:=h vals w (by rw[hs,hn]) c₀ cs hm
 exact⟨_,_,_,fr,⟨_,σ,I,rfl,rfl,hi,Grow.refl _ _ _,fun _ _ h=>h⟩,hst⟩
set_option maxRecDepth 100000 in
theorem eXg (vals:Array Value) (w:World) (hs:vals.size=3):CallsD Try.prog 85 vals .returning w fun e u1 w'=>e=.returned (.tuple #[])∧u1=.returning∧w'=w:=by
 obtain⟨l⟩:=vals
 match l,hs with
 |[a,b,c],_=>
  refine callsD_of_wpS Try.func85 rfl fun c₀ cs hu=>?_
  apply wpS_seq
  apply wpS_region
  simp[wpOpsS,go_sem,recoverD,hu,Try.ntmps85,Exit.thenS]
  apply wpS_seq
  apply wpS_region
  simp[wpOpsS,go_sem,Exit.thenS]
  refine wpS_cond (t:=false) (by simp[Act.eval,Array.replicate]) ?_
  simp only[Bool.false_eq_true,if_false]
  refine wpS_of_wp (wp_skip ?_)
  cases c₀
  simp_all [bodyPostS,results,Try.results85]
theorem fEz (x z:AV):[x].set 0 z=[z]:=(rfl)
theorem eQy:dC (.v (.slice none 0 0))=some [.v (.slice none 0 0)]:=(rfl)
attribute [go_sem] fEz eQy
def eS:Option AO→Bool
 |some (.cells [_] true)=>true
 |_=>false
theorem eG {o:Option AO} (h:eS o=true): ∃x,o=some (.cells [x] true):=by
 unfold eS at h
 split at h
 ·exact⟨_,rfl⟩
 cases h
theorem dXx (x:AV):eS (some (.cells [x] true))=true:=(rfl)
attribute [go_sem] dXx
theorem eTx {hp:H} {nx m i1 i2 i3:Nat} {a c1 c2 c3:AO} (hno: ∀id,nx≤id→hp id=none) (hm:nx≤m) (id:Nat) (o:AO) (h:upd (upd (upd hp i1 c1) i2 c2) i3 c3 id=some o):upd (upd (upd (upd hp m a) i1 c1) i2 c2) i3 c3 id=some o:=by
 simp only[bJ]at h⊢
 split
 ·rename_i e;rw[J4 e]at h;exact h
 rename_i e;rw[J3 e]at h
 split
 ·rename_i e;rw[J4 e]at h;exact h
 rename_i e;rw[J3 e]at h
 split
 ·rename_i e;rw[J4 e]at h;exact h
 rename_i e;rw[J3 e]at h
 split
 ·rename_i e;rw[e,hno m hm]at h;cases h
 exact h
def fAd (k:Int):List AV→H→Nat→Option (H×Nat)
 |[.op i1 0,.op i2 0,.op i3 0],hp,nx=>aN ((eS (hp i1)=true∧eS (hp i2)=true∧eS (hp i3)=true)∧i1≠i2∧i1≠i3∧i2≠i3∧i1<nx∧i2<nx∧i3<nx)
   (some (upd (upd (upd hp i1 (.cells [.v (.slice none 0 0)] true)) i2 (.cells [.i 0] true)) i3 (.cells [.i k] true),nx+17))
 |_,_,_=>none
theorem dYl (t:TypeId) (v:Value):ofV (.iface t v)=.v (.iface t v):=(rfl)
theorem eYt (k:Int):ofV (.agg #[.int .i64 k])=.agg [.i k]:=(rfl)
theorem isi134:uG Try.prog 134=false:=by kernel_rfl
theorem fGh {α:Type} (x:α):(some x).isSome=true:=(rfl)
attribute [go_sem] fGh dYl eYt isi134
set_option maxHeartbeats 4000000 in
theorem fAb (k:Int):bSj Try.prog GLh 85 (.panicking (chF k)) (.panicking [{v:=.iface 134 (.agg #[.int .i64 k]),recovered:=true}]) (fAd k):=by
 refine fZ (rest:=(cr (aE Try.f85))) (rv:=.iface 134 (.agg #[.int .i64 k])) (a:=6) (b:=3) Try.func85 rfl (.inl rfl) ⟨J1 rfl,J1 rfl⟩ ?_
 intro args hp nx hp' nx' hg
 unfold fAd at hg
 split at hg
 ·rename_i i1 i2 i3
  replace hg:=aP hg;obtain⟨⟨⟨o1,o2,o3⟩,n12,n13,n23,l1,l2,l3⟩,hg⟩:=hg
  simp only[Option.some.injEq,Prod.mk.injEq]at hg;obtain⟨rfl,rfl⟩:=hg
  obtain⟨x,h1⟩:=eG o1
  obtain⟨y,h2⟩:=eG o2
  obtain⟨z,h3⟩:=eG o3
  refine⟨J1 rfl,Nat.le_add_right _ _,fun hno=>?_⟩
  simp only[aOo]
  refine aA rfl (aW [8,0,1,2,3] rfl rfl rfl fun K hK=>?_)
  simp(disch:=omega) only[Try.f85,go_sem,↓reduceIte]
  refine hK _ ?_
  refine aB (eC (.tmp 8) rfl rfl rfl (fun h=>?_) (fun h=>?_))
  ·refine aI rfl (aA rfl (aW [0,1,2,3,4,5] rfl rfl rfl fun K hK=>?_))
   simp(disch:=omega) only[Try.f85,go_sem,↓reduceIte]
   refine hK _ ?_
   refine aB (aA rfl (aA rfl (aW [15,0,1,2,3,4] rfl rfl rfl fun K hK=>?_)))
   simp(disch:=omega) only[Try.f85,go_sem,↓reduceIte]
   refine hK _ ?_
   refine aB (eC (.tmp 15) rfl rfl rfl (fun h=>?_) (fun h=>?_))
   ·refine aI rfl ?_
    cases h
   refine aI rfl ?_
   clear h
   refine aQ rfl (aB (dCp (Γ:=aL) [[0,1,2,3,4],[0,2,1,3,4],[0,2,3,1,4],[2,0,1,3,4],[2,0,3,1,4],[2,3,0,1,4]] [] bZ (aD _ _) rfl rfl rfl (by kernel_rfl) (fun K hK=>?_)))
   simp(disch:=omega) only[Try.f85,go_sem,cUg,cSg,eDt,List.getElem?_cons_zero,List.getElem?_cons_succ,and_self,and_true,↓reduceIte,h1,h2,h3,List.getElem?_toArray,aHu,aQh]
   refine hK _ ?_
   exact⟨rfl,eTx hno (by omega),by simp only;omega⟩
  refine aI rfl ?_
  cases h
 cases hg
end Go.AX

namespace Go.AX
open Go Go.Proofs
set_option maxRecDepth 20000
theorem hX {P:Program} {rs:List ResultVar} {ch:List PanicEntry} {gI gP:List AV→H→Nat→Option (H×Nat)} {capsA:List AV} {r:AV} {t:S} {p:H×Nat} (h1:gP capsA t.hp t.cx=some p) (h2:aK (bV P rs {t with hp:=p.1}) (cO 4 p.1)=some r):fDc P rs ch gI gP capsA r (.panic ch) t:=⟨rfl,p,h1,h2⟩
theorem rO {P:Program} {rs:List ResultVar} {ch:List PanicEntry} {gI gP:List AV→H→Nat→Option (H×Nat)} {capsA:List AV} {r:AV} {t:S} {p:H×Nat} (h1:gI capsA t.hp t.cx=some p) (h2:aK (bV P rs {t with hp:=p.1}) (cO 4 p.1)=some r):fDc P rs ch gI gP capsA r .ret t:=⟨p,h1,h2⟩
theorem fAc (k:Int) (i1 i2 i3 nx:Nat) (hp:H):fAd k [.op i1 0,.op i2 0,.op i3 0] hp nx=aN ((eS (hp i1)=true∧eS (hp i2)=true∧eS (hp i3)=true)∧i1≠i2∧i1≠i3∧i2≠i3∧i1<nx∧i2<nx∧i3<nx)
   (some (upd (upd (upd hp i1 (.cells [.v (.slice none 0 0)] true)) i2 (.cells [.i 0] true)) i3 (.cells [.i k] true),nx+17)):=(rfl)
def fD (n:Nat) (args:List AV) (hp:H) (nx:Nat):Option (H×Nat):=aN (args.length=n) (some (hp,nx))
theorem eRt (a b c:AV) (hp:H) (nx:Nat):fD 3 [a,b,c] hp nx=some (hp,nx):=cU _ rfl
theorem fGa:o1T none=none:=(rfl)
attribute [go_sem] fAc eRt fGa
theorem eVx (n:Nm):n.length≤wl n:=by
 induction n with
 |nil=>exact Nat.zero_le _
 |cons l r ih=>rw[eKu,List.length_cons];omega
theorem fGf (P:Program) (t:TypeId) (ys:List AV):ldV P t ys=ldF P t ys (cH P t):=by simp only[ldV,ldF];cases cH P t with|none=>rfl|some b=>cases b<;>rfl
attribute [go_sem] fGf
def eLs:Option (Nm×Nat)→AV
 |none=> .tup [.sl 0 [],.i 0,.i 30]
 |some (n,s)=>if 255<wl n then .tup [.sl 0 [],.i 0,.i 31]else .tup [.sl n.length (cS n),.i (s:Int),.i 0]
def eZt:Option (Nm×Nat)→Int
 |none=>30
 |some _=>31
def eXd (k:Int):List AV→Option AV
 |[.fn 80 [.rp [.sl n xs]]]=>aK (cI xs) fun b=>aN ((b.length=n∧n≤100000)∧eZt (opN (b.length+1) b)=k) (some (eLs (opN (b.length+1) b)))
 |_=>none
def dIe:List AV→Option AV
 |[.fn 80 [.rp [.sl n xs]]]=>aK (cI xs) fun b=>aN (b.length=n∧n≤100000) (some (eLs (opN (b.length+1) b)))
 |_=>none
theorem fDm:cJ Try.prog 85:=⟨_,Try.func85,rfl,rfl⟩
theorem fGy:bSj Try.prog GLh 85 .returning .returning (fD 3):=dPj eXg
theorem fDa:dE Try.prog GLh 81 (chF 31) (eQa 31):=ePz 31
set_option maxHeartbeats 2000000 in
theorem eXb (k:Int):cL Try.prog GLh 79 (eXd k):=by
 refine cUy (r0:=(cl (aE Try.f79))) (C:=(cr (cr (aE Try.f79)))) (k:=6) (d:=85) (caps:= #[.tmp 2,.tmp 3,.tmp 4]) Try.func79 rfl (J1 rfl) fDm fGy (fAb k) rfl ?_
 intro args r hg
 unfold eXd at hg
 split at hg
 ·rename_i n xs
  replace hg:=aJ hg;obtain⟨b,hb,hg⟩:=hg
  replace hg:=aP hg;obtain⟨⟨⟨rfl,hn⟩,hk⟩,hg⟩:=hg
  obtain rfl:=J0 hg
  have:=bW hb;subst this
  refine⟨J1 rfl,fun nx=>⟨[.op nx 0,.op (nx+1) 0,.op (nx+2) 0],?_⟩⟩
  refine aW [0,2,3,4] rfl rfl rfl fun K hK=>?_
  simp(disch:=omega) only[Try.f79,go_sem,↓reduceIte]
  refine hK _ ?_
  refine⟨rfl,?_⟩
  simp only[dBa]
  rcases hop:opN (b.length+1) b with _|⟨n,s⟩
  ·rw[hop]at hk
   subst hk
   refine aA rfl (dCn (Γ:=aL) 1 (dYp) fDn (aD _ _) rfl rfl rfl (fun Z hZ=>?_))
   simp(disch:=omega) only[Try.f79,go_sem,↓reduceIte,bG,eq_self,true_and,bP,List.map_nil,hop,U0,U1]
   refine hZ _ ?_;clear hZ Z
   refine hX (gI:=fD 3) (p:=_) (by simp(disch:=omega) only[go_sem,aV,bY,↓reduceIte];rfl) ?_
   simp(disch:=omega) only[bV,bK,bQ,Try.f79,go_sem,eLs,eZt,↓reduceIte]
  rw[hop]at hk
  subst hk
  obtain⟨hlab,hwl,hsb⟩:=eOv _ _ _ _ hop
  have hlen:=eVx n
  refine aA rfl (aC (Γ:=bC [(80,.pure false (ppG o1G))]) [2,3,4] (aH cKo aO) rfl rfl rfl (fun K hK=>?_))
  simp(disch:=omega) only[Try.f79,go_sem,↓reduceIte,hop]
  refine hK _ ?_
  refine aB ?_
  have hgd: ∀x:Option AV,aN (List.length n≤1000000∧∀l∈n,gZ l) x=x:=fun x=>cU x ⟨by omega,hlab⟩
  by_cases hw:255<wl n
  ·refine aA rfl (aA rfl (aC (Γ:=bC [(86,.pure true eTn)]) [2,3,4,5] (aH fFg aO) rfl rfl rfl (fun K hK=>?_)))
   simp(disch:=omega) only[Try.f79,go_sem,↓reduceIte,aQr,hgd,J4 hw]
   refine hK _ ?_
   refine aB (aA rfl (aW [15,2,3,4,5] rfl rfl rfl fun K hK=>?_))
   simp(disch:=omega) only[Try.f79,go_sem,↓reduceIte]
   refine hK _ ?_
   refine aB (eC (.tmp 15) rfl rfl rfl (fun h=>?_) (fun h=>?_))
   ·refine aI rfl (dCn (Γ:=aL) 1 (fDa) ePc (aD _ _) rfl rfl rfl (fun Z hZ=>?_))
    simp(disch:=omega) only[Try.f79,go_sem,↓reduceIte,bG,eq_self,true_and,bP,List.map_cons,List.map_nil,List.append_nil,U0,U1]
    refine hZ _ ?_;clear hZ Z
    refine hX (gI:=fD 3) (p:=_) (by simp(disch:=omega) only[go_sem,aV,bY,↓reduceIte];rfl) ?_
    simp(disch:=omega) only[bV,bK,bQ,Try.f79,go_sem,eLs,eZt,↓reduceIte,J4 hw]
   exact aI rfl (absurd h (by decide))
  refine aA rfl (aA rfl (aC (Γ:=bC [(86,.pure true eTn)]) [2,3,4,5] (aH fFg aO) rfl rfl rfl (fun K hK=>?_)))
  simp(disch:=omega) only[Try.f79,go_sem,↓reduceIte,aQr,hgd,J3 hw]
  refine hK _ ?_
  refine aB (aA rfl (aW [15,2,3,4,5] rfl rfl rfl fun K hK=>?_))
  simp(disch:=omega) only[Try.f79,go_sem,↓reduceIte]
  refine hK _ ?_
  refine aB (eC (.tmp 15) rfl rfl rfl (fun h=>?_) (fun h=>?_))
  ·exact aI rfl (absurd h (by decide))
  refine aI rfl (aQ rfl (aB (aA rfl (dCp (Γ:=aL) [[0,1,2,3,4],[0,2,1,3,4],[1,0,2,3,4]] [2,3,4] bZ (aD _ _) rfl rfl rfl (by kernel_rfl) (fun K hK=>?_)))))
  simp(disch:=omega) only[Try.f79,go_sem,cUg,cSg,eDt,List.getElem?_cons_zero,List.getElem?_cons_succ,and_self,and_true,↓reduceIte,aHu,aQh]
  refine hK _ ?_
  refine aB (aS rfl (rO (gP:=fAd 0) (ch:=chF 0) (p:=_) (eRt _ _ _ _ _) ?_))
  simp(disch:=omega) only[bV,bK,bQ,Try.f79,go_sem,eLs,↓reduceIte,J3 hw]
 cases hg
end Go.AX

namespace Go.AX
open Go
def cQk (h:FuncId) (g:List AV→Option AV) (id off:Nat) (hp:H) (nx:Nat):AO→Option (AV×H×Nat)
 | .cells xs _=>aK (g [.fn h [.rp (xs.drop off)]]) fun r=>aN (r.ids=0) (some (r,upd hp id (.cells xs false),nx))
 |_=>none
def cQl (h:FuncId) (g:List AV→Option AV):List AV→H→Nat→Option (AV×H×Nat)
 |[.fn h' [.op id off]],hp,nx=>aN (h'=h) (aK (hp id) (cQk h g id off hp nx))
 |_,_,_=>none
theorem cBo (h h':FuncId) (g:List AV→Option AV) (id off:Nat) (hp:H) (nx:Nat):cQl h g [.fn h' [.op id off]] hp nx=aN (h'=h) (aK (hp id) (cQk h g id off hp nx)):=(rfl)
theorem cQj (h:FuncId) (g:List AV→Option AV) (id off:Nat) (hp:H) (nx:Nat) (xs:List AV) (mt:Bool):cQk h g id off hp nx (.cells xs mt)=aK (g [.fn h [.rp (xs.drop off)]]) fun r=>aN (r.ids=0) (some (r,upd hp id (.cells xs false),nx)):=(rfl)
attribute [go_sem] cBo cQj
theorem cZb {P:Program} {GL:Nat→Option (List AV)} {f h:FuncId} {g:List AV→Option AV} (hok:cL P GL f g):cQ P GL f (cQl h g):=by
 intro c σ I w hp nx args vals r hp' nx' hGL hi hs hr hg
 unfold cQl at hg
 split at hg
 rotate_left
 ·cases hg
 rename_i h' id off
 replace hg:=aP hg;obtain⟨rfl,hg⟩:=hg
 replace hg:=aJ hg;obtain⟨o,ho,hg⟩:=hg
 obtain⟨xs,mt,rfl⟩: ∃a b,o=AO.cells a b:=by cases o<;>first|exact⟨_,_,rfl⟩|(cases hg)
 replace hg:=aJ (show aK (g [.fn h' [.rp (xs.drop off)]]) _=_ from hg);obtain⟨r',hr',hg⟩:=hg
 replace hg:=aP hg;obtain⟨hids,hg⟩:=hg
 simp only[Option.some.injEq,Prod.mk.injEq]at hg;obtain⟨rfl,rfl,rfl⟩:=hg
 refine⟨U3 _,?_⟩
 have h0:=hr 0 (by simp)
 simp only[List.getElem_cons_zero]at h0
 have hv: ∃vs:Array Value,vals.getD 0 undef=.func (.func h') #[] vs∧vs.size=1∧Rel σ I w (.op id off) (vs.getD 0 undef):=by
  generalize vals.getD 0 undef=u at h0
  cases h0 with
  |fn _ _ vs h1 h2=>exact⟨vs,rfl,h1,h2 0 (by simp)⟩
 obtain⟨vs,hv,hvs,hvr⟩:=hv
 obtain⟨I1,b1,b2,b3⟩:=gN (x:=.op id off) (v:=vs.getD 0 undef) (p:=(.rp (xs.drop off),upd hp id (.cells xs false))) (by simp only[dW,ho,aX]) hi hvr
 simp only at b2 b3
 subst hGL
 refine(hok σ I1 w (max nx r'.ids) [.fn h' [.rp (xs.drop off)]] vals r' (fun id hid=>b2.un id (by omega)) b2.ilt b2.glob (by simpa using hs) (fun i hi'=>?_) hr').mono ?_
 ·have:i=0:=by simpa using hi'
  subst this
  simp only[List.getElem_cons_zero,hv]
  exact .fn h' _ vs hvs (fun i hi'=>by
   have:i=0:=by simpa using hi'
   subst this;exact b3)
 rintro e w' ⟨v,σ',I',rfl,a1,a2,a3,a4,a5,a6,a7,a8,a9⟩
 have hg1: ∀k,I1 k→(I1 k∨(w.heap.size≤k∧k<w'.heap.size)):=fun k hk=> .inl hk
 refine⟨v,σ,fun k=>I1 k∨(w.heap.size≤k∧k<w'.heap.size),rfl,b2.extend a1 a2 a3 a4 a5 _ hg1 (fun _ h=>h),?_,⟨fun _ _=>rfl,fun k hk=> .inl (b1 k hk),fun k hk=>a5 k (hi.ilt k hk)⟩,fun _ _ h=>h⟩
 have h9:Rel σ I' w' r' v:=a9.congr_ids fun id hid=>by omega
 exact h9.mono (fun _ _=>rfl) (fun k hk=>by
  rcases a7 k hk with h|h
  ·exact .inl h
  exact .inr ⟨h,a8 k hk⟩) (fun _ _=>rfl)
end Go.AX

namespace Go.AX
open Go Go.Proofs
theorem eTo:cL Try.prog GLh 79 dIe:=by
 intro σ I w nx args vals r h1 h2 h3 hs hr hg
 have: ∃k,eXd k args=some r:=by
  unfold dIe at hg
  split at hg
  ·replace hg:=aJ hg;obtain⟨b,hb,hg⟩:=hg
   replace hg:=aP hg;obtain⟨h1,hg⟩:=hg
   exact⟨eZt (opN (b.length+1) b),by show aK (cI _) _=_;rw[hb,aX,cU _ ⟨h1,rfl⟩];exact hg⟩
  cases hg
 obtain⟨k,hk⟩:=this
 exact eXb k σ I w nx args vals r h1 h2 h3 hs hr hk
theorem fCl (ps:List (List B8)):AV.ids.idsL (cS ps)=0:=by
 induction ps with
 |nil=>rfl
 |cons x l ih=>show max (AV.ids (.s x)) (AV.ids.idsL (cS l))=0;rw[ih];rfl
theorem eKy (n:Nat) (ps:List (List B8)):AV.ids (.sl n (cS ps))=0:=fCl ps
theorem fCj (a b c:AV):AV.ids (.tup [a,b,c])=max a.ids (max b.ids (max c.ids 0)):=(rfl)
theorem eWg (o:Option (Nm×Nat)):AV.ids (eLs o)=0:=by
 unfold eLs
 split
 ·rfl
 split
 ·rfl
 rw[fCj,eKy];rfl
theorem eZu (n:Nat) (xs:List AV):dIe [.fn 80 [.rp [.sl n xs]]]=aK (cI xs) fun b=>aN (b.length=n∧n≤100000) (some (eLs (opN (b.length+1) b))):=(rfl)
attribute [go_sem] eZu
theorem cKp:bX Try.prog GLh 79 (.heap (cQl 80 dIe)):=⟨⟨_,Try.func79,rfl,rfl⟩,cZb eTo⟩
def iH:List AV→Option AV
 |[.sl n xs]=>aK (cI xs) fun b=>aN (b.length=n∧n≤100000) (some (eLs (opN (b.length+1) b)))
 |_=>none
theorem bIx (n:Nat) (xs:List AV):iH [.sl n xs]=aK (cI xs) fun b=>aN (b.length=n∧n≤100000) (some (eLs (opN (b.length+1) b))):=(rfl)
attribute [go_sem] bIx
def eZx:Option (Nm×Nat)→AV
 |none=> .sl 0 []
 |some (n,_)=>if 255<wl n then .sl 0 []else .sl n.length (cS n)
def eZw:Option (Nm×Nat)→AV
 |none=> .i 0
 |some (n,s)=>if 255<wl n then .i 0 else .i (s:Int)
def eZv:Option (Nm×Nat)→AV
 |none=> .i 30
 |some (n,_)=>if 255<wl n then .i 31 else .i 0
theorem eXc (o:Option (Nm×Nat)):eLs o=.tup [eZx o,eZw o,eZv o]:=by
 rcases o with _|⟨n,s⟩
 ·rfl
 simp only[eLs,eZx,eZw,eZv];split<;>rfl
theorem eSy (o:Option (Nm×Nat)):dB [eZx o,eZw o,eZv o]=true:=by
 rcases o with _|⟨n,s⟩
 ·rfl
 simp only[eZx,eZw,eZv];split<;>rfl
theorem fDb {P:Program} {Γ:Env} {ρ:Operand→AV} {m nx n id cx:Nat} {hp:H} {f:FuncId} {caps:Array Operand}:eff P Γ (.makeFunc (.func f) #[] caps) ρ m nx n hp id cx=some (.fn f (caps.toList.map ρ),hp,cx):=(rfl)
attribute [go_sem] fDb
set_option maxHeartbeats 2000000 in
theorem bVt:cL Try.prog GLh 71 iH:=by
 refine cC Try.func71 (aT rfl) ?_
 intro args r hg
 unfold iH at hg
 split at hg
 ·rename_i n xs
  replace hg:=aJ hg;obtain⟨b,hb,hg⟩:=hg
  replace hg:=aP hg;obtain⟨⟨rfl,hn⟩,hg⟩:=hg
  obtain rfl:=J0 hg
  have:=bW hb;subst this
  refine⟨J1 rfl,fun nx=>?_⟩
  clear hb hg
  obtain⟨o,ho⟩: ∃o,opN (b.length+1) b=o:=⟨_,rfl⟩
  have hi:=eWg o
  rw[ho]
  rw[eXc]at hi⊢
  refine aA rfl (aW [1] rfl rfl rfl fun K hK=>?_)
  simp(disch:=omega) only[Try.f71,go_sem,↓reduceIte]
  refine hK _ ?_
  refine aB (aA rfl (aC (Γ:=bC [(80,.pure false (ppG o1G)),(79,.heap (cQl 80 dIe))]) [2,3,4] (aH cKo (aH cKp aO)) rfl rfl rfl (fun K hK=>?_)))
  simp(disch:=omega) only[Try.f71,go_sem,↓reduceIte,ho,eXc,hi,List.map_cons,List.map_nil]
  refine hK _ ?_
  refine aB (aS rfl ?_)
  simp(disch:=omega) only[cN,bV,bK,bQ,Try.f71,go_sem,↓reduceIte,eSy]
 cases hg
theorem fFi:bX Try.prog GLh 71 (.pure false iH):=⟨⟨_,Try.func71,rfl,rfl⟩,bVt⟩
end Go.AX

namespace Go.AX
open Go Go.Proofs
def nmO (b:List B8):Option (Nm×Nat):=match opN (b.length+1) b with
 |none=>none
 |some (n,s)=>if 255<wl n then none else some (n,s)
def eKh (l:List B8) (a:Nat):Option (AV×List AV):=match nmO (l.drop a)with
 |none=>none
 |some (n,s)=>some (.sl n.length (cS n),[.sl l.length (c8 l),.i ((a+s:Nat):Int)])
def gD:List AV→List AV→Option (Option (AV×List AV))
 |[.op _ 0],[.sl n xs,.i a]=>aK (cI xs) fun l=>aN (l.length=n∧0≤a∧a≤n∧n≤100000) (some (eKh l a.toNat))
 |_,_=>none
theorem eVr (id n:Nat) (a:Int) (xs:List AV):gD [.op id 0] [.sl n xs,.i a]=aK (cI xs) fun l=>aN (l.length=n∧0≤a∧a≤n∧n≤100000) (some (eKh l a.toNat)):=(rfl)
attribute [go_sem] eVr
theorem iI (b:List B8):(nmO b=none∧∃k:Int,k≠0∧eLs (opN (b.length+1) b)=.tup [.sl 0 [],.i 0,.i k])∨∃n s,nmO b=some (n,s)∧s≤b.length∧eLs (opN (b.length+1) b)=.tup [.sl n.length (cS n),.i (s:Int),.i 0]:=by
 unfold nmO
 rcases h:opN (b.length+1) b with _|⟨n,s⟩
 ·exact .inl ⟨rfl,30,by decide,rfl⟩
 by_cases hw:255<wl n
 ·exact .inl ⟨J4 hw,31,by decide,J4 hw⟩
 exact .inr ⟨n,s,J3 hw,(eOv _ _ _ _ h).2.2,J3 hw⟩
set_option maxHeartbeats 4000000 in
theorem eOe:cQ Try.prog GLh 46 (rdH gD)∧dE Try.prog GLh 46 chM (rdP gD):=by
 refine dT Try.func46 (aT rfl) ?_
 intro id off rest nx xs o hg
 unfold gD at hg
 split at hg
 ·rename_i id2 n xs2 a0 heq
  simp only[List.cons.injEq,AV.op.injEq]at heq
  obtain⟨⟨rfl,rfl⟩,rfl⟩:=heq
  replace hg:=aJ hg;obtain⟨l,hl,hg⟩:=hg
  replace hg:=aP hg;obtain⟨⟨rfl,ha,han,hnb⟩,hg⟩:=hg
  obtain rfl:=J0 hg
  have:=bW hl;subst this
  obtain⟨a,rfl⟩:=Int.eq_ofNat_of_zero_le ha
  simp only[U2]at*
  refine⟨J1 rfl,fun hid=>?_⟩
  clear hl hg
  have hdl:(l.drop a).length=l.length-a:=List.length_drop ..
  unfold eKh
  obtain⟨d,hd⟩: ∃d,l.drop a=d:=⟨_,rfl⟩
  rw[hd]at hdl
  rw[hd]
  have et:d.take (l.length-a)=d:=List.take_of_length_le (by omega)
  have hc:=iI d
  refine aA rfl (aW [0] rfl rfl rfl fun K hK=>?_)
  simp(disch:=omega) only[Try.f46,go_sem,↓reduceIte]
  refine hK _ ?_
  refine aB ?_
  rcases hc with⟨hn,k,hk,hc⟩|⟨n,s,hn,hsb,hc⟩
  ·rw[hdl]at hc
   refine aA rfl (bB (Γ:=bC [(71,.pure false iH)]) (fun k=>if k=9 then 0 else 2) [0,3,4,5] bZ (aH fFi aO) rfl rfl rfl (by kernel_rfl) (fun K hK=>?_))
   simp(disch:=omega) only[Try.f46,go_sem,↓reduceIte,U2,hd,et,hc,hdl]
   refine hK _ ?_
   refine aB ?_
   rw[hn]
   have hd0:decide (k=0)=false:=J6 hk
   refine aA rfl (dCn (Γ:=bC [(60,.pure true eM)]) 2 (fC) rD (aH rP aO) rfl rfl rfl (fun Z hZ=>?_))
   simp(disch:=omega) only[Try.f46,go_sem,↓reduceIte,bG,eq_self,true_and,bP,List.map_cons,List.map_nil,List.append_nil,hd0,U0,U1]
   refine hZ _ ?_;clear hZ Z
   exact rfl
  rw[hdl]at hc
  refine aA rfl (bB (Γ:=bC [(71,.pure false iH)]) (fun k=>if k=9 then 0 else 2) [0,3,4,5] bZ (aH fFi aO) rfl rfl rfl (by kernel_rfl) (fun K hK=>?_))
  simp(disch:=omega) only[Try.f46,go_sem,↓reduceIte,U2,hd,et,hc,hdl]
  refine hK _ ?_
  refine aB ?_
  rw[hn]
  refine aA rfl (aC (Γ:=bC [(60,.pure true eM)]) [0,3,4] (aH rP aO) rfl rfl rfl (fun K hK=>?_))
  simp(disch:=omega) only[Try.f46,go_sem,↓reduceIte]
  refine hK _ ?_
  refine aB ?_
  have ea:(a:Int)+(s:Int)=((a+s:Nat):Int):=rfl
  refine aA rfl (aW [3] rfl rfl rfl fun K hK=>?_)
  simp(disch:=omega) only[Try.f46,go_sem,↓reduceIte,ea]
  refine hK _ ?_
  refine aB (aA rfl (aW [2] rfl rfl rfl fun K hK=>?_))
  simp(disch:=omega) only[Try.f46,go_sem,↓reduceIte]
  refine hK _ ?_
  refine aB (aS rfl (⟨by simp(disch:=omega) only[bV,bK,bQ,Try.f46,go_sem,eq_self,↓reduceIte],by simp(disch:=omega) only[aV,↓reduceIte,eq_self],?_,?_⟩))
  ·exact eKy _ _
  exact eD _ _ _
 cases hg
theorem rM:dE Try.prog GLh 46 chM (rdP gD):=eOe.2
theorem eLi:cJ Try.prog 46:=⟨_,Try.func46,rfl,rfl⟩
theorem eLo:bX Try.prog GLh 46 (.heap (rdH gD)):=⟨⟨_,Try.func46,rfl,rfl⟩,eOe.1⟩
end Go.AX

namespace Go.AX
open Go Go.Proofs
def txE (l:List B8) (a:Nat):Option Nat:=if a<l.length∧(l.getD a 0#8).toNat≤l.length-(a+1)then some (a+1+(l.getD a 0#8).toNat)else none
def txF:Nat→List B8→Nat→Bool
 |0,_,_=>false
 |f+1,l,a=>if a<l.length then match txE l a with
  |none=>false
  |some p=>txF f l p
 else true
theorem eMm (l:List B8) (a:Nat):(txE l a=none∧rS l a=none)∨∃p d,txE l a=some p∧a<p∧p≤l.length∧rS l a=some (.sl d.length (c8 d),[.sl l.length (c8 l),.i (p:Int)]):=by
 unfold txE rS
 by_cases h:a<l.length∧(l.getD a 0#8).toNat≤l.length-(a+1)
 ·refine .inr ⟨a+1+(l.getD a 0#8).toNat,(l.drop (a+1)).take (l.getD a 0#8).toNat,J4 h,by omega,by omega,?_⟩
  rw[J4 h]
  have:((l.drop (a+1)).take (l.getD a 0#8).toNat).length=(l.getD a 0#8).toNat:=by rw[List.length_take,List.length_drop];omega
  rw[this]
 exact .inl ⟨J3 h,J3 h⟩
def eTy (l:List B8) (a:Nat):Bool:=match txE l a with
 |none=>false
 |some p=>txF (l.length+1) l p
def ePg (l:List B8) (a:Nat):Option (AV×List AV):=if eTy l a=true then some (.tup [],[.sl l.length (c8 l),.i (l.length:Int)])else none
def ePh:List AV→List AV→Option (Option (AV×List AV))
 |[.op _ 0],[.sl n xs,.i a]=>aK (cI xs) fun l=>aN (l.length=n∧0≤a∧a≤n∧n≤100000) (some (ePg l a.toNat))
 |_,_=>none
theorem eXv (id n:Nat) (a:Int) (xs:List AV):ePh [.op id 0] [.sl n xs,.i a]=aK (cI xs) fun l=>aN (l.length=n∧0≤a∧a≤n∧n≤100000) (some (ePg l a.toNat)):=(rfl)
attribute [go_sem] eXv
theorem fBm {f a:Nat} {l:List B8} (h: ¬a<l.length):txF (f+1) l a=true:=J3 h
theorem fEg {f a:Nat} {l:List B8} (h:a<l.length) (h2:txE l a=none):txF (f+1) l a=false:=by rw[txF,J4 h,h2]
theorem fEh {f a p:Nat} {l:List B8} (h:a<l.length) (h2:txE l a=some p):txF (f+1) l a=txF f l p:=by rw[txF,J4 h,h2]
structure KFC where
 k:Nat
 f:Nat
 c:Nat
set_option maxHeartbeats 4000000 in
theorem ePf:cQ Try.prog GLh 69 (rdH ePh)∧dE Try.prog GLh 69 chM (rdP ePh):=by
 refine dT Try.func69 (aT rfl) ?_
 intro id off rest nx xs o hg
 unfold ePh at hg
 split at hg
 ·rename_i id2 n xs2 a0 heq
  simp only[List.cons.injEq,AV.op.injEq]at heq
  obtain⟨⟨rfl,rfl⟩,rfl⟩:=heq
  replace hg:=aJ hg;obtain⟨l,hl,hg⟩:=hg
  replace hg:=aP hg;obtain⟨⟨rfl,ha,han,hnb⟩,hg⟩:=hg
  obtain rfl:=J0 hg
  have:=bW hl;subst this
  obtain⟨a,rfl⟩:=Int.eq_ofNat_of_zero_le ha
  simp only[U2]at*
  refine⟨J1 rfl,fun hid=>?_⟩
  clear hl hg
  rcases eMm l a with⟨h1,h2⟩|⟨p0,d,h1,h0,h3,h2⟩
  ·have hans:ePg l a=none:=by unfold ePg eTy;rw[h1];exact J3 (by simp)
   rw[hans]
   refine aA rfl (dCn (Γ:=bC [(59,.heap (rdH hS))]) 1 (eKq) eNr (aH eMk aO) rfl rfl rfl (fun Z hZ=>?_))
   simp(disch:=omega) only[Try.f69,go_sem,↓reduceIte,bG,eq_self,true_and,bP,List.map_cons,List.map_nil,List.append_nil,U2,h2,U0,U1]
   refine hZ _ ?_;clear hZ Z
   exact rfl
  obtain⟨ans,hans⟩: ∃b,txF (l.length+1) l p0=b:=⟨_,rfl⟩
  have hans2:ePg l a=if ans=true then some (.tup [],[.sl l.length (c8 l),.i (l.length:Int)])else none:=by unfold ePg eTy;rw[h1];simp only[hans]
  rw[hans2]
  refine aA rfl (aC (Γ:=bC [(59,.heap (rdH hS))]) [0] (aH eMk aO) rfl rfl rfl (fun K hK=>?_))
  simp(disch:=omega) only[Try.f69,go_sem,↓reduceIte,U2,h2]
  refine hK _ ?_
  refine aB (aR 0 rfl rfl ?_)
  refine bR (fun p:KFC=> {fr:=[(0,.op id 0)],hp:=upd (fun _=>none) id (.cells [.sl l.length (c8 l),.i (p.k:Int)] true),nx:=0,cx:=p.c}) (fun p=>p.k≤l.length∧l.length<p.k+p.f∧txF p.f l p.k=ans∧id<p.c) (fun p=>l.length-p.k) rfl ⟨⟨p0,l.length+1,_⟩,⟨h3,by simp only;omega,hans,by simp only;omega⟩,bD rfl rfl (U3 _)⟩ ?_
  rintro⟨k,f,c⟩ ⟨hk,hf,ht,hc⟩ n0
  simp only at hk hf ht hc⊢
  obtain⟨g,rfl⟩: ∃g,f=g+1:=⟨f-1,by omega⟩
  refine aA rfl (aA rfl (bB (Γ:=aL) (fun _=>2) [13,0] bZ (aD _ _) rfl rfl rfl (by kernel_rfl) (fun K hK=>?_)))
  simp(disch:=omega) only[Try.f69,go_sem,↓reduceIte]
  refine hK _ ?_
  refine aB (bA (.tmp 13) rfl rfl rfl (fun h=>?_) (fun h=>?_))
  ·refine aI rfl ?_
   have hkl:k<l.length:=by omega
   rcases eMm l k with⟨q1,q2⟩|⟨p,e,q1,q0,q3,q2⟩
   ·rw[fEg hkl q1]at ht
    subst ht
    refine aQ rfl (aB (aR 1 rfl rfl (dCn (Γ:=bC [(59,.heap (rdH hS))]) 1 (eKq) eNr (aH eMk aO) rfl rfl rfl (fun Z hZ=>?_))))
    simp(disch:=omega) only[Try.f69,go_sem,↓reduceIte,bG,eq_self,true_and,bP,List.map_cons,List.map_nil,List.append_nil,U2,q2,U0,U1]
    refine hZ _ ?_;clear hZ Z
    exact rfl
   rw[fEh hkl q1]at ht
   refine aQ rfl (aB (aR 1 rfl rfl (aC (Γ:=bC [(59,.heap (rdH hS))]) [0] (aH eMk aO) rfl rfl rfl (fun K hK=>?_))))
   simp(disch:=omega) only[Try.f69,go_sem,↓reduceIte,U2,q2]
   refine hK _ ?_
   refine bU (bT ?_)
   refine⟨⟨p,g,_⟩,⟨q3,by simp only;omega,ht,by simp only;omega⟩,by simp only;omega,bD rfl rfl (U3 _)⟩
  refine aI rfl ?_
  rw[fBm (by omega)]at ht
  subst ht
  have ek:k=l.length:=by omega
  subst ek
  refine bF 0 rfl rfl (aY (aZ (bE ?_)))
  rw[J4 rfl]
  refine⟨by simp(disch:=omega) only[bV,bK,Try.f69,go_sem,eq_self],by simp(disch:=omega) only[aV,↓reduceIte,eq_self],?_,?_⟩
  ·rfl
  exact eD _ _ _
 cases hg
theorem eXu:dE Try.prog GLh 69 chM (rdP ePh):=ePf.2
theorem fDt:cJ Try.prog 69:=⟨_,Try.func69,rfl,rfl⟩
theorem cKq:bX Try.prog GLh 69 (.heap (rdH ePh)):=⟨⟨_,Try.func69,rfl,rfl⟩,ePf.1⟩
end Go.AX

namespace Go.AX
open Go Go.Proofs
def nmE (l:List B8) (a:Nat):Option Nat:=(nmO (l.drop a)).map fun p=>a+p.2
def shp (t:BitVec 16) (l:List B8):Option Nat:=
 if t=1#16 then(if 4≤l.length then some 4 else none)
 else if t=28#16 then(if 16≤l.length then some 16 else none)
 else if t=2#16∨t=5#16 then nmE l 0
 else if t=15#16 then(if 2≤l.length then nmE l 2 else none)
 else if t=16#16 then(if eTy l 0=true then some l.length else none)
 else if t=43#16 then(if 5≤l.length then some l.length else none)
 else if t=51#16 then(if 4≤l.length then txE l 4 else none)
 else some l.length
def eUu (l:List B8):Option Nat→Option (AV×List AV)
 |none=>none
 |some p=>some (.tup [],[.sl l.length (c8 l),.i (p:Int)])
theorem fBw (l:List B8):eUu l none=none:=rfl
theorem fBv (l:List B8) (p:Nat):eUu l (some p)=some (.tup [],[.sl l.length (c8 l),.i (p:Int)]):=rfl
def eKr:List AV→List AV→Option (Option (AV×List AV))
 |[.op _ 0,.w16 t],[.sl n xs,.i 0]=>aK (cI xs) fun l=>aN (l.length=n∧n≤100000) (some (eUu l (shp t l)))
 |_,_=>none
theorem eSi (id n:Nat) (t:BitVec 16) (xs:List AV):eKr [.op id 0,.w16 t] [.sl n xs,.i 0]=aK (cI xs) fun l=>aN (l.length=n∧n≤100000) (some (eUu l (shp t l))):=(rfl)
attribute [go_sem] eSi
theorem eUg {l:List B8} {k:Nat} (h:k≤l.length):eSc l k 0=some (.sl k (c8 (l.take k)),[.sl l.length (c8 l),.i (k:Int)]):=by rw[eMu (by omega),J9,Nat.zero_add]
theorem ePk {l:List B8} {k:Nat} (h: ¬k≤l.length):eSc l k 0=none:=eOp (by omega)
theorem eKj (l:List B8) (a:Nat):(nmE l a=none∧eKh l a=none)∨∃n s,nmE l a=some (a+s)∧eKh l a=some (.sl n.length (cS n),[.sl l.length (c8 l),.i ((a+s:Nat):Int)]):=by
 unfold nmE eKh
 rcases nmO (l.drop a)with _|⟨n,s⟩
 ·exact .inl ⟨rfl,rfl⟩
 exact .inr ⟨n,s,rfl,rfl⟩
set_option maxHeartbeats 4000000 in
theorem eMx:cQ Try.prog GLh 42 (rdH eKr)∧dE Try.prog GLh 42 chM (rdP eKr):=by
 refine dT Try.func42 (aT rfl) ?_
 intro id off rest nx xs o hg
 unfold eKr at hg
 split at hg
 ·rename_i id2 t n xs2 heq
  simp only[List.cons.injEq,AV.op.injEq]at heq
  obtain⟨⟨rfl,rfl⟩,rfl⟩:=heq
  replace hg:=aJ hg;obtain⟨l,hl,hg⟩:=hg
  replace hg:=aP hg;obtain⟨⟨rfl,hnb⟩,hg⟩:=hg
  obtain rfl:=J0 hg
  have:=bW hl;subst this
  refine⟨J1 rfl,fun hid=>?_⟩
  clear hl hg
  obtain⟨ans,hans⟩: ∃a,eUu l (shp t l)=a:=⟨_,rfl⟩
  rw[hans]
  unfold shp at hans
  refine aA rfl (aW [0,4] rfl rfl rfl fun K hK=>?_)
  simp(disch:=omega) only[Try.f42,go_sem,↓reduceIte]
  refine hK _ ?_
  refine aB (aR 0 rfl rfl (aA rfl (aW [7,0,4] rfl rfl rfl fun K hK=>?_)))
  simp(disch:=omega) only[Try.f42,go_sem,↓reduceIte]
  refine hK _ ?_
  refine aB (bA (.tmp 7) rfl rfl rfl (fun h=>?_) (fun h=>?_))
  ·refine aI rfl ?_
   rw[J4 h]at hans
   by_cases hk:4≤l.length
   ·rw[J4 hk]at hans;subst hans
    refine aC (Γ:=bC [(45,.heap (rdH fJ))]) [] (aH eLb aO) rfl rfl rfl (fun K hK=>?_)
    simp(disch:=omega) only[Try.f42,go_sem,↓reduceIte,eUg hk]
    refine hK _ ?_
    refine bU (⟨by simp(disch:=omega) only[bV,bK,Try.f42,go_sem,eq_self],by simp(disch:=omega) only[aV,↓reduceIte,eq_self],?_,?_⟩)
    ·rfl
    exact eD _ _ _
   rw[J3 hk]at hans;subst hans
   refine dCn (Γ:=bC [(45,.heap (rdH fJ))]) 1 (rH) eLj (aH eLb aO) rfl rfl rfl (fun Z hZ=>?_)
   simp(disch:=omega) only[Try.f42,go_sem,↓reduceIte,bG,eq_self,true_and,bP,List.map_cons,List.map_nil,List.append_nil,ePk hk,U0,U1]
   refine hZ _ ?_;clear hZ Z
   exact rfl
  refine aI rfl ?_
  rw[J3 h]at hans
  refine aA rfl (aW [11,0,4] rfl rfl rfl fun K hK=>?_)
  simp(disch:=omega) only[Try.f42,go_sem,↓reduceIte]
  refine hK _ ?_
  refine aB (bA (.tmp 11) rfl rfl rfl (fun h=>?_) (fun h=>?_))
  ·refine aI rfl ?_
   rw[J4 h]at hans
   by_cases hk:16≤l.length
   ·rw[J4 hk]at hans;subst hans
    refine aC (Γ:=bC [(45,.heap (rdH fJ))]) [] (aH eLb aO) rfl rfl rfl (fun K hK=>?_)
    simp(disch:=omega) only[Try.f42,go_sem,↓reduceIte,eUg hk]
    refine hK _ ?_
    refine bU (⟨by simp(disch:=omega) only[bV,bK,Try.f42,go_sem,eq_self],by simp(disch:=omega) only[aV,↓reduceIte,eq_self],?_,?_⟩)
    ·rfl
    exact eD _ _ _
   rw[J3 hk]at hans;subst hans
   refine dCn (Γ:=bC [(45,.heap (rdH fJ))]) 1 (rH) eLj (aH eLb aO) rfl rfl rfl (fun Z hZ=>?_)
   simp(disch:=omega) only[Try.f42,go_sem,↓reduceIte,bG,eq_self,true_and,bP,List.map_cons,List.map_nil,List.append_nil,ePk hk,U0,U1]
   refine hZ _ ?_;clear hZ Z
   exact rfl
  refine aI rfl ?_
  rw[J3 h]at hans
  refine aA rfl (aA rfl (aW [0,4,15] rfl rfl rfl fun K hK=>?_))
  simp(disch:=omega) only[Try.f42,go_sem,↓reduceIte]
  refine hK _ ?_
  refine aB (bA (.tmp 15) rfl rfl rfl (fun h=>?_) (fun h=>?_))
  ·have h2:=h
   refine aQ rfl (aB (bA (.tmp 15) rfl rfl rfl (fun h=>?_) (fun h=>?_)))
   ·rw[J4 (.inl h2)]at hans
    rcases eKj l 0 with⟨e1,e2⟩|⟨n,s,e1,e2⟩
    ·rw[e1]at hans;subst hans
     refine dCn (Γ:=bC [(46,.heap (rdH gD))]) 1 (rM) eLi (aH eLo aO) rfl rfl rfl (fun Z hZ=>?_)
     simp(disch:=omega) only[Try.f42,go_sem,↓reduceIte,bG,eq_self,true_and,bP,List.map_cons,List.map_nil,List.append_nil,e2,U0,U1]
     refine hZ _ ?_;clear hZ Z
     exact rfl
    rw[Nat.zero_add]at e1 e2
    rw[e1]at hans;subst hans
    refine aC (Γ:=bC [(46,.heap (rdH gD))]) [] (aH eLo aO) rfl rfl rfl (fun K hK=>?_)
    simp(disch:=omega) only[Try.f42,go_sem,↓reduceIte,e2]
    refine hK _ ?_
    refine bU (⟨by simp(disch:=omega) only[bV,bK,Try.f42,go_sem,eq_self],by simp(disch:=omega) only[aV,↓reduceIte,eq_self],?_,?_⟩)
    ·rfl
    exact eD _ _ _
   exact absurd h2 h
  have h2:=h
  refine aW [15,0,4] rfl rfl rfl fun K hK=>?_
  simp(disch:=omega) only[Try.f42,go_sem,↓reduceIte]
  refine hK _ ?_
  refine aB (bA (.tmp 15) rfl rfl rfl (fun h=>?_) (fun h=>?_))
  ·refine aI rfl ?_
   rw[J4 (.inr h)]at hans
   rcases eKj l 0 with⟨e1,e2⟩|⟨n,s,e1,e2⟩
   ·rw[e1]at hans;subst hans
    refine dCn (Γ:=bC [(46,.heap (rdH gD))]) 1 (rM) eLi (aH eLo aO) rfl rfl rfl (fun Z hZ=>?_)
    simp(disch:=omega) only[Try.f42,go_sem,↓reduceIte,bG,eq_self,true_and,bP,List.map_cons,List.map_nil,List.append_nil,e2,U0,U1]
    refine hZ _ ?_;clear hZ Z
    exact rfl
   rw[Nat.zero_add]at e1 e2
   rw[e1]at hans;subst hans
   refine aC (Γ:=bC [(46,.heap (rdH gD))]) [] (aH eLo aO) rfl rfl rfl (fun K hK=>?_)
   simp(disch:=omega) only[Try.f42,go_sem,↓reduceIte,e2]
   refine hK _ ?_
   refine bU (⟨by simp(disch:=omega) only[bV,bK,Try.f42,go_sem,eq_self],by simp(disch:=omega) only[aV,↓reduceIte,eq_self],?_,?_⟩)
   ·rfl
   exact eD _ _ _
  refine aI rfl ?_
  rw[J3 (fun q=>q.elim h2 h)]at hans
  refine aA rfl (aW [20,0,4] rfl rfl rfl fun K hK=>?_)
  simp(disch:=omega) only[Try.f42,go_sem,↓reduceIte]
  refine hK _ ?_
  refine aB (bA (.tmp 20) rfl rfl rfl (fun h=>?_) (fun h=>?_))
  ·refine aI rfl ?_
   rw[J4 h]at hans
   by_cases hk:2≤l.length
   ·rw[J4 hk]at hans
    obtain⟨x,hx⟩: ∃x,rL l 2 0=some (.w32 x,[.sl l.length (c8 l),.i 2]):=⟨_,eKs (by omega)⟩
    refine aA rfl (aC (Γ:=bC [(49,.heap (rdH eN))]) [0] (aH fL aO) rfl rfl rfl (fun K hK=>?_))
    simp(disch:=omega) only[Try.f42,go_sem,↓reduceIte,hx]
    refine hK _ ?_
    refine aB ?_
    rcases eKj l 2 with⟨e1,e2⟩|⟨n,s,e1,e2⟩
    ·rw[e1]at hans;subst hans
     refine dCn (Γ:=bC [(46,.heap (rdH gD))]) 1 (rM) eLi (aH eLo aO) rfl rfl rfl (fun Z hZ=>?_)
     simp(disch:=omega) only[Try.f42,go_sem,↓reduceIte,bG,eq_self,true_and,bP,List.map_cons,List.map_nil,List.append_nil,e2,U0,U1]
     refine hZ _ ?_;clear hZ Z
     exact rfl
    rw[e1]at hans;subst hans
    refine aC (Γ:=bC [(46,.heap (rdH gD))]) [] (aH eLo aO) rfl rfl rfl (fun K hK=>?_)
    simp(disch:=omega) only[Try.f42,go_sem,↓reduceIte,e2]
    refine hK _ ?_
    refine bU (⟨by simp(disch:=omega) only[bV,bK,Try.f42,go_sem,eq_self],by simp(disch:=omega) only[aV,↓reduceIte,eq_self],?_,?_⟩)
    ·rfl
    exact eD _ _ _
   rw[J3 hk]at hans;subst hans
   refine aA rfl (dCn (Γ:=bC [(49,.heap (rdH eN))]) 1 (dK) eI (aH fL aO) rfl rfl rfl (fun Z hZ=>?_))
   simp(disch:=omega) only[Try.f42,go_sem,↓reduceIte,bG,eq_self,true_and,bP,List.map_cons,List.map_nil,List.append_nil,fB (l:=l) (k:=2) (a:=0) (by omega),U0,U1]
   refine hZ _ ?_;clear hZ Z
   exact rfl
  refine aI rfl ?_
  rw[J3 h]at hans
  refine aA rfl (aW [26,0,4] rfl rfl rfl fun K hK=>?_)
  simp(disch:=omega) only[Try.f42,go_sem,↓reduceIte]
  refine hK _ ?_
  refine aB (bA (.tmp 26) rfl rfl rfl (fun h=>?_) (fun h=>?_))
  ·refine aI rfl ?_
   rw[J4 h]at hans
   by_cases hb:eTy l 0=true
   ·have e2:ePg l 0=some (.tup [],[.sl l.length (c8 l),.i (l.length:Int)]):=J4 hb
    rw[J4 hb]at hans;subst hans
    refine aC (Γ:=bC [(69,.heap (rdH ePh))]) [] (aH cKq aO) rfl rfl rfl (fun K hK=>?_)
    simp(disch:=omega) only[Try.f42,go_sem,↓reduceIte,e2]
    refine hK _ ?_
    refine bU (⟨by simp(disch:=omega) only[bV,bK,Try.f42,go_sem,eq_self],by simp(disch:=omega) only[aV,↓reduceIte,eq_self],?_,?_⟩)
    ·rfl
    exact eD _ _ _
   have e2:ePg l 0=none:=J3 hb
   rw[J3 hb]at hans;subst hans
   refine dCn (Γ:=bC [(69,.heap (rdH ePh))]) 1 (eXu) fDt (aH cKq aO) rfl rfl rfl (fun Z hZ=>?_)
   simp(disch:=omega) only[Try.f42,go_sem,↓reduceIte,bG,eq_self,true_and,bP,List.map_cons,List.map_nil,List.append_nil,e2,U0,U1]
   refine hZ _ ?_;clear hZ Z
   exact rfl
  refine aI rfl ?_
  rw[J3 h]at hans
  refine aA rfl (aW [30,0,4] rfl rfl rfl fun K hK=>?_)
  simp(disch:=omega) only[Try.f42,go_sem,↓reduceIte]
  refine hK _ ?_
  refine aB (bA (.tmp 30) rfl rfl rfl (fun h=>?_) (fun h=>?_))
  ·refine aI rfl ?_
   rw[J4 h]at hans
   by_cases hk:4≤l.length
   ·refine aA rfl (aC (Γ:=bC [(45,.heap (rdH fJ))]) [0] (aH eLb aO) rfl rfl rfl (fun K hK=>?_))
    simp(disch:=omega) only[Try.f42,go_sem,↓reduceIte,eUg hk]
    refine hK _ ?_
    refine aB ?_
    have hdl:(l.drop 4).length=l.length-4:=List.length_drop ..
    by_cases hk5:5≤l.length
    ·rw[J4 hk5]at hans;subst hans
     have hd:decide ((0:Int)<((l.length-4:Nat):Int))=true:=J5 (by omega)
     refine aC (Γ:=bC [(56,.heap (rdH rB)),(60,.pure true eM)]) [] (aH eMl (aH rP aO)) rfl rfl rfl (fun K hK=>?_)
     simp(disch:=omega) only[Try.f42,go_sem,↓reduceIte,rA,hd]
     refine hK _ ?_
     refine bU (⟨by simp(disch:=omega) only[bV,bK,Try.f42,go_sem,eq_self],by simp(disch:=omega) only[aV,↓reduceIte,eq_self],?_,?_⟩)
     ·rfl
     exact eD _ _ _
    rw[J3 hk5]at hans;subst hans
    have hd:decide ((0:Int)<((l.length-4:Nat):Int))=false:=J6 (by omega)
    refine dCn (Γ:=bC [(56,.heap (rdH rB)),(60,.pure true eM)]) 4 (fC) rD (aH eMl (aH rP aO)) rfl rfl rfl (fun Z hZ=>?_)
    simp(disch:=omega) only[Try.f42,go_sem,↓reduceIte,bG,eq_self,true_and,bP,List.map_cons,List.map_nil,List.append_nil,rA,hd,U0,U1]
    refine hZ _ ?_;clear hZ Z
    exact rfl
   rw[J3 (by omega)]at hans;subst hans
   refine aA rfl (dCn (Γ:=bC [(45,.heap (rdH fJ))]) 1 (rH) eLj (aH eLb aO) rfl rfl rfl (fun Z hZ=>?_))
   simp(disch:=omega) only[Try.f42,go_sem,↓reduceIte,bG,eq_self,true_and,bP,List.map_cons,List.map_nil,List.append_nil,ePk hk,U0,U1]
   refine hZ _ ?_;clear hZ Z
   exact rfl
  refine aI rfl ?_
  rw[J3 h]at hans
  refine aA rfl (aW [39,0] rfl rfl rfl fun K hK=>?_)
  simp(disch:=omega) only[Try.f42,go_sem,↓reduceIte]
  refine hK _ ?_
  refine aB (bA (.tmp 39) rfl rfl rfl (fun h=>?_) (fun h=>?_))
  ·refine aI rfl ?_
   rw[J4 h]at hans
   by_cases hk:4≤l.length
   ·rw[J4 hk]at hans
    refine aA rfl (aC (Γ:=bC [(45,.heap (rdH fJ))]) [0] (aH eLb aO) rfl rfl rfl (fun K hK=>?_))
    simp(disch:=omega) only[Try.f42,go_sem,↓reduceIte,eUg hk]
    refine hK _ ?_
    refine aB ?_
    rcases eMm l 4 with⟨q1,q2⟩|⟨p,e,q1,q0,q3,q2⟩
    ·rw[q1]at hans;subst hans
     refine dCn (Γ:=bC [(59,.heap (rdH hS))]) 1 (eKq) eNr (aH eMk aO) rfl rfl rfl (fun Z hZ=>?_)
     simp(disch:=omega) only[Try.f42,go_sem,↓reduceIte,bG,eq_self,true_and,bP,List.map_cons,List.map_nil,List.append_nil,q2,U0,U1]
     refine hZ _ ?_;clear hZ Z
     exact rfl
    rw[q1]at hans;subst hans
    refine aC (Γ:=bC [(59,.heap (rdH hS))]) [] (aH eMk aO) rfl rfl rfl (fun K hK=>?_)
    simp(disch:=omega) only[Try.f42,go_sem,↓reduceIte,q2]
    refine hK _ ?_
    refine bU (⟨by simp(disch:=omega) only[bV,bK,Try.f42,go_sem,eq_self],by simp(disch:=omega) only[aV,↓reduceIte,eq_self],?_,?_⟩)
    ·rfl
    exact eD _ _ _
   rw[J3 (by omega)]at hans;subst hans
   refine aA rfl (dCn (Γ:=bC [(45,.heap (rdH fJ))]) 1 (rH) eLj (aH eLb aO) rfl rfl rfl (fun Z hZ=>?_))
   simp(disch:=omega) only[Try.f42,go_sem,↓reduceIte,bG,eq_self,true_and,bP,List.map_cons,List.map_nil,List.append_nil,ePk hk,U0,U1]
   refine hZ _ ?_;clear hZ Z
   exact rfl
  refine aI rfl ?_
  rw[J3 h]at hans;subst hans
  refine aC (Γ:=bC [(56,.heap (rdH rB))]) [] (aH eMl aO) rfl rfl rfl (fun K hK=>?_)
  simp(disch:=omega) only[Try.f42,go_sem,↓reduceIte,rA]
  refine hK _ ?_
  refine bU (⟨by simp(disch:=omega) only[bV,bK,Try.f42,go_sem,eq_self],by simp(disch:=omega) only[aV,↓reduceIte,eq_self],?_,?_⟩)
  ·rfl
  exact eD _ _ _
 cases hg
theorem eSh:dE Try.prog GLh 42 chM (rdP eKr):=eMx.2
theorem fDz:cJ Try.prog 42:=⟨_,Try.func42,rfl,rfl⟩
theorem fFn:bX Try.prog GLh 42 (.heap (rdH eKr)):=⟨⟨_,Try.func42,rfl,rfl⟩,eMx.1⟩
end Go.AX

namespace Go.AX
open Go
def bOr (h:FuncId) (g:List AV→Option AV) (x:AV) (id off:Nat) (hp:H) (nx:Nat):AO→Option (AV×H×Nat)
 | .cells xs _=>aK (g [x,.fn h [.rp (xs.drop off)]]) fun r=>aN (r.ids=0) (some (r,upd hp id (.cells xs false),nx))
 |_=>none
def bOt (h:FuncId) (g:List AV→Option AV):List AV→H→Nat→Option (AV×H×Nat)
 |[x,.fn h' [.op id off]],hp,nx=>aN (h'=h) (aK (hp id) (bOr h g x id off hp nx))
 |_,_,_=>none
theorem bOs (h h':FuncId) (g:List AV→Option AV) (x:AV) (id off:Nat) (hp:H) (nx:Nat):bOt h g [x,.fn h' [.op id off]] hp nx=aN (h'=h) (aK (hp id) (bOr h g x id off hp nx)):=(rfl)
theorem cBn (h:FuncId) (g:List AV→Option AV) (x:AV) (id off:Nat) (hp:H) (nx:Nat) (xs:List AV) (mt:Bool):bOr h g x id off hp nx (.cells xs mt)=aK (g [x,.fn h [.rp (xs.drop off)]]) fun r=>aN (r.ids=0) (some (r,upd hp id (.cells xs false),nx)):=(rfl)
attribute [go_sem] bOs cBn
theorem cSn {P:Program} {GL:Nat→Option (List AV)} {f h:FuncId} {g:List AV→Option AV} (hok:cL P GL f g):cQ P GL f (bOt h g):=by
 intro c σ I w hp nx args vals r hp' nx' hGL hi hs hr hg
 unfold bOt at hg
 split at hg
 rotate_left
 ·cases hg
 rename_i x h' id off
 replace hg:=aP hg;obtain⟨rfl,hg⟩:=hg
 replace hg:=aJ hg;obtain⟨o,ho,hg⟩:=hg
 obtain⟨xs,mt,rfl⟩: ∃a b,o=AO.cells a b:=by cases o<;>first|exact⟨_,_,rfl⟩|(cases hg)
 replace hg:=aJ (show aK (g [x,.fn h' [.rp (xs.drop off)]]) _=_ from hg);obtain⟨r',hr',hg⟩:=hg
 replace hg:=aP hg;obtain⟨hids,hg⟩:=hg
 simp only[Option.some.injEq,Prod.mk.injEq]at hg;obtain⟨rfl,rfl,rfl⟩:=hg
 refine⟨U3 _,?_⟩
 have h00:=hr 0 (by simp)
 simp only[List.getElem_cons_zero]at h00
 have h0:=hr 1 (by simp)
 simp only[List.getElem_cons_succ,List.getElem_cons_zero]at h0
 have hv: ∃vs:Array Value,vals.getD 1 undef=.func (.func h') #[] vs∧vs.size=1∧Rel σ I w (.op id off) (vs.getD 0 undef):=by
  generalize vals.getD 1 undef=u at h0
  cases h0 with
  |fn _ _ vs h1 h2=>exact⟨vs,rfl,h1,h2 0 (by simp)⟩
 obtain⟨vs,hv,hvs,hvr⟩:=hv
 obtain⟨I1,b1,b2,b3⟩:=gN (x:=.op id off) (v:=vs.getD 0 undef) (p:=(.rp (xs.drop off),upd hp id (.cells xs false))) (by simp only[dW,ho,aX]) hi hvr
 simp only at b2 b3
 subst hGL
 refine(hok σ I1 w (max nx r'.ids) [x,.fn h' [.rp (xs.drop off)]] vals r' (fun id hid=>b2.un id (by omega)) b2.ilt b2.glob (by simpa using hs) (fun i hi'=>?_) hr').mono ?_
 ·have:i=0∨i=1:=by simp at hi';omega
  rcases this with rfl|rfl
  ·simp only[List.getElem_cons_zero]
   exact h00.mono (fun _ _=>rfl) b1 (fun _ _=>rfl)
  simp only[List.getElem_cons_succ,List.getElem_cons_zero,hv]
  exact .fn h' _ vs hvs (fun i hi'=>by
   have:i=0:=by simpa using hi'
   subst this;exact b3)
 rintro e w' ⟨v,σ',I',rfl,a1,a2,a3,a4,a5,a6,a7,a8,a9⟩
 have hg1: ∀k,I1 k→(I1 k∨(w.heap.size≤k∧k<w'.heap.size)):=fun k hk=> .inl hk
 refine⟨v,σ,fun k=>I1 k∨(w.heap.size≤k∧k<w'.heap.size),rfl,b2.extend a1 a2 a3 a4 a5 _ hg1 (fun _ h=>h),?_,⟨fun _ _=>rfl,fun k hk=> .inl (b1 k hk),fun k hk=>a5 k (hi.ilt k hk)⟩,fun _ _ h=>h⟩
 have h9:Rel σ I' w' r' v:=a9.congr_ids fun id hid=>by omega
 exact h9.mono (fun _ _=>rfl) (fun k hk=>by
  rcases a7 k hk with h|h
  ·exact .inl h
  exact .inr ⟨h,a8 k hk⟩) (fun _ _=>rfl)
end Go.AX

namespace Go.AX
open Go Go.Proofs
def ahd (t:BitVec 16):Nat:=if t=15#16 then 2 else 0
def eKn:List AV→Option AV
 |[.w16 t]=>some (.i (ahd t:Int))
 |_=>none
theorem eTr (t:BitVec 16):eKn [.w16 t]=some (.i (ahd t:Int)):=(rfl)
attribute [go_sem] eTr
theorem eXl:cL Try.prog GLh 37 eKn:=by
 refine cC Try.func37 (aT rfl) ?_
 intro args r hg
 unfold eKn at hg
 split at hg
 ·rename_i t
  obtain rfl:=J0 hg
  refine⟨J1 rfl,fun nx=>?_⟩
  clear hg
  refine aA rfl (aW [0] rfl rfl rfl fun K hK=>?_)
  simp(disch:=omega) only[Try.f37,go_sem,↓reduceIte]
  refine hK _ ?_
  refine aB (aA rfl (aA rfl (aW [4] rfl rfl rfl fun K hK=>?_)))
  simp(disch:=omega) only[Try.f37,go_sem,↓reduceIte]
  refine hK _ ?_
  refine aB (bA (.tmp 4) rfl rfl rfl (fun h=>?_) (fun h=>?_))
  ·refine aI rfl ?_
   have e:ahd t=2:=J4 h
   refine aA rfl (aW [2] rfl rfl rfl fun K hK=>?_)
   simp(disch:=omega) only[Try.f37,go_sem,↓reduceIte]
   refine hK _ ?_
   refine aB (aS rfl (bI ?_))
   simp(disch:=omega) only[cN,bV,bK,bQ,Try.f37,go_sem,↓reduceIte,e]
   rfl
  refine aI rfl ?_
  have e:ahd t=0:=J3 h
  refine aQ rfl (aB (aA rfl (aW [2] rfl rfl rfl fun K hK=>?_)))
  simp(disch:=omega) only[Try.f37,go_sem,↓reduceIte]
  refine hK _ ?_
  refine aB (aS rfl ?_)
  simp(disch:=omega) only[cN,bV,bK,bQ,Try.f37,go_sem,↓reduceIte,e]
  rfl
 cases hg
theorem eVl:bX Try.prog GLh 37 (.pure true eKn):=⟨⟨_,Try.func37,rfl,rfl⟩,eXl⟩
def eKo (l:List B8):Option Nat→Option (AV×List AV)
 |none=>none
 |some p=>some (.i 0,[.sl l.length (c8 l),.i (p:Int)])
def eMj:List AV→List AV→Option (Option (AV×List AV))
 |[.op _ 0,.rp [.w16 t]],[.sl n xs,.i 0]=>aK (cI xs) fun l=>aN (l.length=n∧n≤100000) (some (eKo l (shp t l)))
 |_,_=>none
theorem eXa (id n:Nat) (t:BitVec 16) (xs:List AV):eMj [.op id 0,.rp [.w16 t]] [.sl n xs,.i 0]=aK (cI xs) fun l=>aN (l.length=n∧n≤100000) (some (eKo l (shp t l))):=(rfl)
attribute [go_sem] eXa
set_option maxHeartbeats 4000000 in
theorem eOn:cQ Try.prog GLh 41 (rdH eMj)∧dE Try.prog GLh 41 chM (rdP eMj):=by
 refine dT Try.func41 (aT rfl) ?_
 intro id off rest nx xs o hg
 unfold eMj at hg
 split at hg
 ·rename_i id2 t n xs2 heq
  simp only[List.cons.injEq,AV.op.injEq]at heq
  obtain⟨⟨rfl,rfl⟩,rfl⟩:=heq
  replace hg:=aJ hg;obtain⟨l,hl,hg⟩:=hg
  replace hg:=aP hg;obtain⟨⟨rfl,hnb⟩,hg⟩:=hg
  obtain rfl:=J0 hg
  have:=bW hl;subst this
  refine⟨J1 rfl,fun hid=>?_⟩
  clear hl hg
  refine aA rfl (aW [0,1] rfl rfl rfl fun K hK=>?_)
  simp(disch:=omega) only[Try.f41,go_sem,↓reduceIte]
  refine hK _ ?_
  refine aB ?_
  rcases hs:shp t l with _|p
  ·refine aA rfl (dCn (Γ:=bC [(42,.heap (rdH eKr))]) 2 (eSh) fDz (aH fFn aO) rfl rfl rfl (fun Z hZ=>?_))
   simp(disch:=omega) only[Try.f41,go_sem,↓reduceIte,bG,eq_self,true_and,bP,List.map_cons,List.map_nil,List.append_nil,hs,fBw,U0,U1]
   refine hZ _ ?_;clear hZ Z
   exact rfl
  refine aA rfl (aC (Γ:=bC [(42,.heap (rdH eKr))]) [] (aH fFn aO) rfl rfl rfl (fun K hK=>?_))
  simp(disch:=omega) only[Try.f41,go_sem,↓reduceIte,hs,fBv]
  refine hK _ ?_
  refine aB (aA rfl (aW [3] rfl rfl rfl fun K hK=>?_))
  simp(disch:=omega) only[Try.f41,go_sem,↓reduceIte]
  refine hK _ ?_
  refine aB (aS rfl (⟨by simp(disch:=omega) only[bV,bK,bQ,Try.f41,go_sem,eq_self,↓reduceIte],by simp(disch:=omega) only[aV,↓reduceIte,eq_self],?_,?_⟩))
  ·rfl
  exact eD _ _ _
 cases hg
theorem eWz:dE Try.prog GLh 41 chM (rdP eMj):=eOn.2
theorem fEa:cJ Try.prog 41:=⟨_,Try.func41,rfl,rfl⟩
theorem fFo:bX Try.prog GLh 41 (.heap (rdH eMj)):=⟨⟨_,Try.func41,rfl,rfl⟩,eOn.1⟩
def eKp (t:BitVec 16) (l:List B8):Option (AV×List AV):=if ahd t≤l.length then eKh l (ahd t)else none
def eNu:List AV→List AV→Option (Option (AV×List AV))
 |[.op _ 0,.rp [.w16 t]],[.sl n xs,.i 0]=>aK (cI xs) fun l=>aN (l.length=n∧n≤100000) (some (eKp t l))
 |_,_=>none
theorem eXx (id n:Nat) (t:BitVec 16) (xs:List AV):eNu [.op id 0,.rp [.w16 t]] [.sl n xs,.i 0]=aK (cI xs) fun l=>aN (l.length=n∧n≤100000) (some (eKp t l)):=(rfl)
attribute [go_sem] eXx
theorem ePd (t:BitVec 16):ahd t≤2:=by unfold ahd;split<;>omega
set_option maxHeartbeats 4000000 in
theorem ePi:cQ Try.prog GLh 44 (rdH eNu)∧dE Try.prog GLh 44 chM (rdP eNu):=by
 refine dT Try.func44 (aT rfl) ?_
 intro id off rest nx xs o hg
 unfold eNu at hg
 split at hg
 ·rename_i id2 t n xs2 heq
  simp only[List.cons.injEq,AV.op.injEq]at heq
  obtain⟨⟨rfl,rfl⟩,rfl⟩:=heq
  replace hg:=aJ hg;obtain⟨l,hl,hg⟩:=hg
  replace hg:=aP hg;obtain⟨⟨rfl,hnb⟩,hg⟩:=hg
  obtain rfl:=J0 hg
  have:=bW hl;subst this
  refine⟨J1 rfl,fun hid=>?_⟩
  clear hl hg
  have ha:=ePd t
  unfold eKp
  obtain⟨a,ea⟩: ∃a,ahd t=a:=⟨_,rfl⟩
  rw[ea]at ha⊢
  refine aA rfl (aW [0,1] rfl rfl rfl fun K hK=>?_)
  simp(disch:=omega) only[Try.f44,go_sem,↓reduceIte]
  refine hK _ ?_
  refine aB ?_
  by_cases hk:a≤l.length
  ·rw[J4 hk]
   refine aA rfl (aC (Γ:=bC [(37,.pure true eKn),(45,.heap (rdH fJ))]) [0] (aH eVl (aH eLb aO)) rfl rfl rfl (fun K hK=>?_))
   simp(disch:=omega) only[Try.f44,go_sem,↓reduceIte,ea,U2,eUg hk]
   refine hK _ ?_
   refine aB ?_
   rcases eKj l a with⟨e1,e2⟩|⟨n,s,e1,e2⟩
   ·refine aA rfl (dCn (Γ:=bC [(46,.heap (rdH gD))]) 1 (rM) eLi (aH eLo aO) rfl rfl rfl (fun Z hZ=>?_))
    simp(disch:=omega) only[Try.f44,go_sem,↓reduceIte,bG,eq_self,true_and,bP,List.map_cons,List.map_nil,List.append_nil,U2,e2,U0,U1]
    refine hZ _ ?_;clear hZ Z
    rw[e2]
    exact rfl
   refine aA rfl (aC (Γ:=bC [(46,.heap (rdH gD))]) [3] (aH eLo aO) rfl rfl rfl (fun K hK=>?_))
   simp(disch:=omega) only[Try.f44,go_sem,↓reduceIte,U2,e2]
   refine hK _ ?_
   refine aB ?_
   rw[e2]
   refine aS rfl (⟨by simp(disch:=omega) only[bV,bK,bQ,Try.f44,go_sem,eq_self,↓reduceIte],by simp(disch:=omega) only[aV,↓reduceIte,eq_self],?_,?_⟩)
   ·exact eKy _ _
   exact eD _ _ _
  rw[J3 hk]
  refine aA rfl (dCn (Γ:=bC [(37,.pure true eKn),(45,.heap (rdH fJ))]) 3 (rH) eLj (aH eVl (aH eLb aO)) rfl rfl rfl (fun Z hZ=>?_))
  simp(disch:=omega) only[Try.f44,go_sem,↓reduceIte,bG,eq_self,true_and,bP,List.map_cons,List.map_nil,List.append_nil,ea,U2,ePk hk,U0,U1]
  refine hZ _ ?_;clear hZ Z
  exact rfl
 cases hg
theorem eXw:dE Try.prog GLh 44 chM (rdP eNu):=ePi.2
theorem fDy:cJ Try.prog 44:=⟨_,Try.func44,rfl,rfl⟩
theorem eYs:bX Try.prog GLh 44 (.heap (rdH eNu)):=⟨⟨_,Try.func44,rfl,rfl⟩,ePi.1⟩
theorem fHh {α:Type} (p:α→Bool) (a:α) (r:List α):(a::r).all p=(p a&&r.all p):=(rfl)
theorem fHg {α:Type} (p:α→Bool):List.all ([]:List α) p=true:=(rfl)
theorem st4 (a b c d x y z u:AV):dV [a,b,c,d] 0 [x,y,z,u]=[x,y,z,u]:=(rfl)
theorem fCq (a b c d:AV):AV.ids (.agg [a,b,c,d])=max a.ids (max b.ids (max c.ids (max d.ids 0))):=(rfl)
attribute [go_sem] st4
attribute [go_sem] fHh fHg
def fGg (l:List B8):AV:=.agg [.w16 ((eK (l.take 2)).setWidth 16),.w8 (l.getD 2 0#8),.w8 (l.getD 3 0#8),.sl (l.length-4) (c8 (l.drop 4))]
def gE (l:List B8):Option (AV×List AV):=if 4≤l.length then some (fGg l,[.sl l.length (c8 l),.i (l.length:Int)])else none
def eMh:List AV→List AV→Option (Option (AV×List AV))
 |[.op _ 0],[.sl n xs,.i 0]=>aK (cI xs) fun l=>aN (l.length=n∧n≤100000) (some (gE l))
 |_,_=>none
theorem eWe (id n:Nat) (xs:List AV):eMh [.op id 0] [.sl n xs,.i 0]=aK (cI xs) fun l=>aN (l.length=n∧n≤100000) (some (gE l)):=(rfl)
attribute [go_sem] eWe
theorem fGd {l:List B8} {k:Nat} (h:k≤l.length):rL l k 0=some (.w32 (eK (l.take k)),[.sl l.length (c8 l),.i (k:Int)]):=by rw[eKs (by omega),J9,Nat.zero_add]
theorem fGc {l:List B8} {k:Nat} (h: ¬k≤l.length):rL l k 0=none:=fB (by omega)
theorem eSx {l:List B8} {a:Nat} (h:a<l.length):rL l 1 a=some (.w32 ((l.getD a 0#8).setWidth 32),[.sl l.length (c8 l),.i ((a+1:Nat):Int)]):=by rw[eKs (by omega),get1 l a h]
theorem sw8 (x:B8):(x.setWidth 32).setWidth 8=x:=by simp
set_option maxHeartbeats 4000000 in
theorem eOh:cQ Try.prog GLh 66 (rdH eMh)∧dE Try.prog GLh 66 chM (rdP eMh):=by
 refine dT Try.func66 (aT rfl) ?_
 intro id off rest nx xs o hg
 unfold eMh at hg
 split at hg
 ·rename_i id2 n xs2 heq
  simp only[List.cons.injEq,AV.op.injEq]at heq
  obtain⟨⟨rfl,rfl⟩,rfl⟩:=heq
  replace hg:=aJ hg;obtain⟨l,hl,hg⟩:=hg
  replace hg:=aP hg;obtain⟨⟨rfl,hnb⟩,hg⟩:=hg
  obtain rfl:=J0 hg
  have:=bW hl;subst this
  refine⟨J1 rfl,fun hid=>?_⟩
  clear hl hg
  have hdl:(l.drop 4).length=l.length-4:=List.length_drop ..
  unfold gE
  refine aA rfl (aW [0,2] rfl rfl rfl fun K hK=>?_)
  simp(disch:=omega) only[Try.f66,go_sem,↓reduceIte]
  refine hK _ ?_
  refine aB ?_
  by_cases h2:2≤l.length
  ·have n2:rL l 2 0=some (.w32 (eK (l.take 2)),[.sl l.length (c8 l),.i 2]):=fGd h2
   by_cases h3:3≤l.length
   ·have n3:rL l 1 2=some (.w32 ((l.getD 2 0#8).setWidth 32),[.sl l.length (c8 l),.i 3]):=eSx (by omega)
    by_cases h4:4≤l.length
    ·have n4:rL l 1 3=some (.w32 ((l.getD 3 0#8).setWidth 32),[.sl l.length (c8 l),.i 4]):=eSx (by omega)
     rw[J4 h4]
     refine aA rfl (aC (Γ:=bC [(49,.heap (rdH eN)),(56,.heap (rdH rB))]) [2] (aH fL (aH eMl aO)) rfl rfl rfl (fun K hK=>?_))
     simp(disch:=omega) only[Try.f66,go_sem,↓reduceIte,n2,n3,n4,rA,sw8]
     refine hK _ ?_
     refine aB ?_
     unfold fGg
     refine aS rfl (⟨by simp(disch:=omega) only[bV,bK,bQ,Try.f66,go_sem,aV,eq_self,↓reduceIte],by simp(disch:=omega) only[aV,bY,↓reduceIte,eq_self],?_,?_⟩)
     ·rw[fCq,eLf];rfl
     exact eD _ _ _
    rw[J3 h4]
    refine aA rfl (dCn (Γ:=bC [(49,.heap (rdH eN)),(56,.heap (rdH rB))]) 7 (dK) eI (aH fL (aH eMl aO)) rfl rfl rfl (fun Z hZ=>?_))
    simp(disch:=omega) only[Try.f66,go_sem,↓reduceIte,bG,eq_self,true_and,bP,List.map_cons,List.map_nil,List.append_nil,n2,n3,fB (l:=l) (k:=1) (a:=3) (by omega),U0,U1]
    refine hZ _ ?_;clear hZ Z
    exact rfl
   rw[J3 (by omega)]
   refine aA rfl (dCn (Γ:=bC [(49,.heap (rdH eN)),(56,.heap (rdH rB))]) 4 (dK) eI (aH fL (aH eMl aO)) rfl rfl rfl (fun Z hZ=>?_))
   simp(disch:=omega) only[Try.f66,go_sem,↓reduceIte,bG,eq_self,true_and,bP,List.map_cons,List.map_nil,List.append_nil,n2,fB (l:=l) (k:=1) (a:=2) (by omega),U0,U1]
   refine hZ _ ?_;clear hZ Z
   exact rfl
  rw[J3 (by omega)]
  refine aA rfl (dCn (Γ:=bC [(49,.heap (rdH eN)),(56,.heap (rdH rB))]) 1 (dK) eI (aH fL (aH eMl aO)) rfl rfl rfl (fun Z hZ=>?_))
  simp(disch:=omega) only[Try.f66,go_sem,↓reduceIte,bG,eq_self,true_and,bP,List.map_cons,List.map_nil,List.append_nil,fGc h2,U0,U1]
  refine hZ _ ?_;clear hZ Z
  exact rfl
 cases hg
theorem eWd:dE Try.prog GLh 66 chM (rdP eMh):=eOh.2
theorem fDv:cJ Try.prog 66:=⟨_,Try.func66,rfl,rfl⟩
theorem bVz:bX Try.prog GLh 66 (.heap (rdH eMh)):=⟨⟨_,Try.func66,rfl,rfl⟩,eOh.1⟩
end Go.AX

namespace Go.AX
open Go Go.Proofs
set_option maxRecDepth 20000
def rdT (z:AV) (len:Nat):Option (AV×List AV)→AV
 |some (v,[_,.i p])=>if p=(len:Int)then .tup [v,.i 0]else .tup [z,.i 50]
 |_=> .tup [z,.i 50]
theorem eOd (z:AV) (len:Nat):rdT z len none=.tup [z,.i 50]:=rfl
theorem fO {p:Int} {len:Nat} (z v s:AV) (h:p=(len:Int)):rdT z len (some (v,[s,.i p]))=.tup [v,.i 0]:=J4 h
theorem iD {p:Int} {len:Nat} (z v s:AV) (h: ¬p=(len:Int)):rdT z len (some (v,[s,.i p]))=.tup [z,.i 50]:=J3 h
theorem eKm (a b:AV) (hp:H) (nx:Nat):fD 2 [a,b] hp nx=some (hp,nx):=cU _ rfl
theorem fCk (a b:AV):AV.ids (.tup [a,b])=max a.ids (max b.ids 0):=(rfl)
attribute [go_sem] eKm
theorem ePe {hp:H} {nx m i1 i2:Nat} {a c1 c2:AO} (hno: ∀id,nx≤id→hp id=none) (hm:nx≤m) (id:Nat) (o:AO) (h:upd (upd hp i1 c1) i2 c2 id=some o):upd (upd (upd hp m a) i1 c1) i2 c2 id=some o:=by
 simp only[bJ]at h⊢
 split
 ·rename_i e;rw[J4 e]at h;exact h
 rename_i e;rw[J3 e]at h
 split
 ·rename_i e;rw[J4 e]at h;exact h
 rename_i e;rw[J3 e]at h
 split
 ·rename_i e;rw[e,hno m hm]at h;cases h
 exact h
theorem eKv {hp:H} {nx m q i1 i2:Nat} {a b c1 c2:AO} (hno: ∀id,nx≤id→hp id=none) (hm:nx≤m) (hq:nx≤q) (id:Nat) (o:AO) (h:upd (upd hp i1 c1) i2 c2 id=some o):upd (upd (upd (upd hp m a) q b) i1 c1) i2 c2 id=some o:=by
 simp only[bJ]at h⊢
 split
 ·rename_i e;rw[J4 e]at h;exact h
 rename_i e;rw[J3 e]at h
 split
 ·rename_i e;rw[J4 e]at h;exact h
 rename_i e;rw[J3 e]at h
 split
 ·rename_i e;rw[e,hno q hq]at h;cases h
 split
 ·rename_i e;rw[e,hno m hm]at h;cases h
 exact h
def is4:Option AO→Bool
 |some (.cells [_,_,_,_] true)=>true
 |_=>false
theorem eYz {o:Option AO} (h:is4 o=true): ∃x0 x1 x2 x3,o=some (.cells [x0,x1,x2,x3] true):=by
 unfold is4 at h
 split at h
 ·exact⟨_,_,_,_,rfl⟩
 cases h
theorem fGl (x0 x1 x2 x3:AV):is4 (some (.cells [x0,x1,x2,x3] true))=true:=(rfl)
attribute [go_sem] fGl
theorem dYm:ofV (.agg #[])=.agg []:=(rfl)
theorem isi117:uG Try.prog 117=false:=by kernel_rfl
theorem zc117:cG Try.prog 117=some []:=by kernel_rfl
attribute [go_sem] dYm isi117 zc117
theorem eMe (t:BitVec 16) (l:List B8):eKo l (shp t l)=none∨∃p:Nat,eKo l (shp t l)=some (.i 0,[.sl l.length (c8 l),.i (p:Int)]):=by
 rcases shp t l with _|p
 ·exact .inl rfl
 exact .inr ⟨p,rfl⟩
theorem eMc (t:BitVec 16) (l:List B8):eKp t l=none∨∃(v:Nm) (p:Nat),eKp t l=some (.sl v.length (cS v),[.sl l.length (c8 l),.i (p:Int)]):=by
 unfold eKp
 split
 ·rcases eKj l (ahd t)with⟨_,e⟩|⟨n,s,_,e⟩
  ·exact .inl e
  exact .inr ⟨n,_,e⟩
 exact .inl rfl
theorem eMd (l:List B8):gE l=none∨∃(v1:BitVec 16) (v2 v3:B8) (v4:List B8) (p:Nat),gE l=some (.agg [.w16 v1,.w8 v2,.w8 v3,.sl v4.length (c8 v4)],[.sl l.length (c8 l),.i (p:Int)]):=by
 unfold gE
 split
 ·exact .inr ⟨_,_,_,l.drop 4,l.length,by rw[List.length_drop];rfl⟩
 exact .inl rfl
theorem fCw (vals:Array Value) (w:World) (hs:vals.size=2):CallsD Try.prog 68 vals .returning w fun e u1 w'=>e=.returned (.tuple #[])∧u1=.returning∧w'=w:=by
 obtain⟨l⟩:=vals
 match l,hs with
 |[a,b],_=>
  refine callsD_of_wpS Try.func68 rfl fun c₀ cs hu=>?_
  apply wpS_seq
  apply wpS_region
  simp[wpOpsS,go_sem,recoverD,hu,Try.ntmps68,Exit.thenS]
  apply wpS_seq
  apply wpS_region
  simp[wpOpsS,go_sem,Exit.thenS]
  refine wpS_cond (t:=false) (by simp[Act.eval,Array.replicate]) ?_
  simp only[Bool.false_eq_true,if_false]
  refine wpS_of_wp (wp_skip ?_)
  cases c₀
  simp_all [bodyPostS,results,Try.results68]
theorem fHe:bSj Try.prog GLh 68 .returning .returning (fD 2):=dPj fCw
theorem fDu:cJ Try.prog 68:=⟨_,Try.func68,rfl,rfl⟩
def fAv:List AV→H→Nat→Option (H×Nat)
 |[.op i1 0,.op i2 0],hp,nx=>aN ((eS (hp i1)=true∧eS (hp i2)=true)∧i1≠i2∧i1<nx∧i2<nx) (some (upd (upd hp i1 (.cells [.i 0] true)) i2 (.cells [.i 50] true),nx+30))
 |_,_,_=>none
theorem fAu (i1 i2 nx:Nat) (hp:H):fAv [.op i1 0,.op i2 0] hp nx=aN ((eS (hp i1)=true∧eS (hp i2)=true)∧i1≠i2∧i1<nx∧i2<nx) (some (upd (upd hp i1 (.cells [.i 0] true)) i2 (.cells [.i 50] true),nx+30)):=(rfl)
attribute [go_sem] fAu
set_option maxHeartbeats 4000000 in
theorem fAt:bSj Try.prog GLh 68 (.panicking chM) (.panicking [{v:=.iface 117 (.agg #[]),recovered:=true}]) fAv:=by
 refine fZ (rest:=(cr (aE Try.f68))) (rv:=.iface 117 (.agg #[])) (a:=6) (b:=2) Try.func68 rfl (.inl rfl) ⟨J1 rfl,J1 rfl⟩ ?_
 intro args hp nx hp' nx' hg
 unfold fAv at hg
 split at hg
 ·rename_i i1 i2
  replace hg:=aP hg;obtain⟨⟨⟨o1,o2⟩,n12,l1,l2⟩,hg⟩:=hg
  simp only[Option.some.injEq,Prod.mk.injEq]at hg;obtain⟨rfl,rfl⟩:=hg
  obtain⟨x0,h1⟩:=eG o1
  obtain⟨y,h2⟩:=eG o2
  refine⟨J1 rfl,Nat.le_add_right _ _,fun hno=>?_⟩
  simp only[aOo]
  refine aA rfl (aW [8,0,1,2] rfl rfl rfl fun K hK=>?_)
  simp(disch:=omega) only[Try.f68,go_sem,↓reduceIte]
  refine hK _ ?_
  refine aB (eC (.tmp 8) rfl rfl rfl (fun h=>?_) (fun h=>?_))
  ·refine aI rfl (aA rfl (aA rfl (aW [0,1,2,4] rfl rfl rfl fun K hK=>?_)))
   simp(disch:=omega) only[Try.f68,go_sem,↓reduceIte]
   refine hK _ ?_
   refine aB (aA rfl (aW [15,0,1,2] rfl rfl rfl fun K hK=>?_))
   simp(disch:=omega) only[Try.f68,go_sem,↓reduceIte]
   refine hK _ ?_
   refine aB (eC (.tmp 15) rfl rfl rfl (fun h=>?_) (fun h=>?_))
   ·refine aI rfl ?_
    cases h
   refine aI rfl ?_
   clear h
   refine aQ rfl (aB (aA rfl (aW [0,1,5] rfl rfl rfl fun K hK=>?_)))
   simp(disch:=omega) only[Try.f68,go_sem,↓reduceIte]
   refine hK _ ?_
   refine aB (aW [] rfl rfl rfl fun K hK=>?_)
   simp(disch:=omega) only[Try.f68,go_sem,↓reduceIte,h1,h2]
   refine hK _ ?_
   exact⟨rfl,ePe hno (by omega),by simp only;omega⟩
  refine aI rfl ?_
  cases h
 cases hg
def eNb:List AV→Option AV
 |[.sl n xs,.fn 41 [.rp [.w16 t]]]=>aK (cI xs) fun l=>aN (l.length=n∧n≤100000) (some (rdT (.i 0) l.length (eKo l (shp t l))))
 |_=>none
theorem eSr (t:BitVec 16) (n:Nat) (xs:List AV):eNb [.sl n xs,.fn 41 [.rp [.w16 t]]]=aK (cI xs) fun l=>aN (l.length=n∧n≤100000) (some (rdT (.i 0) l.length (eKo l (shp t l)))):=(rfl)
attribute [go_sem] eSr
set_option maxHeartbeats 4000000 in
theorem eVd:cL Try.prog GLh 40 eNb:=by
 refine cUy (r0:=(cl (aE Try.f40))) (C:=(cr (cr (aE Try.f40)))) (k:=7) (d:=68) (caps:= #[.tmp 4,.tmp 5]) Try.func40 rfl (J1 rfl) fDu fHe fAt rfl ?_
 intro args r hg
 unfold eNb at hg
 split at hg
 ·rename_i n xs t
  replace hg:=aJ hg;obtain⟨l,hl,hg⟩:=hg
  replace hg:=aP hg;obtain⟨⟨rfl,hnb⟩,hg⟩:=hg
  obtain rfl:=J0 hg
  have:=bW hl;subst this
  refine⟨J1 rfl,fun nx=>⟨[.op nx 0,.op (nx+1) 0],?_⟩⟩
  clear hl hg
  have hcs:=eMe t l
  refine aW [0,1,4,5] rfl rfl rfl fun K hK=>?_
  simp(disch:=omega) only[Try.f40,go_sem,↓reduceIte]
  refine hK _ ?_
  refine⟨rfl,?_⟩
  simp only[dBa]
  refine aA rfl (aW [0,1,4,5,6] rfl rfl rfl fun K hK=>?_)
  simp(disch:=omega) only[Try.f40,go_sem,↓reduceIte]
  refine hK _ ?_
  refine aB ?_
  rcases hcs with e2|⟨p,e2⟩
  ·refine aA rfl (dCn (Γ:=aL) 2 (eWz) fEa (aD _ _) rfl rfl rfl (fun Z hZ=>?_))
   simp(disch:=omega) only[Try.f40,go_sem,↓reduceIte,bG,eq_self,true_and,bP,List.map_cons,List.map_nil,e2,U0,U1]
   refine hZ _ ?_;clear hZ Z
   refine hX (gI:=fD 2) (p:=_) (by simp(disch:=omega) only[go_sem,aV,kE,bY,↓reduceIte];rfl) ?_
   rw[e2,eOd]
   simp(disch:=omega) only[bV,bK,bQ,Try.f40,go_sem,aV,bY,↓reduceIte]
  refine aA rfl (aC (Γ:=bC [(41,.heap (rdH eMj))]) [0,4,5,6] (aH fFo aO) rfl rfl rfl (fun K hK=>?_))
  simp(disch:=omega) only[Try.f40,go_sem,↓reduceIte,e2]
  refine hK _ ?_
  refine aB ?_
  by_cases hp:(p:Int)=(l.length:Int)
  ·have hd:decide ((p:Int)=(l.length:Int))=true:=J5 hp
   refine aA rfl (aC (Γ:=bC [(60,.pure true eM)]) [4,5] (aH rP aO) rfl rfl rfl (fun K hK=>?_))
   simp(disch:=omega) only[Try.f40,go_sem,↓reduceIte,hd]
   refine hK _ ?_
   refine aB (aA rfl (aW [4,5] rfl rfl rfl fun K hK=>?_))
   simp(disch:=omega) only[Try.f40,go_sem,↓reduceIte]
   refine hK _ ?_
   refine aB (aS rfl (rO (gP:=fAv) (ch:=chM) (p:=_) (eKm _ _ _ _) ?_))
   rw[e2,fO _ _ _ hp]
   simp(disch:=omega) only[bV,bK,bQ,Try.f40,go_sem,aV,bY,↓reduceIte]
  have hd:decide ((p:Int)=(l.length:Int))=false:=J6 hp
  refine aA rfl (dCn (Γ:=bC [(60,.pure true eM)]) 7 (fC) rD (aH rP aO) rfl rfl rfl (fun Z hZ=>?_))
  simp(disch:=omega) only[Try.f40,go_sem,↓reduceIte,bG,eq_self,true_and,bP,List.map_cons,List.map_nil,List.append_nil,hd,U0,U1]
  refine hZ _ ?_;clear hZ Z
  refine hX (gI:=fD 2) (p:=_) (by simp(disch:=omega) only[go_sem,aV,bY,↓reduceIte];rfl) ?_
  rw[e2,iD _ _ _ hp]
  simp(disch:=omega) only[bV,bK,bQ,Try.f40,go_sem,aV,bY,↓reduceIte]
 cases hg
theorem ok40:bX Try.prog GLh 40 (.heap (bOt 41 eNb)):=⟨⟨_,Try.func40,rfl,rfl⟩,cSn eVd⟩
theorem fCv (vals:Array Value) (w:World) (hs:vals.size=2):CallsD Try.prog 70 vals .returning w fun e u1 w'=>e=.returned (.tuple #[])∧u1=.returning∧w'=w:=by
 obtain⟨l⟩:=vals
 match l,hs with
 |[a,b],_=>
  refine callsD_of_wpS Try.func70 rfl fun c₀ cs hu=>?_
  apply wpS_seq
  apply wpS_region
  simp[wpOpsS,go_sem,recoverD,hu,Try.ntmps70,Exit.thenS]
  apply wpS_seq
  apply wpS_region
  simp[wpOpsS,go_sem,Exit.thenS]
  refine wpS_cond (t:=false) (by simp[Act.eval,Array.replicate]) ?_
  simp only[Bool.false_eq_true,if_false]
  refine wpS_of_wp (wp_skip ?_)
  cases c₀
  simp_all [bodyPostS,results,Try.results70]
theorem fHd:bSj Try.prog GLh 70 .returning .returning (fD 2):=dPj fCv
theorem fDs:cJ Try.prog 70:=⟨_,Try.func70,rfl,rfl⟩
def fAs:List AV→H→Nat→Option (H×Nat)
 |[.op i1 0,.op i2 0],hp,nx=>aN ((eS (hp i1)=true∧eS (hp i2)=true)∧i1≠i2∧i1<nx∧i2<nx) (some (upd (upd hp i1 (.cells [.v (.slice none 0 0)] true)) i2 (.cells [.i 50] true),nx+30))
 |_,_,_=>none
theorem fAr (i1 i2 nx:Nat) (hp:H):fAs [.op i1 0,.op i2 0] hp nx=aN ((eS (hp i1)=true∧eS (hp i2)=true)∧i1≠i2∧i1<nx∧i2<nx) (some (upd (upd hp i1 (.cells [.v (.slice none 0 0)] true)) i2 (.cells [.i 50] true),nx+30)):=(rfl)
attribute [go_sem] fAr
set_option maxHeartbeats 4000000 in
theorem fAq:bSj Try.prog GLh 70 (.panicking chM) (.panicking [{v:=.iface 117 (.agg #[]),recovered:=true}]) fAs:=by
 refine fZ (rest:=(cr (aE Try.f70))) (rv:=.iface 117 (.agg #[])) (a:=6) (b:=2) Try.func70 rfl (.inl rfl) ⟨J1 rfl,J1 rfl⟩ ?_
 intro args hp nx hp' nx' hg
 unfold fAs at hg
 split at hg
 ·rename_i i1 i2
  replace hg:=aP hg;obtain⟨⟨⟨o1,o2⟩,n12,l1,l2⟩,hg⟩:=hg
  simp only[Option.some.injEq,Prod.mk.injEq]at hg;obtain⟨rfl,rfl⟩:=hg
  obtain⟨x0,h1⟩:=eG o1
  obtain⟨y,h2⟩:=eG o2
  refine⟨J1 rfl,Nat.le_add_right _ _,fun hno=>?_⟩
  simp only[aOo]
  refine aA rfl (aW [8,0,1,2] rfl rfl rfl fun K hK=>?_)
  simp(disch:=omega) only[Try.f70,go_sem,↓reduceIte]
  refine hK _ ?_
  refine aB (eC (.tmp 8) rfl rfl rfl (fun h=>?_) (fun h=>?_))
  ·refine aI rfl (aA rfl (aA rfl (aW [0,1,2,4] rfl rfl rfl fun K hK=>?_)))
   simp(disch:=omega) only[Try.f70,go_sem,↓reduceIte]
   refine hK _ ?_
   refine aB (aA rfl (aW [15,0,1,2] rfl rfl rfl fun K hK=>?_))
   simp(disch:=omega) only[Try.f70,go_sem,↓reduceIte]
   refine hK _ ?_
   refine aB (eC (.tmp 15) rfl rfl rfl (fun h=>?_) (fun h=>?_))
   ·refine aI rfl ?_
    cases h
   refine aI rfl ?_
   clear h
   refine aQ rfl (aB (aA rfl (aW [0,1,5] rfl rfl rfl fun K hK=>?_)))
   simp(disch:=omega) only[Try.f70,go_sem,↓reduceIte]
   refine hK _ ?_
   refine aB (aW [] rfl rfl rfl fun K hK=>?_)
   simp(disch:=omega) only[Try.f70,go_sem,↓reduceIte,h1,h2]
   refine hK _ ?_
   exact⟨rfl,ePe hno (by omega),by simp only;omega⟩
  refine aI rfl ?_
  cases h
 cases hg
def eLd:List AV→Option AV
 |[.sl n xs,.fn 44 [.rp [.w16 t]]]=>aK (cI xs) fun l=>aN (l.length=n∧n≤100000) (some (rdT (.sl 0 []) l.length (eKp t l)))
 |_=>none
theorem eSp (t:BitVec 16) (n:Nat) (xs:List AV):eLd [.sl n xs,.fn 44 [.rp [.w16 t]]]=aK (cI xs) fun l=>aN (l.length=n∧n≤100000) (some (rdT (.sl 0 []) l.length (eKp t l))):=(rfl)
attribute [go_sem] eSp
set_option maxHeartbeats 4000000 in
theorem eVb:cL Try.prog GLh 43 eLd:=by
 refine cUy (r0:=(cl (aE Try.f43))) (C:=(cr (cr (aE Try.f43)))) (k:=7) (d:=70) (caps:= #[.tmp 4,.tmp 5]) Try.func43 rfl (J1 rfl) fDs fHd fAq rfl ?_
 intro args r hg
 unfold eLd at hg
 split at hg
 ·rename_i n xs t
  replace hg:=aJ hg;obtain⟨l,hl,hg⟩:=hg
  replace hg:=aP hg;obtain⟨⟨rfl,hnb⟩,hg⟩:=hg
  obtain rfl:=J0 hg
  have:=bW hl;subst this
  refine⟨J1 rfl,fun nx=>⟨[.op nx 0,.op (nx+1) 0],?_⟩⟩
  clear hl hg
  have hcs:=eMc t l
  refine aW [0,1,4,5] rfl rfl rfl fun K hK=>?_
  simp(disch:=omega) only[Try.f43,go_sem,↓reduceIte]
  refine hK _ ?_
  refine⟨rfl,?_⟩
  simp only[dBa]
  refine aA rfl (aW [0,1,4,5,6] rfl rfl rfl fun K hK=>?_)
  simp(disch:=omega) only[Try.f43,go_sem,↓reduceIte]
  refine hK _ ?_
  refine aB ?_
  rcases hcs with e2|⟨v,p,e2⟩
  ·refine aA rfl (dCn (Γ:=aL) 2 (eXw) fDy (aD _ _) rfl rfl rfl (fun Z hZ=>?_))
   simp(disch:=omega) only[Try.f43,go_sem,↓reduceIte,bG,eq_self,true_and,bP,List.map_cons,List.map_nil,e2,U0,U1]
   refine hZ _ ?_;clear hZ Z
   refine hX (gI:=fD 2) (p:=_) (by simp(disch:=omega) only[go_sem,aV,kE,bY,↓reduceIte];rfl) ?_
   rw[e2,eOd]
   simp(disch:=omega) only[bV,bK,bQ,Try.f43,go_sem,aV,bY,↓reduceIte]
  refine aA rfl (aC (Γ:=bC [(44,.heap (rdH eNu))]) [0,4,5,6] (aH eYs aO) rfl rfl rfl (fun K hK=>?_))
  simp(disch:=omega) only[Try.f43,go_sem,↓reduceIte,e2]
  refine hK _ ?_
  refine aB ?_
  by_cases hp:(p:Int)=(l.length:Int)
  ·have hd:decide ((p:Int)=(l.length:Int))=true:=J5 hp
   refine aA rfl (aC (Γ:=bC [(60,.pure true eM)]) [4,5] (aH rP aO) rfl rfl rfl (fun K hK=>?_))
   simp(disch:=omega) only[Try.f43,go_sem,↓reduceIte,hd]
   refine hK _ ?_
   refine aB (aA rfl (aW [4,5] rfl rfl rfl fun K hK=>?_))
   simp(disch:=omega) only[Try.f43,go_sem,↓reduceIte]
   refine hK _ ?_
   refine aB (aS rfl (rO (gP:=fAs) (ch:=chM) (p:=_) (eKm _ _ _ _) ?_))
   rw[e2,fO _ _ _ hp]
   simp(disch:=omega) only[bV,bK,bQ,Try.f43,go_sem,aV,bY,↓reduceIte]
  have hd:decide ((p:Int)=(l.length:Int))=false:=J6 hp
  refine aA rfl (dCn (Γ:=bC [(60,.pure true eM)]) 7 (fC) rD (aH rP aO) rfl rfl rfl (fun Z hZ=>?_))
  simp(disch:=omega) only[Try.f43,go_sem,↓reduceIte,bG,eq_self,true_and,bP,List.map_cons,List.map_nil,List.append_nil,hd,U0,U1]
  refine hZ _ ?_;clear hZ Z
  refine hX (gI:=fD 2) (p:=_) (by simp(disch:=omega) only[go_sem,aV,bY,↓reduceIte];rfl) ?_
  rw[e2,iD _ _ _ hp]
  simp(disch:=omega) only[bV,bK,bQ,Try.f43,go_sem,aV,bY,↓reduceIte]
 cases hg
theorem fCf:bX Try.prog GLh 43 (.heap (bOt 44 eLd)):=⟨⟨_,Try.func43,rfl,rfl⟩,cSn eVb⟩
theorem fCr (vals:Array Value) (w:World) (hs:vals.size=2):CallsD Try.prog 78 vals .returning w fun e u1 w'=>e=.returned (.tuple #[])∧u1=.returning∧w'=w:=by
 obtain⟨l⟩:=vals
 match l,hs with
 |[a,b],_=>
  refine callsD_of_wpS Try.func78 rfl fun c₀ cs hu=>?_
  apply wpS_seq
  apply wpS_region
  simp[wpOpsS,go_sem,recoverD,hu,Try.ntmps78,Exit.thenS]
  apply wpS_seq
  apply wpS_region
  simp[wpOpsS,go_sem,Exit.thenS]
  refine wpS_cond (t:=false) (by simp[Act.eval,Array.replicate]) ?_
  simp only[Bool.false_eq_true,if_false]
  refine wpS_of_wp (wp_skip ?_)
  cases c₀
  simp_all [bodyPostS,results,Try.results78]
theorem fGz:bSj Try.prog GLh 78 .returning .returning (fD 2):=dPj fCr
theorem fDo:cJ Try.prog 78:=⟨_,Try.func78,rfl,rfl⟩
def fAg:List AV→H→Nat→Option (H×Nat)
 |[.op i1 0,.op i2 0],hp,nx=>aN ((is4 (hp i1)=true∧eS (hp i2)=true)∧i1≠i2∧i1<nx∧i2<nx) (some (upd (upd hp i1 (.cells [.w16 0#16,.w8 0#8,.w8 0#8,.v (.slice none 0 0)] true)) i2 (.cells [.i 50] true),nx+30))
 |_,_,_=>none
theorem fAf (i1 i2 nx:Nat) (hp:H):fAg [.op i1 0,.op i2 0] hp nx=aN ((is4 (hp i1)=true∧eS (hp i2)=true)∧i1≠i2∧i1<nx∧i2<nx) (some (upd (upd hp i1 (.cells [.w16 0#16,.w8 0#8,.w8 0#8,.v (.slice none 0 0)] true)) i2 (.cells [.i 50] true),nx+30)):=(rfl)
attribute [go_sem] fAf
set_option maxHeartbeats 4000000 in
theorem fAe:bSj Try.prog GLh 78 (.panicking chM) (.panicking [{v:=.iface 117 (.agg #[]),recovered:=true}]) fAg:=by
 refine fZ (rest:=(cr (aE Try.f78))) (rv:=.iface 117 (.agg #[])) (a:=6) (b:=2) Try.func78 rfl (.inl rfl) ⟨J1 rfl,J1 rfl⟩ ?_
 intro args hp nx hp' nx' hg
 unfold fAg at hg
 split at hg
 ·rename_i i1 i2
  replace hg:=aP hg;obtain⟨⟨⟨o1,o2⟩,n12,l1,l2⟩,hg⟩:=hg
  simp only[Option.some.injEq,Prod.mk.injEq]at hg;obtain⟨rfl,rfl⟩:=hg
  obtain⟨x0,x1,x2,x3,h1⟩:=eYz o1
  obtain⟨y,h2⟩:=eG o2
  refine⟨J1 rfl,Nat.le_add_right _ _,fun hno=>?_⟩
  simp only[aOo]
  refine aA rfl (aW [8,0,1,2] rfl rfl rfl fun K hK=>?_)
  simp(disch:=omega) only[Try.f78,go_sem,↓reduceIte]
  refine hK _ ?_
  refine aB (eC (.tmp 8) rfl rfl rfl (fun h=>?_) (fun h=>?_))
  ·refine aI rfl (aA rfl (aA rfl (aW [0,1,2,4] rfl rfl rfl fun K hK=>?_)))
   simp(disch:=omega) only[Try.f78,go_sem,↓reduceIte]
   refine hK _ ?_
   refine aB (aA rfl (aW [15,0,1,2] rfl rfl rfl fun K hK=>?_))
   simp(disch:=omega) only[Try.f78,go_sem,↓reduceIte]
   refine hK _ ?_
   refine aB (eC (.tmp 15) rfl rfl rfl (fun h=>?_) (fun h=>?_))
   ·refine aI rfl ?_
    cases h
   refine aI rfl ?_
   clear h
   refine aQ rfl (aB (aA rfl (aW [0,1,5] rfl rfl rfl fun K hK=>?_)))
   simp(disch:=omega) only[Try.f78,go_sem,↓reduceIte]
   refine hK _ ?_
   refine aB (aW [] rfl rfl rfl fun K hK=>?_)
   simp(disch:=omega) only[Try.f78,go_sem,↓reduceIte,h1,h2]
   refine hK _ ?_
   exact⟨rfl,eKv hno (by omega) (by omega),by simp only;omega⟩
  refine aI rfl ?_
  cases h
 cases hg
def eNa:List AV→Option AV
 |[.sl n xs,.fn 66 []]=>aK (cI xs) fun l=>aN (l.length=n∧n≤100000) (some (rdT (.agg [.w16 0#16,.w8 0#8,.w8 0#8,.sl 0 []]) l.length (gE l)))
 |_=>none
theorem eSq (n:Nat) (xs:List AV):eNa [.sl n xs,.fn 66 []]=aK (cI xs) fun l=>aN (l.length=n∧n≤100000) (some (rdT (.agg [.w16 0#16,.w8 0#8,.w8 0#8,.sl 0 []]) l.length (gE l))):=(rfl)
attribute [go_sem] eSq
set_option maxHeartbeats 4000000 in
theorem eVc:cL Try.prog GLh 65 eNa:=by
 refine cUy (r0:=(cl (aE Try.f65))) (C:=(cr (cr (aE Try.f65)))) (k:=7) (d:=78) (caps:= #[.tmp 4,.tmp 5]) Try.func65 rfl (J1 rfl) fDo fGz fAe rfl ?_
 intro args r hg
 unfold eNa at hg
 split at hg
 ·rename_i n xs
  replace hg:=aJ hg;obtain⟨l,hl,hg⟩:=hg
  replace hg:=aP hg;obtain⟨⟨rfl,hnb⟩,hg⟩:=hg
  obtain rfl:=J0 hg
  have:=bW hl;subst this
  refine⟨J1 rfl,fun nx=>⟨[.op nx 0,.op (nx+1) 0],?_⟩⟩
  clear hl hg
  have hcs:=eMd l
  refine aW [0,1,4,5] rfl rfl rfl fun K hK=>?_
  simp(disch:=omega) only[Try.f65,go_sem,↓reduceIte]
  refine hK _ ?_
  refine⟨rfl,?_⟩
  simp only[dBa]
  refine aA rfl (aW [0,1,4,5,6] rfl rfl rfl fun K hK=>?_)
  simp(disch:=omega) only[Try.f65,go_sem,↓reduceIte]
  refine hK _ ?_
  refine aB ?_
  rcases hcs with e2|⟨v1,v2,v3,v4,p,e2⟩
  ·refine aA rfl (dCn (Γ:=aL) 2 (eWd) fDv (aD _ _) rfl rfl rfl (fun Z hZ=>?_))
   simp(disch:=omega) only[Try.f65,go_sem,↓reduceIte,bG,eq_self,true_and,bP,List.map_cons,List.map_nil,List.append_nil,e2,U0,U1]
   refine hZ _ ?_;clear hZ Z
   refine hX (gI:=fD 2) (p:=_) (by simp(disch:=omega) only[go_sem,aV,kE,bY,↓reduceIte];rfl) ?_
   rw[e2,eOd]
   simp(disch:=omega) only[bV,bK,bQ,Try.f65,go_sem,aV,bY,↓reduceIte]
  refine aA rfl (aC (Γ:=bC [(66,.heap (rdH eMh))]) [0,4,5,6] (aH bVz aO) rfl rfl rfl (fun K hK=>?_))
  simp(disch:=omega) only[Try.f65,go_sem,↓reduceIte,e2]
  refine hK _ ?_
  refine aB ?_
  by_cases hp:(p:Int)=(l.length:Int)
  ·have hd:decide ((p:Int)=(l.length:Int))=true:=J5 hp
   refine aA rfl (aC (Γ:=bC [(60,.pure true eM)]) [4,5] (aH rP aO) rfl rfl rfl (fun K hK=>?_))
   simp(disch:=omega) only[Try.f65,go_sem,↓reduceIte,hd]
   refine hK _ ?_
   refine aB (aA rfl (aW [4,5] rfl rfl rfl fun K hK=>?_))
   simp(disch:=omega) only[Try.f65,go_sem,↓reduceIte]
   refine hK _ ?_
   refine aB (aS rfl (rO (gP:=fAg) (ch:=chM) (p:=_) (eKm _ _ _ _) ?_))
   rw[e2,fO _ _ _ hp]
   simp(disch:=omega) only[bV,bK,bQ,Try.f65,go_sem,aV,bY,↓reduceIte]
  have hd:decide ((p:Int)=(l.length:Int))=false:=J6 hp
  refine aA rfl (dCn (Γ:=bC [(60,.pure true eM)]) 7 (fC) rD (aH rP aO) rfl rfl rfl (fun Z hZ=>?_))
  simp(disch:=omega) only[Try.f65,go_sem,↓reduceIte,bG,eq_self,true_and,bP,List.map_cons,List.map_nil,List.append_nil,hd,U0,U1]
  refine hZ _ ?_;clear hZ Z
  refine hX (gI:=fD 2) (p:=_) (by simp(disch:=omega) only[go_sem,aV,bY,↓reduceIte];rfl) ?_
  rw[e2,iD _ _ _ hp]
  simp(disch:=omega) only[bV,bK,bQ,Try.f65,go_sem,aV,bY,↓reduceIte]
 cases hg
theorem cWl:bX Try.prog GLh 65 (.pure false eNa):=⟨⟨_,Try.func65,rfl,rfl⟩,eVc⟩
end Go.AX

namespace Go.AX
open Go Go.Proofs
set_option maxRecDepth 20000
def dX (l:List B8) (p:Nat):BitVec 32:=eK ((l.drop p).take 4)
theorem eKt {l:List B8} {p:Nat} (h:p+4≤l.length):rL l 4 p=some (.w32 (dX l p),[.sl l.length (c8 l),.i ((p+4:Nat):Int)]):=eKs (by omega)
theorem eNh {l:List B8} {p:Nat} (h: ¬p+4≤l.length) (hp:p≤l.length):rL l 4 p=none:=fB (by omega)
theorem eMp {l:List B8} {a s:Nat} {n:Nm} (h:nmO (l.drop a)=some (n,s)):eKh l a=some (.sl n.length (cS n),[.sl l.length (c8 l),.i ((a+s:Nat):Int)]):=by unfold eKh;rw[h]
theorem eOx {l:List B8} {a:Nat} (h:nmO (l.drop a)=none):eKh l a=none:=by unfold eKh;rw[h]
theorem eOw {b:List B8} {n:Nm} {s:Nat} (h:nmO b=some (n,s)):s≤b.length:=by
 rcases iI b with⟨h2,_⟩|⟨n2,s2,h2,h3,_⟩
 ·rw[h2]at h;cases h
 rw[h2]at h;simp only[Option.some.injEq,Prod.mk.injEq]at h;omega
def eUm (l:List B8) (n m:Nm) (p:Nat):AV:=.agg [.sl n.length (cS n),.sl m.length (cS m),.w32 (dX l p),.w32 (dX l (p+4)),.w32 (dX l (p+4+4)),.w32 (dX l (p+4+4+4)),.w32 (dX l (p+4+4+4+4))]
def eOb (l:List B8) (n m:Nm) (p:Nat):Option (AV×List AV):=if p+4+4+4+4+4≤l.length then some (eUm l n m p,[.sl l.length (c8 l),.i ((p+4+4+4+4+4:Nat):Int)])else none
def nm2 (l:List B8):Option (Nm×Nm×Nat):=match nmO l with
 |none=>none
 |some (n,s)=>match nmO (l.drop s)with
  |none=>none
  |some (m,s2)=>some (n,m,s+s2)
def eX (l:List B8):Option (AV×List AV):=match nm2 l with
 |none=>none
 |some (n,m,p)=>eOb l n m p
def eLy:List AV→List AV→Option (Option (AV×List AV))
 |[.op _ 0],[.sl n xs,.i 0]=>aK (cI xs) fun l=>aN (l.length=n∧n≤100000) (some (eX l))
 |_,_=>none
theorem eUo (id n:Nat) (xs:List AV):eLy [.op id 0] [.sl n xs,.i 0]=aK (cI xs) fun l=>aN (l.length=n∧n≤100000) (some (eX l)):=(rfl)
attribute [go_sem] eUo
theorem st7 (a b c d e f g x y z u v w r:AV):dV [a,b,c,d,e,f,g] 0 [x,y,z,u,v,w,r]=[x,y,z,u,v,w,r]:=(rfl)
theorem fEv (a b c d e f g x:AV):[a,b,c,d,e,f,g].set 2 x=[a,b,x,d,e,f,g]:=(rfl)
theorem fEu (a b c d e f g x:AV):[a,b,c,d,e,f,g].set 3 x=[a,b,c,x,e,f,g]:=(rfl)
theorem fEt (a b c d e f g x:AV):[a,b,c,d,e,f,g].set 4 x=[a,b,c,d,x,f,g]:=(rfl)
theorem fEs (a b c d e f g x:AV):[a,b,c,d,e,f,g].set 5 x=[a,b,c,d,e,x,g]:=(rfl)
theorem fEr (a b c d e f g x:AV):[a,b,c,d,e,f,g].set 6 x=[a,b,c,d,e,f,x]:=(rfl)
theorem fEw (a b c d e f g x:AV):[a,b,c,d,e,f,g].set 1 x=[a,x,c,d,e,f,g]:=(rfl)
theorem fCo (a b c d e f g:AV):AV.ids (.agg [a,b,c,d,e,f,g])=max a.ids (max b.ids (max c.ids (max d.ids (max e.ids (max f.ids (max g.ids 0)))))):=(rfl)
attribute [go_sem] st7 fEw fEv fEu fEt fEs fEr
def is7:Option AO→Bool
 |some (.cells [_,_,_,_,_,_,_] true)=>true
 |_=>false
theorem eYx {o:Option AO} (h:is7 o=true): ∃x0 x1 x2 x3 x4 x5 x6,o=some (.cells [x0,x1,x2,x3,x4,x5,x6] true):=by
 unfold is7 at h
 split at h
 ·exact⟨_,_,_,_,_,_,_,rfl⟩
 cases h
theorem fGj (x0 x1 x2 x3 x4 x5 x6:AV):is7 (some (.cells [x0,x1,x2,x3,x4,x5,x6] true))=true:=(rfl)
attribute [go_sem] fGj
theorem eMa (l:List B8):eX l=none∨∃(v1 v2:Nm) (v3 v4 v5 v6 v7:BitVec 32) (p:Nat),eX l=some (.agg [.sl v1.length (cS v1),.sl v2.length (cS v2),.w32 v3,.w32 v4,.w32 v5,.w32 v6,.w32 v7],[.sl l.length (c8 l),.i (p:Int)]):=by
 unfold eX
 rcases nm2 l with _|⟨n,m,p⟩
 ·exact .inl rfl
 simp only[eOb]
 split
 ·exact .inr ⟨_,_,_,_,_,_,_,_,rfl⟩
 exact .inl rfl
set_option maxHeartbeats 8000000 in
theorem eOa:cQ Try.prog GLh 48 (rdH eLy)∧dE Try.prog GLh 48 chM (rdP eLy):=by
 refine dT Try.func48 (aT rfl) ?_
 intro id off rest nx xs o hg
 unfold eLy at hg
 split at hg
 ·rename_i id2 n xs2 heq
  simp only[List.cons.injEq,AV.op.injEq]at heq
  obtain⟨⟨rfl,rfl⟩,rfl⟩:=heq
  replace hg:=aJ hg;obtain⟨l,hl,hg⟩:=hg
  replace hg:=aP hg;obtain⟨⟨rfl,hnb⟩,hg⟩:=hg
  obtain rfl:=J0 hg
  have:=bW hl;subst this
  refine⟨J1 rfl,fun hid=>?_⟩
  clear hl hg
  obtain⟨ans,hans⟩: ∃a,eX l=a:=⟨_,rfl⟩
  rw[hans]
  unfold eX nm2 at hans
  refine aA rfl (aW [0,2] rfl rfl rfl fun K hK=>?_)
  simp(disch:=omega) only[Try.f48,go_sem,↓reduceIte]
  refine hK _ ?_
  refine aB ?_
  rcases h1:nmO l with _|⟨n,s⟩
  ·rw[h1]at hans;subst hans
   refine aA rfl (dCn (Γ:=bC [(46,.heap (rdH gD))]) 1 (rM) eLi (aH eLo aO) rfl rfl rfl (fun Z hZ=>?_))
   simp(disch:=omega) only[Try.f48,go_sem,↓reduceIte,bG,eq_self,true_and,bP,List.map_cons,List.map_nil,List.append_nil,eOx (l:=l) (a:=0) h1,U0,U1]
   refine hZ _ ?_;clear hZ Z
   exact rfl
  have e1:eKh l 0=some (.sl n.length (cS n),[.sl l.length (c8 l),.i (s:Int)]):=by have:=eMp (l:=l) (a:=0) h1;rw[Nat.zero_add]at this;exact this
  have hs:=eOw h1
  rw[h1]at hans
  simp only at hans
  rcases h2:nmO (l.drop s)with _|⟨m,s2⟩
  ·rw[h2]at hans;subst hans
   refine aA rfl (dCn (Γ:=bC [(46,.heap (rdH gD))]) 3 (rM) eLi (aH eLo aO) rfl rfl rfl (fun Z hZ=>?_))
   simp(disch:=omega) only[Try.f48,go_sem,↓reduceIte,bG,eq_self,true_and,bP,List.map_cons,List.map_nil,List.append_nil,e1,U2,eOx h2,U0,U1]
   refine hZ _ ?_;clear hZ Z
   exact rfl
  have e2:=eMp h2
  have hs2:=eOw h2
  rw[List.length_drop]at hs2
  rw[h2]at hans
  simp only at hans
  refine aA rfl (aC (Γ:=bC [(46,.heap (rdH gD))]) [0,2,3] (aH eLo aO) rfl rfl rfl (fun K hK=>?_))
  simp(disch:=omega) only[Try.f48,go_sem,↓reduceIte,e1,U2,e2]
  refine hK _ ?_
  refine aB ?_
  obtain⟨p,hp⟩: ∃p,s+s2=p:=⟨_,rfl⟩
  have hpl:p≤l.length:=by omega
  rw[hp]at hans⊢
  unfold eOb at hans
  by_cases q1:p+4≤l.length
  ·have n1:=eKt q1
   by_cases q2:p+4+4≤l.length
   ·have n2:=eKt q2
    by_cases q3:p+4+4+4≤l.length
    ·have n3:=eKt q3
     refine aA rfl (aC (Γ:=bC [(49,.heap (rdH eN))]) [0,2,3] (aH fL aO) rfl rfl rfl (fun K hK=>?_))
     simp(disch:=omega) only[Try.f48,go_sem,↓reduceIte,U2,n1,n2,n3]
     refine hK _ ?_
     refine aB ?_
     by_cases q4:p+4+4+4+4≤l.length
     ·have n4:=eKt q4
      by_cases q5:p+4+4+4+4+4≤l.length
      ·have n5:=eKt q5
       rw[J4 q5]at hans;subst hans
       refine aA rfl (aC (Γ:=bC [(49,.heap (rdH eN))]) [2,3] (aH fL aO) rfl rfl rfl (fun K hK=>?_))
       simp(disch:=omega) only[Try.f48,go_sem,↓reduceIte,U2,n4,n5]
       refine hK _ ?_
       refine aB ?_
       unfold eUm
       refine aA rfl (aW [2] rfl rfl rfl fun K hK=>?_)
       simp(disch:=omega) only[Try.f48,go_sem,↓reduceIte]
       refine hK _ ?_
       refine aB (aS rfl (⟨by simp(disch:=omega) only[bV,bK,bQ,Try.f48,go_sem,aV,eq_self,↓reduceIte],by simp(disch:=omega) only[aV,bY,↓reduceIte,eq_self],?_,?_⟩))
       ·simp only[fCo,eKy];rfl
       exact eD _ _ _
      rw[J3 (by omega)]at hans;subst hans
      refine aA rfl (dCn (Γ:=bC [(49,.heap (rdH eN))]) 3 (dK) eI (aH fL aO) rfl rfl rfl (fun Z hZ=>?_))
      simp(disch:=omega) only[Try.f48,go_sem,↓reduceIte,bG,eq_self,true_and,bP,List.map_cons,List.map_nil,List.append_nil,U2,n4,eNh q5 (by omega),U0,U1]
      refine hZ _ ?_;clear hZ Z
      exact rfl
     rw[J3 (by omega)]at hans;subst hans
     refine aA rfl (dCn (Γ:=bC [(49,.heap (rdH eN))]) 1 (dK) eI (aH fL aO) rfl rfl rfl (fun Z hZ=>?_))
     simp(disch:=omega) only[Try.f48,go_sem,↓reduceIte,bG,eq_self,true_and,bP,List.map_cons,List.map_nil,List.append_nil,U2,eNh q4 (by omega),U0,U1]
     refine hZ _ ?_;clear hZ Z
     exact rfl
    rw[J3 (by omega)]at hans;subst hans
    refine aA rfl (dCn (Γ:=bC [(49,.heap (rdH eN))]) 5 (dK) eI (aH fL aO) rfl rfl rfl (fun Z hZ=>?_))
    simp(disch:=omega) only[Try.f48,go_sem,↓reduceIte,bG,eq_self,true_and,bP,List.map_cons,List.map_nil,List.append_nil,U2,n1,n2,eNh q3 (by omega),U0,U1]
    refine hZ _ ?_;clear hZ Z
    exact rfl
   rw[J3 (by omega)]at hans;subst hans
   refine aA rfl (dCn (Γ:=bC [(49,.heap (rdH eN))]) 3 (dK) eI (aH fL aO) rfl rfl rfl (fun Z hZ=>?_))
   simp(disch:=omega) only[Try.f48,go_sem,↓reduceIte,bG,eq_self,true_and,bP,List.map_cons,List.map_nil,List.append_nil,U2,n1,eNh q2 (by omega),U0,U1]
   refine hZ _ ?_;clear hZ Z
   exact rfl
  rw[J3 (by omega)]at hans;subst hans
  refine aA rfl (dCn (Γ:=bC [(49,.heap (rdH eN))]) 1 (dK) eI (aH fL aO) rfl rfl rfl (fun Z hZ=>?_))
  simp(disch:=omega) only[Try.f48,go_sem,↓reduceIte,bG,eq_self,true_and,bP,List.map_cons,List.map_nil,List.append_nil,U2,eNh q1 (by omega),U0,U1]
  refine hZ _ ?_;clear hZ Z
  exact rfl
 cases hg
theorem eUn:dE Try.prog GLh 48 chM (rdP eLy):=eOa.2
theorem fDx:cJ Try.prog 48:=⟨_,Try.func48,rfl,rfl⟩
theorem fFm:bX Try.prog GLh 48 (.heap (rdH eLy)):=⟨⟨_,Try.func48,rfl,rfl⟩,eOa.1⟩
theorem fCu (vals:Array Value) (w:World) (hs:vals.size=2):CallsD Try.prog 72 vals .returning w fun e u1 w'=>e=.returned (.tuple #[])∧u1=.returning∧w'=w:=by
 obtain⟨l⟩:=vals
 match l,hs with
 |[a,b],_=>
  refine callsD_of_wpS Try.func72 rfl fun c₀ cs hu=>?_
  apply wpS_seq
  apply wpS_region
  simp[wpOpsS,go_sem,recoverD,hu,Try.ntmps72,Exit.thenS]
  apply wpS_seq
  apply wpS_region
  simp[wpOpsS,go_sem,Exit.thenS]
  refine wpS_cond (t:=false) (by simp[Act.eval,Array.replicate]) ?_
  simp only[Bool.false_eq_true,if_false]
  refine wpS_of_wp (wp_skip ?_)
  cases c₀
  simp_all [bodyPostS,results,Try.results72]
theorem fHc:bSj Try.prog GLh 72 .returning .returning (fD 2):=dPj fCu
theorem fDr:cJ Try.prog 72:=⟨_,Try.func72,rfl,rfl⟩
def fAp:List AV→H→Nat→Option (H×Nat)
 |[.op i1 0,.op i2 0],hp,nx=>aN ((is7 (hp i1)=true∧eS (hp i2)=true)∧i1≠i2∧i1<nx∧i2<nx) (some (upd (upd hp i1 (.cells [.v (.slice none 0 0),.v (.slice none 0 0),.w32 0#32,.w32 0#32,.w32 0#32,.w32 0#32,.w32 0#32] true)) i2 (.cells [.i 50] true),nx+30))
 |_,_,_=>none
theorem fAo (i1 i2 nx:Nat) (hp:H):fAp [.op i1 0,.op i2 0] hp nx=aN ((is7 (hp i1)=true∧eS (hp i2)=true)∧i1≠i2∧i1<nx∧i2<nx) (some (upd (upd hp i1 (.cells [.v (.slice none 0 0),.v (.slice none 0 0),.w32 0#32,.w32 0#32,.w32 0#32,.w32 0#32,.w32 0#32] true)) i2 (.cells [.i 50] true),nx+30)):=(rfl)
attribute [go_sem] fAo
set_option maxHeartbeats 4000000 in
theorem fAn:bSj Try.prog GLh 72 (.panicking chM) (.panicking [{v:=.iface 117 (.agg #[]),recovered:=true}]) fAp:=by
 refine fZ (rest:=(cr (aE Try.f72))) (rv:=.iface 117 (.agg #[])) (a:=6) (b:=2) Try.func72 rfl (.inl rfl) ⟨J1 rfl,J1 rfl⟩ ?_
 intro args hp nx hp' nx' hg
 unfold fAp at hg
 split at hg
 ·rename_i i1 i2
  replace hg:=aP hg;obtain⟨⟨⟨o1,o2⟩,n12,l1,l2⟩,hg⟩:=hg
  simp only[Option.some.injEq,Prod.mk.injEq]at hg;obtain⟨rfl,rfl⟩:=hg
  obtain⟨x0,x1,x2,x3,x4,x5,x6,h1⟩:=eYx o1
  obtain⟨y,h2⟩:=eG o2
  refine⟨J1 rfl,Nat.le_add_right _ _,fun hno=>?_⟩
  simp only[aOo]
  refine aA rfl (aW [8,0,1,2] rfl rfl rfl fun K hK=>?_)
  simp(disch:=omega) only[Try.f72,go_sem,↓reduceIte]
  refine hK _ ?_
  refine aB (eC (.tmp 8) rfl rfl rfl (fun h=>?_) (fun h=>?_))
  ·refine aI rfl (aA rfl (aA rfl (aW [0,1,2,4] rfl rfl rfl fun K hK=>?_)))
   simp(disch:=omega) only[Try.f72,go_sem,↓reduceIte]
   refine hK _ ?_
   refine aB (aA rfl (aW [15,0,1,2] rfl rfl rfl fun K hK=>?_))
   simp(disch:=omega) only[Try.f72,go_sem,↓reduceIte]
   refine hK _ ?_
   refine aB (eC (.tmp 15) rfl rfl rfl (fun h=>?_) (fun h=>?_))
   ·refine aI rfl ?_
    cases h
   refine aI rfl ?_
   clear h
   refine aQ rfl (aB (aA rfl (aW [0,1,5] rfl rfl rfl fun K hK=>?_)))
   simp(disch:=omega) only[Try.f72,go_sem,↓reduceIte]
   refine hK _ ?_
   refine aB (aW [] rfl rfl rfl fun K hK=>?_)
   simp(disch:=omega) only[Try.f72,go_sem,↓reduceIte,h1,h2]
   refine hK _ ?_
   exact⟨rfl,eKv hno (by omega) (by omega),by simp only;omega⟩
  refine aI rfl ?_
  cases h
 cases hg
def eMy:List AV→Option AV
 |[.sl n xs,.fn 48 []]=>aK (cI xs) fun l=>aN (l.length=n∧n≤100000) (some (rdT (.agg [.sl 0 [],.sl 0 [],.w32 0#32,.w32 0#32,.w32 0#32,.w32 0#32,.w32 0#32]) l.length (eX l)))
 |_=>none
theorem eSn (n:Nat) (xs:List AV):eMy [.sl n xs,.fn 48 []]=aK (cI xs) fun l=>aN (l.length=n∧n≤100000) (some (rdT (.agg [.sl 0 [],.sl 0 [],.w32 0#32,.w32 0#32,.w32 0#32,.w32 0#32,.w32 0#32]) l.length (eX l))):=(rfl)
attribute [go_sem] eSn
set_option maxHeartbeats 4000000 in
theorem eUz:cL Try.prog GLh 47 eMy:=by
 refine cUy (r0:=(cl (aE Try.f47))) (C:=(cr (cr (aE Try.f47)))) (k:=7) (d:=72) (caps:= #[.tmp 4,.tmp 5]) Try.func47 rfl (J1 rfl) fDr fHc fAn rfl ?_
 intro args r hg
 unfold eMy at hg
 split at hg
 ·rename_i n xs
  replace hg:=aJ hg;obtain⟨l,hl,hg⟩:=hg
  replace hg:=aP hg;obtain⟨⟨rfl,hnb⟩,hg⟩:=hg
  obtain rfl:=J0 hg
  have:=bW hl;subst this
  refine⟨J1 rfl,fun nx=>⟨[.op nx 0,.op (nx+1) 0],?_⟩⟩
  clear hl hg
  have hcs:=eMa l
  refine aW [0,1,4,5] rfl rfl rfl fun K hK=>?_
  simp(disch:=omega) only[Try.f47,go_sem,↓reduceIte]
  refine hK _ ?_
  refine⟨rfl,?_⟩
  simp only[dBa]
  refine aA rfl (aW [0,1,4,5,6] rfl rfl rfl fun K hK=>?_)
  simp(disch:=omega) only[Try.f47,go_sem,↓reduceIte]
  refine hK _ ?_
  refine aB ?_
  rcases hcs with e2|⟨v1,v2,v3,v4,v5,v6,v7,p,e2⟩
  ·refine aA rfl (dCn (Γ:=aL) 2 (eUn) fDx (aD _ _) rfl rfl rfl (fun Z hZ=>?_))
   simp(disch:=omega) only[Try.f47,go_sem,↓reduceIte,bG,eq_self,true_and,bP,List.map_cons,List.map_nil,List.append_nil,e2,U0,U1]
   refine hZ _ ?_;clear hZ Z
   refine hX (gI:=fD 2) (p:=_) (by simp(disch:=omega) only[go_sem,aV,kE,bY,↓reduceIte];rfl) ?_
   rw[e2,eOd]
   simp(disch:=omega) only[bV,bK,bQ,Try.f47,go_sem,aV,bY,↓reduceIte]
  refine aA rfl (aC (Γ:=bC [(48,.heap (rdH eLy))]) [0,4,5,6] (aH fFm aO) rfl rfl rfl (fun K hK=>?_))
  simp(disch:=omega) only[Try.f47,go_sem,↓reduceIte,e2]
  refine hK _ ?_
  refine aB ?_
  by_cases hp:(p:Int)=(l.length:Int)
  ·have hd:decide ((p:Int)=(l.length:Int))=true:=J5 hp
   refine aA rfl (aC (Γ:=bC [(60,.pure true eM)]) [4,5] (aH rP aO) rfl rfl rfl (fun K hK=>?_))
   simp(disch:=omega) only[Try.f47,go_sem,↓reduceIte,hd]
   refine hK _ ?_
   refine aB (aA rfl (aW [4,5] rfl rfl rfl fun K hK=>?_))
   simp(disch:=omega) only[Try.f47,go_sem,↓reduceIte]
   refine hK _ ?_
   refine aB (aS rfl (rO (gP:=fAp) (ch:=chM) (p:=_) (eKm _ _ _ _) ?_))
   rw[e2,fO _ _ _ hp]
   simp(disch:=omega) only[bV,bK,bQ,Try.f47,go_sem,aV,bY,↓reduceIte]
  have hd:decide ((p:Int)=(l.length:Int))=false:=J6 hp
  refine aA rfl (dCn (Γ:=bC [(60,.pure true eM)]) 7 (fC) rD (aH rP aO) rfl rfl rfl (fun Z hZ=>?_))
  simp(disch:=omega) only[Try.f47,go_sem,↓reduceIte,bG,eq_self,true_and,bP,List.map_cons,List.map_nil,List.append_nil,hd,U0,U1]
  refine hZ _ ?_;clear hZ Z
  refine hX (gI:=fD 2) (p:=_) (by simp(disch:=omega) only[go_sem,aV,bY,↓reduceIte];rfl) ?_
  rw[e2,iD _ _ _ hp]
  simp(disch:=omega) only[bV,bK,bQ,Try.f47,go_sem,aV,bY,↓reduceIte]
 cases hg
theorem ok47:bX Try.prog GLh 47 (.pure false eMy):=⟨⟨_,Try.func47,rfl,rfl⟩,eUz⟩
end Go.AX

namespace Go.AX
open Go Go.Proofs
set_option maxRecDepth 20000
theorem fGn (hp:H) (f:FuncId) (l:List AV):dW hp (.fn f l)=some (.fn f l,hp):=(rfl)
attribute [go_sem] fGn
def rdE (len:Nat):Option (AV×List AV)→Int
 |some (_,[_,.i p])=>if p=(len:Int)then 0 else 50
 |_=>50
theorem eNd {p:Int} {len:Nat} (v s:AV) (h:p=(len:Int)):rdE len (some (v,[s,.i p]))=0:=J4 h
theorem eLn {p:Int} {len:Nat} (v s:AV) (h: ¬p=(len:Int)):rdE len (some (v,[s,.i p]))=50:=J3 h
theorem eYh (t:BitVec 16) (l:List B8):rdT (.i 0) l.length (eKo l (shp t l))=.tup [.i 0,.i (rdE l.length (eKo l (shp t l)))]:=by
 rcases eMe t l with e|⟨p,e⟩
 ·rw[e];rfl
 rw[e]
 by_cases hp:(p:Int)=(l.length:Int)
 ·rw[fO _ _ _ hp,eNd _ _ hp]
 rw[iD _ _ _ hp,eLn _ _ hp]
theorem eYg (t:BitVec 16) (l:List B8): ∃v:Nm,rdT (.sl 0 []) l.length (eKp t l)=.tup [.sl v.length (cS v),.i (rdE l.length (eKp t l))]:=by
 rcases eMc t l with e|⟨v,p,e⟩
 ·exact⟨[],by rw[e];rfl⟩
 rw[e]
 by_cases hp:(p:Int)=(l.length:Int)
 ·exact⟨v,by rw[fO _ _ _ hp,eNd _ _ hp]⟩
 exact⟨[],by rw[iD _ _ _ hp,eLn _ _ hp];rfl⟩
theorem eRk (l:List B8): ∃(v1:BitVec 16) (v2 v3:B8) (v4:List B8),rdT (.agg [.w16 0#16,.w8 0#8,.w8 0#8,.sl 0 []]) l.length (gE l)=.tup [.agg [.w16 v1,.w8 v2,.w8 v3,.sl v4.length (c8 v4)],.i (rdE l.length (gE l))]:=by
 rcases eMd l with e|⟨v1,v2,v3,v4,p,e⟩
 ·exact⟨0,0,0,[],by rw[e];rfl⟩
 rw[e]
 by_cases hp:(p:Int)=(l.length:Int)
 ·exact⟨v1,v2,v3,v4,by rw[fO _ _ _ hp,eNd _ _ hp]⟩
 exact⟨0,0,0,[],by rw[iD _ _ _ hp,eLn _ _ hp];rfl⟩
theorem eRi (l:List B8): ∃(v1 v2:Nm) (v3 v4 v5 v6 v7:BitVec 32),rdT (.agg [.sl 0 [],.sl 0 [],.w32 0#32,.w32 0#32,.w32 0#32,.w32 0#32,.w32 0#32]) l.length (eX l)=.tup [.agg [.sl v1.length (cS v1),.sl v2.length (cS v2),.w32 v3,.w32 v4,.w32 v5,.w32 v6,.w32 v7],.i (rdE l.length (eX l))]:=by
 rcases eMa l with e|⟨v1,v2,v3,v4,v5,v6,v7,p,e⟩
 ·exact⟨[],[],0,0,0,0,0,by rw[e];rfl⟩
 rw[e]
 by_cases hp:(p:Int)=(l.length:Int)
 ·exact⟨v1,v2,v3,v4,v5,v6,v7,by rw[fO _ _ _ hp,eNd _ _ hp]⟩
 exact⟨[],[],0,0,0,0,0,by rw[iD _ _ _ hp,eLn _ _ hp];rfl⟩
def eWc (l:List B8):AV:=rdT (.agg [.w16 0#16,.w8 0#8,.w8 0#8,.sl 0 []]) l.length (gE l)
def ePm (l:List B8):AV:=rdT (.agg [.sl 0 [],.sl 0 [],.w32 0#32,.w32 0#32,.w32 0#32,.w32 0#32,.w32 0#32]) l.length (eX l)
def dJl:List AV→Option AV
 |[.sl n xs]=>aK (cI xs) fun l=>aN (l.length=n∧n≤100000) (some (eWc l))
 |_=>none
theorem dMd (n:Nat) (xs:List AV):dJl [.sl n xs]=aK (cI xs) fun l=>aN (l.length=n∧n≤100000) (some (eWc l)):=(rfl)
def eQo:List AV→Option AV
 |[.sl n xs]=>aK (cI xs) fun l=>aN (l.length=n∧n≤100000) (some (ePm l))
 |_=>none
theorem eYa (n:Nat) (xs:List AV):eQo [.sl n xs]=aK (cI xs) fun l=>aN (l.length=n∧n≤100000) (some (ePm l)):=(rfl)
attribute [go_sem] dMd eYa
set_option maxHeartbeats 4000000 in
theorem dOn:cL Try.prog GLh 31 dJl:=by
 refine cC Try.func31 (aT rfl) ?_
 intro args r hg
 unfold dJl at hg
 split at hg
 ·rename_i n xs
  replace hg:=aJ hg;obtain⟨l,hl,hg⟩:=hg
  replace hg:=aP hg;obtain⟨⟨rfl,hn⟩,hg⟩:=hg
  obtain rfl:=J0 hg
  have:=bW hl;subst this
  refine⟨J1 rfl,fun nx=>?_⟩
  clear hl hg
  obtain⟨v1,v2,v3,v4,hv⟩:=eRk l
  unfold eWc
  obtain⟨e,he⟩: ∃e,rdE l.length (gE l)=e:=⟨_,rfl⟩
  rw[he]at hv
  rw[hv]
  refine aA rfl (aW [0,2] rfl rfl rfl fun K hK=>?_)
  simp(disch:=omega) only[Try.f31,go_sem,↓reduceIte]
  refine hK _ ?_
  refine aB (aA rfl (aC (Γ:=bC [(65,.pure false eNa),(66,.heap (rdH eMh))]) [2,3] (aH cWl (aH bVz aO)) rfl rfl rfl (fun K hK=>?_)))
  simp(disch:=omega) only[Try.f31,go_sem,↓reduceIte,hv]
  refine hK _ ?_
  refine aB (aS rfl ?_)
  simp(disch:=omega) only[cN,bV,bK,bQ,Try.f31,go_sem,↓reduceIte]
 cases hg
theorem fFp:bX Try.prog GLh 31 (.pure false dJl):=⟨⟨_,Try.func31,rfl,rfl⟩,dOn⟩
set_option maxHeartbeats 4000000 in
theorem fBq:cL Try.prog GLh 18 eQo:=by
 refine cC Try.func18 (aT rfl) ?_
 intro args r hg
 unfold eQo at hg
 split at hg
 ·rename_i n xs
  replace hg:=aJ hg;obtain⟨l,hl,hg⟩:=hg
  replace hg:=aP hg;obtain⟨⟨rfl,hn⟩,hg⟩:=hg
  obtain rfl:=J0 hg
  have:=bW hl;subst this
  refine⟨J1 rfl,fun nx=>?_⟩
  clear hl hg
  obtain⟨v1,v2,v3,v4,v5,v6,v7,hv⟩:=eRi l
  unfold ePm
  obtain⟨e,he⟩: ∃e,rdE l.length (eX l)=e:=⟨_,rfl⟩
  rw[he]at hv
  rw[hv]
  refine aA rfl (aW [0,2] rfl rfl rfl fun K hK=>?_)
  simp(disch:=omega) only[Try.f18,go_sem,↓reduceIte]
  refine hK _ ?_
  refine aB (aA rfl (aC (Γ:=bC [(47,.pure false eMy),(48,.heap (rdH eLy))]) [2,3] (aH ok47 (aH fFm aO)) rfl rfl rfl (fun K hK=>?_)))
  simp(disch:=omega) only[Try.f18,go_sem,↓reduceIte,hv]
  refine hK _ ?_
  refine aB (aS rfl ?_)
  simp(disch:=omega) only[cN,bV,bK,bQ,Try.f18,go_sem,↓reduceIte]
 cases hg
theorem eBs:bX Try.prog GLh 18 (.pure false eQo):=⟨⟨_,Try.func18,rfl,rfl⟩,fBq⟩
theorem eZb (v:Nm) (e:Int):AV.ids (.tup [.sl v.length (cS v),.i e])=0:=by rw[fCk,eKy];rfl
theorem eZc (a e:Int):AV.ids (.tup [.i a,.i e])=0:=(rfl)
attribute [go_sem] eZb eZc
def tgT (t:BitVec 16):Prop:=t=2#16∨t=5#16∨t=15#16
instance (t:BitVec 16):Decidable (tgT t):=by unfold tgT;infer_instance
def eMt (t:BitVec 16) (l:List B8):AV:=if tgT t then rdT (.sl 0 []) l.length (eKp t l)else .tup [.sl 0 [],.i 50]
def tgG:List AV→Option AV
 |[.w16 t,.sl n xs]=>aK (cI xs) fun l=>aN (l.length=n∧n≤100000) (some (eMt t l))
 |_=>none
theorem fBn (t:BitVec 16) (n:Nat) (xs:List AV):tgG [.w16 t,.sl n xs]=aK (cI xs) fun l=>aN (l.length=n∧n≤100000) (some (eMt t l)):=(rfl)
attribute [go_sem] fBn
set_option maxHeartbeats 4000000 in
theorem fEi:cL Try.prog GLh 17 tgG:=by
 refine cC Try.func17 (aT rfl) ?_
 intro args r hg
 unfold tgG at hg
 split at hg
 ·rename_i t n xs
  replace hg:=aJ hg;obtain⟨l,hl,hg⟩:=hg
  replace hg:=aP hg;obtain⟨⟨rfl,hn⟩,hg⟩:=hg
  obtain rfl:=J0 hg
  have:=bW hl;subst this
  refine⟨J1 rfl,fun nx=>?_⟩
  clear hl hg
  obtain⟨v,hv⟩:=eYg t l
  obtain⟨e,he⟩: ∃e,rdE l.length (eKp t l)=e:=⟨_,rfl⟩
  rw[he]at hv
  unfold eMt
  refine aA rfl (aW [1,2] rfl rfl rfl fun K hK=>?_)
  simp(disch:=omega) only[Try.f17,go_sem,↓reduceIte]
  refine hK _ ?_
  refine aB (aA rfl (aA rfl (aW [1,2,6] rfl rfl rfl fun K hK=>?_)))
  simp(disch:=omega) only[Try.f17,go_sem,↓reduceIte]
  refine hK _ ?_
  refine aB (aR 0 rfl rfl (aA rfl (aA rfl (aW [1,2,6,7] rfl rfl rfl fun K hK=>?_))))
  simp(disch:=omega) only[Try.f17,go_sem,↓reduceIte]
  refine hK _ ?_
  refine aB (bA (.tmp 7) rfl rfl rfl (fun h=>?_) (fun h=>?_))
  ·have h2:=h
   rw[J4 (.inl h),hv]
   refine aQ rfl (aB (bA (.tmp 7) rfl rfl rfl (fun h=>?_) (fun h=>?_)))
   ·refine aA rfl (aC (Γ:=bC [(44,.heap (rdH eNu)),(43,.heap (bOt 44 eLd))]) [4,5] (aH eYs (aH fCf aO)) rfl rfl rfl (fun K hK=>?_))
    simp(disch:=omega) only[Try.f17,go_sem,↓reduceIte,hv]
    refine hK _ ?_
    refine aB (aS rfl (bN (bI ?_)))
    simp(disch:=omega) only[cN,bV,bK,bQ,Try.f17,go_sem,↓reduceIte]
   exact absurd h2 h
  have h2:=h
  refine aA rfl (aW [1,2,6,7] rfl rfl rfl fun K hK=>?_)
  simp(disch:=omega) only[Try.f17,go_sem,↓reduceIte]
  refine hK _ ?_
  refine aB (bA (.tmp 7) rfl rfl rfl (fun h=>?_) (fun h=>?_))
  ·have h5:=h
   rw[J4 (.inr (.inl h)),hv]
   refine aQ rfl (aB (bA (.tmp 7) rfl rfl rfl (fun h=>?_) (fun h=>?_)))
   ·refine aA rfl (aC (Γ:=bC [(44,.heap (rdH eNu)),(43,.heap (bOt 44 eLd))]) [4,5] (aH eYs (aH fCf aO)) rfl rfl rfl (fun K hK=>?_))
    simp(disch:=omega) only[Try.f17,go_sem,↓reduceIte,hv]
    refine hK _ ?_
    refine aB (aS rfl (bN (bI ?_)))
    simp(disch:=omega) only[cN,bV,bK,bQ,Try.f17,go_sem,↓reduceIte]
   exact absurd h5 h
  have h5:=h
  refine aW [7,1,2] rfl rfl rfl fun K hK=>?_
  simp(disch:=omega) only[Try.f17,go_sem,↓reduceIte]
  refine hK _ ?_
  refine aB (bA (.tmp 7) rfl rfl rfl (fun h=>?_) (fun h=>?_))
  ·refine aI rfl ?_
   rw[J4 (.inr (.inr h)),hv]
   refine aA rfl (aC (Γ:=bC [(44,.heap (rdH eNu)),(43,.heap (bOt 44 eLd))]) [4,5] (aH eYs (aH fCf aO)) rfl rfl rfl (fun K hK=>?_))
   simp(disch:=omega) only[Try.f17,go_sem,↓reduceIte,hv]
   refine hK _ ?_
   refine aB (aS rfl (bN (bI ?_)))
   simp(disch:=omega) only[cN,bV,bK,bQ,Try.f17,go_sem,↓reduceIte]
  refine aI rfl ?_
  rw[J3 (fun q=>q.elim h2 fun q=>q.elim h5 h)]
  refine aQ rfl (bU (aB (aA rfl (aW [4,5] rfl rfl rfl fun K hK=>?_))))
  simp(disch:=omega) only[Try.f17,go_sem,↓reduceIte]
  refine hK _ ?_
  refine aB (aS rfl ?_)
  simp(disch:=omega) only[cN,bV,bK,bQ,Try.f17,go_sem,↓reduceIte]
 cases hg
theorem eSw:bX Try.prog GLh 17 (.pure false tgG):=⟨⟨_,Try.func17,rfl,rfl⟩,fEi⟩
end Go.AX

namespace Go.AX
open Go Go.Proofs
def eZs (t:BitVec 16) (l:List B8):Int:=if 8192<l.length then 50 else if t=6#16 then rdE l.length (eX l)else if t=48#16 then rdE l.length (gE l)else rdE l.length (eKo l (shp t l))
end Go.AX

namespace Go.AX
open Go Go.Proofs
def ePy (l:List B8):List B8:=BitVec.ofInt 8 (l.length:Int)::l
def eF (ps:List (List B8)):List B8:=ps.flatMap ePy
def cM (ps:List (List B8)):List B8:=eF ps++[0#8]
theorem eNx (p:List B8) (ps:List (List B8)):eF (p::ps)=ePy p++eF ps:=by simp[eF]
theorem gX (p:List B8) (ps:List (List B8)):(eF (p::ps)).length=p.length+1+(eF ps).length:=by rw[eNx];simp[ePy];omega
theorem eNw (ps:List (List B8)) (k:Nat) (h:k<ps.length):eF (ps.take (k+1))=eF (ps.take k)++ePy (ps.getD k []):=by
 have e:ps.take (k+1)=ps.take k++[ps.getD k []]:=by rw[List.take_succ_eq_append_getElem h];simp[List.getD,List.getElem?_eq_getElem h,-List.take_append_getElem]
 rw[e];unfold eF;rw[List.flatMap_append];simp only[List.flatMap_cons,List.flatMap_nil,List.append_nil]
theorem eOo (ps:List (List B8)):ps.length≤(eF ps).length:=by
 induction ps with
 |nil=>simp
 |cons p ps ih=>rw[gX,List.length_cons];omega
theorem eMr (ps:List (List B8)) (k:Nat):(ps.getD k []).length≤(eF ps).length:=by
 induction ps generalizing k with
 |nil=>simp
 |cons p ps ih=>
  rw[gX]
  cases k with
  |zero=>simp;omega
  |succ k=>have:=ih k;simp at this⊢;omega
theorem eRd (ps:List (List B8)) (k:Nat):(eF (ps.take k)).length≤(eF ps).length:=by
 induction ps generalizing k with
 |nil=>simp
 |cons p ps ih=>
  cases k with
  |zero=>simp[eF]
  |succ k=>rw[U0,gX,gX];have:=ih k;omega
def rG:List AV→Option (Nat×Nat×List AV)
 |[.sl n xs]=>aK (unS xs) fun ps=>aN (ps.length=n∧(eF ps).length≤1000000) (some ((cM ps).length,1,c8 (cM ps)))
 |_=>none
theorem eTt (n:Nat) (xs:List AV):rG [.sl n xs]=aK (unS xs) fun ps=>aN (ps.length=n∧(eF ps).length≤1000000) (some ((cM ps).length,1,c8 (cM ps))):=(rfl)
attribute [go_sem] eTt
set_option maxHeartbeats 1000000 in
theorem eXn:dH Try.prog GLh 38 rG:=by
 refine cT Try.func38 (aT rfl) ?_
 intro args r hg
 unfold rG at hg
 split at hg
 ·rename_i n xs
  replace hg:=aJ hg;obtain⟨ps,hb,hg⟩:=hg
  replace hg:=aP hg;obtain⟨⟨hn,hbig⟩,hg⟩:=hg
  obtain rfl:=J0 hg
  have:=gT hb;subst this
  subst hn
  clear hg hb
  refine⟨J1 rfl,fun nx=>?_⟩
  have hpn:=eOo ps
  refine aA rfl (aW [0] rfl rfl rfl fun K hK=>?_)
  simp(disch:=omega) only[Try.f38,go_sem,↓reduceIte]
  refine hK _ ?_
  refine aB (aA rfl (aW [0,3] rfl rfl rfl fun K hK=>?_))
  simp(disch:=omega) only[Try.f38,go_sem,↓reduceIte]
  refine hK _ ?_
  refine aB (aA rfl (aA rfl (aW [3,6,7,8] rfl rfl rfl fun K hK=>?_)))
  simp(disch:=omega) only[Try.f38,go_sem,↓reduceIte]
  refine hK _ ?_
  refine aB (iE 3 1 rfl (fF [3,6,7,8] ?_))
  simp only[iB,fU,eW,↓reduceIte,Nat.reduceEqDiff]
  refine aR 0 rfl rfl ?_
  refine bR (fun p:KIC=> {fr:=[(3,.os p.id 0 (eF (ps.take p.k)).length 1 true),(6,.sl ps.length (cS ps)),(7,.i ps.length),(8,.i p.k)],hp:=upd (fun _=>none) p.id (.cells (c8 (eF (ps.take p.k))) true),nx:=0,cx:=p.c}) (fun p=>p.k≤ps.length∧p.id<p.c) (fun p=>ps.length-p.k) rfl ⟨⟨0,_,_⟩,⟨Nat.zero_le _,by simp only;omega⟩,bD rfl rfl (U3 _)⟩ ?_
  rintro⟨k,id,c⟩ ⟨hk,hid⟩ n0
  simp only at hk hid⊢
  refine aA rfl (aW [9,3,6,7,8] rfl rfl rfl fun K hK=>?_)
  simp(disch:=omega) only[Try.f38,go_sem,↓reduceIte]
  refine hK _ ?_
  refine aB (aA rfl (bA (.tmp 9) rfl rfl rfl (fun h=>?_) (fun h=>?_)))
  ·refine aI rfl ?_
   have hkl:k<ps.length:=by omega
   have ht:=eRd ps k
   have hm:=eMr ps k
   refine aQ rfl (aB (aA rfl (aR 1 rfl rfl (aA rfl (aW [3,5,6,7,8] rfl rfl rfl fun K hK=>?_)))))
   simp(disch:=omega) only[Try.f38,go_sem,↓reduceIte]
   refine hK _ ?_
   refine aB ?_
   generalize hl:ps.getD k []=l at hm
   refine aW [3,6,7,8] rfl rfl rfl fun K hK=>?_
   simp(disch:=omega) only[Try.f38,go_sem,↓reduceIte]
   refine hK _ ?_
   refine bU (aB ?_)
   have e6:eF (ps.take (k+1))=eF (ps.take k)++[BitVec.ofInt 8 (l.length:Int)]++l:=by rw[eNw ps k hkl,hl];simp[ePy]
   have e7:(eF (ps.take (k+1))).length=(eF (ps.take k)).length+1+l.length:=by rw[e6];simp;omega
   refine aW [3,6,7,8] rfl rfl rfl fun K hK=>?_
   simp(disch:=omega) only[Try.f38,go_sem,↓reduceIte]
   refine hK _ ?_
   refine bT ?_
   refine⟨⟨k+1,c+1+3+7,_⟩,⟨by simp only;omega,by simp only;omega⟩,by simp only;omega,⟨fun _=> .inr ?_,fun j o h=>?_,U3 _⟩⟩
   ·simp only[e7,Int.natCast_add,Int.natCast_one]
   simp only at h
   exact bS (by simp(disch:=omega) only[aV,↓reduceIte,eq_self,e6]) (cB) j o h
  refine aI rfl (bF 0 rfl rfl (aY (aZ (bE (aB (aA rfl ?_))))))
  obtain rfl:k=ps.length:=by omega
  have e8:ps.take ps.length=ps:=List.take_length
  have e9:(cM ps).length=(eF ps).length+1:=by simp[cM]
  have ew:eF ps++[0#8]=cM ps:=rfl
  refine aW [2] rfl rfl rfl fun K hK=>?_
  simp(disch:=omega) only[Try.f38,go_sem,↓reduceIte,e8,ew]
  refine hK _ ?_
  refine aB (aS rfl ?_)
  simp(disch:=omega) only[fE,eO,bV,bK,bQ,Try.f38,go_sem,↓reduceIte,fQ,e9]
 cases hg
theorem eVk:bX Try.prog GLh 38 (.fresh true rG):=⟨⟨_,Try.func38,rfl,rfl⟩,eXn⟩
set_option maxHeartbeats 1000000 in
theorem eUv:dH Try.prog GLh 15 rG:=by
 refine cT Try.func15 (aT rfl) ?_
 intro args r hg
 unfold rG at hg
 split at hg
 ·rename_i n xs
  replace hg:=aJ hg;obtain⟨ps,hb,hg⟩:=hg
  replace hg:=aP hg;obtain⟨⟨hn,hbig⟩,hg⟩:=hg
  obtain rfl:=J0 hg
  have:=gT hb;subst this
  subst hn
  clear hg hb
  refine⟨J1 rfl,fun nx=>?_⟩
  have hpn:=eOo ps
  refine aA rfl (aW [0] rfl rfl rfl fun K hK=>?_)
  simp(disch:=omega) only[Try.f15,go_sem,↓reduceIte]
  refine hK _ ?_
  refine aB (aA rfl (aW [0,3] rfl rfl rfl fun K hK=>?_))
  simp(disch:=omega) only[Try.f15,go_sem,↓reduceIte]
  refine hK _ ?_
  refine aB (aA rfl (aA rfl (aW [0,3,4] rfl rfl rfl fun K hK=>?_)))
  simp(disch:=omega) only[Try.f15,go_sem,↓reduceIte]
  refine hK _ ?_
  refine aB (iE 3 1 rfl (fF [0,3,4] ?_))
  simp only[iB,fU,eW,↓reduceIte,Nat.reduceEqDiff]
  refine aR 0 rfl rfl ?_
  refine bR (fun p:KIC=> {fr:=[(0,.sl ps.length (cS ps)),(3,.os p.id 0 (eF (ps.take p.k)).length 1 true),(4,.i p.k)],hp:=upd (fun _=>none) p.id (.cells (c8 (eF (ps.take p.k))) true),nx:=0,cx:=p.c}) (fun p=>p.k≤ps.length∧p.id<p.c) (fun p=>ps.length-p.k) rfl ⟨⟨0,_,_⟩,⟨Nat.zero_le _,by simp only;omega⟩,bD rfl rfl (U3 _)⟩ ?_
  rintro⟨k,id,c⟩ ⟨hk,hid⟩ n0
  simp only at hk hid⊢
  refine aA rfl (aA rfl (aW [8,0,3,4] rfl rfl rfl fun K hK=>?_))
  simp(disch:=omega) only[Try.f15,go_sem,↓reduceIte]
  refine hK _ ?_
  refine aB (bA (.tmp 8) rfl rfl rfl (fun h=>?_) (fun h=>?_))
  ·refine aI rfl ?_
   have hkl:k<ps.length:=by omega
   have ht:=eRd ps k
   have hm:=eMr ps k
   obtain⟨l,hl⟩: ∃l,ps.getD k []=l:=⟨_,rfl⟩
   rw[hl]at hm
   have e6:eF (ps.take (k+1))=eF (ps.take k)++[BitVec.ofInt 8 (l.length:Int)]++l:=by rw[eNw ps k hkl,hl];simp[ePy]
   have e7:(eF (ps.take (k+1))).length=(eF (ps.take k)).length+1+l.length:=by rw[e6];simp;omega
   refine aQ rfl (aB (aA rfl (aR 1 rfl rfl (bB (Γ:=aL) (fun k=>if k=4 then 1 else if k=12 then 1 else if k=6 then 1 else 0) [0,3,4] bZ (aD _ _) rfl rfl rfl (by kernel_rfl) (fun K hK=>?_)))))
   simp(disch:=omega) only[Try.f15,go_sem,↓reduceIte,hl]
   refine hK _ ?_
   refine bU (aB (aW [0,3,4] rfl rfl rfl fun K hK=>?_))
   simp(disch:=omega) only[Try.f15,go_sem,↓reduceIte]
   refine hK _ ?_
   refine bT ?_
   refine⟨⟨k+1,c+4+13,_⟩,⟨by simp only;omega,by simp only;omega⟩,by simp only;omega,⟨fun _=> .inr ?_,fun j o h=>?_,U3 _⟩⟩
   ·simp only[e7,Int.natCast_add,Int.natCast_one]
   simp only at h
   exact bS (by simp(disch:=omega) only[aV,↓reduceIte,eq_self,e6]) (cB) j o h
  refine aI rfl (bF 0 rfl rfl (aY (aZ (bE (aB (aA rfl ?_))))))
  obtain rfl:k=ps.length:=by omega
  have e8:ps.take ps.length=ps:=List.take_length
  have e9:(cM ps).length=(eF ps).length+1:=by simp[cM]
  have ew:eF ps++[0#8]=cM ps:=rfl
  refine aW [2] rfl rfl rfl fun K hK=>?_
  simp(disch:=omega) only[Try.f15,go_sem,↓reduceIte,e8,ew]
  refine hK _ ?_
  refine aB (aS rfl ?_)
  simp(disch:=omega) only[fE,eO,bV,bK,bQ,Try.f15,go_sem,↓reduceIte,fQ,e9]
 cases hg
theorem eAy:bX Try.prog GLh 15 (.fresh true rG):=⟨⟨_,Try.func15,rfl,rfl⟩,eUv⟩
def hG (c:B8):B8:=if 65#8≤c∧c≤90#8 then c+32#8 else c
def eLe (l:List B8) (k:Nat):List B8:=(l.take k).map hG++l.drop k
theorem eNj (l:List B8) (k:Nat):(eLe l k).length=l.length:=by simp[eLe];omega
theorem ePw (l:List B8) (k:Nat) (h:k<l.length):(eLe l k).getD k 0#8=l.getD k 0#8:=by
 unfold eLe
 rw[List.getD_eq_getElem?_getD,List.getElem?_append_right (by simp;omega)]
 simp[List.length_take,Nat.min_eq_left (Nat.le_of_lt h)]
theorem ePv (l:List B8) (k:Nat) (h:k<l.length):(eLe l k).set k (hG (l.getD k 0#8))=eLe l (k+1):=by
 unfold eLe
 rw[List.set_append_right _ _ (by simp;omega),List.length_map,List.length_take,Nat.min_eq_left (Nat.le_of_lt h),Nat.sub_self,List.drop_eq_getElem_cons h,List.set_cons_zero,List.take_succ_eq_append_getElem h]
 simp[List.getElem?_eq_getElem h,-List.take_append_getElem]
theorem eOf (l:List B8) (k:Nat) (h:k<l.length) (hs:hG (l.getD k 0#8)=l.getD k 0#8):eLe l k=eLe l (k+1):=by
 rw[←ePv l k h,hs,←ePw l k h]
 apply List.ext_getElem?
 intro i
 rw[List.getElem?_set]
 split
 ·rename_i e;subst e
  rw[eNj,J4 h,List.getD_eq_getElem?_getD]
  have:k<(eLe l k).length:=by rw[eNj];exact h
  simp[List.getElem?_eq_getElem this]
 rfl
theorem eTc (l:List B8):eLe l 0=l:=by simp[eLe]
theorem eVw (l:List B8):eLe l l.length=l.map hG:=by simp[eLe]
def eMw:List AV→Option AV
 |[.s l]=>aN (l.length≤1000000) (some (.s (l.map hG)))
 |_=>none
theorem eSd (l:List B8):eMw [.s l]=aN (l.length≤1000000) (some (.s (l.map hG))):=(rfl)
attribute [go_sem] eSd
set_option maxHeartbeats 1000000 in
theorem eUp:cL Try.prog GLh 67 eMw:=by
 refine cC Try.func67 (aT rfl) ?_
 intro args r hg
 unfold eMw at hg
 split at hg
 ·rename_i l
  replace hg:=aP hg;obtain⟨hbig,hg⟩:=hg
  obtain rfl:=J0 hg
  clear hg
  refine⟨J1 rfl,fun nx=>?_⟩
  refine aA rfl (aW [0] rfl rfl rfl fun K hK=>?_)
  simp(disch:=omega) only[Try.f67,go_sem,↓reduceIte]
  refine hK _ ?_
  refine aB (aA rfl (aW [3] rfl rfl rfl fun K hK=>?_))
  simp(disch:=omega) only[Try.f67,go_sem,↓reduceIte]
  refine hK _ ?_
  refine aB (aA rfl (aA rfl (aW [3,8,9,10] rfl rfl rfl fun K hK=>?_)))
  simp(disch:=omega) only[Try.f67,go_sem,↓reduceIte]
  refine hK _ ?_
  refine aB (aR 0 rfl rfl ?_)
  refine bR (fun p:KC=> {fr:=[(3,.os (nx+1+1) 0 l.length 1 true),(8,.os (nx+1+1) 0 l.length 1 true),(9,.i l.length),(10,.i p.k)],hp:=upd (fun _=>none) (nx+1+1) (.cells (c8 (eLe l p.k)) true),nx:=0,cx:=p.c}) (fun p=>p.k≤l.length∧nx+1+1<p.c) (fun p=>l.length-p.k) rfl ⟨⟨0,_⟩,⟨Nat.zero_le _,by simp only;omega⟩,bD rfl (by simp only[eTc]) (U3 _)⟩ ?_
  rintro⟨k,c⟩ ⟨hk,hid⟩ n0
  simp only at hk hid⊢
  refine aA rfl (aW [11,3,8,9,10] rfl rfl rfl fun K hK=>?_)
  simp(disch:=omega) only[Try.f67,go_sem,↓reduceIte]
  refine hK _ ?_
  refine aB (aA rfl (bA (.tmp 11) rfl rfl rfl (fun h=>?_) (fun h=>?_)))
  ·refine aI rfl ?_
   have hkl:k<l.length:=by omega
   have hll:=eNj l k
   have hgt:=ePw l k hkl
   refine aQ rfl (aB (aA rfl (aR 1 rfl rfl (aA rfl (aW [3,4,5,8,9,10] rfl rfl rfl fun K hK=>?_)))))
   simp(disch:=omega) only[Try.f67,go_sem,↓reduceIte,hgt]
   refine hK _ ?_
   refine aB ?_
   obtain⟨x,hx⟩: ∃x,l.getD k 0#8=x:=⟨_,rfl⟩
   rw[hx]
   by_cases ha:65#8≤x
   ·by_cases hb:x≤90#8
    ·refine aA rfl (aW [20,3,4,5,8,9,10] rfl rfl rfl fun K hK=>?_)
     simp(disch:=omega) only[Try.f67,go_sem,↓reduceIte,J5 ha,J5 hb]
     refine hK _ ?_
     refine aB (eC (.tmp 20) rfl rfl rfl (fun h=>?_) (fun h=>?_))
     ·refine aI rfl ?_
      clear h
      have e1:x+97#8-65#8=hG x:=by unfold hG;rw[J4 ⟨ha,hb⟩];bv_omega
      refine aW [3,8,9,10] rfl rfl rfl fun K hK=>?_
      simp(disch:=omega) only[Try.f67,go_sem,↓reduceIte,e1,eXf]
      refine hK _ ?_
      refine bU (aB ?_)
      have e2:=ePv l k hkl
      rw[hx]at e2
      refine aW [3,8,9,10] rfl rfl rfl fun K hK=>?_
      simp(disch:=omega) only[Try.f67,go_sem,↓reduceIte]
      refine hK _ ?_
      refine bT ?_
      refine⟨⟨k+1,_⟩,⟨by simp only;omega,by simp only;omega⟩,by simp only;omega,bD ?_ ?_ (U3 _)⟩
      ·simp only[Int.natCast_add,Int.natCast_one]
      simp only[e2]
     refine aI rfl ?_
     cases h
    refine aA rfl (aW [20,3,4,5,8,9,10] rfl rfl rfl fun K hK=>?_)
    simp(disch:=omega) only[Try.f67,go_sem,↓reduceIte,J5 ha,J6 hb]
    refine hK _ ?_
    refine aB (eC (.tmp 20) rfl rfl rfl (fun h=>?_) (fun h=>?_))
    ·refine aI rfl ?_
     cases h
    refine aI rfl ?_
    clear h
    have e1:hG x=x:=by unfold hG;rw[J3 (fun h=>by first|exact hb h.2|exact ha h.1)]
    have e2:=eOf l k hkl (by rw[hx,e1])
    refine aQ rfl (bU (aB (aW [3,8,9,10] rfl rfl rfl fun K hK=>?_)))
    simp(disch:=omega) only[Try.f67,go_sem,↓reduceIte]
    refine hK _ ?_
    refine bT ?_
    refine⟨⟨k+1,_⟩,⟨by simp only;omega,by simp only;omega⟩,by simp only;omega,bD ?_ ?_ (U3 _)⟩
    ·simp only[Int.natCast_add,Int.natCast_one]
    simp only[←e2]
   refine aA rfl (aW [20,3,4,5,8,9,10] rfl rfl rfl fun K hK=>?_)
   simp(disch:=omega) only[Try.f67,go_sem,↓reduceIte,J6 ha]
   refine hK _ ?_
   refine aB (eC (.tmp 20) rfl rfl rfl (fun h=>?_) (fun h=>?_))
   ·refine aI rfl ?_
    cases h
   refine aI rfl ?_
   clear h
   have e1:hG x=x:=by unfold hG;rw[J3 (fun h=>by first|exact hb h.2|exact ha h.1)]
   have e2:=eOf l k hkl (by rw[hx,e1])
   refine aQ rfl (bU (aB (aW [3,8,9,10] rfl rfl rfl fun K hK=>?_)))
   simp(disch:=omega) only[Try.f67,go_sem,↓reduceIte]
   refine hK _ ?_
   refine bT ?_
   refine⟨⟨k+1,_⟩,⟨by simp only;omega,by simp only;omega⟩,by simp only;omega,bD ?_ ?_ (U3 _)⟩
   ·simp only[Int.natCast_add,Int.natCast_one]
   simp only[←e2]
  refine aI rfl (bF 0 rfl rfl (aY (aZ (bE (aB (aA rfl ?_))))))
  obtain rfl:k=l.length:=by omega
  have hml:(l.map hG).length=l.length:=List.length_map ..
  have htk:(l.map hG).take l.length=l.map hG:=List.take_of_length_le (by omega)
  refine aW [2] rfl rfl rfl fun K hK=>?_
  simp(disch:=omega) only[Try.f67,go_sem,↓reduceIte,eVw,hml,htk,iA]
  refine hK _ ?_
  refine aB (aS rfl ?_)
  simp(disch:=omega) only[cN,bV,bK,bQ,Try.f67,go_sem,↓reduceIte]
 cases hg
theorem cWk:bX Try.prog GLh 67 (.pure true eMw):=⟨⟨_,Try.func67,rfl,rfl⟩,eUp⟩
def dJ (ps:List (List B8)):List (List B8):=ps.map fun l=>l.map hG
theorem eVv (ps:List (List B8)):(dJ ps).length=ps.length:=List.length_map ..
theorem eTb (ps:List (List B8)) (k:Nat) (h:k<ps.length):dJ (ps.take (k+1))=dJ (ps.take k)++[(ps.getD k []).map hG]:=by
 have e:ps.take (k+1)=ps.take k++[ps.getD k []]:=by rw[List.take_succ_eq_append_getElem h];simp[List.getD,List.getElem?_eq_getElem h,-List.take_append_getElem]
 rw[e];unfold dJ;rw[List.map_append,List.map_cons,List.map_nil]
theorem eLl (ps:List (List B8)):(eF (dJ ps)).length=(eF ps).length:=by
 induction ps with
 |nil=>rfl
 |cons p ps ih=>rw[show dJ (p::ps)=p.map hG::dJ ps from rfl,gX,gX,ih,List.length_map]
def iF:List AV→Option (Nat×Nat×List AV)
 |[.sl n xs]=>aK (unS xs) fun ps=>aN (ps.length=n∧(eF ps).length≤1000000) (some ((dJ ps).length,1,cS (dJ ps)))
 |_=>none
theorem eTa (n:Nat) (xs:List AV):iF [.sl n xs]=aK (unS xs) fun ps=>aN (ps.length=n∧(eF ps).length≤1000000) (some ((dJ ps).length,1,cS (dJ ps))):=(rfl)
attribute [go_sem] eTa
theorem eZz (l:List (List B8)) (y:List B8):cS l++[.s y]=cS (l++[y]):=by simp[cS]
set_option maxHeartbeats 1000000 in
theorem eVu:dH Try.prog GLh 39 iF:=by
 refine cT Try.func39 (aT rfl) ?_
 intro args r hg
 unfold iF at hg
 split at hg
 ·rename_i n xs
  replace hg:=aJ hg;obtain⟨ps,hb,hg⟩:=hg
  replace hg:=aP hg;obtain⟨⟨hn,hbig⟩,hg⟩:=hg
  obtain rfl:=J0 hg
  have:=gT hb;subst this
  subst hn
  clear hg hb
  refine⟨J1 rfl,fun nx=>?_⟩
  have hpn:=eOo ps
  refine aA rfl (aW [0] rfl rfl rfl fun K hK=>?_)
  simp(disch:=omega) only[Try.f39,go_sem,↓reduceIte]
  refine hK _ ?_
  refine aB (aA rfl (aW [0,3] rfl rfl rfl fun K hK=>?_))
  simp(disch:=omega) only[Try.f39,go_sem,↓reduceIte]
  refine hK _ ?_
  refine aB (aA rfl (aA rfl (aW [3,6,7,8] rfl rfl rfl fun K hK=>?_)))
  simp(disch:=omega) only[Try.f39,go_sem,↓reduceIte]
  refine hK _ ?_
  refine aB (iE 3 1 rfl (fF [3,6,7,8] ?_))
  simp only[iB,fU,eW,↓reduceIte,Nat.reduceEqDiff]
  refine aR 0 rfl rfl ?_
  refine bR (fun p:KIC=> {fr:=[(3,.os p.id 0 (dJ (ps.take p.k)).length 1 true),(6,.sl ps.length (cS ps)),(7,.i ps.length),(8,.i p.k)],hp:=upd (fun _=>none) p.id (.cells (cS (dJ (ps.take p.k))) true),nx:=0,cx:=p.c}) (fun p=>p.k≤ps.length∧p.id<p.c) (fun p=>ps.length-p.k) rfl ⟨⟨0,_,_⟩,⟨Nat.zero_le _,by simp only;omega⟩,bD rfl rfl (U3 _)⟩ ?_
  rintro⟨k,id,c⟩ ⟨hk,hid⟩ n0
  simp only at hk hid⊢
  refine aA rfl (aW [9,3,6,7,8] rfl rfl rfl fun K hK=>?_)
  simp(disch:=omega) only[Try.f39,go_sem,↓reduceIte]
  refine hK _ ?_
  refine aB (aA rfl (bA (.tmp 9) rfl rfl rfl (fun h=>?_) (fun h=>?_)))
  ·refine aI rfl ?_
   have hkl:k<ps.length:=by omega
   have ht:(dJ (ps.take k)).length=k:=by rw[eVv,List.length_take];omega
   have hm:=eMr ps k
   have e6:=eTb ps k hkl
   have e7:(dJ (ps.take (k+1))).length=(dJ (ps.take k)).length+1:=by rw[e6];simp
   obtain⟨l,hl⟩: ∃l,ps.getD k []=l:=⟨_,rfl⟩
   rw[hl]at hm e6
   refine aQ rfl (aB (aA rfl (aR 1 rfl rfl (aA rfl (aW [3,5,6,7,8] rfl rfl rfl fun K hK=>?_)))))
   simp(disch:=omega) only[Try.f39,go_sem,↓reduceIte,hl]
   refine hK _ ?_
   refine aB (aC (Γ:=bC [(67,.pure true eMw)]) [3,6,7,8] (aH cWk aO) rfl rfl rfl (fun K hK=>?_))
   simp(disch:=omega) only[Try.f39,go_sem,↓reduceIte,eZz]
   refine hK _ ?_
   refine bU (aB (aW [3,6,7,8] rfl rfl rfl fun K hK=>?_))
   simp(disch:=omega) only[Try.f39,go_sem,↓reduceIte]
   refine hK _ ?_
   refine bT ?_
   refine⟨⟨k+1,c+1+3+4,_⟩,⟨by simp only;omega,by simp only;omega⟩,by simp only;omega,⟨fun _=> .inr ?_,fun j o h=>?_,U3 _⟩⟩
   ·simp only[e7,Int.natCast_add,Int.natCast_one]
   simp only at h
   exact bS (by simp(disch:=omega) only[aV,↓reduceIte,eq_self,e6]) (cB) j o h
  refine aI rfl (bF 0 rfl rfl (aY (aZ (bE (aB (aA rfl ?_))))))
  obtain rfl:k=ps.length:=by omega
  have e8:ps.take ps.length=ps:=List.take_length
  refine aW [2] rfl rfl rfl fun K hK=>?_
  simp(disch:=omega) only[Try.f39,go_sem,↓reduceIte,e8]
  refine hK _ ?_
  refine aB (aS rfl ?_)
  simp(disch:=omega) only[fE,eO,bV,bK,bQ,Try.f39,go_sem,↓reduceIte,bPf]
 cases hg
theorem eVj:bX Try.prog GLh 39 (.fresh true iF):=⟨⟨_,Try.func39,rfl,rfl⟩,eVu⟩
end Go.AX
