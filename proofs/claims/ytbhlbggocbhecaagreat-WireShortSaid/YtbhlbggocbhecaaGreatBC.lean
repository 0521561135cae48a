/-
  AX, part AyD: a region that draws its order and ends with a call that panics. Wire, part cA: what gives up reading. AX, part AyE: functions that turn one own object in place, answer with what may be read from then on, or panic. Wire, part cB: bytes taken off a reader. Wire, part cC: numbers, texts, all the rest, off a reader. Wire, part cD: in plain words: a name read with its pointers; questions; a message that has no records. AX, part AyF: functions that defer one closure, which recovers. AX, part AyG: a region that draws its order, walked in each order that it may take (where operations meet that need not wait for each other, such as a load of one own object and a store to another). AX, part AyH: a plain function that is handed a closure over an own object. AX, part AyI: a plain function that is handed something and a closure over an own object. AX, part AyJ: an own object that is no more written becomes a plain one. AX, part AyK: a region that draws its order, in which one pair of operations that don't wait for each other meets: two orders are walked. AX, more, part M: maps: evaluation. AX, more, part N: a region that draws its order, where operations are apart by the own objects that they touch. AX, more, part Q: a region that draws its order, where operations are apart by the own objects that they touch: the rule. AX, more, part R: a part of a function that runs on lent objects: whatever it makes of them, they are there again behind it. Wire, part cE: a name taken off a reader, pointers and all. Wire, part cF: questions. Wire, part cG: no records; functions over no records. AX, part AyP: a region that draws its order, where a few orders stand for all: each other order is one of them but for operations that don't touch one another. Wire, part fB: a region that draws its order, one of whose calls panics wherever in the order it comes. Wire, part cH: a message that has no records, taken off a reader. Wire, part cI: a function that defers and recovers behind some other code. Wire, part cJ: Read. Wire, part cK: a name read off bytes. Wire, part cL: names' bytes and small letters. Wire, part cM: names that may stand.
-/
import Derived.Test.YtbhlbggocbhecaaGreatBB
import Derived.WalkKit
import Derived.Tactics
import Derived.Tactics2
import Derived.Defers
import Derived.Recover
namespace Go.AX
open Go
section
variable {P : Program} {Γ : Env} {c : Ctx} {σ0 : Nat → Loc} {I0 : Nat → Prop} {w0 : World} {md : Nat → Nat} {ops : Array Oper}
theorem bBy (hΓ:eT P c.GL Γ) {Q:Exit→Act→World→Prop} (hdst:fK c.nt ops.toList=true) (hok:sF P Γ md ops=true) {m:Nat} {o:Oper} (hm:ops[m]? =some o) (hn:ops.size=m+1)
  (hb: ∀j,j<m→((Region.before ops).getD m 0).testBit j=true) {s':S}
  (hP: ∀a w,R c σ0 I0 w0 (fun k=>k=m) s' a w→Region.wanted o (yielded ops a.tmps)=true∧∀K,o.wp P a w K Q):
  ∀(fuel:Nat) (listed:Array Bool) (s sf:S) (a:Act) (w:World),listed.size=ops.size→listed.getD m true=false→(unl ops.size listed).length≤fuel→
   (∀m o,listed.getD m false=true→ops[m]? =some o→∀e∈o.after,Region.binds .any e=true→listed.getD e.on false=true)→
   dQ P Γ c.GL md ops ((unl ops.size listed).filter (· !=m)) s=some sf→fVo s' sf→R c σ0 I0 w0 (fun k=>k∈unl ops.size listed) s a w→wpAny P .any ops Q fuel listed a w:=by
 have hchk: ∀j y,ops[j]? =some y→(∀e∈y.after,Region.binds .any e=true→e.on<j)∧∀i x,i<j→ops[i]? =some x→((Region.before ops).getD j 0).testBit i=true∨(x.apart ops y=true∧eEq i j (tI P Γ (md i) x.op) (tI P Γ (md j) y.op)=true):=by
  intro j y hy
  have hlt:=(Array.getElem?_eq_some_iff.1 hy).1
  have h:=List.all_eq_true.1 hok j (List.mem_range.2 hlt)
  simp only[hy,Bool.and_eq_true]at h
  refine⟨fun e he hb=>?_,fun i x hi hx=>?_⟩
  ·have:=Array.all_eq_true_iff_forall_mem.1 h.1 e he
   simpa [hb]using this
  ·have:=List.all_eq_true.1 h.2 i (List.mem_range.2 hi)
   simp only[hx,Bool.or_eq_true,Bool.and_eq_true]at this
   exact this
 have mem_unl: ∀(listed:Array Bool) i,i∈unl ops.size listed↔i<ops.size∧listed.getD i true=false:=by
  intro listed i;simp[unl]
 have noready: ∀(listed:Array Bool),listed.size=ops.size→Region.ready .any ops listed=[]→unl ops.size listed=[]:=by
  intro listed hsz hr
  refine List.eq_nil_iff_forall_not_mem.2 fun i=>?_
  induction i using Nat.strongRecOn with
  |_ i ih=>
   intro hi
   obtain⟨hlt,hun⟩:=(mem_unl listed i).1 hi
   have:i∈Region.ready .any ops listed:=by
    rw[mem_ready]
    refine⟨hun,ops[i],Array.getElem?_eq_getElem hlt,fun e he hb=>?_⟩
    have hlt':=(hchk i _ (Array.getElem?_eq_getElem hlt)).1 e he hb
    have hn:=ih e.on hlt'
    rw[mem_unl]at hn
    have hs2:e.on<listed.size:=by omega
    rw[Array.getD_eq_getD_getElem?,Array.getElem?_eq_getElem hs2]at hn⊢
    simp only[Option.getD_some]at hn⊢
    cases hv:listed[e.on]with
    |true=>rfl
    |false=>exact absurd ⟨by omega,hv⟩ hn
   rw[hr]at this;cases this
 have hmu: ∀(listed:Array Bool),listed.getD m true=false→m∈unl ops.size listed:=fun listed h=>(mem_unl listed m).2 ⟨by omega,h⟩
 intro fuel
 induction fuel with
 |zero=>
  intro listed s sf a w hsz hml hlen hdc hrun heq hR
  have h0:unl ops.size listed=[]:=List.eq_nil_of_length_eq_zero (by omega)
  have:=hmu listed hml
  rw[h0]at this;cases this
 |succ fuel ih=>
  intro listed s sf a w hsz hml hlen hdc hrun heq hR
  refine⟨fun hr=>?_,fun i hi=>?_⟩
  ·have h0:=noready listed hsz hr
   have:=hmu listed hml
   rw[h0]at this;cases this
  obtain⟨hun,x,hx,hall⟩:=mem_ready.1 hi
  have hlt:=(Array.getElem?_eq_some_iff.1 hx).1
  have hmem:i∈unl ops.size listed:=(mem_unl listed i).2 ⟨hlt,hun⟩
  have hanc: ∀m j,Anc ops m j→(∀o,ops[m]? =some o→∀e∈o.after,Region.binds .any e=true→listed.getD e.on false=true)→listed.getD j false=true:=by
   intro m j ha
   induction ha with
   |edge ho he hb=>exact fun h=>h _ ho _ he hb
   |step ho he hb _ ih2=>exact fun h=>ih2 fun o ho' e' he' hb'=>hdc _ o (h _ ho _ he hb) ho' e' he' hb'
  by_cases him:i=m
  ·subst him
   rw[hm]at hx
   obtain rfl:=J0 hx
   have hlisted: ∀j,j<i→j∉unl ops.size listed:=by
    intro j hj hju
    have h1:=hanc i j (oR ops i j (hb j hj)) (fun o' ho e he hb=>by rw[hm]at ho;obtain rfl:=J0 ho;exact hall e he hb)
    have h2:=((mem_unl listed j).1 hju).2
    have hs2:j<listed.size:=by omega
    rw[Array.getD_eq_getD_getElem?,Array.getElem?_eq_getElem hs2]at h1 h2
    simp only[Option.getD_some]at h1 h2
    rw[h1]at h2;cases h2
   have honly: ∀j,j∈unl ops.size listed→j=i:=by
    intro j hj
    have:=((mem_unl listed j).1 hj).1
    apply Classical.byContradiction
    intro hne
    exact hlisted j (by omega) hj
   have hnil:(unl ops.size listed).filter (· !=i)=[]:=by
    refine List.filter_eq_nil_iff.2 fun j hj=>?_
    rw[honly j hj];simp
   rw[hnil]at hrun
   obtain rfl:=J0 hrun
   obtain⟨h1,h2⟩:=hP a w ((hR.un fun k hk=>by subst hk;exact hmem).eqv heq.symm)
   unfold wpOp
   simp only[hm]
   rw[J4 h1];exact .inl (h2 _)
  ·have hmem2:i∈(unl ops.size listed).filter (· !=m):=List.mem_filter.2 ⟨hmem,by simpa using him⟩
   obtain⟨l1,l2,hl⟩:=List.append_of_mem hmem2
   have hpw:((unl ops.size listed).filter (· !=m)).Pairwise (· < ·):=List.Pairwise.filter _ (List.Pairwise.filter _ List.pairwise_lt_range)
   rw[hl]at hpw hrun
   have hlt1: ∀j∈l1,j<i:=fun j hj=>(List.pairwise_append.1 hpw).2.2 j hj i (by simp)
   have hlt2: ∀j∈l2,i<j:=fun j hj=>(List.pairwise_cons.1 (List.pairwise_append.1 hpw).2.1).1 j hj
   obtain⟨s1,sf1,f1,f2,f3⟩:=wK hx l1 l2 (fun j hj=>by
    have hjm:j∈unl ops.size listed:=(List.mem_filter.1 (show j∈(unl ops.size listed).filter (· !=m)by rw[hl];simp[hj])).1
    obtain⟨hjlt,hjun⟩:=(mem_unl listed j).1 hjm
    refine⟨by have:=hlt1 j hj;omega,ops[j],Array.getElem?_eq_getElem hjlt,?_⟩
    rcases(hchk i x hx).2 j _ (hlt1 j hj) (Array.getElem?_eq_getElem hjlt)with h|h
    ·have:=hanc i j (oR ops i j h) (fun o ho e he hb=>by rw[hx]at ho;obtain rfl:=J0 ho;exact hall e he hb)
     have hs2:j<listed.size:=by omega
     rw[Array.getD_eq_getD_getElem?,Array.getElem?_eq_getElem hs2]at hjun this
     simp only[Option.getD_some]at hjun this
     rw[hjun]at this;cases this
    ·exact h) hrun
   have e0:unl ops.size (listed.setIfInBounds i true)=(unl ops.size listed).filter (fun k=>k !=i):=by
    unfold unl
    rw[List.filter_filter]
    refine List.filter_congr fun k hk=>?_
    by_cases hki:k=i
    ·subst hki
     rw[Array.getD_eq_getD_getElem?,Array.getElem?_setIfInBounds_self_of_lt (by omega)];simp
    ·rw[getD_set_ne true (Ne.symm hki)]
     simp[hki]
   have hnew:(unl ops.size (listed.setIfInBounds i true)).filter (· !=m)=l1++l2:=by
    have e1:(unl ops.size (listed.setIfInBounds i true)).filter (· !=m)=((unl ops.size listed).filter (· !=m)).filter (fun k=>k !=i):=by
     rw[e0,List.filter_filter,List.filter_filter]
     refine List.filter_congr fun k _=>Bool.and_comm _ _
    rw[e1,hl,List.filter_append,List.filter_cons]
    simp only[bne_self_eq_false,Bool.false_eq_true,if_false]
    congr 1
    ·exact List.filter_eq_self.2 fun k hk=>by have:=hlt1 k hk;simp;omega
    ·exact List.filter_eq_self.2 fun k hk=>by have:=hlt2 k hk;simp;omega
   have hlen2:(unl ops.size (listed.setIfInBounds i true)).length<(unl ops.size listed).length:=by
    rw[e0]
    refine Nat.lt_of_le_of_ne (List.length_filter_le _ _) fun e=>?_
    have:=List.length_filter_eq_length_iff.1 e i hmem
    simp at this
   have hstep:=fX (K:=wpAny P .any ops Q fuel (listed.setIfInBounds i true)) (Q:=Q) (ops:=ops) hΓ f1 (lU hdst (Array.mem_toList_iff.2 (Array.mem_of_getElem? hx))) (rem:=fun k=>k∈unl ops.size listed) hmem hR (fun a' w' hR'=>
    ih (listed.setIfInBounds i true) s1 sf1 a' w' (by simpa using hsz) (by rw[getD_set_ne true him];exact hml) (by omega) (fun m' o' hm' ho e he hb=>by
      by_cases hmi:m'=i
      ·subst hmi
       rw[hx]at ho;obtain rfl:=J0 ho
       exact getD_set_true (hall e he hb)
      ·rw[getD_set_ne false (Ne.symm hmi)]at hm'
       exact getD_set_true (hdc m' o' hm' ho e he hb))
     (by rw[hnew];exact f2) (heq.trans f3) (hR'.un fun k hk=>by
      rw[e0,List.mem_filter]at hk
      exact⟨hk.1,by simpa using hk.2⟩))
   unfold wpOp
   simp only[hx]
   split
   ·rename_i hw;rw[J4 hw]at hstep;exact .inl hstep
   ·rename_i hw;rw[J3 hw]at hstep;exact hstep
end
def cRj (c:Code) (m:Nat):Bool:=(List.range m).all fun j=>((Region.before (aM c)).getD m 0).testBit j
theorem dCo {P:Program} {GL:Nat→Option (List AV)} {nt:Nat} {Q:Exit→S→Prop} {s:S} {code:Code} {Γ:Env} (k:Nat) (md:Nat→Nat) {f:FuncId} {ch:List PanicEntry} {g:List AV→H→Nat→Option (H×Nat)} (hm:P.follows .mixedOrders=true) (hpan:dE P GL f ch g) (hcall:fHm P f) (hΓ:eT P GL Γ) (hc:eEs code=true) (hd:lZ code=true) (ho:fK nt (aM code).toList=true)
  (hk:sF P Γ md (aM code)=true) (hn:(aM code).size=k+1) (hb:cRj code k=true)
  (h: ∀Z:S→Prop,(∀t,Q (.panic ch) t→Z t)→nH (aRf P Γ GL md (rN code) ((aF code).take k) (cX (rN code) s)) (bVn GL f g Z (aF code)[k]?)):Awp P GL nt code s Q:=by
 replace h:=h (Q (.panic ch)) fun _ h=>h
 cases code with
 |region id ops dr=>
  simp only[lZ]at hd
  subst hd
  intro c h1 h2 σ0 I0 w0 a w hR
  subst h1;subst h2
  simp only[aM]at hn ho hk
  have hlt:k<ops.toList.length:=by rw[Array.length_toList];omega
  have hk2:ops.toList[k]? =some ops.toList[k]:=List.getElem?_eq_getElem hlt
  obtain⟨o,hko⟩: ∃o,ops.toList[k]=o:=⟨_,rfl⟩
  rw[hko]at hk2
  have hka:ops[k]? =some o:=by rw[←Array.getElem?_toList];exact hk2
  have hl:(aF (.region id ops true))[k]? =some (aG ops o):=by simp only[aF,aM,List.getElem?_map,hk2,Option.map_some]
  have ht:(aF (.region id ops true)).take k=(ops.toList.take k).map (aG ops):=by simp only[aF,aM,List.map_take]
  rw[hl,ht]at h
  have hr:aRf P Γ c.GL md (rN (.region id ops true)) ((ops.toList.take k).map (aG ops)) (cX (rN (.region id ops true)) s)=oT P Γ c.GL md ops 0 (ops.toList.take k) (cX ops.size s):=by
   rw[aBn];rfl
  rw[hr]at h
  obtain⟨t,e1,e2⟩:=mR h
  have h0:unl ops.size (Array.replicate ops.size false)=List.range ops.size:=by
   unfold unl
   refine List.filter_eq_self.2 fun k hk=>?_
   rw[List.mem_range]at hk
   rw[Array.getD_eq_getD_getElem?,Array.getElem?_replicate,J4 hk];rfl
  have h0f:(unl ops.size (Array.replicate ops.size false)).filter (· !=k)=List.range k:=by
   rw[h0,hn,List.range_succ,List.filter_append]
   have a1:(List.range k).filter (· !=k)=List.range k:=List.filter_eq_self.2 fun j hj=>by have:=List.mem_range.1 hj;simp;omega
   rw[a1];simp
  have hbk: ∀j,j<k→((Region.before ops).getD k 0).testBit j=true:=fun j hj=>List.all_eq_true.1 hb j (List.mem_range.2 hj)
  have hlk:(ops.toList.take k).length=k:=by rw[List.length_take];omega
  have hrun2:dQ P Γ c.GL md ops (List.range k) (cX ops.size s)=some t:=by
   have hgen: ∀(l:List Oper) (q:Nat) (s:S),(∀m,m<l.length→l[m]? =ops[q+m]?)→oT P Γ c.GL md ops q l s=dQ P Γ c.GL md ops (List.range' q l.length) s:=by
    intro l
    induction l with
    |nil=>intro q s _;rfl
    |cons o r ih=>
     intro q s hq
     have h0:ops[q]? =some o:=by have:=(hq 0 (by simp)).symm;simpa using this
     simp only[oT,List.length_cons,List.range'_succ,dQ,h0]
     congr 1
     funext s'
     exact ih (q+1) s' (fun m hm=>by have:=hq (m+1) (by simpa using hm);simpa [Nat.add_assoc,Nat.add_comm 1 m]using this)
   have:=hgen (ops.toList.take k) 0 (cX ops.size s) (fun m hm=>by rw[hlk]at hm;rw[List.getElem?_take,J4 hm,Nat.zero_add,Array.getElem?_toList])
   rw[hlk]at this
   rw[List.range_eq_range',←this];exact e1
  refine wp_region_any hm (bBy (σ0:=σ0) (I0:=I0) (w0:=w0) hΓ ho hk hka hn hbk (fun a' w' hR'=>?_) ops.size _ (cX ops.size s) t a _ (by simp) ?_ (by rw[h0];simp) (fun m o hl=>?_) (by rw[h0f];exact hrun2) (fVo.refl _) ?_)
  ·have key:=fun K=>bIn (K:=K) (ops:=ops) (Q':=fun e a' w'=> ∃s',Q e s'∧R c σ0 I0 w0 (fun _=>False) s' a' w') hpan hcall e2 hR' (fun t' a' w' hZ hR'=>⟨t',hZ,hR'⟩)
   exact⟨(key fun _ _=>True).1,fun K=>(key K).2⟩
  ·rw[Array.getD_eq_getD_getElem?,Array.getElem?_replicate,J4 (by omega)];rfl
  ·rw[Array.getD_eq_getD_getElem?,Array.getElem?_replicate]at hl;split at hl<;>cases hl
  ·exact((hR.enter ops.size).un fun k hk=>by rw[h0]at hk;exact List.mem_range.1 hk).world rfl rfl rfl rfl
 |_=>cases hc
end Go.AX

namespace Go.AX
open Go Go.Proofs
def GLh:Nat→Option (List AV):=fun _=>none
def chM:List PanicEntry:=[{v:=.iface 55 (.agg #[]),recovered:=false}]
theorem dXo (P:Program) (t:TypeId) (v:Value) (w:World):(Instr.panic (.iface t v)).run P w=.halt (.panic (.iface t v)) w:=rfl
theorem fGm {σ:Nat→Loc} {I:Nat→Prop} {w:World} {n:Int} {v:Value} (h:Rel σ I w (.i n) v):v=.int .i64 n:=by cases h;rfl
theorem dXw (w:World):Calls Tryz.prog 35 #[.bool false] w fun e w'=>e=.panicked chM∧w'=w:=by
 go_enter Tryz.func35,Tryz.ntmps35
 go_wp2
 simp only[dXo]
 exact⟨rfl,rfl,rfl⟩
theorem eVt (w:World):Calls Tryz.prog 35 #[.bool true] w fun e w'=>e=.returned (.tuple #[])∧w'=w:=by
 go_enter Tryz.func35,Tryz.ntmps35
 go_wp2
 exact⟨rfl,_,results_none rfl _ _ _,rfl,rfl⟩
section
variable {P : Program} {GL : Nat → Option (List AV)} {f : FuncId}
theorem dXi {ch:List PanicEntry} {g:List AV→H→Nat→Option (H×Nat)} (h: ∀args hp nx hp' nx',g args hp nx=some (hp',nx')→hp'=hp∧nx'=nx∧∀(σ:Nat→Loc) (I:Nat→Prop) (w:World) (vals:Array Value),vals.size=args.length→(∀i (_h:i<args.length),Rel σ I w args[i] (vals.getD i undef))→Calls P f vals w fun e w'=>e=.panicked ch∧w'=w):dE P GL f ch g:=by
 intro c σ I w hp nx args vals hp' nx' _ hi hs hr hg
 obtain⟨rfl,rfl,hc⟩:=h args hp nx hp' nx' hg
 refine⟨U3 _,(hc σ I w vals hs hr).mono ?_⟩
 rintro e w' ⟨rfl,rfl⟩
 exact⟨σ,I,rfl,hi,iO.refl _ _ _,fun _ _ h=>h⟩
theorem eSu {g:List AV→Option AV} (h: ∀args r,g args=some r→∀(σ:Nat→Loc) (I:Nat→Prop) (w:World) (vals:Array Value),vals.size=args.length→(∀i (_h:i<args.length),Rel σ I w args[i] (vals.getD i undef))→∃v,Rel σ I w r v∧Calls P f vals w fun e w'=>e=.returned v∧w'=w):fHn P GL f g:=by
 intro σ I w nx args vals r h1 h2 h3 hs hr hg
 obtain⟨v,hv,hc⟩:=h args r hg σ I w vals hs hr
 refine hc.mono ?_
 rintro e w' ⟨rfl,rfl⟩
 exact⟨v,σ,I,rfl,rfl,rfl,rfl,U3 _,fun _ _=>rfl,fun _ _=>rfl,fun _ h=> .inl h,h2,hv⟩
end
theorem dXv {σ:Nat→Loc} {I:Nat→Prop} {w:World} {x:AV} {vals:Array Value} (hs:vals.size=[x].length) (hr: ∀i (_h:i<[x].length),Rel σ I w [x][i] (vals.getD i undef)): ∃v,vals= #[v]∧Rel σ I w x v:=by
 have h0:=hr 0 (by simp)
 obtain⟨l⟩:=vals
 simp only[List.size_toArray,List.length_cons,List.length_nil,Nat.zero_add]at hs
 match l,hs with
 |[v],_=>exact⟨v,rfl,h0⟩
def eO:List AV→Option AV
 |[.b true]=>some (.tup [])
 |_=>none
theorem dKp:eO [.b true]=some (.tup []):=(rfl)
def dXl:List AV→H→Nat→Option (H×Nat)
 |[.b false],hp,nx=>some (hp,nx)
 |_,_,_=>none
theorem dXk (hp:H) (nx:Nat):dXl [.b false] hp nx=some (hp,nx):=(rfl)
attribute [go_sem] dKp dXk cSi dXs
theorem dMa:fHn Tryz.prog GLh 35 eO:=by
 refine eSu fun args r hg σ I w vals hs hr=>?_
 unfold eO at hg
 split at hg
 ·obtain rfl:=J0 hg
  obtain⟨v,rfl,hv⟩:=dXv hs hr
  obtain rfl:=bQs hv
  exact⟨_,.tup _ _ rfl (fun i h=>by simp at h),eVt w⟩
 cases hg
theorem fPd:dE Tryz.prog GLh 35 chM dXl:=by
 refine dXi fun args hp nx hp' nx' hg=>?_
 unfold dXl at hg
 split at hg
 ·simp only[Option.some.injEq,Prod.mk.injEq]at hg;obtain⟨rfl,rfl⟩:=hg
  refine⟨rfl,rfl,fun σ I w vals hs hr=>?_⟩
  obtain⟨v,rfl,hv⟩:=dXv hs hr
  obtain rfl:=bQs hv
  exact dXw w
 cases hg
theorem rD:fHm Tryz.prog 35:=⟨_,Tryz.func35,rfl,rfl⟩
theorem rP:bX Tryz.prog GLh 35 (.pure true eO):=⟨rD,dMa⟩
end Go.AX

namespace Go.AX
open Go
def rdH (g:List AV→List AV→Option (Option (AV×List AV))):List AV→H→Nat→Option (AV×H×Nat)
 | .op id off::rest,hp,nx=>aK (hp id) fun o=>match o with
  | .cells xs mt=>aN (mt=true) (aK (g (.op id off::rest) xs) fun p=>aK p fun q=>some (q.1,upd hp id (.cells q.2 true),nx))
  |_=>none
 |_,_,_=>none
def rdP (g:List AV→List AV→Option (Option (AV×List AV))):List AV→H→Nat→Option (H×Nat)
 | .op id off::rest,hp,nx=>aK (hp id) fun o=>match o with
  | .cells xs mt=>aN (mt=true) (aK (g (.op id off::rest) xs) fun p=>match p with
   |some _=>none
   |none=>some (del hp id,nx))
  |_=>none
 |_,_,_=>none
def rdO (g:List AV→List AV→Option (Option (AV×List AV))) (args:List AV) (id:Nat) (hp:H) (nx:Nat):AO→Option (AV×H×Nat)
 | .cells xs mt=>aN (mt=true) (aK (g args xs) fun p=>aK p fun q=>some (q.1,upd hp id (.cells q.2 true),nx))
 |_=>none
theorem cIz (g:List AV→List AV→Option (Option (AV×List AV))) (id off:Nat) (rest:List AV) (hp:H) (nx:Nat):rdH g (.op id off::rest) hp nx=aK (hp id) (rdO g (.op id off::rest) id hp nx):=by
 unfold rdH rdO;rfl
theorem cUp (g:List AV→List AV→Option (Option (AV×List AV))) (args:List AV) (id:Nat) (hp:H) (nx:Nat) (xs:List AV) (mt:Bool):rdO g args id hp nx (.cells xs mt)=aN (mt=true) (aK (g args xs) fun p=>aK p fun q=>some (q.1,upd hp id (.cells q.2 true),nx)):=(rfl)
def rdR (id:Nat) (hp:H) (nx:Nat):Option (AV×List AV)→Option (H×Nat)
 |some _=>none
 |none=>some (del hp id,nx)
def rdU (g:List AV→List AV→Option (Option (AV×List AV))) (args:List AV) (id:Nat) (hp:H) (nx:Nat):AO→Option (H×Nat)
 | .cells xs mt=>aN (mt=true) (aK (g args xs) (rdR id hp nx))
 |_=>none
theorem cIy (g:List AV→List AV→Option (Option (AV×List AV))) (id off:Nat) (rest:List AV) (hp:H) (nx:Nat):rdP g (.op id off::rest) hp nx=aK (hp id) (rdU g (.op id off::rest) id hp nx):=by
 unfold rdP rdU rdR;rfl
theorem cUn (g:List AV→List AV→Option (Option (AV×List AV))) (args:List AV) (id:Nat) (hp:H) (nx:Nat) (xs:List AV) (mt:Bool):rdU g args id hp nx (.cells xs mt)=aN (mt=true) (aK (g args xs) (rdR id hp nx)):=(rfl)
theorem cUo (id:Nat) (hp:H) (nx:Nat):rdR id hp nx none=some (del hp id,nx):=(rfl)
attribute [go_sem] cIz cUp cIy cUn cUo
theorem bQw (P:Program) (t:TypeId) (n:Nat) (xs:List AV):bM P .eql t (.sl n xs) (.v (.slice none 0 0))=aN (oQ P t=true∧0<n) (some (.b false)):=(rfl)
attribute [go_sem] bQw
theorem bQo (P:Program) (t t':TypeId) (v:Value):bM P .neq t (.v (.iface t' v)) (.v .nilIface)=aN (uG P t=true) (some (.b true)):=(rfl)
def cGt (P:Program) (t:TypeId):AV→Option AV
 | .v (.iface t' v)=>aN (t'=t∧uG P t=false∧(P.underlying t).isSome=true) (some (.tup [ofV v,.b true]))
 |_=>none
theorem bTb (P:Program) (t t':TypeId) (v:Value):cGt P t (.v (.iface t' v))=aN (t'=t∧uG P t=false∧(P.underlying t).isSome=true) (some (.tup [ofV v,.b true])):=(rfl)
theorem dAl {P:Program} {Γ:Env} {ρ:Operand→AV} {m nx n id cx:Nat} {hp:H} {x:Operand} {xt t:TypeId}:eff P Γ (.typeAssert x xt t true) ρ m nx n hp id cx=aK (cGt P t (ρ x)) fun y=>some (y,hp,cx):=by
 simp only[eff,cls,dI,cGt]
 generalize ρ x=y
 cases y<;>first|rfl|(rename_i v;cases v<;>rfl)
theorem bWf:ofV .nilIface=.v .nilIface:=(rfl)
attribute [go_sem] bQo bTb dAl bWf
theorem cNo (hp:H) (f xs):zB 4 hp (.fn f xs)=aK (lE (zB 3 hp) xs) fun l=>some (.fn f l):=(rfl)
attribute [go_sem] cNo
structure bSi (P:Program) (rs:List ResultVar) (r:AV) (id:Nat) (ys:List AV) (t:S):Prop where
 res:aK (bV P rs t) (zB 4 (del t.hp id))=some r
 row:t.hp id=some (.cells ys true)
 ids:r.ids=0
 idys:AV.ids.idsL ys=0
def rdQ (P:Program) (rs:List ResultVar) (ch:List PanicEntry) (id:Nat):Option (AV×List AV)→Exit→S→Prop
 |some (r,ys),.ret,t=>bSi P rs r id ys t
 |some (r,ys),.normal,t=>bSi P rs r id ys t
 |none,.panic c,_=>c=ch
 |_,_,_=>False
section
variable {P : Program} {GL : Nat → Option (List AV)}
theorem dT {f:FuncId} {fn:Func} {code:Code} {ch:List PanicEntry} {g:List AV→List AV→Option (Option (AV×List AV))} (hf:P.funcs[f]? =some fn) (hb:fn.body=some code)
  (h: ∀id off rest nx xs o,g (.op id off::rest) xs=some o→rest.length+1≤fn.ntmps∧(id<nx→Awp P GL fn.ntmps code (sN (.op id off::rest) (upd (fun _=>none) id (.cells xs true)) nx) (rdQ P fn.results.toList ch id o))):fHs P GL f (rdH g)∧dE P GL f ch (rdP g):=by
 have main: ∀(c:Ctx) (σ:Nat→Loc) (I:Nat→Prop) (w:World) (hp:H) (nx:Nat) (id off:Nat) (rest:List AV) (vals:Array Value) (xs:List AV) (o:Option (AV×List AV)),c.GL=GL→Inv c σ I w hp (fun id=>nx≤id)→hp id=some (.cells xs true)→
   vals.size=(AV.op id off::rest).length→(∀i (_h:i<(AV.op id off::rest).length),Rel σ I w (AV.op id off::rest)[i] (vals.getD i undef))→g (.op id off::rest) xs=some o→
   Calls P f vals w fun e w'=>(∃r ys v I',o=some (r,ys)∧e=.returned v∧Inv c σ I' w' (upd hp id (.cells ys true)) (fun id=>nx≤id)∧Rel σ I' w' r v∧iO σ I w σ I' w')∨
    (o=none∧e=.panicked ch∧Inv c σ I w' (del hp id) (fun id=>nx≤id)∧iO σ I w σ I w'):=by
  intro c σ I w hp nx id off rest vals xs o hGL hi ho hs hr hg
  obtain⟨hlen,haw⟩:=h id off rest nx xs o hg
  have hset:σ id≠.unset:=by
   intro hu
   have:=hi.own id _ ho
   simp[hD,hu]at this
  have hid:id<nx:=by
   apply Classical.byContradiction
   intro hc
   exact hset (hi.un id (by omega))
  have get1: ∀k o,upd (fun _=>none:H) id (.cells xs true) k=some o→k=id∧o=.cells xs true:=by
   intro k o hk
   rw[bJ]at hk
   split at hk
   ·rename_i e;exact⟨e,(J0 hk).symm⟩
   ·cases hk
  have hnI: ∀blk base sz,σ id=.at_ blk base sz→¬I blk:=by
   intro blk base sz e1
   have:=hi.own id _ ho
   simp only[hD,e1]at this
   exact this.2.1 trivial
  let c':Ctx:= {w0:=w,σ0:=σ,I0:=I,O:=fun k=> ∃base sz,σ id=.at_ k base sz,GL:=GL,nt:=fn.ntmps,u0:=fun k=>k<nx∧σ k=.unset}
  have hi':Inv c' σ I w (upd (fun _=>none) id (.cells xs true)) (fun k=>nx≤k∨(k<nx∧σ k=.unset)):=by
   refine⟨fun _ _=>rfl,fun _ h=>h,fun _ _=>rfl,rfl,rfl,rfl,U3 _,fun _ _ _=>rfl,hi.ilt,fun k o hk=>?_,fun k k' zs o' blk base sz base' sz' h1 hm h2 hne e1=>?_,fun k zs blk base sz h1 hm e1=>?_,fun k hk=>hk.elim (hi.un k) (fun h=>h.2),fun g xs hg=>hi.glob g xs (by rw[hGL];exact hg),fun _ h=> .inl h⟩
   ·obtain⟨rfl,rfl⟩:=get1 k o hk;exact hi.own _ _ ho
   ·obtain⟨rfl,_⟩:=get1 k _ h1
    obtain⟨rfl,_⟩:=get1 k' _ h2
    exact absurd rfl hne
   ·obtain⟨rfl,_⟩:=get1 k _ h1
    exact .inr ⟨base,sz,e1⟩
  refine calls_of_wp hf hb (wp_mono (haw hid c' rfl rfl σ I w {tmps:=vals++Array.replicate (fn.ntmps-vals.size) undef,defers:=[]} w ?_) ?_)
  ·refine⟨⟨σ,I,?_,iO.refl _ _ _,fun t=>oG hs hr t⟩,rfl,(by show _=fn.ntmps;simp at hs⊢;omega),fun k hk=>hk.elim,fun id hid=>⟨hid.1,hid.1⟩⟩
   refine hi'.mono_un fun id hid=>?_
   rcases hid with hid|⟨k,hk,_⟩|hid
   ·exact .inl hid
   ·exact hk.elim
   ·exact .inr hid
  rintro e a w' ⟨t,hq,hR⟩
  have hd:a.defers=[]:=hR.defers
  obtain⟨⟨σ',I',a1,a2,a3⟩,_⟩:=hR
  have hold: ∀k,k<w.heap.size→(∀base sz,σ id≠.at_ k base sz)→w'.heap[k]? =w.heap[k]?:=fun k hk hn=>a1.old k hk (fun⟨base,sz,e⟩=>hn base sz e)
  have hIs: ∀k,I k→w'.heap[k]? =w.heap[k]?:=fun k hk=>hold k (hi.ilt k hk) (fun base sz e=>hnI k base sz e hk)
  have hO: ∀k,k<c.w0.heap.size→¬c.O k→w'.heap[k]? =c.w0.heap[k]?:=fun k hk hO=>by
   rw[hold k (Nat.lt_of_lt_of_le hk hi.size) (fun base sz e=>?_)]
   ·exact hi.old k hk hO
   ·rcases hi.lim id _ k base sz ho rfl e with h5|h5
    ·omega
    ·exact hO h5
  have other: ∀(J:Nat→Prop),(∀k,I k→J k)→(∀k,J k→I k∨w.heap.size≤k)→∀k o,k≠id→hp k=some o→hD σ J w' k o:=by
   intro J hJ1 hJ2 k o hne h2
   have h3:=hi.own k o h2
   refine h3.mono (fun _ _=>rfl) hJ1 hIs fun blk base sz e1=>⟨hold blk (h3.lt e1) (fun base' sz' e2=>?_),fun _ hn hb=>?_⟩
   ·exact hi.inj id k _ o blk base' sz' base sz ho rfl h2 (fun e=>hne e.symm) e2 e1
   ·rcases hJ2 blk hb with h|h
    ·exact hn h
    ·have:=h3.lt e1;omega
  match o,e,hq with
  |none,.panic c2,hq=>
   obtain rfl:c2=ch:=hq
   refine⟨hd,.inr ⟨rfl,rfl,?_,⟨fun _ _=>rfl,fun _ h=>h,hIs⟩⟩⟩
   refine⟨hi.ext,hi.imm,fun k hk=>by rw[hIs k (hi.imm k hk)];exact hi.iw k hk,by rw[a1.os];exact hi.os,by rw[a1.tape];exact hi.tape,by rw[a1.output];exact hi.output,Nat.le_trans hi.size a1.size,hO,fun k hk=>Nat.lt_of_lt_of_le (hi.ilt k hk) a1.size,fun k o hk=>?_,fun k k' zs o' blk base sz base' sz' h1 hm h2 hne e1=>?_,fun k zs blk base sz h1 hm e1=>?_,hi.un,fun g zs hg=>(hi.glob g zs hg).mono (fun _ _=>rfl) (fun _ h=>h) hIs,hi.inew⟩
   ·rw[eV]at hk
    split at hk
    ·cases hk
    ·rename_i hne;exact other I (fun _ h=>h) (fun _ h=> .inl h) k o hne hk
   ·rw[eV]at h1 h2
    split at h1
    ·cases h1
    ·split at h2
     ·cases h2
     ·exact hi.inj k k' zs o' blk base sz base' sz' h1 hm h2 hne e1
   ·rw[eV]at h1
    split at h1
    ·cases h1
    ·exact hi.lim k zs blk base sz h1 hm e1
  |some (r,ys),e,hq=>
   have hq2:(e=.ret∨e=.normal)∧bSi P fn.results.toList r id ys t:=by
    cases e<;>first|exact⟨.inl rfl,hq⟩|exact⟨.inr rfl,hq⟩|exact hq.elim
   obtain⟨he,q1,q2,q3,q4⟩:=hq2
   replace q1:=aJ q1;obtain⟨x,hx,him⟩:=q1
   obtain⟨v,hv,hrel⟩:=eZ (P:=P) a1 a3 hx
   have h4:σ' id=σ id:=a2.loc id hset
   have hidI: ∀blk base sz,σ id=.at_ blk base sz→¬I' blk:=by
    intro blk base sz e1
    have:=a1.own id _ q2
    simp only[hD,h4,e1]at this
    exact this.2.1 trivial
   obtain⟨J,hJ⟩: ∃J:Nat→Prop,∀k,J k↔(I' k∨∃k' o base sz,del t.hp id k'=some o∧σ' k'=.at_ k base sz):=⟨_,fun _=>Iff.rfl⟩
   have hJI': ∀k,I' k→J k:=fun k hk=>(hJ k).2 (.inl hk)
   have hI'c: ∀k,I' k→I k∨w.heap.size≤k:=by
    intro k hk
    rcases a1.inew k hk with h|h|⟨base,sz,h⟩
    ·exact .inl h
    ·exact .inr h
    ·exact absurd hk (hidI k base sz h)
   have hJc: ∀k,J k→(I k∨w.heap.size≤k)∧k<w'.heap.size∧∀base sz,σ id≠.at_ k base sz:=by
    intro k hk
    rcases(hJ k).1 hk with hk|⟨k',o,base,sz,e1,e2⟩
    ·exact⟨hI'c k hk,a1.ilt k hk,fun base sz e=>hidI k base sz e hk⟩
    ·rw[eV]at e1
     split at e1
     ·cases e1
     rename_i hne
     have hcl: ∀base sz,σ id≠.at_ k base sz:=by
      intro base' sz' e3
      exact a1.inj id k' _ o k base' sz' base sz q2 rfl e1 (fun e=>hne e.symm) (by rw[h4];exact e3) e2
     refine⟨?_,(a1.own k' o e1).lt e2,hcl⟩
     cases hm:o.mt with
     |true=>
      rcases a1.lim k' o k base sz e1 hm e2 with h|⟨base',sz',h⟩
      ·exact .inr h
      ·exact absurd h (hcl base' sz')
     |false=>exact hI'c k ((a1.own k' _ e1).fz hm e2)
   obtain⟨him',_⟩:=qH (a1.sub (aAh t.hp id)) hJI' (fun k' o blk base sz e1 e2=>(hJ blk).2 (.inr ⟨k',o,base,sz,e1,e2⟩)) 4 him hrel
   have hIJ: ∀k,I k→J k:=fun k hk=>hJI' k (a2.imm k hk)
   have hres:Rel σ J w' r v:=him'.congr_ids fun k hk=>by rw[q3]at hk;omega
   have hinv:Inv c σ J w' (upd hp id (.cells ys true)) (fun id=>nx≤id):=by
    refine⟨hi.ext,fun k hk=>hIJ k (hi.imm k hk),fun k hk=>by rw[hIs k (hi.imm k hk)];exact hi.iw k hk,by rw[a1.os];exact hi.os,by rw[a1.tape];exact hi.tape,by rw[a1.output];exact hi.output,Nat.le_trans hi.size a1.size,hO,fun k hk=>(hJc k hk).2.1,fun k o hk=>?_,(hi.updIL ho (.cells ys true) fun _=>rfl).1,(hi.updIL ho (.cells ys true) fun _=>rfl).2,hi.un,fun g zs hg=>(hi.glob g zs hg).mono (fun _ _=>rfl) hIJ hIs,fun k hk=>?_⟩
    ·rw[bJ]at hk
     split at hk
     ·rename_i e
      subst e
      obtain rfl:=J0 hk
      have h3:=a1.own k _ q2
      have h6:=hi.own k _ ho
      simp only[hD,h4]at h3 h6⊢
      cases e5:σ k with
      |unset=>exact absurd e5 hset
      |nil=>simp only[e5]at h3⊢;exact h3
      |at_ blk base sz=>
       simp only[e5]at h3 h6⊢
       obtain⟨⟨⟨cs,T,lo,hi2,b1,b2,b3,b4,b5⟩,b6⟩,b7⟩:=h3
       refine⟨⟨⟨cs,T,lo,hi2,b1,b2,b3,b4,fun i hi3=>?_⟩,b6⟩,fun _ hb=>(hJc blk hb).2.2 base sz e5,fun hm=>by cases hm⟩
       exact((b5 i hi3).congr_ids (σ':=σ) fun k hk=>by have:=AV.ids_get ys i hi3;omega).mono (fun _ _=>rfl) hJI' (fun _ _=>rfl)
     ·rename_i hne;exact other J hIJ (fun k hk=>(hJc k hk).1) k o hne hk
    ·rcases(hJc k hk).1 with h|h
     ·exact hi.inew k h
     ·exact .inr (.inl (Nat.le_trans hi.size h))
   have fin:a.defers=[]∧∃v,(results fn a.tmps).run P w'=.ok v w'∧((∃r' ys' v' I',some (r,ys)=some (r',ys')∧Ending.returned v=.returned v'∧Inv c σ I' w' (upd hp id (.cells ys' true)) (fun id=>nx≤id)∧Rel σ I' w' r' v'∧iO σ I w σ I' w')∨
     (some (r,ys)=none∧Ending.returned v=.panicked ch∧Inv c σ I w' (del hp id) (fun id=>nx≤id)∧iO σ I w σ I w')):=
    ⟨hd,v,hv,.inl ⟨r,ys,v,J,rfl,rfl,hinv,hres,⟨fun _ _=>rfl,hIJ,hIs⟩⟩⟩
   rcases he with rfl|rfl
   ·exact fin
   ·exact fin
 refine⟨?_,?_⟩
 ·intro c σ I w hp nx args vals r hp' nx' hGL hi hs hr hg
  unfold rdH at hg
  split at hg
  case h_2=>cases hg
  rename_i id off rest
  replace hg:=aJ hg;obtain⟨o,ho,hg⟩:=hg
  obtain⟨xs,mt,rfl⟩: ∃a b,o=AO.cells a b:=by cases o<;>first|exact⟨_,_,rfl⟩|(simp at hg)
  simp only at hg
  replace hg:=aP hg;obtain⟨rfl,hg⟩:=hg
  replace hg:=aJ hg;obtain⟨p,hp1,hg⟩:=hg
  replace hg:=aJ hg;obtain⟨⟨r0,ys⟩,rfl,hg⟩:=hg
  simp only[Option.some.injEq,Prod.mk.injEq]at hg
  obtain⟨rfl,rfl,rfl⟩:=hg
  refine⟨U3 _,(main c σ I w hp nx id off rest vals xs _ hGL hi ho hs hr hp1).mono ?_⟩
  rintro e w' (⟨r',ys',v,I',e1,rfl,b1,b2,b3⟩|⟨e1,_⟩)
  ·simp only[Option.some.injEq,Prod.mk.injEq]at e1;obtain⟨rfl,rfl⟩:=e1
   exact⟨v,σ,I',rfl,b1,b2,b3,fun _ _ h=>h⟩
  ·cases e1
 ·intro c σ I w hp nx args vals hp' nx' hGL hi hs hr hg
  unfold rdP at hg
  split at hg
  case h_2=>cases hg
  rename_i id off rest
  replace hg:=aJ hg;obtain⟨o,ho,hg⟩:=hg
  obtain⟨xs,mt,rfl⟩: ∃a b,o=AO.cells a b:=by cases o<;>first|exact⟨_,_,rfl⟩|(simp at hg)
  simp only at hg
  replace hg:=aP hg;obtain⟨rfl,hg⟩:=hg
  replace hg:=aJ hg;obtain⟨p,hp1,hg⟩:=hg
  split at hg
  ·cases hg
  simp only[Option.some.injEq,Prod.mk.injEq]at hg
  obtain⟨rfl,rfl⟩:=hg
  refine⟨U3 _,(main c σ I w hp nx id off rest vals xs _ hGL hi ho hs hr hp1).mono ?_⟩
  rintro e w' (⟨r',ys',v,I',e1,_⟩|⟨_,rfl,b1,b2⟩)
  ·cases e1
  ·exact⟨σ,I,rfl,b1,b2,fun _ _ h=>h⟩
end
section
variable {P : Program} {GL : Nat → Option (List AV)}
end
end Go.AX

namespace Go.AX
open Go Go.Proofs
theorem bG (fr:List (Nat×AV)):gdS fr none=some true:=(rfl)
def eSc (l:List B8) (k a:Nat):Option (AV×List AV):=if k≤l.length-a then some (.sl k (c8 ((l.drop a).take k)),[.sl l.length (c8 l),.i ((a+k:Nat):Int)])else none
theorem eMu {l:List B8} {k a:Nat} (h:k≤l.length-a):eSc l k a=some (.sl k (c8 ((l.drop a).take k)),[.sl l.length (c8 l),.i ((a+k:Nat):Int)]):=J4 h
theorem eOp {l:List B8} {k a:Nat} (h: ¬k≤l.length-a):eSc l k a=none:=J3 h
def fJ:List AV→List AV→Option (Option (AV×List AV))
 |[.op _ 0,.i k],[.sl n xs,.i a]=>aK (fHq xs) fun l=>aN (l.length=n∧0≤k∧k≤100000∧0≤a∧a≤n∧n≤100000) (some (eSc l k.toNat a.toNat))
 |_,_=>none
theorem eUf (id n:Nat) (k a:Int) (xs:List AV):fJ [.op id 0,.i k] [.sl n xs,.i a]=aK (fHq xs) fun l=>aN (l.length=n∧0≤k∧k≤100000∧0≤a∧a≤n∧n≤100000) (some (eSc l k.toNat a.toNat)):=(rfl)
attribute [go_sem] eUf
theorem fCm (l:List B8):AV.ids.idsL (c8 l)=0:=by
 induction l with
 |nil=>rfl
 |cons x l ih=>show max (AV.ids (.w8 x)) (AV.ids.idsL (c8 l))=0;rw[ih];rfl
theorem eLf (n:Nat) (l:List B8):AV.ids (.sl n (c8 l))=0:=fCm l
theorem fVp (n:Nat) (l:List B8) (a:Int):AV.ids.idsL [.sl n (c8 l),.i a]=0:=by
 show max (AV.ids (.sl n (c8 l))) (max 0 0)=0
 rw[eLf];rfl
set_option maxHeartbeats 2000000 in
theorem eNz:fHs Tryz.prog GLh 50 (rdH fJ)∧dE Tryz.prog GLh 50 chM (rdP fJ):=by
 refine dT Tryz.func50 (aT rfl) ?_
 intro id off rest nx xs o hg
 unfold fJ at hg
 split at hg
 ·rename_i id2 k0 n xs2 a0 heq
  simp only[List.cons.injEq,AV.op.injEq]at heq
  obtain⟨⟨rfl,rfl⟩,rfl⟩:=heq
  replace hg:=aJ hg;obtain⟨l,hl,hg⟩:=hg
  replace hg:=aP hg;obtain⟨⟨rfl,hk,hkb,ha,han,hnb⟩,hg⟩:=hg
  obtain rfl:=J0 hg
  have:=bW hl;subst this
  obtain⟨k,rfl⟩:=Int.eq_ofNat_of_zero_le hk
  obtain⟨a,rfl⟩:=Int.eq_ofNat_of_zero_le ha
  simp only[U2]at*
  refine⟨J1 rfl,fun hid=>?_⟩
  clear hl hg
  refine aA rfl (aW [0,1] rfl rfl rfl fun K hK=>?_)
  simp(disch:=omega) only[Tryz.f50,go_sem,↓reduceIte]
  refine hK _ ?_
  refine aB ?_
  by_cases hka:k≤l.length-a
  ·rw[eMu hka]
   have hd:decide ((k:Int)≤(l.length:Int)-(a:Int))=true:=J5 (by omega)
   refine aA rfl (bB (Γ:=bC [(35,.pure true eO)]) (fun k=>if k=12 then 0 else 2) [0,1] bZ (aH rP aO) rfl rfl rfl (by kernel_rfl) (fun K hK=>?_))
   simp(disch:=omega) only[Tryz.f50,go_sem,↓reduceIte,hd]
   refine hK _ ?_
   refine aB ?_
   have ea:(a:Int)+(k:Int)=((a+k:Nat):Int):=rfl
   refine aA rfl (aW [0,1] rfl rfl rfl fun K hK=>?_)
   simp(disch:=omega) only[Tryz.f50,go_sem,↓reduceIte,ea]
   refine hK _ ?_
   refine aB ?_
   have es:((a+k:Nat):Int)-(k:Int)=(a:Int):=by omega
   have e2:a+k-a=k:=by omega
   refine aA rfl (bB (Γ:=aL) (fun _=>2) [4] bZ (aD _ _) rfl rfl rfl (by kernel_rfl) (fun K hK=>?_))
   simp(disch:=omega) only[Tryz.f50,go_sem,↓reduceIte,es,e2,U2]
   refine hK _ ?_
   exact aB (aS rfl (⟨by simp only[bV,bK,bQ,Tryz.f50,go_sem],by simp only[aV,if_true],eLf _ _,fVp _ _ _⟩))
  rw[eOp hka]
  have hd:decide ((k:Int)≤(l.length:Int)-(a:Int))=false:=J6 (by omega)
  refine aA rfl (dCo (Γ:=bC [(35,.pure true eO)]) 12 (fun _=>2) bZ (fPd) rD (aH rP aO) rfl rfl rfl (by kernel_rfl) rfl (by kernel_rfl) (fun Z hZ=>?_))
  simp(disch:=omega) only[Tryz.f50,go_sem,↓reduceIte,bG,eq_self,true_and,bP,List.map_cons,List.map_nil,List.append_nil,hd,U0,U1]
  refine hZ _ ?_;clear hZ Z
  exact rfl
 cases hg
theorem rH:dE Tryz.prog GLh 50 chM (rdP fJ):=eNz.2
theorem eLj:fHm Tryz.prog 50:=⟨_,Tryz.func50,rfl,rfl⟩
theorem eLb:bX Tryz.prog GLh 50 (.heap (rdH fJ)):=⟨⟨_,Tryz.func50,rfl,rfl⟩,eNz.1⟩
end Go.AX

namespace Go.AX
open Go Go.Proofs
theorem fQy (s:List B8) (k:Nat) (h:k<s.length):s[k]? =some (s.getD k 0#8):=by rw[List.getD_eq_getElem?_getD,List.getElem?_eq_getElem h];rfl
def fRs (l:List B8):BitVec 32:=l.foldl (fun n x=>(n <<<8)|||x.setWidth 32) 0#32
theorem eOi (l:List B8) (k:Nat) (h:k<l.length):fRs (l.take (k+1))=(fRs (l.take k) <<<8)|||(l.getD k 0#8).setWidth 32:=by
 unfold fRs
 rw[List.take_succ_eq_append_getElem h,List.foldl_append,List.getD_eq_getElem?_getD,List.getElem?_eq_getElem h];rfl
def rL (l:List B8) (k a:Nat):Option (AV×List AV):=if k≤l.length-a then some (.w32 (fRs ((l.drop a).take k)),[.sl l.length (c8 l),.i ((a+k:Nat):Int)])else none
theorem eKs {l:List B8} {k a:Nat} (h:k≤l.length-a):rL l k a=some (.w32 (fRs ((l.drop a).take k)),[.sl l.length (c8 l),.i ((a+k:Nat):Int)]):=J4 h
theorem fPs {l:List B8} {k a:Nat} (h: ¬k≤l.length-a):rL l k a=none:=J3 h
def eN:List AV→List AV→Option (Option (AV×List AV))
 |[.op _ 0,.i k],[.sl n xs,.i a]=>aK (fHq xs) fun l=>aN (l.length=n∧0≤k∧k≤4∧0≤a∧a≤n∧n≤100000) (some (rL l k.toNat a.toNat))
 |_,_=>none
theorem eYu (id n:Nat) (k a:Int) (xs:List AV):eN [.op id 0,.i k] [.sl n xs,.i a]=aK (fHq xs) fun l=>aN (l.length=n∧0≤k∧k≤4∧0≤a∧a≤n∧n≤100000) (some (rL l k.toNat a.toNat)):=(rfl)
attribute [go_sem] eYu
structure KC5 where
 k:Nat
 c:Nat
set_option maxHeartbeats 4000000 in
theorem ePt:fHs Tryz.prog GLh 32 (rdH eN)∧dE Tryz.prog GLh 32 chM (rdP eN):=by
 refine dT Tryz.func32 (aT rfl) ?_
 intro id off rest nx xs o hg
 unfold eN at hg
 split at hg
 ·rename_i id2 k0 n xs2 a0 heq
  simp only[List.cons.injEq,AV.op.injEq]at heq
  obtain⟨⟨rfl,rfl⟩,rfl⟩:=heq
  replace hg:=aJ hg;obtain⟨l,hl,hg⟩:=hg
  replace hg:=aP hg;obtain⟨⟨rfl,hk,hkb,ha,han,hnb⟩,hg⟩:=hg
  obtain rfl:=J0 hg
  have:=bW hl;subst this
  obtain⟨k,rfl⟩:=Int.eq_ofNat_of_zero_le hk
  obtain⟨a,rfl⟩:=Int.eq_ofNat_of_zero_le ha
  simp only[U2]at*
  refine⟨J1 rfl,fun hid=>?_⟩
  clear hl hg
  refine aA rfl (aW [0,1] rfl rfl rfl fun K hK=>?_)
  simp(disch:=omega) only[Tryz.f32,go_sem,↓reduceIte]
  refine hK _ ?_
  refine aB (aA rfl (aW [0,1,5] rfl rfl rfl fun K hK=>?_))
  simp(disch:=omega) only[Tryz.f32,go_sem,↓reduceIte]
  refine hK _ ?_
  refine aB ?_
  by_cases hka:k≤l.length-a
  ·rw[eKs hka]
   have ht:=eMu hka
   obtain⟨d,hd⟩: ∃d,(l.drop a).take k=d:=⟨_,rfl⟩
   rw[hd]at ht⊢
   have hdl:d.length=k:=by rw[←hd,List.length_take,List.length_drop];omega
   refine aA rfl (aA rfl (aC (Γ:=bC [(50,.heap (rdH fJ))]) [5,10,11,12] (aH eLb aO) rfl rfl rfl (fun K hK=>?_)))
   simp(disch:=omega) only[Tryz.f32,go_sem,↓reduceIte,ht,U2]
   refine hK _ ?_
   refine aB (aR 0 rfl rfl (bR (fun p:KC5=> {fr:=[(5,.w32 (fRs (d.take p.k))),(10,.sl k (c8 d)),(11,.i (k:Int)),(12,.i (p.k:Int))],hp:=upd (fun _=>none) id (.cells [.sl l.length (c8 l),.i ((a+k:Nat):Int)] true),nx:=0,cx:=p.c}) (fun p=>p.k≤k) (fun p=>k-p.k) rfl ⟨⟨0,_⟩,Nat.zero_le _,bD rfl rfl (U3 _)⟩ ?_))
   rintro⟨i,c⟩ hi n0
   simp only at hi⊢
   refine aA rfl (aW [13,5,10,11,12] rfl rfl rfl fun K hK=>?_)
   simp(disch:=omega) only[Tryz.f32,go_sem,↓reduceIte]
   refine hK _ ?_
   refine aB (aA rfl (bA (.tmp 13) rfl rfl rfl (fun h=>?_) (fun h=>?_)))
   ·refine aI rfl ?_
    have hil:i<d.length:=by omega
    have hix:=fQy d i hil
    have hst:=eOi d i hil
    refine aQ rfl (aB (aA rfl (aR 1 rfl rfl (aA rfl (aW [5,7,10,11,12] rfl rfl rfl fun K hK=>?_)))))
    simp(disch:=omega) only[Tryz.f32,go_sem,↓reduceIte]
    refine hK _ ?_
    refine aB (aW [5,10,11,12] rfl rfl rfl fun K hK=>?_)
    simp(disch:=omega) only[Tryz.f32,go_sem,↓reduceIte]
    refine hK _ ?_
    refine bU (aB (aW [5,10,11,12] rfl rfl rfl fun K hK=>?_))
    simp(disch:=omega) only[Tryz.f32,go_sem,↓reduceIte]
    refine hK _ ?_
    refine bT ?_
    refine⟨⟨i+1,_⟩,by simp only;omega,by simp only;omega,bD ?_ rfl (U3 _)⟩
    simp only[hst,Int.natCast_add,Int.natCast_one]
   refine aI rfl ?_
   obtain rfl:i=k:=by omega
   have e1:d.take i=d:=List.take_of_length_le (by omega)
   refine bF 0 rfl rfl (aY (aZ (bE (aB (aA rfl (aW [4] rfl rfl rfl fun K hK=>?_))))))
   simp(disch:=omega) only[Tryz.f32,go_sem,↓reduceIte,e1]
   refine hK _ ?_
   exact aB (aS rfl (⟨by simp only[bV,bK,bQ,Tryz.f32,go_sem],by simp only[aV,if_true],rfl,fVp _ _ _⟩))
  rw[fPs hka]
  have ht:=eOp hka
  refine aA rfl (aA rfl (dCn (Γ:=bC [(50,.heap (rdH fJ))]) 2 (rH) eLj (aH eLb aO) rfl rfl rfl (fun Z hZ=>?_)))
  simp(disch:=omega) only[Tryz.f32,go_sem,↓reduceIte,bG,eq_self,true_and,bP,List.map_cons,List.map_nil,List.append_nil,ht,U2,U0,U1]
  refine hZ _ ?_;clear hZ Z
  exact rfl
 cases hg
theorem dK:dE Tryz.prog GLh 32 chM (rdP eN):=ePt.2
theorem fSe:fHm Tryz.prog 32:=⟨_,Tryz.func32,rfl,rfl⟩
theorem fL:bX Tryz.prog GLh 32 (.heap (rdH eN)):=⟨⟨_,Tryz.func32,rfl,rfl⟩,ePt.1⟩
end Go.AX

namespace Go.AX
open Go Go.Proofs
set_option maxRecDepth 8000
abbrev Nm:=List (List B8)
structure NS where
 bg:Nat
 pl:Nat
 en:Option Nat
 tot:Nat
 acc:Nm
inductive NR where
 |no
 |done (n:Nm) (e:Nat)
 |go (s:NS)
def fHj (b:List B8) (s:NS):NR:=
 if b.length≤s.pl then .no
 else if(b.getD s.pl 0#8).toNat=0 then .done s.acc (s.en.getD (s.pl+1))
 else if 192≤(b.getD s.pl 0#8).toNat then
  if b.length≤s.pl+1 then .no
  else if s.bg≤((b.getD s.pl 0#8).toNat-192)*256+(b.getD (s.pl+1) 0#8).toNat then .no
  else .go ⟨((b.getD s.pl 0#8).toNat-192)*256+(b.getD (s.pl+1) 0#8).toNat,((b.getD s.pl 0#8).toNat-192)*256+(b.getD (s.pl+1) 0#8).toNat,some (s.en.getD (s.pl+2)),s.tot,s.acc⟩
 else if 63<(b.getD s.pl 0#8).toNat∨b.length-(s.pl+1)<(b.getD s.pl 0#8).toNat then .no
 else if 255<s.tot+(1+(b.getD s.pl 0#8).toNat)then .no
 else .go ⟨s.bg,s.pl+1+(b.getD s.pl 0#8).toNat,s.en,s.tot+(1+(b.getD s.pl 0#8).toNat),s.acc++[(b.drop (s.pl+1)).take (b.getD s.pl 0#8).toNat]⟩
def nMu (b:List B8) (s:NS):Nat:=s.bg*(b.length+1)+(b.length-s.pl)
theorem fIu {b:List B8} {s t:NS} (h:fHj b s=.go t):nMu b t<nMu b s:=by
 unfold fHj at h
 split at h
 ·cases h
 rename_i h1
 split at h
 ·cases h
 split at h
 ·split at h
  ·cases h
  split at h
  ·cases h
  rename_i h4
  cases h
  unfold nMu
  simp only
  obtain⟨q,hq⟩: ∃q,((b.getD s.pl 0#8).toNat-192)*256+(b.getD (s.pl+1) 0#8).toNat=q:=⟨_,rfl⟩
  rw[hq]at h4⊢
  have h5:(q+1)*(b.length+1)≤s.bg*(b.length+1):=Nat.mul_le_mul_right _ (by omega)
  rw[Nat.succ_mul]at h5
  omega
 split at h
 ·cases h
 rename_i h3
 split at h
 ·cases h
 cases h
 unfold nMu
 simp only
 omega
def fIv (b:List B8):Nat→NS→Option (Nm×Nat)
 |0,_=>none
 |f+1,s=>match fHj b s with
  | .no=>none
  | .done n e=>some (n,e)
  | .go t=>fIv b f t
theorem fHz {b:List B8} {f:Nat} {s:NS} (h:fHj b s=.no):fIv b (f+1) s=none:=by rw[fIv,h]
theorem fJi {b:List B8} {f:Nat} {s:NS} {n:Nm} {e:Nat} (h:fHj b s=.done n e):fIv b (f+1) s=some (n,e):=by rw[fIv,h]
theorem fIo {b:List B8} {f:Nat} {s t:NS} (h:fHj b s=.go t):fIv b (f+1) s=fIv b f t:=by rw[fIv,h]
def ns0 (a:Nat):NS:=⟨a,a,none,1,[]⟩
def fJj (b:List B8) (a:Nat):Option (Nm×Nat):=fIv b (nMu b (ns0 a)+1) (ns0 a)
structure NI (b:List B8) (s:NS):Prop where
 en: ∀e,s.en=some e→e≤b.length
 lab: ∀l∈s.acc,1≤l.length∧l.length≤63
 tot:1+(s.acc.map fun l=>l.length+1).sum=s.tot
 le:s.tot≤255
theorem NI.start (b:List B8) (a:Nat):NI b (ns0 a):=⟨fun _ h=>by simp[ns0]at h,fun _ h=>by simp[ns0]at h,rfl,by show 1≤255;omega⟩
theorem fKp: ∀l:Nm,l.length≤(l.map fun x=>x.length+1).sum
 |[]=>U3 _
 |x::r=>by
  have:=fKp r
  simp only[List.map_cons,List.sum_cons,List.length_cons]
  omega
theorem NI.cnt {b:List B8} {s:NS} (h:NI b s):s.acc.length≤255:=by
 have:=fKp s.acc
 have:=h.tot
 have:=h.le
 omega
theorem NI.step {b:List B8} {s t:NS} (h:NI b s) (hs:fHj b s=.go t):NI b t:=by
 unfold fHj at hs
 split at hs
 ·cases hs
 rename_i h1
 split at hs
 ·cases hs
 rename_i h0
 split at hs
 ·split at hs
  ·cases hs
  split at hs
  ·cases hs
  cases hs
  refine⟨fun e he=>?_,h.lab,h.tot,h.le⟩
  obtain rfl:=J0 he
  rcases hse:s.en with _|e
  ·show s.pl+2≤b.length;omega
  exact h.en e hse
 split at hs
 ·cases hs
 rename_i h3
 split at hs
 ·cases hs
 rename_i h4
 cases hs
 have hl:((b.drop (s.pl+1)).take (b.getD s.pl 0#8).toNat).length=(b.getD s.pl 0#8).toNat:=by rw[List.length_take,List.length_drop];omega
 refine⟨h.en,fun l hm=>?_,?_,by simp only;omega⟩
 ·rcases List.mem_append.1 hm with hm|hm
  ·exact h.lab l hm
  rw[List.mem_singleton]at hm;subst hm;omega
 have:=h.tot
 simp only[List.map_append,List.sum_append,List.map_cons,List.map_nil,List.sum_cons,List.sum_nil,hl]
 omega
theorem NI.done {b:List B8} {s:NS} (h:NI b s) {n:Nm} {e:Nat} (hs:fHj b s=.done n e):n=s.acc∧e=s.en.getD (s.pl+1)∧e≤b.length:=by
 unfold fHj at hs
 split at hs
 ·cases hs
 rename_i h1
 split at hs
 ·cases hs
  refine⟨rfl,rfl,?_⟩
  rcases hse:s.en with _|e
  ·show s.pl+1≤b.length;omega
  exact h.en e hse
 split at hs
 ·split at hs
  ·cases hs
  split at hs<;>cases hs
 split at hs
 ·cases hs
 split at hs<;>cases hs
theorem fKo {b:List B8}: ∀ {f:Nat} {s:NS} {n:Nm} {e:Nat},NI b s→fIv b f s=some (n,e)→e≤b.length∧(∀l∈n,1≤l.length∧l.length≤63)∧1+(n.map fun l=>l.length+1).sum≤255
 |0,_,_,_,_,h=>by cases h
 |f+1,s,n,e,hi,h=>by
  rcases hs:fHj b s with _|⟨n2,e2⟩|t
  ·rw[fHz hs]at h;cases h
  ·rw[fJi hs]at h
   simp only[Option.some.injEq,Prod.mk.injEq]at h
   obtain⟨rfl,rfl⟩:=h
   obtain⟨rfl,_,h3⟩:=hi.done hs
   exact⟨h3,hi.lab,by rw[hi.tot];exact hi.le⟩
  rw[fIo hs]at h
  exact fKo (hi.step hs) h
theorem fLw {b:List B8} {a:Nat} {n:Nm} {e:Nat} (h:fJj b a=some (n,e)):e≤b.length∧(∀l∈n,1≤l.length∧l.length≤63)∧1+(n.map fun l=>l.length+1).sum≤255:=fKo (NI.start b a) h
structure QN where
 n:Nm
 t:BitVec 16
 c:BitVec 16
def n16 (b:List B8) (a:Nat):BitVec 16:=(fRs ((b.drop a).take 2)).setWidth 16
def qnR (b:List B8) (a:Nat):Option (QN×Nat):=match fJj b a with
 |none=>none
 |some (n,e)=>if e+2+2≤b.length then some (⟨n,n16 b e,n16 b (e+2)⟩,e+2+2)else none
def fJv (b:List B8):Nat→Nat→List QN→Option (List QN×Nat)
 |0,a,l=>some (l,a)
 |k+1,a,l=>match qnR b a with
  |none=>none
  |some (q,e)=>fJv b k e (l++[q])
theorem fNn {b:List B8} {a:Nat} {q:QN} {e:Nat} (h:qnR b a=some (q,e)):e≤b.length:=by
 unfold qnR at h
 split at h
 ·cases h
 split at h
 ·simp only[Option.some.injEq,Prod.mk.injEq]at h
  omega
 cases h
end Go.AX

namespace Go.AX
open Go
def bSj (P:Program) (GL:Nat→Option (List AV)) (f:FuncId) (u u':FrameMode) (g:List AV→H→Nat→Option (H×Nat)):Prop:=
 ∀(c:Ctx) (σ:Nat→Loc) (I:Nat→Prop) (w:World) (hp:H) (nx:Nat) (args:List AV) (vals:Array Value) (hp':H) (nx':Nat),
  c.GL=GL→Inv c σ I w hp (fun id=>nx≤id)→vals.size=args.length→(∀i (_h:i<args.length),Rel σ I w args[i] (vals.getD i undef))→g args hp nx=some (hp',nx')→
  nx≤nx'∧CallsD P f vals u w fun e u1 w'=> ∃v σ' I',e=.returned v∧u1=u'∧Inv c σ' I' w' hp' (fun id=>nx'≤id)∧iO σ I w σ' I' w'∧(∀id,id<nx→σ id=.unset→σ' id=.unset)
def cIv:FrameMode→Option (Value×FrameMode)
 | .panicking ({v,recovered:=false,goexit:=false}::older)=>some (v,.panicking ({v,recovered:=true}::older))
 |_=>none
theorem uD (c₀:Frame) (cs:List Frame):recoverD (c₀::cs)=(cIv c₀.mode).map fun p=>(p.1,{c₀ with mode:=p.2}::cs):=by
 obtain⟨fn,tmps,todo,defers,mode,kind,roundOf⟩:=c₀
 cases mode with
 |run=>rfl
 |returning=>rfl
 |panicking l=>
  cases l with
  |nil=>rfl
  |cons p r=>
   obtain⟨v,rec,ge⟩:=p
   cases rec<;>cases ge<;>rfl
section
variable {P : Program} {GL : Nat → Option (List AV)}
theorem fZ {f:FuncId} {fn:Func} {rest:Code} {id:Nat} {a b:Tmp} {ty1 ty2:TypeId} {p1 p2:String} {af1 af2:Array Edge} {u u':FrameMode} {rv:Value} {g:List AV→H→Nat→Option (H×Nat)} (hf:P.funcs[f]? =some fn)
  (hb:fn.body=some (.seq (.region id #[{dst:=some a,op:=.call {callee:=.builtin .recover,args:= #[],argTypes:= #[]},type:=ty1,pos:=p1,after:=af1,guard:=none},{dst:=some b,op:=.assign (.tmp a),type:=ty2,pos:=p2,after:=af2,guard:=none}] false) rest))
  (hu:(cIv u=some (rv,u'))∨(cIv u=none∧rv=.nilIface∧u'=u)) (hab:a<fn.ntmps∧b<fn.ntmps)
  (h: ∀args hp nx hp' nx',g args hp nx=some (hp',nx')→args.length≤fn.ntmps∧nx≤nx'∧((∀id,nx≤id→hp id=none)→Awp P GL fn.ntmps rest {fr:=(b,ofV rv)::(a,ofV rv)::aOo 0 args,hp:=hp,nx:=nx,cx:=nx} (bMy P fn.results.toList (.tup []) hp' nx'))):bSj P GL f u u' g:=by
 intro c σ I w hp nx args vals hp' nx' hGL hi hs hr hg
 obtain⟨hlen,hle,haw⟩:=h args hp nx hp' nx' hg
 refine⟨hle,?_⟩
 have hi':Inv {c with nt:=fn.ntmps,u0:=fun id=>id<nx∧σ id=.unset,df:=[]} σ I w hp (fun id=>nx≤id∨(id<nx∧σ id=.unset)):=
  ⟨hi.ext,hi.imm,hi.iw,hi.os,hi.tape,hi.output,hi.size,hi.old,hi.ilt,hi.own,hi.inj,hi.lim,fun id h=>h.elim (hi.un id) (fun h=>h.2),hi.glob,hi.inew⟩
 let a0:Act:= {tmps:=vals++Array.replicate (fn.ntmps-vals.size) undef,defers:=[]}
 have hsz0:a0.tmps.size=fn.ntmps:=by show(vals++Array.replicate (fn.ntmps-vals.size) undef).size=_;simp[hs];omega
 let a1:Act:=(a0.put (some a) rv).put (some b) rv
 have ha1:(a0.put (some a) rv).eval (.tmp a)=rv:=by
  show((a0.tmps.setIfInBounds a rv).getD a undef)=rv
  rw[Array.getD_eq_getD_getElem?,Array.getElem?_setIfInBounds_self_of_lt (by rw[hsz0];exact hab.1)];rfl
 refine callsD_of_wpS hf hb fun c₀ cs hmode=>?_
 have key:rest.wpS P (bodyPostS P fn c₀ cs (fun e u1 w'=> ∃v σ' I',e=.returned v∧u1=u'∧Inv c σ' I' w' hp' (fun id=>nx'≤id)∧iO σ I w σ' I' w'∧(∀id,id<nx→σ id=.unset→σ' id=.unset))) a1 ({c₀ with mode:=u'}::cs) w:=by
  refine wpS_of_wp (wp_mono (haw (fun id hid=>hi.none_un hid) {c with nt:=fn.ntmps,u0:=fun id=>id<nx∧σ id=.unset,df:=[]} hGL rfl σ I w a1 w ?_) ?_)
  ·refine⟨⟨σ,I,?_,iO.refl _ _ _,?_⟩,rfl,by rw[pX,pX];exact hsz0,fun k hk=>hk.elim,fun id hid=>⟨hid.1,hid.1⟩⟩
   ·refine hi'.mono_un fun id hid=>?_
    rcases hid with hid|⟨k,hk,_⟩|hid
    ·exact .inl hid
    ·exact hk.elim
    ·exact .inr hid
   ·have h1:=vT (n:=fn.ntmps) (dst:=some a) (x:=ofV rv) (v:=rv) hsz0 (fun d hd=>by obtain rfl:=J0 hd;exact hab.1) (fun _=>vP rv) (fun t=>oG (n:=fn.ntmps-vals.size) hs hr t)
    exact vT (n:=fn.ntmps) (dst:=some b) (x:=ofV rv) (v:=rv) (by rw[pX];exact hsz0) (fun d hd=>by obtain rfl:=J0 hd;exact hab.2) (fun _=>vP rv) h1
  ·rintro e a' w' ⟨t,hq,hR⟩
   have hd:a'.defers=[]:=hR.defers
   obtain⟨⟨σ',I',b1,b2,b3⟩,_⟩:=hR
   have hq2:(e=.ret∨e=.normal)∧wZ P fn.results.toList (.tup []) hp' nx' t:=by
    cases e<;>first|exact⟨.inl rfl,hq⟩|exact⟨.inr rfl,hq⟩|exact hq.elim
   obtain⟨he,q1,q2,q3⟩:=hq2
   obtain⟨v,hv,hrel⟩:=eZ (P:=P) b1 b3 q1
   have b1':=b1.sub q2
   have fin:a'.defers=[]∧∃u1,({c₀ with mode:=u'}::cs:List Frame)= {c₀ with mode:=u1}::cs∧∃v,(results fn a'.tmps).run P w'=.ok v w'∧∃v1 σ' I',Ending.returned v=.returned v1∧u1=u'∧Inv c σ' I' w' hp' (fun id=>nx'≤id)∧iO σ I w σ' I' w'∧(∀id,id<nx→σ id=.unset→σ' id=.unset):=
    ⟨hd,u',rfl,v,hv,v,σ',I',rfl,rfl,⟨b1'.ext,b1'.imm,b1'.iw,b1'.os,b1'.tape,b1'.output,b1'.size,b1'.old,b1'.ilt,b1'.own,b1'.inj,b1'.lim,fun id h=>b1'.un id (.inl (Nat.le_trans q3 h)),b1'.glob,b1'.inew⟩,b2,fun id hid hun=>b1.un id (.inr (.inr ⟨hid,hun⟩))⟩
   rcases he with rfl|rfl
   ·exact fin
   ·exact fin
 generalize bodyPostS P fn c₀ cs _=Q at key⊢
 have hav:a<vals.size+(fn.ntmps-vals.size):=Nat.lt_of_lt_of_le hab.1 (by omega)
 apply wpS_seq
 apply wpS_region
 rcases hu with hu|⟨hu,rfl,rfl⟩
 ·simp[wpOpsS,go_sem,uD,hmode,hu,Exit.thenS,hav]
  exact key
 ·have hc:({c₀ with mode:=u'}:Frame)=c₀:=by cases c₀;simp at hmode;subst hmode;rfl
  rw[hc]at key
  simp[wpOpsS,go_sem,uD,hmode,hu,Exit.thenS,hav]
  exact key
def fDc (P:Program) (rs:List ResultVar) (ch:List PanicEntry) (gI gP:List AV→H→Nat→Option (H×Nat)) (capsA:List AV) (r:AV):Exit→S→Prop
 | .ret,t=> ∃p,gI capsA t.hp t.cx=some p∧aK (bV P rs {t with hp:=p.1}) (zB 4 p.1)=some r
 | .normal,t=> ∃p,gI capsA t.hp t.cx=some p∧aK (bV P rs {t with hp:=p.1}) (zB 4 p.1)=some r
 | .panic c,t=>c=ch∧∃p,gP capsA t.hp t.cx=some p∧aK (bV P rs {t with hp:=p.1}) (zB 4 p.1)=some r
 |_,_=>False
def dBa (k:Tmp) (d:FuncId) (capsA:List AV) (t:S):S:= {fr:=(k,.fn d capsA)::t.fr,hp:=t.hp,nx:=t.nx,cx:=t.cx}
def dYy (P:Program) (GL:Nat→Option (List AV)) (nt:Nat) (C:Code) (k:Tmp) (d:FuncId) (caps:List Operand) (capsA:List AV) (Q:Exit→S→Prop):Exit→S→Prop
 | .normal,t=>caps.map (ev GL t.fr)=capsA∧Awp P GL nt C (dBa k d capsA t) Q
 |_,_=>False
theorem cUy {f d:FuncId} {fn:Func} {r0 C:Code} {id:Nat} {k:Tmp} {caps:Array Operand} {ty1 ty2:TypeId} {p1 p2:String} {af1 af2:Array Edge} {ch:List PanicEntry} {u':FrameMode} {gI gP:List AV→H→Nat→Option (H×Nat)} {g:List AV→Option AV} (hf:P.funcs[f]? =some fn)
  (hb:fn.body=some (.seq r0 (.seq (.region id #[{dst:=some k,op:=.makeFunc (.func d) #[] caps,type:=ty1,pos:=p1,after:=af1,guard:=none},{dst:=none,op:=.defer {callee:=.value (.tmp k),args:= #[],argTypes:= #[]},type:=ty2,pos:=p2,after:=af2,guard:=none}] false) C)))
  (hk:k<fn.ntmps) (hd:fHm P d) (hI:bSj P GL d .returning .returning gI) (hP:bSj P GL d (.panicking ch) u' gP) (hu:settle u'=.returning)
  (h: ∀args r,g args=some r→args.length≤fn.ntmps∧∀nx,∃capsA,Awp P GL fn.ntmps r0 (sN args (fun _=>none) nx) (dYy P GL fn.ntmps C k d caps.toList capsA (fDc P fn.results.toList ch gI gP capsA r))):fHn P GL f g:=by
 intro σ I w nx args vals r h1 h2 h3 hs hr hg
 obtain⟨hlen,haw⟩:=h args r hg
 obtain⟨capsA,haw⟩:=haw nx
 let c:=aPf σ I w GL fn.ntmps nx
 refine calls_of_wp_defers hf hb ?_
 refine wp_seq (wp_mono (haw c rfl rfl σ I w {tmps:=vals++Array.replicate (fn.ntmps-vals.size) undef,defers:=[]} w ?_) ?_)
 ·refine⟨⟨σ,I,?_,iO.refl _ _ _,fun t=>oG hs hr t⟩,rfl,by show _=fn.ntmps;simp[hs];omega,fun k hk=>hk.elim,fun id hid=>⟨hid.1,hid.1⟩⟩
  refine(bYs h1 h2 h3).mono_un fun id hid=>?_
  rcases hid with hid|⟨k,hk,_⟩|hid
  ·exact .inl hid
  ·exact hk.elim
  ·exact .inr hid
 rintro e a0 w0 ⟨t0,hq,hR⟩
 cases e with
 |normal=>
  obtain⟨hcaps,hC⟩:=hq
  refine wp_seq ?_
  refine wp_region_list ?_
  obtain⟨⟨σ1,I1,b1,b2,b3⟩,bd,bs,blt,blt0⟩:=hR
  obtain⟨V,hV⟩: ∃V,caps.map a0.eval=V:=⟨_,rfl⟩
  have hVs:V.size=capsA.length:=by rw[←hV,←hcaps];simp
  have hVr: ∀i (_h:i<capsA.length),Rel σ1 I1 w0 capsA[i] (V.getD i undef):=by
   subst hcaps
   intro i hi
   have:=aAc (l:=caps.toList) (aJt b1 b3) i (by simpa using hi)
   rw[fI,List.getD_eq_getElem?_getD]at this
   have e:V[i]? =(List.map a0.eval caps.toList)[i]?:=by rw[←hV,←Array.toList_map,Array.getElem?_toList]
   rw[Array.getD_eq_getD_getElem?,e];exact this
  let D:Deferred:= {target:=.fn (.func d) V,args:= #[]}
  let a1:Act:=a0.put (some k) (.func (.func d) #[] V)
  let a2:Act:= {a1 with defers:=D::a1.defers}
  have hbs:a0.tmps.size=fn.ntmps:=bs
  have ha1:a1.eval (.tmp k)=.func (.func d) #[] V:=by
   show((a0.tmps.setIfInBounds k _).getD k undef)=_
   rw[Array.getD_eq_getD_getElem?,Array.getElem?_setIfInBounds_self_of_lt (by rw[hbs];exact hk)];rfl
  unfold wpList
  rw[J4 (by simp[Region.wanted])]
  refine .inl ?_
  have e1:(execOp a0.eval {dst:=some k,op:=.makeFunc (.func d) #[] caps,type:=ty1,pos:=p1,after:=af1,guard:=none}).run P w0=.ok (.value (.func (.func d) #[] V)) w0:=by
   rw[←hV]
   simp only[execOp,Instr.makeFunc,Array.map_empty,Sem.run_bind,Sem.run_pure,Result.andThen_ok]
  unfold Oper.wp
  rw[e1]
  show wpList P _ _ _ a1 w0
  unfold wpList
  rw[J4 (by simp[Region.wanted])]
  refine .inl ?_
  have e2:(execOp a1.eval {dst:=none,op:=.defer {callee:=.value (.tmp k),args:= #[],argTypes:= #[]},type:=ty2,pos:=p2,after:=af2,guard:=none}).run P w0=.ok (.defer D) w0:=by
   simp only[execOp,resolve,ha1,Deferred.ofValue,Sem.run_bind,Sem.run_pure,Result.andThen_ok,Array.map_empty,Array.append_empty];rfl
  unfold Oper.wp
  rw[e2]
  show Code.wp P C _ a2 w0
  have hadf:a0.defers=[]:=bd
  have hR2:R {c with df:=[D]} σ1 I1 w0 (fun _=>False) (dBa k d capsA t0) a2 w0:=by
   refine⟨⟨σ1,I1,⟨b1.ext,b1.imm,b1.iw,b1.os,b1.tape,b1.output,b1.size,b1.old,b1.ilt,b1.own,b1.inj,b1.lim,b1.un,b1.glob,b1.inew⟩,iO.refl _ _ _,?_⟩,?_,?_,fun k hk=>hk.elim,blt0⟩
   ·exact vT (n:=fn.ntmps) (dst:=some k) (x:=.fn d capsA) (v:=.func (.func d) #[] V) hbs (fun d' hd'=>by obtain rfl:=J0 hd';exact hk) (fun _=> .fn d capsA V hVs hVr) b3
   ·show D::a0.defers=[D];rw[hadf]
   ·show(a0.put (some k) _).tmps.size=_;rw[pX];exact hbs
  refine wp_mono (hC {c with df:=[D]} rfl rfl σ1 I1 w0 a2 w0 hR2) ?_
  rintro e a' w' ⟨t,hq,hR'⟩
  have hd':a'.defers=[D]:=hR'.defers
  obtain⟨⟨σ2,I2,c1,c2,c3⟩,_,_,_,clt0⟩:=hR'
  obtain⟨fnd,q1,q2,q3⟩:=hd
  have hinv:(invoke (.fn (.func d) V) #[]).run P w'=.ok (.enter d V) w':=by
   simp only[invoke,Array.empty_append,callFunc,Sem.run_bind,run_program,Result.andThen_ok,q1,q2,q3,Bool.false_eq_true,if_false,Sem.run_pure]
  have hVr2: ∀i (_h:i<capsA.length),Rel σ2 I2 w' capsA[i] (V.getD i undef):=fun i hi=>(hVr i hi).grow c2
  have fin: ∀(p:H×Nat) (σ3:Nat→Loc) (I3:Nat→Prop) (w3:World),aK (bV P fn.results.toList {t with hp:=p.1}) (zB 4 p.1)=some r→Inv {c with df:=[D]} σ3 I3 w3 p.1 (fun id=>p.2≤id)→iO σ2 I2 w' σ3 I3 w3→(∀id,id<t.cx→σ2 id=.unset→σ3 id=.unset)→
    ∃v,(results fn a'.tmps).run P w3=.ok v w3∧∃v' σ' I',Ending.returned v=.returned v'∧w3.os=w.os∧w3.tape=w.tape∧w3.output=w.output∧w.heap.size≤w3.heap.size∧(∀k,k<w.heap.size→w3.heap[k]? =w.heap[k]?)∧
     (∀id,id<nx→σ' id=σ id)∧(∀k,I' k→I k∨w.heap.size≤k)∧(∀k,I' k→k<w3.heap.size)∧Rel σ' I' w3 r v':=by
   intro p σ3 I3 w3 hres d1 d2 d3
   replace hres:=aJ hres;obtain⟨x,hx,him⟩:=hres
   obtain⟨v,hv,hrel⟩:=eZ (P:=P) (t:= {t with hp:=p.1}) d1 (fun k=>(c3 k).grow d2) hx
   have hI: ∀k,I3 k→(I3 k∨∃id o base sz,p.1 id=some o∧σ3 id=.at_ k base sz):=fun k hk=> .inl hk
   obtain⟨him',_⟩:=qH d1 hI (fun id o blk base sz e1 e2=> .inr ⟨id,o,base,sz,e1,e2⟩) 4 him hrel
   have hkeep: ∀id,id<nx→σ3 id=σ id:=by
    intro id hid
    by_cases e:σ id=.unset
    ·have hu0:c.u0 id:=⟨hid,e⟩
     rw[e];exact d3 id (clt0 id hu0).2 (c1.un id (.inr (.inr hu0)))
    ·exact d1.ext id e
   refine⟨v,hv,v,σ3,fun k=>I3 k∨∃id o base sz,p.1 id=some o∧σ3 id=.at_ k base sz,rfl,d1.os,d1.tape,d1.output,d1.size,fun k hk=>d1.old k hk (fun h=>h),hkeep,fun k hk=>?_,fun k hk=>?_,him'⟩
   ·rcases hk with hk|⟨id,o,base,sz,e1,e2⟩
    ·rcases d1.inew k hk with h|h|h
     ·exact .inl h
     ·exact .inr h
     ·exact h.elim
    ·rcases d1.blkNew e1 e2 with h|h|h
     ·exact .inl h
     ·exact .inr h
     ·exact h.elim
   ·rcases hk with hk|⟨id,o,base,sz,e1,e2⟩
    ·exact d1.ilt k hk
    ·exact(d1.own id o e1).lt e2
  have c1':Inv {c with df:=[D]} σ2 I2 w' t.hp (fun id=>t.cx≤id):=c1.mono_un fun id hid=> .inl hid
  have ret:(∃p,gI capsA t.hp t.cx=some p∧aK (bV P fn.results.toList {t with hp:=p.1}) (zB 4 p.1)=some r)→Leaves P fn a'.tmps (fun e w3=> ∃v' σ' I',e=.returned v'∧w3.os=w.os∧w3.tape=w.tape∧w3.output=w.output∧w.heap.size≤w3.heap.size∧(∀k,k<w.heap.size→w3.heap[k]? =w.heap[k]?)∧
     (∀id,id<nx→σ' id=σ id)∧(∀k,I' k→I k∨w.heap.size≤k)∧(∀k,I' k→k<w3.heap.size)∧Rel σ' I' w3 r v') a'.defers .returning w':=by
   rintro⟨p,hp1,hres⟩
   rw[hd']
   obtain⟨_,hcalls⟩:=hI {c with df:=[D]} σ2 I2 w' t.hp t.cx capsA V p.1 p.2 rfl c1' hVs hVr2 hp1
   refine leaves_cons (by simp) hinv (fun c₀ cs hm=>?_)
   obtain⟨e',u1,w3,fr',hRR,hst⟩:=hcalls c₀ cs hm
   refine⟨e',u1,w3,fr',?_,hst⟩
   obtain⟨v,σ3,I3,rfl,rfl,d1,d2,d3⟩:=hRR
   exact fin p σ3 I3 w3 hres d1 d2 d3
  cases e with
  |ret=>exact ret hq
  |normal=>exact ret hq
  |panic ch'=>
   obtain⟨rfl,p,hp1,hres⟩:=hq
   show Leaves P fn a'.tmps _ a'.defers (.panicking ch') w'
   rw[hd']
   obtain⟨_,hcalls⟩:=hP {c with df:=[D]} σ2 I2 w' t.hp t.cx capsA V p.1 p.2 rfl c1' hVs hVr2 hp1
   refine leaves_cons (by simp) hinv (fun c₀ cs hm=>?_)
   obtain⟨e',u1,w3,fr',hRR,hst⟩:=hcalls c₀ cs hm
   refine⟨e',u1,w3,fr',?_,hst⟩
   obtain⟨v,σ3,I3,rfl,rfl,d1,d2,d3⟩:=hRR
   show Leaves P fn a'.tmps _ [] (settle u1) w3
   rw[hu]
   exact fin p σ3 I3 w3 hres d1 d2 d3
  |_=>exact hq.elim
 |_=>exact hq.elim
end
end Go.AX

namespace Go.AX
open Go
section
variable {P : Program} {Γ : Env} {c : Ctx} {σ0 : Nat → Loc} {I0 : Nat → Prop} {w0 : World} {md : Nat → Nat} {ops : Array Oper}
end
def yR (P:Program) (Γ:Env) (GL:Nat→Option (List AV)) (m n k:Nat) (s:S):Option LOp→Option S
 |some o=>eEj P Γ GL m n k o s
 |none=>none
theorem eDt (P Γ GL m n k s o):yR P Γ GL m n k s (some o)=eEj P Γ GL m n k o s:=(rfl)
def aUe (f:List Nat→Prop):List (List Nat)→Prop
 |[]=>True
 |l::r=>f l∧aUe f r
theorem aQh (f):aUe f []=True:=(rfl)
theorem aHu (f l r):aUe f (l::r)=(f l∧aUe f r):=(rfl)
theorem aDs {f:List Nat→Prop}: ∀ {L:List (List Nat)},aUe f L→∀l∈L,f l
 |[],_,l,h=>by cases h
 |x::r,h,l,hl=>by
  rcases List.mem_cons.1 hl with e|hl
  ·subst e;exact h.1
  exact aDs h.2 l hl
end Go.AX

namespace Go.AX
open Go
end Go.AX

namespace Go.AX
open Go
def bOr (h:FuncId) (g:List AV→Option AV) (x:AV) (id off:Nat) (hp:H) (nx:Nat):AO→Option (AV×H×Nat)
 | .cells xs _=>aK (g [x,.fn h [.rp (xs.drop off)]]) fun r=>aN (r.ids=0) (some (r,upd hp id (.cells xs false),nx))
 |_=>none
def bOt (h:FuncId) (g:List AV→Option AV):List AV→H→Nat→Option (AV×H×Nat)
 |[x,.fn h' [.op id off]],hp,nx=>aN (h'=h) (aK (hp id) (bOr h g x id off hp nx))
 |_,_,_=>none
theorem bOs (h h':FuncId) (g:List AV→Option AV) (x:AV) (id off:Nat) (hp:H) (nx:Nat):bOt h g [x,.fn h' [.op id off]] hp nx=aN (h'=h) (aK (hp id) (bOr h g x id off hp nx)):=(rfl)
theorem cBn (h:FuncId) (g:List AV→Option AV) (x:AV) (id off:Nat) (hp:H) (nx:Nat) (xs:List AV) (mt:Bool):bOr h g x id off hp nx (.cells xs mt)=aK (g [x,.fn h [.rp (xs.drop off)]]) fun r=>aN (r.ids=0) (some (r,upd hp id (.cells xs false),nx)):=(rfl)
attribute [go_sem] bOs cBn
theorem cSn {P:Program} {GL:Nat→Option (List AV)} {f h:FuncId} {g:List AV→Option AV} (hok:fHn P GL f g):fHs P GL f (bOt h g):=by
 intro c σ I w hp nx args vals r hp' nx' hGL hi hs hr hg
 unfold bOt at hg
 split at hg
 rotate_left
 ·cases hg
 rename_i x h' id off
 replace hg:=aP hg;obtain⟨rfl,hg⟩:=hg
 replace hg:=aJ hg;obtain⟨o,ho,hg⟩:=hg
 obtain⟨xs,mt,rfl⟩: ∃a b,o=AO.cells a b:=by cases o<;>first|exact⟨_,_,rfl⟩|(cases hg)
 replace hg:=aJ (show aK (g [x,.fn h' [.rp (xs.drop off)]]) _=_ from hg);obtain⟨r',hr',hg⟩:=hg
 replace hg:=aP hg;obtain⟨hids,hg⟩:=hg
 simp only[Option.some.injEq,Prod.mk.injEq]at hg;obtain⟨rfl,rfl,rfl⟩:=hg
 refine⟨U3 _,?_⟩
 have h00:=hr 0 (by simp)
 simp only[List.getElem_cons_zero]at h00
 have h0:=hr 1 (by simp)
 simp only[List.getElem_cons_succ,List.getElem_cons_zero]at h0
 have hv: ∃vs:Array Value,vals.getD 1 undef=.func (.func h') #[] vs∧vs.size=1∧Rel σ I w (.op id off) (vs.getD 0 undef):=by
  generalize vals.getD 1 undef=u at h0
  cases h0 with
  |fn _ _ vs h1 h2=>exact⟨vs,rfl,h1,h2 0 (by simp)⟩
 obtain⟨vs,hv,hvs,hvr⟩:=hv
 obtain⟨I1,b1,b2,b3⟩:=gN (x:=.op id off) (v:=vs.getD 0 undef) (p:=(.rp (xs.drop off),upd hp id (.cells xs false))) (by simp only[dW,ho,aX]) hi hvr
 simp only at b2 b3
 subst hGL
 refine(hok σ I1 w (max nx r'.ids) [x,.fn h' [.rp (xs.drop off)]] vals r' (fun id hid=>b2.un id (by omega)) b2.ilt b2.glob (by simpa using hs) (fun i hi'=>?_) hr').mono ?_
 ·have:i=0∨i=1:=by simp at hi';omega
  rcases this with rfl|rfl
  ·simp only[List.getElem_cons_zero]
   exact h00.mono (fun _ _=>rfl) b1 (fun _ _=>rfl)
  simp only[List.getElem_cons_succ,List.getElem_cons_zero,hv]
  exact .fn h' _ vs hvs (fun i hi'=>by
   have:i=0:=by simpa using hi'
   subst this;exact b3)
 rintro e w' ⟨v,σ',I',rfl,a1,a2,a3,a4,a5,a6,a7,a8,a9⟩
 have hg1: ∀k,I1 k→(I1 k∨(w.heap.size≤k∧k<w'.heap.size)):=fun k hk=> .inl hk
 refine⟨v,σ,fun k=>I1 k∨(w.heap.size≤k∧k<w'.heap.size),rfl,b2.extend a1 a2 a3 a4 a5 _ hg1 (fun _ h=>h),?_,⟨fun _ _=>rfl,fun k hk=> .inl (b1 k hk),fun k hk=>a5 k (hi.ilt k hk)⟩,fun _ _ h=>h⟩
 have h9:Rel σ I' w' r' v:=a9.congr_ids fun id hid=>by omega
 exact h9.mono (fun _ _=>rfl) (fun k hk=>by
  rcases a7 k hk with h|h
  ·exact .inl h
  exact .inr ⟨h,a8 k hk⟩) (fun _ _=>rfl)
end Go.AX

namespace Go.AX
open Go
theorem lW {P:Program} {GL:Nat→Option (List AV)} {nt:Nat} {code:Code} {Q:Exit→S→Prop} {fr:List (Nat×AV)} {hp:H} {nx cx:Nat} (t id off:Nat) {xs:List AV} {mt:Bool} (hn:dG fr t=.op id off) (ho:hp id=some (.cells xs mt))
  (h:Awp P GL nt code {fr:=(t,.rp (xs.drop off))::fr,hp:=upd hp id (.cells xs false),nx:=nx,cx:=cx} Q):Awp P GL nt code {fr:=fr,hp:=hp,nx:=nx,cx:=cx} Q:=by
 intro c h1 h2 σ0 I0 w0 a w hR
 refine h c h1 h2 σ0 I0 w0 a w ?_
 obtain⟨⟨σ,I,a1,a2,a3⟩,b,d,e1,e0⟩:=hR
 have ht:=a3 t
 simp only at a1 a3 ht
 rw[hn]at ht
 obtain⟨I1,b1,b2,b3⟩:=gN (x:=.op id off) (p:=(.rp (xs.drop off),upd hp id (.cells xs false))) (by simp only[dW,ho,aX]) a1 ht
 have hg:iO σ I w σ I1 w:=⟨fun _ _=>rfl,b1,fun _ _=>rfl⟩
 refine⟨⟨σ,I1,b2,a2.trans hg,fun k=>?_⟩,b,d,e1,e0⟩
 simp only[dG]
 split
 ·rename_i e;subst e;exact b3
 ·exact(a3 k).grow hg
theorem pS {P:Program} {GL:Nat→Option (List AV)} {nt:Nat} {code:Code} {Q:Exit→S→Prop} {fr:List (Nat×AV)} {hp:H} {nx cx:Nat} (t id off n e:Nat) {g:Bool} {xs:List AV} {mt:Bool} (hn:dG fr t=.os id off n e g) (ho:hp id=some (.cells xs mt)) (hl:off+n*e≤xs.length)
  (h:Awp P GL nt code {fr:=(t,.sl n ((xs.drop off).take (n*e)))::fr,hp:=upd hp id (.cells xs false),nx:=nx,cx:=cx} Q):Awp P GL nt code {fr:=fr,hp:=hp,nx:=nx,cx:=cx} Q:=by
 intro c h1 h2 σ0 I0 w0 a w hR
 refine h c h1 h2 σ0 I0 w0 a w ?_
 obtain⟨⟨σ,I,a1,a2,a3⟩,b,d,e1,e0⟩:=hR
 have ht:=a3 t
 simp only at a1 a3 ht
 rw[hn]at ht
 obtain⟨I1,b1,b2,b3⟩:=gN (x:=.os id off n e g) (p:=(.sl n ((xs.drop off).take (n*e)),upd hp id (.cells xs false))) (by simp only[dW,ho,aX];rw[hH _ hl]) a1 ht
 have hg:iO σ I w σ I1 w:=⟨fun _ _=>rfl,b1,fun _ _=>rfl⟩
 refine⟨⟨σ,I1,b2,a2.trans hg,fun k=>?_⟩,b,d,e1,e0⟩
 simp only[dG]
 split
 ·rename_i e;subst e;exact b3
 ·exact(a3 k).grow hg
end Go.AX

namespace Go.AX
open Go
def aRu (P:Program) (Γ:Env) (md:Nat→Nat) (ops:Array Oper) (c d j i:Nat):Bool:=
 ((Region.before ops).getD i 0).testBit j||(j==c&&i==d)||match ops[j]?,ops[i]? with
  |some y,some x=>y.apart ops x&&eEq j i (tI P Γ (md j) y.op) (tI P Γ (md i) x.op)
  |_,_=>false
def aAb (P:Program) (Γ:Env) (md:Nat→Nat) (ops:Array Oper) (c d:Nat):List Nat→Bool
 |[]=>true
 |j::r=>(r.all fun i=>aRu P Γ md ops c d j i&&j !=i)&&aAb P Γ md ops c d r
def tJ (ops:Array Oper):Bool:=(List.range ops.size).all fun j=>match ops[j]? with
 |none=>true
 |some y=>y.after.all fun e=> !Region.binds .any e||decide (e.on<j)
def okL (P:Program) (Γ:Env) (md:Nat→Nat) (ops:Array Oper) (c d:Nat) (l:List Nat):Bool:=
 aAb P Γ md ops c d l&&((List.range ops.size).all fun i=>l.contains i)&&l.all fun i=>decide (i<ops.size)
theorem aCc {P:Program} {Γ:Env} {md:Nat→Nat} {ops:Array Oper} {c d:Nat}: ∀ {l:List Nat},aAb P Γ md ops c d l=true→l.Pairwise fun j i=>aRu P Γ md ops c d j i=true∧j≠i
 |[],_=> .nil
 |j::r,h=>by
  simp only[aAb,Bool.and_eq_true,List.all_eq_true]at h
  refine .cons (fun i hi=>?_) (aCc h.2)
  have:=h.1 i hi
  exact⟨this.1,by simpa using this.2⟩
section
variable {P : Program} {Γ : Env} {c : Ctx} {σ0 : Nat → Loc} {I0 : Nat → Prop} {w0 : World} {md : Nat → Nat} {ops : Array Oper}
def pT (listed:Array Bool) (i:Nat):Bool:= !listed.getD i true
theorem aAs {listed:Array Bool} {i:Nat}:pT listed i=true↔listed.getD i true=false:=by simp[pT]
theorem uQ (he:tJ ops=true) (listed:Array Bool) (hsz:listed.size=ops.size) (hr:Region.ready .any ops listed=[]): ∀i,i<ops.size→listed.getD i true=true:=by
 intro i
 induction i using Nat.strongRecOn with
 |_ i ih=>
  intro hlt
  cases hun:listed.getD i true with
  |true=>rfl
  |false=>
   have:i∈Region.ready .any ops listed:=by
    rw[mem_ready]
    refine⟨hun,ops[i],Array.getElem?_eq_getElem hlt,fun e he' hb=>?_⟩
    have h1:=List.all_eq_true.1 he i (List.mem_range.2 hlt)
    simp only[Array.getElem?_eq_getElem hlt]at h1
    have h2:=Array.all_eq_true_iff_forall_mem.1 h1 e he'
    have hlt':e.on<i:=by simpa [hb]using h2
    have h3:=ih e.on hlt' (by omega)
    have hs2:e.on<listed.size:=by omega
    rw[Array.getD_eq_getD_getElem?,Array.getElem?_eq_getElem hs2]at h3⊢
    exact h3
   rw[hr]at this;cases this
def uY (ops:Array Oper) (listed:Array Bool):Prop:= ∀m o,listed.getD m false=true→ops[m]? =some o→∀e∈o.after,Region.binds .any e=true→listed.getD e.on false=true
theorem aUa {listed:Array Bool} (hdc:uY ops listed) {m j:Nat} (ha:Anc ops m j) (h: ∀o,ops[m]? =some o→∀e∈o.after,Region.binds .any e=true→listed.getD e.on false=true):listed.getD j false=true:=by
 induction ha with
 |edge ho he hb=>exact h _ ho _ he hb
 |step ho he hb _ ih2=>exact ih2 fun o ho' e' he' hb'=>hdc _ o (h _ ho _ he hb) ho' e' he' hb'
theorem uY.set {listed:Array Bool} (hdc:uY ops listed) {i:Nat} {x:Oper} (hx:ops[i]? =some x) (hall: ∀e∈x.after,Region.binds .any e=true→listed.getD e.on false=true):uY ops (listed.setIfInBounds i true):=by
 intro m o hm ho e he hb
 by_cases hmi:m=i
 ·subst hmi
  rw[hx]at ho;obtain rfl:=J0 ho
  exact getD_set_true (hall e he hb)
 rw[getD_set_ne false (Ne.symm hmi)]at hm
 exact getD_set_true (hdc m o hm ho e he hb)
theorem qI {l:List Nat} {a0 b0:Nat} (hl:okL P Γ md ops a0 b0 l=true) {listed:Array Bool} (hsz:listed.size=ops.size) (hdc:uY ops listed) {i:Nat} (hi:i∈Region.ready .any ops listed) (hab:listed.getD a0 true=true∨i≠b0) {s sf:S}
  (hrun:dQ P Γ c.GL md ops (l.filter (pT listed)) s=some sf): ∃x s1 sf1,ops[i]? =some x∧kA P Γ c.GL md ops i x s=some s1∧dQ P Γ c.GL md ops (l.filter (pT (listed.setIfInBounds i true))) s1=some sf1∧fVo sf sf1:=by
 obtain⟨hun,x,hx,hall⟩:=mem_ready.1 hi
 have hlt:=(Array.getElem?_eq_some_iff.1 hx).1
 simp only[okL,Bool.and_eq_true,List.all_eq_true]at hl
 obtain⟨⟨h1,h2⟩,h3⟩:=hl
 have hpw:=(aCc h1).filter (pT listed)
 have hmem:i∈l.filter (pT listed):=List.mem_filter.2 ⟨by simpa using h2 i (List.mem_range.2 hlt),aAs.2 hun⟩
 obtain⟨p,q,hpq⟩:=List.append_of_mem hmem
 rw[hpq]at hpw hrun
 have hpi:=fun j (hj:j∈p)=>(List.pairwise_append.1 hpw).2.2 j hj i (by simp)
 have hiq:=fun j (hj:j∈q)=>(List.pairwise_cons.1 (List.pairwise_append.1 hpw).2.1).1 j hj
 obtain⟨s1,sf1,f1,f2,f3⟩:=wK hx p q (fun j hj=>by
  obtain⟨g1,g2⟩:=hpi j hj
  have hjm:j∈l.filter (pT listed):=by rw[hpq];simp[hj]
  have hjun:=aAs.1 (List.mem_filter.1 hjm).2
  have hjlt:j<ops.size:=by simpa using h3 j (List.mem_filter.1 hjm).1
  refine⟨g2,ops[j],Array.getElem?_eq_getElem hjlt,?_⟩
  simp only[aRu,Bool.or_eq_true,Bool.and_eq_true,beq_iff_eq,Array.getElem?_eq_getElem hjlt,hx]at g1
  rcases g1 with(g1|⟨rfl,rfl⟩)|g1
  ·have:=aUa hdc (oR ops i j g1) (fun o ho e he hb=>by rw[hx]at ho;obtain rfl:=J0 ho;exact hall e he hb)
   have hs2:j<listed.size:=by omega
   rw[Array.getD_eq_getD_getElem?,Array.getElem?_eq_getElem hs2]at hjun this
   simp only[Option.getD_some]at hjun this
   rw[hjun]at this;cases this
  ·rcases hab with h|h
   ·rw[h]at hjun;cases hjun
   ·exact absurd rfl h
  ·exact g1) hrun
 refine⟨x,s1,sf1,hx,f1,?_,f3⟩
 have hnew:l.filter (pT (listed.setIfInBounds i true))=p++q:=by
  have e1:l.filter (pT (listed.setIfInBounds i true))=(l.filter (pT listed)).filter (fun k=>k !=i):=by
   rw[List.filter_filter]
   refine List.filter_congr fun k hk=>?_
   by_cases hki:k=i
   ·subst hki
    unfold pT
    rw[Array.getD_eq_getD_getElem?,Array.getElem?_setIfInBounds_self_of_lt (by omega)];simp
   ·unfold pT
    rw[getD_set_ne true (Ne.symm hki)]
    simp[hki]
  rw[e1,hpq,List.filter_append,List.filter_cons]
  simp only[bne_self_eq_false,Bool.false_eq_true,if_false]
  congr 1
  ·exact List.filter_eq_self.2 fun k hk=>by simpa using(hpi k hk).2
  ·exact List.filter_eq_self.2 fun k hk=>by simpa using(hiq k hk).2.symm
 rw[hnew];exact f2
theorem aHn {l:List Nat} {a0 b0:Nat} (hl:okL P Γ md ops a0 b0 l=true) {listed:Array Bool} (hall: ∀i,i<ops.size→listed.getD i true=true):l.filter (pT listed)=[]:=by
 simp only[okL,Bool.and_eq_true,List.all_eq_true]at hl
 refine List.filter_eq_nil_iff.2 fun j hj=>?_
 have:=hall j (by simpa using hl.2 j hj)
 simp[pT,this]
theorem wQ (hΓ:eT P c.GL Γ) {Q:Exit→Act→World→Prop} (hdst:fK c.nt ops.toList=true) (he:tJ ops=true) {l:List Nat} {a0 b0:Nat} (hl:okL P Γ md ops a0 b0 l=true) {s':S}
  (hQ: ∀a' w',R c σ0 I0 w0 (fun _=>False) s' a' w'→Q .normal a' w'):
  ∀(fuel:Nat) (listed:Array Bool) (s sf:S) (a:Act) (w:World),listed.size=ops.size→listed.getD a0 true=true→(unl ops.size listed).length≤fuel→uY ops listed→
   dQ P Γ c.GL md ops (l.filter (pT listed)) s=some sf→fVo s' sf→R c σ0 I0 w0 (fun k=>k∈unl ops.size listed) s a w→wpAny P .any ops Q fuel listed a w:=by
 have fin: ∀(listed:Array Bool) (s sf:S) (a:Act) (w:World),listed.size=ops.size→Region.ready .any ops listed=[]→dQ P Γ c.GL md ops (l.filter (pT listed)) s=some sf→fVo s' sf→R c σ0 I0 w0 (fun k=>k∈unl ops.size listed) s a w→Q .normal a w:=by
  intro listed s sf a w hsz hr hrun heq hR
  rw[aHn hl (uQ he listed hsz hr)]at hrun
  obtain rfl:=J0 hrun
  exact hQ _ _ ((hR.un fun k hk=>hk.elim).eqv heq.symm)
 intro fuel
 induction fuel with
 |zero=>
  intro listed s sf a w hsz ha0 hlen hdc hrun heq hR
  have hun0:unl ops.size listed=[]:=List.eq_nil_of_length_eq_zero (by omega)
  have hr:Region.ready .any ops listed=[]:=by
   refine List.eq_nil_iff_forall_not_mem.2 fun i hi=>?_
   obtain⟨h1,o,ho,_⟩:=mem_ready.1 hi
   have:i∈unl ops.size listed:=by unfold unl;rw[List.mem_filter,List.mem_range];exact⟨(Array.getElem?_eq_some_iff.1 ho).1,by rw[h1];rfl⟩
   rw[hun0]at this;cases this
  exact⟨hr,fin listed s sf a w hsz hr hrun heq hR⟩
 |succ fuel ih=>
  intro listed s sf a w hsz ha0 hlen hdc hrun heq hR
  refine⟨fun hr=>fin listed s sf a w hsz hr hrun heq hR,fun i hi=>?_⟩
  obtain⟨x,s1,sf1,hx,f1,f2,f3⟩:=qI hl hsz hdc hi (.inl ha0) hrun
  obtain⟨hun,x',hx',hall⟩:=mem_ready.1 hi
  rw[hx]at hx';obtain rfl:=J0 hx'
  have hlt:=(Array.getElem?_eq_some_iff.1 hx).1
  have hmem:i∈unl ops.size listed:=by unfold unl;rw[List.mem_filter,List.mem_range];exact⟨hlt,by rw[hun];rfl⟩
  have hsub: ∀k,k∈unl ops.size (listed.setIfInBounds i true)→k∈unl ops.size listed∧k≠i:=by
   intro k hk
   simp only[unl,List.mem_filter,List.mem_range]at hk⊢
   by_cases hki:k=i
   ·subst hki
    rw[Array.getD_eq_getD_getElem?,Array.getElem?_setIfInBounds_self_of_lt (by omega)]at hk
    simp at hk
   ·rw[getD_set_ne true (Ne.symm hki)]at hk
    exact⟨hk,hki⟩
  have hlen2:(unl ops.size (listed.setIfInBounds i true)).length<(unl ops.size listed).length:=by
   have e0:unl ops.size (listed.setIfInBounds i true)=(unl ops.size listed).filter (fun k=>k !=i):=by
    unfold unl
    rw[List.filter_filter]
    refine List.filter_congr fun k hk=>?_
    by_cases hki:k=i
    ·subst hki
     rw[Array.getD_eq_getD_getElem?,Array.getElem?_setIfInBounds_self_of_lt (by omega)];simp
    ·rw[getD_set_ne true (Ne.symm hki)]
     simp[hki]
   rw[e0]
   refine Nat.lt_of_le_of_ne (List.length_filter_le _ _) fun e=>?_
   have:=List.length_filter_eq_length_iff.1 e i hmem
   simp at this
  have ha1:(listed.setIfInBounds i true).getD a0 true=true:=by
   by_cases hai:a0=i
   ·subst hai;rw[Array.getD_eq_getD_getElem?,Array.getElem?_setIfInBounds_self_of_lt (by omega)];rfl
   ·rw[getD_set_ne true (Ne.symm hai)];exact ha0
  have hstep:=fX (K:=wpAny P .any ops Q fuel (listed.setIfInBounds i true)) (Q:=Q) (ops:=ops) hΓ f1 (lU hdst (Array.mem_toList_iff.2 (Array.mem_of_getElem? hx))) (rem:=fun k=>k∈unl ops.size listed) hmem hR (fun a' w' hR'=>
   ih (listed.setIfInBounds i true) s1 sf1 a' w' (by simpa using hsz) ha1 (by omega) (hdc.set hx hall) f2 (heq.trans f3) (hR'.un fun k hk=>hsub k hk))
  unfold wpOp
  simp only[hx]
  split
  ·rename_i hw;rw[J4 hw]at hstep;exact .inl hstep
  ·rename_i hw;rw[J3 hw]at hstep;exact hstep
theorem aJy (hΓ:eT P c.GL Γ) {Q:Exit→Act→World→Prop} (hdst:fK c.nt ops.toList=true) (he:tJ ops=true) {l1 l2:List Nat} {a0 b0:Nat} (hne:a0≠b0) (hl1:okL P Γ md ops a0 b0 l1=true) (hl2:okL P Γ md ops b0 a0 l2=true) {s1' s2':S}
  (hQ1: ∀a' w',R c σ0 I0 w0 (fun _=>False) s1' a' w'→Q .normal a' w') (hQ2: ∀a' w',R c σ0 I0 w0 (fun _=>False) s2' a' w'→Q .normal a' w'):
  ∀(fuel:Nat) (listed:Array Bool) (s sf1 sf2:S) (a:Act) (w:World),listed.size=ops.size→(unl ops.size listed).length≤fuel→uY ops listed→
   dQ P Γ c.GL md ops (l1.filter (pT listed)) s=some sf1→fVo s1' sf1→dQ P Γ c.GL md ops (l2.filter (pT listed)) s=some sf2→fVo s2' sf2→R c σ0 I0 w0 (fun k=>k∈unl ops.size listed) s a w→wpAny P .any ops Q fuel listed a w:=by
 have fin: ∀(listed:Array Bool) (s sf:S) (a:Act) (w:World),listed.size=ops.size→Region.ready .any ops listed=[]→dQ P Γ c.GL md ops (l1.filter (pT listed)) s=some sf→fVo s1' sf→R c σ0 I0 w0 (fun k=>k∈unl ops.size listed) s a w→Q .normal a w:=by
  intro listed s sf a w hsz hr hrun heq hR
  rw[aHn hl1 (uQ he listed hsz hr)]at hrun
  obtain rfl:=J0 hrun
  exact hQ1 _ _ ((hR.un fun k hk=>hk.elim).eqv heq.symm)
 intro fuel
 induction fuel with
 |zero=>
  intro listed s sf1 sf2 a w hsz hlen hdc hrun heq _ _ hR
  have hun0:unl ops.size listed=[]:=List.eq_nil_of_length_eq_zero (by omega)
  have hr:Region.ready .any ops listed=[]:=by
   refine List.eq_nil_iff_forall_not_mem.2 fun i hi=>?_
   obtain⟨h1,o,ho,_⟩:=mem_ready.1 hi
   have:i∈unl ops.size listed:=by unfold unl;rw[List.mem_filter,List.mem_range];exact⟨(Array.getElem?_eq_some_iff.1 ho).1,by rw[h1];rfl⟩
   rw[hun0]at this;cases this
  exact⟨hr,fin listed s sf1 a w hsz hr hrun heq hR⟩
 |succ fuel ih=>
  intro listed s sf1 sf2 a w hsz hlen hdc hrun1 heq1 hrun2 heq2 hR
  refine⟨fun hr=>fin listed s sf1 a w hsz hr hrun1 heq1 hR,fun i hi=>?_⟩
  obtain⟨hun,x,hx,hall⟩:=mem_ready.1 hi
  have hlt:=(Array.getElem?_eq_some_iff.1 hx).1
  have hmem:i∈unl ops.size listed:=by unfold unl;rw[List.mem_filter,List.mem_range];exact⟨hlt,by rw[hun];rfl⟩
  have hsub: ∀k,k∈unl ops.size (listed.setIfInBounds i true)→k∈unl ops.size listed∧k≠i:=by
   intro k hk
   simp only[unl,List.mem_filter,List.mem_range]at hk⊢
   by_cases hki:k=i
   ·subst hki
    rw[Array.getD_eq_getD_getElem?,Array.getElem?_setIfInBounds_self_of_lt (by omega)]at hk
    simp at hk
   ·rw[getD_set_ne true (Ne.symm hki)]at hk
    exact⟨hk,hki⟩
  have hlen2:(unl ops.size (listed.setIfInBounds i true)).length<(unl ops.size listed).length:=by
   have e0:unl ops.size (listed.setIfInBounds i true)=(unl ops.size listed).filter (fun k=>k !=i):=by
    unfold unl
    rw[List.filter_filter]
    refine List.filter_congr fun k hk=>?_
    by_cases hki:k=i
    ·subst hki
     rw[Array.getD_eq_getD_getElem?,Array.getElem?_setIfInBounds_self_of_lt (by omega)];simp
    ·rw[getD_set_ne true (Ne.symm hki)]
     simp[hki]
   rw[e0]
   refine Nat.lt_of_le_of_ne (List.length_filter_le _ _) fun e=>?_
   have:=List.length_filter_eq_length_iff.1 e i hmem
   simp at this
  have hset:(listed.setIfInBounds i true).getD i true=true:=by rw[Array.getD_eq_getD_getElem?,Array.getElem?_setIfInBounds_self_of_lt (by omega)];rfl
  have go: ∀(s1:S),kA P Γ c.GL md ops i x s=some s1→(∀a' w',R c σ0 I0 w0 (fun k=>k∈unl ops.size (listed.setIfInBounds i true)) s1 a' w'→wpAny P .any ops Q fuel (listed.setIfInBounds i true) a' w')→wpOp P ops Q i (wpAny P .any ops Q fuel (listed.setIfInBounds i true)) a w:=by
   intro s1 f1 hk
   have hstep:=fX (K:=wpAny P .any ops Q fuel (listed.setIfInBounds i true)) (Q:=Q) (ops:=ops) hΓ f1 (lU hdst (Array.mem_toList_iff.2 (Array.mem_of_getElem? hx))) (rem:=fun k=>k∈unl ops.size listed) hmem hR (fun a' w' hR'=>hk a' w' (hR'.un fun k hk=>hsub k hk))
   unfold wpOp
   simp only[hx]
   split
   ·rename_i hw;rw[J4 hw]at hstep;exact .inl hstep
   ·rename_i hw;rw[J3 hw]at hstep;exact hstep
  by_cases hib:i=b0
  ·obtain⟨x',s1,sf',hx',f1,f2,f3⟩:=qI hl2 hsz hdc hi (.inr (fun e=>hne (e.symm.trans hib))) hrun2
   rw[hx]at hx';obtain rfl:=J0 hx'
   exact go s1 f1 fun a' w' hR'=>wQ hΓ hdst he hl2 hQ2 fuel _ s1 sf' a' w' (by simpa using hsz) (by rw[←hib];exact hset) (by omega) (hdc.set hx hall) f2 (heq2.trans f3) hR'
  ·by_cases hia:i=a0
   ·obtain⟨x',s1,sf',hx',f1,f2,f3⟩:=qI hl1 hsz hdc hi (.inr hib) hrun1
    rw[hx]at hx';obtain rfl:=J0 hx'
    exact go s1 f1 fun a' w' hR'=>wQ hΓ hdst he hl1 hQ1 fuel _ s1 sf' a' w' (by simpa using hsz) (by rw[←hia];exact hset) (by omega) (hdc.set hx hall) f2 (heq1.trans f3) hR'
   ·obtain⟨x1,s1,sfa,hx1,f1,f2,f3⟩:=qI hl1 hsz hdc hi (.inr hib) hrun1
    obtain⟨x2,s2,sfb,hx2,g1,g2,g3⟩:=qI hl2 hsz hdc hi (.inr hia) hrun2
    rw[hx]at hx1 hx2;obtain rfl:=J0 hx1;obtain rfl:=J0 hx2
    rw[f1]at g1;obtain rfl:=J0 g1
    exact go s1 f1 fun a' w' hR'=>ih (listed.setIfInBounds i true) s1 sfa sfb a' w' (by simpa using hsz) (by omega) (hdc.set hx hall) f2 (heq1.trans f3) g2 (heq2.trans g3) hR'
end
def ok2 (P:Program) (Γ:Env) (md:Nat→Nat) (a0 b0:Nat) (l1 l2:List Nat) (c:Code):Bool:=tJ (aM c)&&okL P Γ md (aM c) a0 b0 l1&&okL P Γ md (aM c) b0 a0 l2
def xL (P:Program) (Γ:Env) (GL:Nat→Option (List AV)) (md:Nat→Nat) (n:Nat) (ls:List LOp):List Nat→S→Option S
 |[],s=>some s
 |i::r,s=>aK (yR P Γ GL (md i) n i s ls[i]?) fun s'=>xL P Γ GL md n ls r s'
@[congr] theorem cIc {P : Program} {Γ : Env} {GL : Nat → Option (List AV)} {md : Nat → Nat} {n : Nat} {ls : List LOp} {l : List Nat} {s s' : S} (h : s = s') : xL P Γ GL md n ls l s = xL P Γ GL md n ls l s' := by rw [h]
theorem nJ (P Γ GL md n ls s):xL P Γ GL md n ls [] s=some s:=(rfl)
theorem lY (P Γ GL md n ls i r s):xL P Γ GL md n ls (i::r) s=aK (yR P Γ GL (md i) n i s ls[i]?) fun s'=>xL P Γ GL md n ls r s':=(rfl)
theorem aKy {P:Program} {GL:Nat→Option (List AV)} {nt:Nat} {Q:Exit→S→Prop} {s:S} {code:Code} {Γ:Env} (a0 b0:Nat) (l1 l2:List Nat) (md:Nat→Nat) (ks:List Nat) (hm:P.follows .mixedOrders=true) (hΓ:eT P GL Γ) (hne:a0≠b0) (hc:eEs code=true) (hd:lZ code=true) (ho:fK nt (aM code).toList=true) (hk:ok2 P Γ md a0 b0 l1 l2 code=true)
  (h1: ∀K:S→Prop,(∀t,Q .normal t→K t)→nH (xL P Γ GL md (rN code) (aF code) l1 (cX (rN code) s)) fun t=>K {t with fr:=gL ks t.fr})
  (h2: ∀K:S→Prop,(∀t,Q .normal t→K t)→nH (xL P Γ GL md (rN code) (aF code) l2 (cX (rN code) s)) fun t=>K {t with fr:=gL ks t.fr}):Awp P GL nt code s Q:=by
 replace h1:=h1 (Q .normal) fun _ h=>h
 replace h2:=h2 (Q .normal) fun _ h=>h
 refine sX ?_
 cases code<;>first|(cases hc;done)|skip
 rename_i id ops d
 simp only[lZ]at hd
 subst hd
 intro c g1 g2 σ0 I0 w0 a w hR
 subst g1;subst g2
 simp only[aM,ok2,Bool.and_eq_true]at ho hk
 have h0:unl ops.size (Array.replicate ops.size false)=List.range ops.size:=by
  unfold unl
  refine List.filter_eq_self.2 fun k hk=>?_
  rw[List.mem_range]at hk
  rw[Array.getD_eq_getD_getElem?,Array.getElem?_replicate,J4 hk];rfl
 have hf: ∀ {x y:Nat} {l:List Nat},okL P Γ md ops x y l=true→l.filter (pT (Array.replicate ops.size false))=l:=by
  intro x y l hl
  simp only[okL,Bool.and_eq_true,List.all_eq_true]at hl
  refine List.filter_eq_self.2 fun j hj=>aAs.2 ?_
  have:j<ops.size:=by simpa using hl.2 j hj
  rw[Array.getD_eq_getD_getElem?,Array.getElem?_replicate,J4 this];rfl
 have hrun: ∀(l:List Nat) (s:S),xL P Γ c.GL md (rN (.region id ops true)) (aF (.region id ops true)) l s=dQ P Γ c.GL md ops l s:=by
  intro l
  induction l with
  |nil=>intro s;rfl
  |cons i r ih=>
   intro s
   have hl:(aF (.region id ops true))[i]? =(ops[i]?).map (aG ops):=by simp only[aF,aM,List.getElem?_map,Array.getElem?_toList]
   simp only[xL,dQ,hl]
   cases ops[i]? with
   |none=>rfl
   |some o=>
    simp only[Option.map_some,yR,vJ]
    congr 1
    funext s'
    exact ih s'
 obtain⟨t1,e1,e2⟩:=mR h1
 obtain⟨t2,f1,f2⟩:=mR h2
 rw[hrun]at e1 f1
 refine wp_region_any hm (aJy (σ0:=σ0) (I0:=I0) (w0:=w0) (md:=md) (s1':=t1) (s2':=t2) hΓ ho hk.1.1 hne hk.1.2 hk.2 (fun a' w' hR'=>⟨t1,⟨_,e2,dWs ks t1,rfl⟩,hR'⟩) (fun a' w' hR'=>⟨t2,⟨_,f2,dWs ks t2,rfl⟩,hR'⟩)
  ops.size _ (cX ops.size s) t1 t2 a _ (by simp) (by rw[h0];simp) (fun m o hl=>?_) (by rw[hf hk.1.2];exact e1) (fVo.refl _) (by rw[hf hk.2];exact f1) (fVo.refl _) ?_)
 ·rw[Array.getD_eq_getD_getElem?,Array.getElem?_replicate]at hl;split at hl<;>cases hl
 ·exact((hR.enter ops.size).un fun k hk=>by rw[h0]at hk;exact List.mem_range.1 hk).world rfl rfl rfl rfl
end Go.AX

namespace Go.AX
open Go Go.Proofs
section
variable {P : Program} {Γ : Env} {ρ : Operand → AV} {m nx n id cx : Nat} {hp : H}
def lkF (P:Program) (hp:H) (x k:AV) (ok:Bool):Option TypeDesc→Option AV
 |some (.map kt et)=>aK (P.underlying kt) fun d=>aN (oP d k=true) (aK (zvA P et) fun z=>aK (aEi hp x) fun es=>aK (aNp k es) fun r=>some (aCm z ok r))
 |_=>none
theorem bNx {t:TypeId} {x k:Operand} {ok:Bool}:eff P Γ (.lookup t x k ok) ρ m nx n hp id cx=aK (lkF P (mY m nx n hp) (ρ x) (ρ k) ok (P.underlying t)) fun y=>some (y,hp,cx):=by
 simp only[eff,cls,eKi,aWs]
 cases P.underlying t with
 |none=>rfl
 |some d=>cases d<;>rfl
theorem cXv {x k:AV} {ok:Bool} (kt et:TypeId):lkF P hp x k ok (some (.map kt et))=aK (P.underlying kt) fun d=>aN (oP d k=true) (aK (zvA P et) fun z=>aK (aEi hp x) fun es=>aK (aNp k es) fun r=>some (aCm z ok r)):=(rfl)
def muM (hp:H) (m k x:AV):Option (AV×H):=
 match m with
 | .mp id=>aK (pP hp x) fun fx=>aK (fx.2 id) (bAp k fx.1 id fx.2)
 |_=>none
def muF (P:Program) (hp:H) (m k x:AV):Option TypeDesc→Option (AV×H)
 |some (.map kt _)=>aK (P.underlying kt) fun d=>aN (oP d k=true) (muM hp m k x)
 |_=>none
theorem dAn {t:TypeId} {a k x:Operand}:eff P Γ (.mapUpdate t a k x) ρ m nx n hp id cx=aK (muF P hp (ρ a) (ρ k) (ρ x) (P.underlying t)) fun p=>some (p.1,p.2,cx):=by
 simp only[eff,cls,fR,aGs]
 cases P.underlying t with
 |none=>rfl
 |some d=>cases d<;>first|rfl|(simp only[muF,muM];cases ρ a<;>rfl)
theorem cXj {a k x:AV} (kt et:TypeId):muF P hp a k x (some (.map kt et))=aK (P.underlying kt) fun d=>aN (oP d k=true) (muM hp a k x):=(rfl)
theorem cLq {k x:AV} (i:Nat):muM hp (.mp i) k x=aK (pP hp x) fun fx=>aK (fx.2 i) (bAp k fx.1 i fx.2):=(rfl)
theorem cMj {k x:AV} (i:Nat) (es:List (AV×AV)) (mt:Bool):bAp k x i hp (.mapo es mt)=aN (mt=true) (aK (aEh k x es) fun es'=>some (.junk,upd hp i (.mapo es' true))):=(rfl)
theorem cAo {t:TypeId}:eff P Γ (.makeMap t none) ρ m nx n hp id cx=some (.mp id,upd hp id (.mapo [] true),cx):=(rfl)
theorem fm_i (x):pP hp (.i x)=some (.i x,hp):=(rfl)
theorem kd_s (x):oP .string (.s x)=true:=(rfl)
theorem cXr (z v):aCm z true (some v)=.tup [v,.b true]:=(rfl)
theorem cXt (z):aCm z true none=.tup [z,.b false]:=(rfl)
theorem dAo {f:FuncId} {cap:Array Operand}:eff P Γ (.makeFunc (.func f) #[] cap) ρ m nx n hp id cx=some (.fn f (cap.toList.map ρ),hp,cx):=(rfl)
theorem bCj (i):dC (.mp i)=some [.mp i]:=(rfl)
end
attribute [go_sem] bNx cXv dAn cXj cLq cMj cAo fm_i kd_s cXr cXt bCj dAo
section
variable {α : Type} [DecidableEq α] (kc : α → AV) (hk : ∀ a b, kEq (kc a) (kc b) = some (decide (a = b)))
def aIx (a:α):List α→Option Nat
 |[]=>none
 |b::r=>if a=b then some 0 else(aIx a r).map (· +1)
include hk in
theorem wB {β:Type} (vc:β→AV) (a:α): ∀l:List (α×β),aNn (kc a) (l.map fun p=>(kc p.1,vc p.2))=some (aIx a (l.map (·.1)))
 |[]=>rfl
 |p::r=>by
  simp only[List.map_cons,aNn,aIx,hk,aX]
  by_cases h:a=p.1
  ·simp[h]
  simp only[h,decide_false,if_false,wB vc a r,aX]
def iK {β:Type} (a:α):List (α×β)→Option β
 |[]=>none
 |p::r=>if a=p.1 then some p.2 else iK a r
def kT {β:Type} (a:α) (v:β):List (α×β)→List (α×β)
 |[]=>[(a,v)]
 |p::r=>if a=p.1 then(a,v)::r else p::kT a v r
include hk in
theorem aNo {β:Type} (vc:β→AV) (a:α) (l:List (α×β)):aNp (kc a) (l.map fun p=>(kc p.1,vc p.2))=some ((iK a l).map vc):=by
 unfold aNp
 rw[wB kc hk,aX]
 congr 1
 induction l with
 |nil=>rfl
 |cons p r ih=>
  simp only[List.map_cons,aIx,iK]
  by_cases h:a=p.1
  ·simp[h]
  simp only[h,if_false]
  rw[←ih]
  cases aIx a (r.map (·.1))<;>simp
include hk in
theorem aNm {β:Type} (vc:β→AV) (a:α) (v:β) (l:List (α×β)):aEh (kc a) (vc v) (l.map fun p=>(kc p.1,vc p.2))=some ((kT a v l).map fun p=>(kc p.1,vc p.2)):=by
 unfold aEh
 rw[wB kc hk,aX]
 congr 1
 induction l with
 |nil=>rfl
 |cons p r ih=>
  simp only[List.map_cons,aIx,kT]
  by_cases h:a=p.1
  ·simp[h]
  simp only[h,if_false,List.map_cons]
  rw[←ih]
  cases aIx a (r.map (·.1))<;>simp
end
theorem fNh (a b:List (BitVec 8)):kEq (.s a) (.s b)=some (decide (a=b)):=(rfl)
end Go.AX

namespace Go.AX
open Go Go.Proofs
inductive FP where
 |all
 |at_ (R W:List Nat)
 |cal (hp hp':H)
def fpV:AV→List Nat
 | .os i _ _ _ _=>[i]
 | .op i _=>[i]
 | .mp i=>[i]
 |_=>[]
def rW (hp:H) (y:AV):Bool:=
 match y with
 | .os j off n e _=>match hp j with
  |some (.cells xs _)=>fVs ((xs.drop off).take (n*e))
  |_=>false
 | .sl _ xs=>fVs xs
 | .s _=>true
 | .v (.slice none 0 0)=>true
 |_=>false
def dYz:List AV→List Nat
 |[]=>[]
 | .os i _ _ _ _::r=>i::dYz r
 |_::r=>dYz r
def dZr (hp:H) (y:AV):Option (List Nat):=
 match y with
 | .os j off n e _=>match hp j with
  |some (.cells xs _)=>some (dYz ((xs.drop off).take (n*e)))
  |_=>none
 |_=>none
def fpW (op:Op) (ρ:Operand→AV) (hp:H) (id:Nat):FP:=
 match op with
 | .store _ a _=> .at_ [] (fpV (ρ a))
 | .call c=>match c.callee,c.args.toList,c.argTypes.toList with
  | .builtin .append,[x,y],[_,_]=>if rW hp (ρ y)=true then .at_ (fpV (ρ y)) (id::fpV (ρ x))else match dZr hp (ρ y)with
   |some l=> .at_ (fpV (ρ y)) (id::(fpV (ρ x)++l))
   |none=> .all
  |_,_,_=> .all
 |_=> .all
def fpR (op:Op) (ρ:Operand→AV):FP:=
 match op with
 | .load _ x=> .at_ (fpV (ρ x)) []
 |_=> .all
def fpE (P:Program) (Γ:Env) (m:Nat) (op:Op) (ρ:Operand→AV) (hp:H) (id:Nat):FP:=
 if tI P Γ m op=.P then .at_ [] []else
 match cls P op with
 | .pure=> .at_ [] []
 | .read=>fpR op ρ
 | .new=> .at_ [] [id]
 | .write=>fpW op ρ hp id
 | .call=> .all
def kZ (p:Nat→Option (Option AO)) (hp:H):H:=fun k=>match p k with|some o=>o|none=>hp k
theorem qK (hp:H) (i:Nat) (o:AO):kZ (fun k=>if k=i then some (some o)else none) hp=upd hp i o:=by
 funext k
 simp only[kZ,bJ]
 by_cases h:k=i
 ·simp[h]
 simp[h]
theorem wY (hp:H) (i id:Nat) (o:AO):kZ (fun k=>if k=id then some (some o)else if k=i then some none else none) hp=upd (del hp i) id o:=by
 funext k
 simp only[kZ,bJ,eV]
 by_cases h:k=id
 ·simp[h]
 by_cases h2:k=i
 ·subst h2;simp[h]
 simp[h,h2]
theorem bEt (hp:H) (p q:Nat→Option (Option AO)) (h: ∀k,p k≠none→q k=none):kZ p (kZ q hp)=kZ q (kZ p hp):=by
 funext k
 simp only[kZ]
 cases hp1:p k with
 |none=>simp
 |some o=>
  have:=h k (by rw[hp1];simp)
  rw[this]
def cSa (R W:List Nat) (f:H→Option (AV×H)) (hp:H):Prop:=
 ∀r,f hp=some r→∃p,(∀k,p k≠none→k∈W)∧r.2=kZ p hp∧∀hp2,(∀k,k∈R∨k∈W→hp2 k=hp k)→f hp2=some (r.1,kZ p hp2)
theorem bAr (P:Program) (t:TypeId) (a x:Operand) (ρ:Operand→AV) (id:Nat) (hp:H):cSa [] (fpV (ρ a)) (fun hp=>fR P (.store t a x) ρ hp id) hp:=by
 intro r hr
 simp only[fR]at hr⊢
 cases ha:ρ a with
 |op i off=>
  simp only[ha]at hr⊢
  replace hr:=aJ hr;obtain⟨cs,hcs,hr⟩:=hr
  replace hr:=aJ hr;obtain⟨z,hz,hr⟩:=hr
  replace hr:=aJ hr;obtain⟨o,ho,hr⟩:=hr
  cases o with
  |mapo es mt=>cases hr
  |cells xs mt=>
   simp only at hr
   replace hr:=aP hr;obtain⟨hg,hr⟩:=hr
   obtain rfl:=J0 hr
   refine⟨fun k=>if k=i then some (some (.cells (dV xs off cs) true))else none,fun k hk=>?_,(qK _ _ _).symm,fun hp2 h2=>?_⟩
   ·simp only[fpV]
    by_cases e:k=i
    ·simp[e]
    simp[e]at hk
   have:=h2 i (.inr (by simp[fpV]))
   rw[hcs,aX,hz,aX,this,ho,aX]
   simp only[]
   rw[hH _ hg,qK]
 |_=>simp only[ha]at hr;cases hr
theorem aQw {hp hp2:H} {y:AV} (h2: ∀k,k∈fpV y→hp2 k=hp k):rW hp2 y=rW hp y:=by
 unfold rW
 cases y with
 |os j off n e g=>simp only[];rw[h2 j (by simp[fpV])]
 |v v=>
  cases v with
  |slice a b c=>cases a<;>cases b<;>cases c<;>rfl
  |_=>rfl
 |_=>rfl
theorem bTo {hp hp2:H} {z:Nat} {y:AV} {my:Nat×List AV} (h:tX hp z y=some my) (hn:rW hp y=true) (h2: ∀k,k∈fpV y→hp2 k=hp k):
  fVs my.2=true∧tX hp2 z y=some my∧rW hp2 y=true:=by
 unfold tX at h⊢
 unfold rW at hn⊢
 cases y with
 |s l=>
  simp only at h⊢
  replace h:=aP h;obtain⟨hg,h⟩:=h
  obtain rfl:=J0 h
  refine⟨?_,by rw[hH _ hg],trivial⟩
  simp only[fVs,Bool.not_eq_true',List.any_eq_false,List.mem_map]
  rintro _ ⟨x,_,rfl⟩
  simp[wG]
 |sl n xs=>
  simp only[sR]at h hn⊢
  replace h:=aP h;obtain⟨hg,h⟩:=h
  obtain rfl:=J0 h
  exact⟨hn,by rw[hH _ hg],hn⟩
 |os j off n e g=>
  simp only[sR]at h hn⊢
  have e2:=h2 j (by simp[fpV])
  replace h:=aJ h;obtain⟨o,ho,h⟩:=h
  rw[e2,ho]
  rw[ho]at hn
  cases o with
  |mapo es mt=>cases h
  |cells xs mt=>
   simp only at h hn⊢
   replace h:=aP h;obtain⟨hg,h⟩:=h
   obtain rfl:=J0 h
   refine⟨?_,by rw[aX];simp only[];rw[hH _ hg],hn⟩
   rw[←hg.1];exact hn
 |v v=>
  cases v with
  |slice a b c=>
   cases a with
   |none=>
    cases b with
    |zero=>cases c with
     |zero=>
      simp only[sR]at h⊢
      obtain rfl:=J0 h
      exact⟨rfl,rfl,trivial⟩
     |succ c=>simp[sR]at h
    |succ b=>simp[sR]at h
   |some a=>simp[sR]at h
  |_=>simp[sR]at h
 |_=>simp[sR]at h
theorem eAa {z by_ m id:Nat} {x:AV} {ys:List AV} {hp:H} {r:AV×H} (hr:zV z by_ x m ys hp id=some r): ∃p:Nat→Option (Option AO),(∀k,p k≠none→k∈id::fpV x)∧r.2=kZ p hp∧∀hp2:H,(∀k,k∈fpV x→hp2 k=hp k)→zV z by_ x m ys hp2 id=some (r.1,kZ p hp2):=by
 unfold zV at hr⊢
 cases x with
 |os i off n e' g=>
  simp only at hr⊢
  replace hr:=aJ hr;obtain⟨o,ho,hr⟩:=hr
  cases o with
  |mapo es mt=>cases hr
  |cells xs mt=>
   simp only at hr
   unfold eqO at hr
   have dom: ∀(w:AO) (k:Nat),(if k=id then some (some w)else if k=i then some none else none:Option (Option AO))≠none→k∈id::fpV (.os i off n e' g):=by
    intro w k hk
    simp only[fpV,List.mem_cons,List.not_mem_nil,or_false]
    by_cases e1:k=id
    ·exact .inl e1
    by_cases e2:k=i
    ·exact .inr e2
    simp[e1,e2]at hk
   split at hr
   ·rename_i he
    simp only[kF]at hr
    replace hr:=aJ hr;obtain⟨o2,ho2,hr⟩:=hr
    obtain rfl:=J0 (ho.symm.trans ho2)
    simp only at hr
    replace hr:=aP hr;obtain⟨hg2,hr⟩:=hr
    obtain rfl:=J0 hr
    refine⟨fun k=>if k=id then some (some (.cells (xs.drop off++ys) true))else if k=i then some none else none,dom _,(wY _ _ _ _).symm,fun hp2 h2=>?_⟩
    have e3:=h2 i (by simp[fpV])
    rw[e3,ho,aX]
    simp only[eqO]
    rw[J4 he]
    simp only[kF]
    rw[e3,ho,aX]
    simp only[]
    rw[hH _ hg2,wY]
   rename_i he
   unfold aDp at hr
   replace hr:=aP hr;obtain⟨hg2,hr⟩:=hr
   obtain rfl:=J0 hr
   refine⟨fun k=>if k=id then some (some (.cells ((xs.drop off).take (n*z)++ys) true))else if k=i then some none else none,dom _,(wY _ _ _ _).symm,fun hp2 h2=>?_⟩
   have e3:=h2 i (by simp[fpV])
   rw[e3,ho,aX]
   simp only[eqO]
   rw[J3 he]
   unfold aDp
   rw[hH _ hg2,wY]
 |v v=>
  cases v with
  |slice a b c=>
   cases a with
   |none=>
    cases b with
    |zero=>cases c with
     |zero=>
      simp only[kF]at hr⊢
      replace hr:=aP hr;obtain⟨hg2,hr⟩:=hr
      obtain rfl:=J0 hr
      refine⟨fun k=>if k=id then some (some (.cells ys true))else none,fun k hk=>?_,(qK _ _ _).symm,fun hp2 h2=>by rw[hH _ hg2,qK]⟩
      by_cases e1:k=id
      ·simp[e1]
      simp[e1]at hk
     |succ c=>simp[kF]at hr
    |succ b=>simp[kF]at hr
   |some a=>simp[kF]at hr
  |_=>simp[kF]at hr
 |_=>simp[kF]at hr
theorem aSh (P:Program) (t:TypeId) (x y:AV) (id:Nat) (hp:H) (hn:rW hp y=true):cSa (fpV y) (id::fpV x) (fun hp=>pK P t x y hp id) hp:=by
 intro r hr
 simp only[pK]at hr⊢
 cases ht:P.underlying t with
 |none=>simp[ht]at hr
 |some d=>
  cases d with
  |slice e=>
   simp only[ht]at hr⊢
   replace hr:=aJ hr;obtain⟨z,hz,hr⟩:=hr
   replace hr:=aJ hr;obtain⟨by_,hb,hr⟩:=hr
   replace hr:=aJ hr;obtain⟨zs,hzs,hr⟩:=hr
   replace hr:=aP hr;obtain⟨hg,hr⟩:=hr
   replace hr:=aJ hr;obtain⟨my,hmy,hr⟩:=hr
   have hsrc:=fun hp2 h2=>bTo (hp2:=hp2) hmy hn h2
   have hno:=(hsrc hp (fun _ _=>rfl)).1
   have hfz: ∀hp:H,uU hp my.2=some (my.2,hp):=fun hp=>J4 hno
   rw[hfz,aX]at hr
   simp only at hr
   have red: ∀hp2:H,(∀k,k∈fpV y→hp2 k=hp k)→(aK (eK P e) fun z=>aK (dU P e) fun by_=>aK (lA P e) fun zs=>aN (0<z∧zs.length=z) (aK (tX hp2 z y) fun my=>aK (uU hp2 my.2) fun fy=>zV z by_ x my.1 fy.1 fy.2 id))=zV z by_ x my.1 my.2 hp2 id:=by
    intro hp2 h2
    rw[hz,aX,hb,aX,hzs,aX,hH _ hg,(hsrc hp2 h2).2.1,aX,hfz,aX]
   have key:=eAa hr
   obtain⟨p,p1,p2,p3⟩:=key
   exact⟨p,p1,p2,fun hp2 h2=>by rw[red hp2 (fun k hk=>h2 k (.inl hk)),p3 hp2 (fun k hk=>h2 k (.inr (by simp[hk])))]⟩
  |_=>simp[ht]at hr
theorem dZj (hp:H) (p q:Nat→Option (Option AO)):kZ p (kZ q hp)=kZ (fun k=>match p k with|some o=>some o|none=>q k) hp:=by
 funext k
 simp only[kZ]
 cases p k<;>rfl
theorem dZl: ∀ {xs:List AV} {hp:H} {r:List AV×H},nT hp xs=some r→∃p:Nat→Option (Option AO),(∀k,p k≠none→k∈dYz xs)∧r.2=kZ p hp∧∀hp2:H,(∀k,k∈dYz xs→hp2 k=hp k)→nT hp2 xs=some (r.1,kZ p hp2)
 |[],hp,r,h=>by
  obtain rfl:=J0 h
  exact⟨fun _=>none,fun k hk=>absurd rfl hk,rfl,fun hp2 _=>rfl⟩
 |x::xs,hp,r,h=>by
  have plain:(∀hp:H,nT hp (x::xs)=aK (nT hp xs) fun p=>some (x::p.1,p.2))→dYz (x::xs)=dYz xs→∃p:Nat→Option (Option AO),(∀k,p k≠none→k∈dYz (x::xs))∧r.2=kZ p hp∧∀hp2:H,(∀k,k∈dYz (x::xs)→hp2 k=hp k)→nT hp2 (x::xs)=some (r.1,kZ p hp2):=by
   intro e1 e2
   rw[e1]at h
   replace h:=aJ h;obtain⟨q,hq,h⟩:=h
   obtain rfl:=J0 h
   obtain⟨p,p1,p2,p3⟩:=dZl hq
   rw[e2]
   exact⟨p,p1,p2,fun hp2 h2=>by rw[e1,p3 hp2 h2,aX]⟩
  cases x with
  |os i off n e g=>
   simp only[nT]at h
   replace h:=aJ h;obtain⟨o,ho,h⟩:=h
   cases o with
   |mapo es mt=>cases h
   |cells cs mt=>
    simp only at h
    replace h:=aP h;obtain⟨hg,h⟩:=h
    replace h:=aJ h;obtain⟨q,hq,h⟩:=h
    obtain rfl:=J0 h
    obtain⟨p,p1,p2,p3⟩:=dZl hq
    have hu: ∀hp:H,upd hp i (.cells cs false)=kZ (fun k=>if k=i then some (some (.cells cs false))else none) hp:=fun hp=>(qK _ _ _).symm
    refine⟨fun k=>match p k with|some o=>some o|none=>(if k=i then some (some (.cells cs false))else none),fun k hk=>?_,?_,fun hp2 h2=>?_⟩
    ·simp only[dYz,List.mem_cons]
     by_cases e:k=i
     ·exact .inl e
     refine .inr (p1 k fun e2=>hk ?_)
     simp only[e2,J3 e]
    ·rw[p2,hu,dZj]
    have e3:=h2 i (by simp[dYz])
    have e4:=p3 (upd hp2 i (.cells cs false)) fun k hk=>by
     simp only[bJ]
     split
     ·rfl
     exact h2 k (by simp[dYz,hk])
    simp only[nT]
    rw[e3,ho,aX]
    simp only[]
    rw[hH _ hg,e4,aX,hu,dZj]
  |_=>exact plain (fun _=>rfl) rfl
theorem eBc {xs:List AV} {hp:H} {r:List AV×H} (h:uU hp xs=some r): ∃p:Nat→Option (Option AO),(∀k,p k≠none→k∈dYz xs)∧r.2=kZ p hp∧∀hp2:H,(∀k,k∈dYz xs→hp2 k=hp k)→uU hp2 xs=some (r.1,kZ p hp2):=by
 unfold uU at h⊢
 by_cases hn:fVs xs=true
 ·rw[J4 hn]at h
  obtain rfl:=J0 h
  exact⟨fun _=>none,fun k hk=>absurd rfl hk,rfl,fun hp2 _=>by rw[J4 hn];rfl⟩
 rw[J3 hn]at h
 obtain⟨p,p1,p2,p3⟩:=dZl h
 exact⟨p,p1,p2,fun hp2 h2=>by rw[J3 hn];exact p3 hp2 h2⟩
theorem eAc {hp hp2:H} {y:AV} (h2: ∀k,k∈fpV y→hp2 k=hp k):dZr hp2 y=dZr hp y:=by
 unfold dZr
 cases y with
 |os j off n e g=>simp only[];rw[h2 j (by simp[fpV])]
 |_=>rfl
theorem dZz (P:Program) (t:TypeId) (x y:AV) (id:Nat) (hp:H) {l:List Nat} (hn:dZr hp y=some l):cSa (fpV y) (id::(fpV x++l)) (fun hp=>pK P t x y hp id) hp:=by
 intro r hr
 simp only[pK]at hr⊢
 cases ht:P.underlying t with
 |none=>simp[ht]at hr
 |some d=>
  cases d with
  |slice e=>
   simp only[ht]at hr⊢
   replace hr:=aJ hr;obtain⟨z,hz,hr⟩:=hr
   replace hr:=aJ hr;obtain⟨by_,hb,hr⟩:=hr
   replace hr:=aJ hr;obtain⟨zs,hzs,hr⟩:=hr
   replace hr:=aP hr;obtain⟨hg,hr⟩:=hr
   replace hr:=aJ hr;obtain⟨my,hmy,hr⟩:=hr
   replace hr:=aJ hr;obtain⟨fy,hfy,hr⟩:=hr
   have hsrc:dYz my.2=l∧∀hp2:H,(∀k,k∈fpV y→hp2 k=hp k)→tX hp2 z y=some my:=by
    unfold dZr at hn
    cases y with
    |os j off n e' g=>
     simp only[tX,sR]at hn hmy⊢
     replace hmy:=aJ hmy;obtain⟨o,ho,hmy⟩:=hmy
     rw[ho]at hn
     cases o with
     |mapo es mt=>cases hmy
     |cells xs mt=>
      simp only at hmy hn
      replace hmy:=aP hmy;obtain⟨hg2,hmy⟩:=hmy
      obtain rfl:=J0 hmy
      obtain rfl:=J0 hn
      refine⟨by rw[hg2.1],fun hp2 h2=>?_⟩
      rw[h2 j (by simp[fpV]),ho,aX]
      simp only[]
      rw[hH _ hg2]
    |_=>cases hn
   obtain⟨hl,hsrc⟩:=hsrc
   obtain⟨p,p1,p2,p3⟩:=eBc hfy
   rw[hl]at p1 p3
   obtain⟨q,q1,q2,q3⟩:=eAa hr
   refine⟨fun k=>match q k with|some o=>some o|none=>p k,fun k hk=>?_,by rw[q2,p2,dZj],fun hp2 h2=>?_⟩
   ·simp only at hk
    cases hq:q k with
    |some o=>
     have:=q1 k (by rw[hq];simp)
     rcases List.mem_cons.1 this with h|h
     ·simp[h]
     simp[h]
    |none=>
     rw[hq]at hk
     have:=p1 k hk
     simp[this]
   rw[hz,aX,hb,aX,hzs,aX,hH _ hg,hsrc hp2 (fun k hk=>h2 k (.inl hk)),aX,p3 hp2 (fun k hk=>h2 k (.inr (by simp[hk]))),aX]
   simp only[]
   rw[q3 (kZ p hp2) fun k hk=>by
    rw[p2]
    simp only[kZ]
    rw[h2 k (.inr (by simp[hk]))],dZj]
  |_=>simp[ht]at hr
theorem bMw {m nx n:Nat} {hp hp2:H} {k:Nat} (h:hp2 k=hp k):mY m nx n hp2 k=mY m nx n hp k:=by
 unfold mY
 split
 ·exact h
 ·rfl
 simp only[]
 rw[h]
theorem bLf (P:Program) (t:TypeId) (x:Operand) (ρ:Operand→AV) {hp hp2:H} {v:AV} (h:eKi P (.load t x) ρ hp=some v) (h2: ∀k,k∈fpV (ρ x)→hp2 k=hp k):eKi P (.load t x) ρ hp2=some v:=by
 simp only[eKi]at h⊢
 cases hx:ρ x with
 |op i off=>
  simp only[hx]at h⊢
  rw[h2 i (by simp[hx,fpV])]
  exact h
 |rp ys=>simp only[hx]at h⊢;exact h
 |_=>simp only[hx]at h;cases h
section
variable {P : Program} {Γ : Env} {GL : Nat → Option (List AV)} {md : Nat → Nat} {ops : Array Oper}
theorem aAf {op:Op} {ρ:Operand→AV} {m nx n:Nat} {hp:H} {id cx:Nat} {r:AV×H×Nat} {R W:List Nat} (hf: ∀f,ρ (.func f)=.fn f []) (hr:eff P Γ op ρ m nx n hp id cx=some r) (hfp:fpE P Γ m op ρ hp id=.at_ R W):
  ∃p,(∀k,p k≠none→k∈W)∧r.2.1=kZ p hp∧r.2.2=cx∧∀hp2,(∀k,k∈R∨k∈W→hp2 k=hp k)→(∀cx2,eff P Γ op ρ m nx n hp2 id cx2=some (r.1,kZ p hp2,cx2))∧fpE P Γ m op ρ hp2 id=.at_ R W:=by
 unfold fpE at hfp⊢
 by_cases hP:tI P Γ m op=.P
 ·rw[J4 hP]at hfp
  obtain⟨rfl,rfl⟩:=FP.at_.inj hfp
  refine⟨fun _=>none,fun k hk=>absurd rfl hk,?_,?_,fun hp2 _=>⟨fun cx2=>?_,by rw[J4 hP]⟩⟩
  ·have:=(aDd hf hP hp hp id id cx cx hr).1;rw[this];rfl
  ·have:=(aDd hf hP hp hp id id cx cx hr).1;rw[this]
  ·exact(aDd hf hP hp hp2 id id cx cx2 hr).2
 ·simp only[J3 hP]at hfp⊢
  unfold eff at hr⊢
  cases hc:cls P op with
  |pure=>
   simp only[hc]at hr hfp⊢
   obtain⟨rfl,rfl⟩:=FP.at_.inj hfp
   replace hr:=aJ hr;obtain⟨x,hx,hr⟩:=hr
   obtain rfl:=J0 hr
   exact⟨fun _=>none,fun k hk=>absurd rfl hk,rfl,rfl,fun hp2 _=>⟨fun cx2=>by rw[hx];rfl,by first|rfl|trivial⟩⟩
  |read=>
   simp only[hc]at hr hfp⊢
   replace hr:=aJ hr;obtain⟨x,hx,hr⟩:=hr
   obtain rfl:=J0 hr
   unfold fpR at hfp⊢
   cases op with
   |load t y=>
    simp only at hfp⊢
    obtain⟨rfl,rfl⟩:=FP.at_.inj hfp
    refine⟨fun _=>none,fun k hk=>absurd rfl hk,rfl,by first|rfl|trivial,fun hp2 h2=>⟨fun cx2=>?_,by first|rfl|trivial⟩⟩
    rw[bLf P t y ρ hx (fun k hk=>bMw (h2 k (.inl hk)))]
    rfl
   |_=>simp at hfp
  |new=>
   simp only[hc]at hr hfp⊢
   obtain⟨rfl,rfl⟩:=FP.at_.inj hfp
   replace hr:=aJ hr;obtain⟨x,hx,hr⟩:=hr
   obtain rfl:=J0 hr
   refine⟨fun k=>if k=id then some (some (.cells x.2 true))else none,fun k hk=>?_,(qK _ _ _).symm,rfl,fun hp2 _=>⟨fun cx2=>by rw[hx,aX,qK],by first|rfl|trivial⟩⟩
   by_cases e:k=id
   ·simp[e]
   ·simp[e]at hk
  |write=>
   simp only[hc]at hr hfp⊢
   replace hr:=aJ hr;obtain⟨x,hx,hr⟩:=hr
   obtain rfl:=J0 hr
   have go: ∀ {R W:List Nat},cSa R W (fun hp=>fR P op ρ hp id) hp→(∀hp2,(∀k,k∈R∨k∈W→hp2 k=hp k)→fpW op ρ hp2 id=.at_ R W)→
     ∃p,(∀k,p k≠none→k∈W)∧(x.1,x.2,cx).2.1=kZ p hp∧(x.1,x.2,cx).2.2=cx∧∀hp2,(∀k,k∈R∨k∈W→hp2 k=hp k)→(∀cx2:Nat,(aK (fR P op ρ hp2 id) fun p=>some (p.1,p.2,cx2))=some ((x.1,x.2,cx).1,kZ p hp2,cx2))∧fpW op ρ hp2 id=.at_ R W:=by
    intro R W hL hF
    obtain⟨p,p1,p2,p3⟩:=hL x hx
    exact⟨p,p1,p2,rfl,fun hp2 h2=>⟨fun cx2=>by rw[show fR P op ρ hp2 id=_ from p3 hp2 h2];rfl,hF hp2 h2⟩⟩
   unfold fpW at hfp
   cases op with
   |store t a y=>
    simp only at hfp
    obtain⟨rfl,rfl⟩:=FP.at_.inj hfp
    exact go (bAr P t a y ρ id hp) (fun hp2 _=>rfl)
   |call c=>
    obtain⟨callee,args,ats⟩:=c
    simp only at hfp
    split at hfp
    ·rename_i u v t1 t2 e2 e3
     split at hfp
     ·rename_i hn
      obtain⟨rfl,rfl⟩:=FP.at_.inj hfp
      have hint:eDw P t2=true:=by
       simp only[fR]at hx
       rw[e2,e3]at hx
       simp only at hx
       by_cases hi:eDw P t2=true
       ·exact hi
       ·rw[J3 hi]at hx
        replace hx:=aP hx;obtain⟨_,hx⟩:=hx
        unfold wX at hx
        cases hd:P.underlying t1 with
        |none=>simp[hd]at hx
        |some d=>
         cases d with
         |slice e=>
          simp only[hd]at hx
          replace hx:=aJ hx;obtain⟨z,hz,hx⟩:=hx
          replace hx:=aJ hx;obtain⟨by_,hb,hx⟩:=hx
          replace hx:=aJ hx;obtain⟨zs,hzs,hx⟩:=hx
          replace hx:=aP hx;obtain⟨hg,hx⟩:=hx
          replace hx:=aJ hx;obtain⟨mm,hmm,hx⟩:=hx
          unfold bCb at hmm
          unfold rW at hn
          cases hv:ρ v with
          |i q=>simp[hv]at hn
          |_=>simp[hv]at hmm
         |_=>simp[hd]at hx
      have hw: ∀hp2:H,fR P (.call ⟨.builtin .append,args,ats⟩) ρ hp2 id=pK P t1 (ρ u) (ρ v) hp2 id:=by
       intro hp2
       simp only[fR]
       rw[e2,e3]
       simp only[]
       rw[J4 hint]
      refine go ?_ (fun hp2 h2=>?_)
      ·have:=aSh P t1 (ρ u) (ρ v) id hp hn
       intro r hr
       simp only[hw]at hr⊢
       exact this r hr
      ·unfold fpW
       simp only[]
       rw[e2,e3]
       simp only[]
       have hxx:pK P t1 (ρ u) (ρ v) hp id=some x:=by rw[←hw];exact hx
       have hs:rW hp2 (ρ v)=true:=by rw[aQw (fun k hk=>h2 k (.inl hk))];exact hn
       rw[J4 hs]
     ·rename_i hn
      split at hfp
      ·rename_i l hx2
       obtain⟨rfl,rfl⟩:=FP.at_.inj hfp
       have hint:eDw P t2=true:=by
        simp only[fR]at hx
        rw[e2,e3]at hx
        simp only at hx
        by_cases hi:eDw P t2=true
        ·exact hi
        ·rw[J3 hi]at hx
         replace hx:=aP hx;obtain⟨_,hx⟩:=hx
         unfold wX at hx
         cases hd:P.underlying t1 with
         |none=>simp[hd]at hx
         |some d=>
          cases d with
          |slice e=>
           simp only[hd]at hx
           replace hx:=aJ hx;obtain⟨z,hz,hx⟩:=hx
           replace hx:=aJ hx;obtain⟨by_,hb,hx⟩:=hx
           replace hx:=aJ hx;obtain⟨zs,hzs,hx⟩:=hx
           replace hx:=aP hx;obtain⟨hg,hx⟩:=hx
           replace hx:=aJ hx;obtain⟨mm,hmm,hx⟩:=hx
           unfold bCb at hmm
           unfold dZr at hx2
           cases hv:ρ v with
           |i q=>simp[hv]at hx2
           |_=>simp[hv]at hmm
          |_=>simp[hd]at hx
       have hw: ∀hp2:H,fR P (.call ⟨.builtin .append,args,ats⟩) ρ hp2 id=pK P t1 (ρ u) (ρ v) hp2 id:=by
        intro hp2
        simp only[fR]
        rw[e2,e3]
        simp only[]
        rw[J4 hint]
       refine go ?_ (fun hp2 h2=>?_)
       ·have:=dZz P t1 (ρ u) (ρ v) id hp hx2
        intro r hr
        simp only[hw]at hr⊢
        exact this r hr
       ·unfold fpW
        simp only[]
        rw[e2,e3]
        simp only[]
        rw[J3 (by rw[aQw (fun k hk=>h2 k (.inl hk))];exact hn),eAc (fun k hk=>h2 k (.inl hk)),hx2]
      ·cases hfp
    ·cases hfp
   |_=>simp at hfp
  |call=>simp[hc]at hfp
theorem mZ {op:Op} {ρ ρ':Operand→AV} (m:Nat) (hp:H) (id:Nat) (h: ∀y∈op.operands,ρ y=ρ' y):fpE P Γ m op ρ hp id=fpE P Γ m op ρ' hp id:=by
 unfold fpE
 have e1:fpR op ρ=fpR op ρ':=by
  cases op with
  |load t x=>simp only[fpR];rw[h x (by simp[Op.operands])]
  |_=>rfl
 have e2:fpW op ρ hp id=fpW op ρ' hp id:=by
  cases op with
  |store t a x=>simp only[fpW];rw[h a (by simp[Op.operands])]
  |call c=>
   obtain⟨callee,args,ats⟩:=c
   have hA: ∀y∈args.toList,ρ y=ρ' y:=fun y hy=>h y (by simp only[Op.operands,Call.operands,Array.mem_append];exact .inr (Array.mem_toList_iff.1 hy))
   simp only[fpW]
   split
   ·rename_i x y t t' q1 q2
    rw[hA x (by rw[q1];simp),hA y (by rw[q1];simp)]
   rfl
  |_=>rfl
 rw[e1,e2]
def fpQ (f:FP) (hp hp':H):FP:=match f with
 | .all=> .cal hp hp'
 | .at_ R W=> .at_ R W
 | .cal a b=> .cal a b
def fpS (P:Program) (Γ:Env) (GL:Nat→Option (List AV)) (md:Nat→Nat) (ops:Array Oper) (k:Nat) (o:Oper) (s:S) (hp':H):FP:=
 match gdO ops s.fr o with
 |some true=>fpQ (fpE P Γ (md k) o.op (ev GL s.fr) s.hp (s.nx+k)) s.hp hp'
 |_=> .at_ [] []
def apL (xs ys:List Nat):Prop:= ∀x,x∈xs→∀y,y∈ys→x≠y
def aTz (x:Nat) (ys:List Nat):Prop:= ∀y,y∈ys→x≠y
theorem cEc (ys:List Nat):apL [] ys=True:=by simp[apL]
theorem bRv (x:Nat) (r ys:List Nat):apL (x::r) ys=(aTz x ys∧apL r ys):=by simp[apL,aTz]
theorem bRw (x:Nat):aTz x []=True:=by simp[aTz]
theorem bEw (x y:Nat) (r:List Nat):aTz x (y::r)=(x≠y∧aTz x r):=by simp[aTz]
def agL (xs:List Nat) (hp hp':H):Prop:= ∀x,x∈xs→hp' x=hp x
def eEc:FP→FP→Prop
 | .at_ R W,.at_ R' W'=>apL W R'∧apL W W'∧apL R W'
 | .at_ R W,.all=>R=[]∧W=[]
 | .all,.at_ R W=>R=[]∧W=[]
 | .at_ R W,.cal hp hp'=>W=[]∧agL R hp hp'
 | .cal hp hp',.at_ R W=>W=[]∧agL R hp hp'
 |_,_=>False
theorem cAa {k:Nat} {o:Oper} {s t:S} (he:fVo s t) (hp':H):fpS P Γ GL md ops k o s hp'=fpS P Γ GL md ops k o t hp':=by
 obtain⟨e1,e2,e3,e4⟩:=he
 unfold fpS
 rw[aXd e1 o,bNk e1,e2,e3]
theorem dDf {op:Op} {ρ:Operand→AV} {m:Nat} {hp:H} {id:Nat} {a b:H}:fpE P Γ m op ρ hp id≠.cal a b:=by
 unfold fpE
 split
 ·exact fun e=>by cases e
 split
 ·exact fun e=>by cases e
 ·unfold fpR;split<;>exact fun e=>by cases e
 ·exact fun e=>by cases e
 ·unfold fpW
  split
  ·exact fun e=>by cases e
  ·split
   ·split
    ·exact fun e=>by cases e
    split<;>exact fun e=>by cases e
   exact fun e=>by cases e
  exact fun e=>by cases e
 exact fun e=>by cases e
theorem aQv {i j:Nat} {x y:Oper} {s s1 s2:S} (hap:x.apart ops y=true) (_:i≠j)
  (h1:kA P Γ GL md ops i x s=some s1) (h2:kA P Γ GL md ops j y s1=some s2) (hd:eEc (fpS P Γ GL md ops i x s s1.hp) (fpS P Γ GL md ops j y s1 s2.hp)):
  ∃t1 t2,kA P Γ GL md ops j y s=some t1∧kA P Γ GL md ops i x t1=some t2∧fVo s2 t2∧fpS P Γ GL md ops j y s t1.hp=fpS P Γ GL md ops j y s1 s2.hp∧fpS P Γ GL md ops i x t1 t2.hp=fpS P Γ GL md ops i x s s1.hp:=by
 obtain⟨a1,a2,a3⟩:=Oper.apart_spec hap
 have hfn: ∀fr f,ev GL fr (.func f)=.fn f []:=fun _ _=>rfl
 unfold kA at h1 h2⊢
 unfold fpS at hd⊢
 replace h1:=aJ h1;obtain⟨bx,hbx,h1⟩:=h1
 replace h2:=aJ h2;obtain⟨by',hby,h2⟩:=h2
 cases bx with
 |false=>
  obtain rfl:=J0 h1
  simp only at hby h2 hd
  rw[jT a1]at hby
  rw[hby,aX]
  cases by' with
  |false=>
   obtain rfl:=J0 h2
   refine⟨_,{fr:=eM x.dst (.tup []) (eM y.dst (.tup []) s.fr),hp:=s.hp,nx:=s.nx,cx:=s.cx},rfl,?_,?_,?_,?_⟩
   ·simp only[];rw[jT a3,hbx,aX]
   ·exact⟨fun t=>jV a2 _ _ _ t,rfl,rfl,rfl⟩
   ·simp only[];rw[jT a1,hby]
   ·simp only[];rw[jT a3,hbx]
  |true=>
   replace h2:=aJ h2;obtain⟨r,hr,h2⟩:=h2
   obtain rfl:=J0 h2
   rw[kI _ _ _ _ _ _ (kO a1)]at hr
   simp only[hr,aX]
   refine⟨_,{fr:=eM x.dst (.tup []) (eM y.dst r.1 s.fr),hp:=r.2.1,nx:=s.nx,cx:=r.2.2},rfl,?_,?_,?_,?_⟩
   ·simp only[];rw[jT a3,hbx,aX]
   ·exact⟨fun t=>jV a2 _ _ _ t,rfl,rfl,rfl⟩
   ·rw[jT a1,hby];simp only[];rw[mZ _ _ _ (kO a1)]
   ·simp only[];rw[jT a3,hbx]
 |true=>
  replace h1:=aJ h1;obtain⟨rx,hrx,h1⟩:=h1
  obtain rfl:=J0 h1
  simp only at hby h2 hd
  rw[jT a1]at hby
  rw[hby,aX]
  cases by' with
  |false=>
   obtain rfl:=J0 h2
   refine⟨_,{fr:=eM x.dst rx.1 (eM y.dst (.tup []) s.fr),hp:=rx.2.1,nx:=s.nx,cx:=rx.2.2},rfl,?_,?_,?_,?_⟩
   ·simp only[]
    rw[jT a3,hbx,aX]
    simp only[]
    rw[kI _ _ _ _ _ _ (kO a3),hrx,aX]
   ·exact⟨fun t=>jV a2 _ _ _ t,rfl,rfl,rfl⟩
   ·simp only[];rw[jT a1,hby]
   ·simp only[];rw[jT a3,hbx];simp only[];rw[mZ _ _ _ (kO a3)]
  |true=>
   replace h2:=aJ h2;obtain⟨ry,hry,h2⟩:=h2
   obtain rfl:=J0 h2
   rw[jT a1,hby,hbx]at hd
   simp only at hd
   rw[mZ _ _ _ (kO a1)]at hd
   rw[kI _ _ _ _ _ _ (kO a1)]at hry
   have none_of: ∀ {p:Nat→Option (Option AO)} (_: ∀k,p k≠none→k∈([]:List Nat)) (hp:H),kZ p hp=hp:=by
    intro p hp0 hp
    funext k
    simp only[kZ]
    cases h:p k with
    |none=>rfl
    |some o=>exact absurd (hp0 k (by rw[h];simp)) (by simp)
   have quietX: ∀Rx,fpE P Γ (md i) x.op (ev GL s.fr) s.hp (s.nx+i)=.at_ Rx []→agL Rx rx.2.1 ry.2.1→∃t1 t2,(aK (eff P Γ y.op (ev GL s.fr) (md j) s.nx ops.size s.hp (s.nx+j) s.cx) fun r=>some ({fr:=eM y.dst r.1 s.fr,hp:=r.2.1,nx:=s.nx,cx:=r.2.2}:S))=some t1∧
      (aK (gdO ops t1.fr x) fun b=>match b with
       |true=>aK (eff P Γ x.op (ev GL t1.fr) (md i) t1.nx ops.size t1.hp (t1.nx+i) t1.cx) fun r=>some ({fr:=eM x.dst r.1 t1.fr,hp:=r.2.1,nx:=t1.nx,cx:=r.2.2}:S)
       |false=>some {t1 with fr:=eM x.dst (.tup []) t1.fr})=some t2∧
      fVo {fr:=eM y.dst ry.1 (eM x.dst rx.1 s.fr),hp:=ry.2.1,nx:=s.nx,cx:=ry.2.2} t2∧
      fpQ (fpE P Γ (md j) y.op (ev GL s.fr) s.hp (s.nx+j)) s.hp t1.hp=fpQ (fpE P Γ (md j) y.op (ev GL s.fr) rx.2.1 (s.nx+j)) rx.2.1 ry.2.1∧
      (match gdO ops t1.fr x with|some true=>fpQ (fpE P Γ (md i) x.op (ev GL t1.fr) t1.hp (t1.nx+i)) t1.hp t2.hp|_=> .at_ [] [])=.at_ Rx []:=by
    intro Rx hfx hag
    obtain⟨p,p1,p2,p3,p4⟩:=aAf (hfn s.fr) hrx hfx
    rw[none_of p1]at p2
    rw[p2]at hag
    rw[p2,p3]at hry
    obtain⟨x1,x2⟩:=p4 ry.2.1 (fun k hk=>hk.elim (hag k) (fun h=>by simp at h))
    rw[hry,aX]
    refine⟨_,{fr:=eM x.dst rx.1 (eM y.dst ry.1 s.fr),hp:=ry.2.1,nx:=s.nx,cx:=ry.2.2},rfl,?_,⟨fun t=>jV a2 _ _ _ t,rfl,rfl,rfl⟩,by rw[p2],?_⟩
    ·simp only[]
     rw[jT a3,hbx,aX]
     simp only[]
     rw[kI _ _ _ _ _ _ (kO a3),x1 ry.2.2,aX,none_of p1]
    ·simp only[]
     rw[jT a3,hbx]
     simp only[]
     rw[mZ _ _ _ (kO a3),x2]
     rfl
   have quietY: ∀Ry,fpE P Γ (md j) y.op (ev GL s.fr) rx.2.1 (s.nx+j)=.at_ Ry []→agL Ry s.hp rx.2.1→∃t1 t2,(aK (eff P Γ y.op (ev GL s.fr) (md j) s.nx ops.size s.hp (s.nx+j) s.cx) fun r=>some ({fr:=eM y.dst r.1 s.fr,hp:=r.2.1,nx:=s.nx,cx:=r.2.2}:S))=some t1∧
      (aK (gdO ops t1.fr x) fun b=>match b with
       |true=>aK (eff P Γ x.op (ev GL t1.fr) (md i) t1.nx ops.size t1.hp (t1.nx+i) t1.cx) fun r=>some ({fr:=eM x.dst r.1 t1.fr,hp:=r.2.1,nx:=t1.nx,cx:=r.2.2}:S)
       |false=>some {t1 with fr:=eM x.dst (.tup []) t1.fr})=some t2∧
      fVo {fr:=eM y.dst ry.1 (eM x.dst rx.1 s.fr),hp:=ry.2.1,nx:=s.nx,cx:=ry.2.2} t2∧
      fpE P Γ (md j) y.op (ev GL s.fr) s.hp (s.nx+j)=.at_ Ry []∧
      (match gdO ops t1.fr x with|some true=>fpQ (fpE P Γ (md i) x.op (ev GL t1.fr) t1.hp (t1.nx+i)) t1.hp t2.hp|_=> .at_ [] [])=fpQ (fpE P Γ (md i) x.op (ev GL s.fr) s.hp (s.nx+i)) s.hp rx.2.1:=by
    intro Ry hfy hag
    obtain⟨q,q1,q2,q3,q4⟩:=aAf (hfn s.fr) hry hfy
    rw[none_of q1]at q2
    obtain⟨y1,y2⟩:=q4 s.hp (fun k hk=>hk.elim (fun h=>(hag k h).symm) (fun h=>by simp at h))
    rw[none_of q1]at y1
    rw[y1 s.cx,aX]
    refine⟨_,{fr:=eM x.dst rx.1 (eM y.dst ry.1 s.fr),hp:=rx.2.1,nx:=s.nx,cx:=rx.2.2},rfl,?_,⟨fun t=>jV a2 _ _ _ t,q2,rfl,q3⟩,y2,?_⟩
    ·simp only[]
     rw[jT a3,hbx,aX]
     simp only[]
     rw[kI _ _ _ _ _ _ (kO a3),hrx,aX]
    ·simp only[]
     rw[jT a3,hbx]
     simp only[]
     rw[mZ _ _ _ (kO a3)]
   rw[jT a1,hby,hbx]
   simp only[]
   rw[mZ _ _ _ (kO a1)]
   cases hfx:fpE P Γ (md i) x.op (ev GL s.fr) s.hp (s.nx+i)with
   |cal a b=>exact absurd hfx dDf
   |all=>
    cases hfy:fpE P Γ (md j) y.op (ev GL s.fr) rx.2.1 (s.nx+j)with
    |cal a b=>exact absurd hfy dDf
    |all=>rw[hfx,hfy]at hd;exact hd.elim
    |at_ Ry Wy=>
     rw[hfx,hfy]at hd
     obtain⟨rfl,hag⟩:=hd
     obtain⟨t1,t2,c1,c2,c3,c4,c5⟩:=quietY Ry hfy hag
     exact⟨t1,t2,c1,c2,c3,by rw[c4];rfl,c5.trans (by rw[hfx])⟩
   |at_ Rx Wx=>
    cases hfy:fpE P Γ (md j) y.op (ev GL s.fr) rx.2.1 (s.nx+j)with
    |cal a b=>exact absurd hfy dDf
    |all=>
     rw[hfx,hfy]at hd
     obtain⟨rfl,hag⟩:=hd
     obtain⟨t1,t2,c1,c2,c3,c4,c5⟩:=quietX Rx hfx hag
     exact⟨t1,t2,c1,c2,c3,c4.trans (by rw[hfy]),c5⟩
    |at_ Ry Wy=>
     rw[hfx,hfy]at hd
     obtain⟨d1,d1',d2⟩:=hd
     obtain⟨p,p1,p2,p3,p4⟩:=aAf (hfn s.fr) hrx hfx
     obtain⟨q,q1,q2,q3,q4⟩:=aAf (hfn s.fr) hry hfy
     have hsame: ∀k,k∈Ry∨k∈Wy→s.hp k=rx.2.1 k:=by
      intro k hk
      rw[p2]
      simp only[kZ]
      cases hp:p k with
      |none=>rfl
      |some o=>
       have h5:=p1 k (by rw[hp];simp)
       rcases hk with hk|hk
       ·exact absurd rfl (d1 k h5 k hk)
       ·exact absurd rfl (d1' k h5 k hk)
     obtain⟨y1,y2⟩:=q4 s.hp hsame
     have hsame2: ∀k,k∈Rx∨k∈Wx→kZ q s.hp k=s.hp k:=by
      intro k hk
      simp only[kZ]
      cases hq:q k with
      |none=>rfl
      |some o=>
       have h5:=q1 k (by rw[hq];simp)
       rcases hk with hk|hk
       ·exact absurd rfl (d2 k hk k h5)
       ·exact absurd rfl (d1' k hk k h5)
     obtain⟨x1,x2⟩:=p4 (kZ q s.hp) hsame2
     have hcomm:kZ q (kZ p s.hp)=kZ p (kZ q s.hp):=bEt _ _ _ (fun k hk=>by
      have h5:=q1 k hk
      cases hp:p k with
      |none=>rfl
      |some o=>exact absurd rfl (d1' k (p1 k (by rw[hp];simp)) k h5))
     refine⟨{fr:=eM y.dst ry.1 s.fr,hp:=kZ q s.hp,nx:=s.nx,cx:=s.cx},{fr:=eM x.dst rx.1 (eM y.dst ry.1 s.fr),hp:=kZ p (kZ q s.hp),nx:=s.nx,cx:=s.cx},?_,?_,?_,?_,?_⟩
     ·rw[y1 s.cx,aX]
     ·simp only[]
      rw[jT a3,hbx,aX]
      simp only[]
      rw[kI _ _ _ _ _ _ (kO a3),x1 s.cx,aX]
     ·exact⟨fun t=>jV a2 _ _ _ t,by simp only[];rw[q2,p2,hcomm],rfl,by simp only[];rw[q3,p3]⟩
     ·rw[y2];rfl
     ·simp only[]
      rw[jT a3,hbx]
      simp only[]
      rw[mZ _ _ _ (kO a3),x2]
      rfl
end
end Go.AX

namespace Go.AX
open Go Go.Proofs
section
variable {P : Program} {Γ : Env} {c : Ctx} {σ0 : Nat → Loc} {I0 : Nat → Prop} {w0 : World} {GL : Nat → Option (List AV)} {md : Nat → Nat} {ops : Array Oper}
def aQn (P:Program) (Γ:Env) (GL:Nat→Option (List AV)) (md:Nat→Nat) (ops:Array Oper):List (Nat×FP)→S→S→Prop
 |[],s,sf=>s=sf
 |a::r,s,sf=> ∃o s1,ops[a.1]? =some o∧kA P Γ GL md ops a.1 o s=some s1∧fpS P Γ GL md ops a.1 o s s1.hp=a.2∧aQn P Γ GL md ops r s1 sf
theorem aQm: ∀(L:List (Nat×FP)) {s t sf:S},aQn P Γ GL md ops L s sf→fVo s t→∃tf,aQn P Γ GL md ops L t tf∧fVo sf tf
 |[],s,t,sf,h,he=>by obtain rfl:=h;exact⟨t,rfl,he⟩
 |a::r,s,t,sf,h,he=>by
  obtain⟨o,s1,h1,h2,h3,h4⟩:=h
  obtain⟨t1,e1,e2⟩:=aFn h2 he
  obtain⟨tf,e3,e4⟩:=aQm r h4 e2
  exact⟨tf,⟨o,t1,h1,e1,by rw[←cAa he,←e2.2.1];exact h3,e3⟩,e4⟩
theorem aOq {i:Nat} {x:Oper} {f:FP} (hx:ops[i]? =some x): ∀(L1 L2:List (Nat×FP)) {s sf:S},
  (∀a∈L1,a.1≠i∧∃y,ops[a.1]? =some y∧y.apart ops x=true∧eEc a.2 f)→
  aQn P Γ GL md ops (L1++(i,f)::L2) s sf→∃s1 sf',kA P Γ GL md ops i x s=some s1∧fpS P Γ GL md ops i x s s1.hp=f∧aQn P Γ GL md ops (L1++L2) s1 sf'∧fVo sf sf'
 |[],L2,s,sf,_,h=>by
  obtain⟨o,s1,h1,h2,h3,h4⟩:=h
  rw[hx]at h1
  obtain rfl:=J0 h1
  exact⟨s1,sf,h2,h3,h4,fVo.refl _⟩
 |a::r,L2,s,sf,hl,h=>by
  obtain⟨hji,y,hy,hap,hc⟩:=hl a (by simp)
  obtain⟨o,sj,h1,h2,h3,h4⟩:=h
  rw[hy]at h1
  obtain rfl:=J0 h1
  obtain⟨s2,sf2,e1,e1',e2,e3⟩:=aOq hx r L2 (fun k hk=>hl k (by simp[hk])) h4
  obtain⟨t1,t2,c1,c2,c3,c4,c5⟩:=aQv hap hji h2 e1 (by rw[h3,e1'];exact hc)
  obtain⟨sf3,g1,g2⟩:=aQm (r++L2) e2 c3
  exact⟨t1,sf3,c1,c4.trans e1',⟨y,t2,hy,c2,c5.trans h3,g1⟩,e3.trans g2⟩
def cWi (ops:Array Oper) (a b:Nat×FP):Prop:=
 ((Region.before ops).getD b.1 0).testBit a.1=true∨∃x y,ops[a.1]? =some x∧ops[b.1]? =some y∧x.apart ops y=true∧eEc a.2 b.2
theorem aJx (hΓ:eT P c.GL Γ) {Q:Exit→Act→World→Prop} (hdst:fK c.nt ops.toList=true)
  (hedge: ∀j y,ops[j]? =some y→∀e∈y.after,Region.binds .any e=true→e.on<j) {s':S}
  (hQ: ∀a' w',R c σ0 I0 w0 (fun _=>False) s' a' w'→Q .normal a' w'):
  ∀(fuel:Nat) (listed:Array Bool) (L:List (Nat×FP)) (s sf:S) (a:Act) (w:World),listed.size=ops.size→L.length≤fuel→L.map Prod.fst=unl ops.size listed→
   (∀m o,listed.getD m false=true→ops[m]? =some o→∀e∈o.after,Region.binds .any e=true→listed.getD e.on false=true)→L.Pairwise (cWi ops)→
   aQn P Γ c.GL md ops L s sf→fVo s' sf→R c σ0 I0 w0 (fun k=>k∈unl ops.size listed) s a w→wpAny P .any ops Q fuel listed a w:=by
 have mem_unl: ∀(listed:Array Bool) i,i∈unl ops.size listed↔i<ops.size∧listed.getD i true=false:=by
  intro listed i;simp[unl]
 have done: ∀(listed:Array Bool) (L:List (Nat×FP)) (s sf:S) (a:Act) (w:World),L.map Prod.fst=unl ops.size listed→unl ops.size listed=[]→aQn P Γ c.GL md ops L s sf→fVo s' sf→R c σ0 I0 w0 (fun k=>k∈unl ops.size listed) s a w→Q .normal a w:=by
  intro listed L s sf a w hL h0 hrun heq hR
  rw[h0]at hL hR
  have:L=[]:=List.map_eq_nil_iff.1 hL
  subst this
  obtain rfl:=hrun
  exact hQ _ _ ((hR.un fun k hk=>hk.elim).eqv heq.symm)
 have noready: ∀(listed:Array Bool),listed.size=ops.size→(Region.ready .any ops listed=[]↔unl ops.size listed=[]):=by
  intro listed hsz
  constructor
  ·intro hr
   refine List.eq_nil_iff_forall_not_mem.2 fun i=>?_
   induction i using Nat.strongRecOn with
   |_ i ih=>
    intro hi
    obtain⟨hlt,hun⟩:=(mem_unl listed i).1 hi
    have:i∈Region.ready .any ops listed:=by
     rw[mem_ready]
     refine⟨hun,ops[i],Array.getElem?_eq_getElem hlt,fun e he hb=>?_⟩
     have hlt':=hedge i _ (Array.getElem?_eq_getElem hlt) e he hb
     have hn:=ih e.on hlt'
     rw[mem_unl]at hn
     have hs2:e.on<listed.size:=by omega
     rw[Array.getD_eq_getD_getElem?,Array.getElem?_eq_getElem hs2]at hn⊢
     simp only[Option.getD_some]at hn⊢
     cases hv:listed[e.on]with
     |true=>rfl
     |false=>exact absurd ⟨by omega,hv⟩ hn
    rw[hr]at this;cases this
  ·intro h0
   refine List.eq_nil_iff_forall_not_mem.2 fun i hi=>?_
   rw[mem_ready]at hi
   obtain⟨h1,o,ho,_⟩:=hi
   have:i∈unl ops.size listed:=(mem_unl listed i).2 ⟨(Array.getElem?_eq_some_iff.1 ho).1,h1⟩
   rw[h0]at this;cases this
 intro fuel
 induction fuel with
 |zero=>
  intro listed L s sf a w hsz hlen hL hdc hpw hrun heq hR
  have hL0:L=[]:=List.eq_nil_of_length_eq_zero (by omega)
  have h0:unl ops.size listed=[]:=by rw[←hL,hL0];rfl
  exact⟨(noready listed hsz).2 h0,done listed L s sf a w hL h0 hrun heq hR⟩
 |succ fuel ih=>
  intro listed L s sf a w hsz hlen hL hdc hpw hrun heq hR
  refine⟨fun hr=>done listed L s sf a w hL ((noready listed hsz).1 hr) hrun heq hR,fun i hi=>?_⟩
  obtain⟨hun,x,hx,hall⟩:=mem_ready.1 hi
  have hlt:=(Array.getElem?_eq_some_iff.1 hx).1
  have hmem:i∈unl ops.size listed:=(mem_unl listed i).2 ⟨hlt,hun⟩
  have hanc: ∀m j,Anc ops m j→(∀o,ops[m]? =some o→∀e∈o.after,Region.binds .any e=true→listed.getD e.on false=true)→listed.getD j false=true:=by
   intro m j ha
   induction ha with
   |edge ho he hb=>exact fun h=>h _ ho _ he hb
   |step ho he hb _ ih2=>exact fun h=>ih2 fun o ho' e' he' hb'=>hdc _ o (h _ ho _ he hb) ho' e' he' hb'
  have hmemL:i∈L.map Prod.fst:=by rw[hL];exact hmem
  obtain⟨⟨i',f⟩,hf,rfl⟩:=List.mem_map.1 hmemL
  obtain⟨L1,L2,hl⟩:=List.append_of_mem hf
  subst hl
  have hpu:(unl ops.size listed).Pairwise (· < ·):=List.Pairwise.filter _ List.pairwise_lt_range
  rw[←hL,List.map_append,List.map_cons]at hpu
  simp only at hpu
  have hlt1: ∀j∈L1.map Prod.fst,j<i':=fun j hj=>(List.pairwise_append.1 hpu).2.2 j hj i' (by simp)
  have hlt2: ∀j∈L2.map Prod.fst,i'<j:=fun j hj=>(List.pairwise_cons.1 (List.pairwise_append.1 hpu).2.1).1 j hj
  obtain⟨s1,sf1,f1,f1',f2,f3⟩:=aOq hx L1 L2 (fun a0 ha0=>by
   have hjm:a0.1∈unl ops.size listed:=by rw[←hL];simp only[List.map_append,List.mem_append];exact .inl (List.mem_map_of_mem ha0)
   obtain⟨hjlt,hjun⟩:=(mem_unl listed a0.1).1 hjm
   have hj1:=hlt1 a0.1 (List.mem_map_of_mem ha0)
   refine⟨by omega,?_⟩
   rcases(List.pairwise_append.1 hpw).2.2 a0 ha0 (i',f) (by simp)with h|⟨y,x',hy,hx',hap,hap1⟩
   ·have:=hanc i' a0.1 (oR ops i' a0.1 h) (fun o ho e he hb=>by rw[hx]at ho;obtain rfl:=J0 ho;exact hall e he hb)
    have hs2:a0.1<listed.size:=by omega
    rw[Array.getD_eq_getD_getElem?,Array.getElem?_eq_getElem hs2]at hjun this
    simp only[Option.getD_some]at hjun this
    rw[hjun]at this;cases this
   ·rw[hx]at hx'
    obtain rfl:=J0 hx'
    exact⟨y,hy,hap,hap1⟩) hrun
  have hnew:unl ops.size (listed.setIfInBounds i' true)=(L1++L2).map Prod.fst:=by
   have e1:unl ops.size (listed.setIfInBounds i' true)=(unl ops.size listed).filter (fun k=>k !=i'):=by
    unfold unl
    rw[List.filter_filter]
    refine List.filter_congr fun k hk=>?_
    by_cases hki:k=i'
    ·subst hki
     rw[Array.getD_eq_getD_getElem?,Array.getElem?_setIfInBounds_self_of_lt (by omega)];simp
    ·rw[getD_set_ne true (Ne.symm hki)]
     simp[hki]
   rw[e1,←hL,List.map_append,List.map_append,List.filter_append,List.map_cons,List.filter_cons]
   simp only[bne_self_eq_false,Bool.false_eq_true,if_false]
   congr 1
   ·exact List.filter_eq_self.2 fun k hk=>by have:=hlt1 k hk;simp;omega
   ·exact List.filter_eq_self.2 fun k hk=>by have:=hlt2 k hk;simp;omega
  have hun2: ∀k,k∈unl ops.size (listed.setIfInBounds i' true)→k∈unl ops.size listed∧k≠i':=by
   intro k hk
   rw[hnew,List.map_append,List.mem_append]at hk
   rw[←hL,List.map_append,List.map_cons,List.mem_append,List.mem_cons]
   rcases hk with hk|hk
   ·exact⟨.inl hk,by have:=hlt1 k hk;omega⟩
   ·exact⟨.inr (.inr hk),by have:=hlt2 k hk;omega⟩
  have hstep:=fX (K:=wpAny P .any ops Q fuel (listed.setIfInBounds i' true)) (Q:=Q) (ops:=ops) hΓ f1 (lU hdst (Array.mem_toList_iff.2 (Array.mem_of_getElem? hx))) (rem:=fun k=>k∈unl ops.size listed) hmem hR (fun a' w' hR'=>
   ih (listed.setIfInBounds i' true) (L1++L2) s1 sf1 a' w' (by simpa using hsz) (by simp at hlen⊢;omega) hnew.symm (fun m o hm ho e he hb=>by
     by_cases hmi:m=i'
     ·subst hmi
      rw[hx]at ho;obtain rfl:=J0 ho
      exact getD_set_true (hall e he hb)
     ·rw[getD_set_ne false (Ne.symm hmi)]at hm
      exact getD_set_true (hdc m o hm ho e he hb))
    (by
     rw[List.pairwise_append]at hpw⊢
     exact⟨hpw.1,(List.pairwise_cons.1 hpw.2.1).2,fun a ha b hb=>hpw.2.2 a ha b (by simp[hb])⟩)
    f2 (heq.trans f3) (hR'.un fun k hk=>hun2 k hk))
  unfold wpOp
  simp only[hx]
  split
  ·rename_i hw;rw[J4 hw]at hstep;exact .inl hstep
  ·rename_i hw;rw[J3 hw]at hstep;exact hstep
def fpP (P:Program) (Γ:Env) (GL:Nat→Option (List AV)) (m k:Nat) (o:LOp) (s:S) (hp':H):FP:=
 match gdS s.fr o.g with
 |some true=>fpQ (fpE P Γ m o.op (ev GL s.fr) s.hp (s.nx+k)) s.hp hp'
 |_=> .at_ [] []
def bEz (b:Bool) (k:Nat) (f:FP) (acc:List (Nat×FP)):List (Nat×FP):=if b=true then(k,f)::acc else acc
def aBs (P:Program) (Γ:Env) (GL:Nat→Option (List AV)) (md:Nat→Nat) (n:Nat) (hv:Nat→Bool):Nat→List LOp→List (Nat×FP)→S→Option (S×List (Nat×FP))
 |_,[],acc,s=>some (s,acc)
 |k,o::r,acc,s=>aK (eEj P Γ GL (md k) n k o s) fun s'=>aBs P Γ GL md n hv (k+1) r (bEz (hv k) k (fpP P Γ GL (md k) k o s s'.hp) acc) s'
def pC:List (Nat×FP)→Nat→FP
 |[],_=> .all
 |a::r,i=>if i=a.1 then a.2 else pC r i
def aDr:List (Nat×Nat)→List (Nat×FP)→Prop
 |[],_=>True
 |p::r,acc=>eEc (pC acc p.1) (pC acc p.2)∧aDr r acc
theorem aHt {acc:List (Nat×FP)}: ∀ {prs:List (Nat×Nat)},aDr prs acc→∀p∈prs,eEc (pC acc p.1) (pC acc p.2)
 |q::r,h,p,hp=>by
  rcases List.mem_cons.1 hp with rfl|hp
  ·exact h.1
  exact aHt h.2 p hp
theorem cZp (P:Program) (Γ:Env) (GL:Nat→Option (List AV)) (md:Nat→Nat) (ops:Array Oper) (k:Nat) (o:Oper) (s:S) (hp':H):fpS P Γ GL md ops k o s hp'=fpP P Γ GL (md k) k (aG ops o) s hp':=by
 have:gdO ops s.fr o=gdS s.fr (aG ops o).g:=by
  unfold gdO aG
  cases o.guard with
  |none=>rfl
  |some p=>
   obtain⟨j,want⟩:=p
   simp only[Option.map_some]
   cases ops[j]? with
   |none=>rfl
   |some y=>
    simp only[Option.bind_some]
    cases y.dst with
    |none=>rfl
    |some t=>rfl
 unfold fpS fpP
 rw[this]
 rfl
theorem aBr {hv:Nat→Bool}: ∀(l:List Oper) (k:Nat) (acc:List (Nat×FP)) {s sf:S} {acc':List (Nat×FP)},(∀m,l[m]? =if m<l.length then ops[k+m]? else none)→
  aBs P Γ GL md ops.size hv k (l.map (aG ops)) acc s=some (sf,acc')→
  ∃L,L.map Prod.fst=List.range' k l.length∧aQn P Γ GL md ops L s sf∧(∀a∈L,hv a.1=true→pC acc' a.1=a.2)∧(∀a∈L,∃o s hp',ops[a.1]? =some o∧fpS P Γ GL md ops a.1 o s hp'=a.2)∧∀i,i<k→pC acc' i=pC acc i
 |[],k,acc,s,sf,acc',_,h=>by
  simp only[List.map_nil,aBs,Option.some.injEq,Prod.mk.injEq]at h
  obtain⟨rfl,rfl⟩:=h
  exact⟨[],rfl,rfl,fun _ h=>absurd h (by simp),fun _ h=>absurd h (by simp),fun _ _=>rfl⟩
 |o::r,k,acc,s,sf,acc',hl,h=>by
  simp only[List.map_cons,aBs]at h
  replace h:=aJ h;obtain⟨s1,h1,h⟩:=h
  have h0:ops[k]? =some o:=by have:=(hl 0).symm;simpa using this
  obtain⟨L,e1,e2,e3,e3',e4⟩:=aBr r (k+1) _ (fun m=>by have:=hl (m+1);simpa [Nat.add_assoc,Nat.add_comm 1 m]using this) h
  refine⟨(k,fpS P Γ GL md ops k o s s1.hp)::L,by simp[e1,List.range'_succ],⟨o,s1,h0,by rw[vJ];exact h1,rfl,e2⟩,fun a ha hh=>?_,fun a ha=>?_,fun i hi=>?_⟩
  ·rcases List.mem_cons.1 ha with rfl|ha
   ·have:=e4 k (by omega)
    rw[this]
    simp only at hh
    rw[hh,bEz,J4 rfl,pC,J4 rfl,cZp]
   ·exact e3 a ha hh
  ·rcases List.mem_cons.1 ha with rfl|ha
   ·exact⟨o,s,s1.hp,h0,rfl⟩
   ·exact e3' a ha
  ·rw[e4 i (by omega)]
   unfold bEz
   split
   ·rw[pC,J3 (by omega)]
   ·rfl
def aWc (P:Program) (Γ:Env) (md:Nat→Nat) (hv:Nat→Bool) (prs:List (Nat×Nat)) (ops:Array Oper):Bool:=
 let b:=Region.before ops
 (List.range ops.size).all fun j=>match ops[j]? with
  |none=>true
  |some y=>y.after.all (fun e=> !Region.binds .any e||decide (e.on<j))&&
   let bj:=b.getD j 0
   (List.range j).all fun i=>bj.testBit i||match ops[i]? with
    |none=>true
    |some x=>x.apart ops y&&(decide (tI P Γ (md i) x.op=.P)||decide (tI P Γ (md j) y.op=.P)||(hv i&&hv j&&prs.contains (i,j)))
theorem cFz {k:Nat} {o:Oper} {s:S} {hp':H} (h:tI P Γ (md k) o.op=.P):fpS P Γ GL md ops k o s hp'=.at_ [] []:=by
 unfold fpS
 split
 ·unfold fpE;rw[J4 h];rfl
 rfl
theorem bRr (f:FP):eEc (.at_ [] []) f:=by
 cases f with
 |all=>exact⟨rfl,rfl⟩
 |cal a b=>exact⟨rfl,fun _ h=>by simp at h⟩
 |at_ R W=>exact⟨fun _ h=>by simp at h,fun _ h=>by simp at h,fun _ h=>by simp at h⟩
theorem bRq (f:FP):eEc f (.at_ [] []):=by
 cases f with
 |all=>exact⟨rfl,rfl⟩
 |cal a b=>exact⟨rfl,fun _ h=>by simp at h⟩
 |at_ R W=>exact⟨fun _ _ _ h=>by simp at h,fun _ _ _ h=>by simp at h,fun _ _ _ h=>by simp at h⟩
theorem aPc (hm:P.follows .mixedOrders=true) (hΓ:eT P c.GL Γ) {hv:Nat→Bool} {prs:List (Nat×Nat)} {id:Nat} {Q:Exit→Act→World→Prop} (hdst:fK c.nt ops.toList=true) (hok:aWc P Γ md hv prs ops=true) {s s':S} {acc:List (Nat×FP)} {a:Act} {w:World}
  (h:aBs P Γ c.GL md ops.size hv 0 (ops.toList.map (aG ops)) [] (cX ops.size s)=some (s',acc)) (hp:aDr prs acc) (hR:R c σ0 I0 w0 (fun _=>False) s a w) (hQ: ∀a' w',R c σ0 I0 w0 (fun _=>False) s' a' w'→Q .normal a' w'):
  (Code.region id ops true).wp P Q a w:=by
 have h0:unl ops.size (Array.replicate ops.size false)=List.range ops.size:=by
  unfold unl
  refine List.filter_eq_self.2 fun k hk=>?_
  rw[List.mem_range]at hk
  rw[Array.getD_eq_getD_getElem?,Array.getElem?_replicate,J4 hk];rfl
 have hchk: ∀j y,ops[j]? =some y→(∀e∈y.after,Region.binds .any e=true→e.on<j)∧∀i x,i<j→ops[i]? =some x→((Region.before ops).getD j 0).testBit i=true∨(x.apart ops y=true∧(tI P Γ (md i) x.op=.P∨tI P Γ (md j) y.op=.P∨(hv i=true∧hv j=true∧(i,j)∈prs))):=by
  intro j y hy
  have hlt:=(Array.getElem?_eq_some_iff.1 hy).1
  have h:=List.all_eq_true.1 hok j (List.mem_range.2 hlt)
  simp only[hy,Bool.and_eq_true]at h
  refine⟨fun e he hb=>?_,fun i x hi hx=>?_⟩
  ·have:=Array.all_eq_true_iff_forall_mem.1 h.1 e he
   simpa [hb]using this
  ·have:=List.all_eq_true.1 h.2 i (List.mem_range.2 hi)
   simp only[hx,Bool.or_eq_true,Bool.and_eq_true,decide_eq_true_eq]at this
   rcases this with h|⟨h1,(h2|h2)|⟨⟨h2,h3⟩,h4⟩⟩
   ·exact .inl h
   ·exact .inr ⟨h1,.inl h2⟩
   ·exact .inr ⟨h1,.inr (.inl h2)⟩
   ·exact .inr ⟨h1,.inr (.inr ⟨h2,h3,List.contains_iff_mem.1 h4⟩)⟩
 obtain⟨L,e1,e2,e3,e3',_⟩:=aBr ops.toList 0 [] (fun m=>by
  rw[Nat.zero_add]
  split
  ·rw[Array.getElem?_toList]
  ·rename_i hh;rw[List.getElem?_eq_none (by omega)]) h
 rw[Array.length_toList,←List.range_eq_range']at e1
 have hpw:L.Pairwise (cWi ops):=by
  have hlt:L.Pairwise fun a b=>a.1<b.1:=by
   have:(L.map Prod.fst).Pairwise (· < ·):=by rw[e1];exact List.pairwise_lt_range
   exact List.pairwise_map.1 this
  refine hlt.imp_of_mem fun {a b} ha hb hab=>?_
  obtain⟨x,sa,ha',hx,fx⟩:=e3' a ha
  obtain⟨y,sb,hb',hy,fy⟩:=e3' b hb
  rcases(hchk b.1 y hy).2 a.1 x hab hx with h|⟨hap,h|h|⟨h1,h2,h3⟩⟩
  ·exact .inl h
  ·refine .inr ⟨x,y,hx,hy,hap,?_⟩
   rw[←fx,cFz h];exact bRr _
  ·refine .inr ⟨x,y,hx,hy,hap,?_⟩
   rw[←fy,cFz h];exact bRq _
  ·refine .inr ⟨x,y,hx,hy,hap,?_⟩
   have:=aHt hp _ h3
   rw[e3 a ha h1,e3 b hb h2]at this
   exact this
 have hlen:L.length=ops.size:=by have:=congrArg List.length e1;simpa using this
 refine wp_region_any hm (aJx hΓ hdst (fun j y hy=>(hchk j y hy).1) hQ ops.size _ L (cX ops.size s) s' a _ (by simp) (by omega) (by rw[e1,h0]) (fun m o hl=>?_) hpw e2 (fVo.refl _) ?_)
 ·rw[Array.getD_eq_getD_getElem?,Array.getElem?_replicate]at hl;split at hl<;>cases hl
 ·exact((hR.enter ops.size).un fun k hk=>by rw[h0]at hk;exact List.mem_range.1 hk).world rfl rfl rfl rfl
end
def bGm (o:Option (S×List (Nat×FP))) (Q:S→List (Nat×FP)→Prop):Prop:=match o with|some t=>Q t.1 t.2|none=>False
theorem aYa {P:Program} {GL:Nat→Option (List AV)} {nt:Nat} {Q:Exit→S→Prop} {s:S} {code:Code} {Γ:Env} (hv:Nat→Bool) (prs:List (Nat×Nat)) (md:Nat→Nat) (ks:List Nat) (hm:P.follows .mixedOrders=true) (hΓ:eT P GL Γ) (hc:eEs code=true) (hd:lZ code=true) (ho:fK nt (aM code).toList=true) (hk:aWc P Γ md hv prs (aM code)=true)
  (h: ∀K:S→Prop,(∀t,Q .normal t→K t)→bGm (aBs P Γ GL md (rN code) hv 0 (aF code) [] (cX (rN code) s)) fun t acc=>aDr prs acc∧K {t with fr:=gL ks t.fr}):Awp P GL nt code s Q:=by
 have h':=h (Q .normal) fun _ h=>h
 clear h
 refine sX ?_
 cases code<;>first|(cases hc;done)|skip
 rename_i id ops d
 simp only[lZ]at hd
 subst hd
 intro c h1 h2 σ0 I0 w0 a w hR
 subst h1;subst h2
 simp only[aM,aF,rN]at ho hk h'
 unfold bGm at h'
 split at h'
 ·rename_i t e
  obtain⟨t,acc⟩:=t
  obtain⟨hp,hq⟩:=h'
  exact aPc hm hΓ ho hk e hp hR fun a' w' hR'=>⟨t,⟨_,hq,dWs ks t,rfl⟩,hR'⟩
 ·exact h'.elim
theorem bHi (P Γ GL md n hv k acc s):aBs P Γ GL md n hv k [] acc s=some (s,acc):=(rfl)
theorem aZk (P Γ GL md n hv k o r acc s):aBs P Γ GL md n hv k (o::r) acc s=aK (eEj P Γ GL (md k) n k o s) fun s2=>aBs P Γ GL md n hv (k+1) r (bEz (hv k) k (fpP P Γ GL (md k) k o s s2.hp) acc) s2:=(rfl)
theorem cRy (k:Nat) (f:FP) (acc:List (Nat×FP)):bEz false k f acc=acc:=(rfl)
theorem cRx (k:Nat) (f:FP) (acc:List (Nat×FP)):bEz true k f acc=(k,f)::acc:=(rfl)
theorem aQy (t:S) (acc:List (Nat×FP)) (Q:S→List (Nat×FP)→Prop):bGm (some (t,acc)) Q=Q t acc:=(rfl)
@[congr] theorem cIe {P : Program} {Γ : Env} {GL : Nat → Option (List AV)} {md : Nat → Nat} {n k k' : Nat} {hv : Nat → Bool} {l : List LOp} {acc acc' : List (Nat × FP)} {s s' : S} (hk : k = k') (ha : acc = acc') (h : s = s') : aBs P Γ GL md n hv k l acc s = aBs P Γ GL md n hv k' l acc' s' := by rw [h, hk, ha]
def fpG (b:Option Bool) (f:FP):FP:=match b with|some true=>f|_=> .at_ [] []
theorem cZr (f:FP):fpG (some true) f=f:=(rfl)
theorem cOv (P Γ GL m k d op g fr hp nx cx hp'):fpP P Γ GL m k {d:=d,op:=op,g:=g} {fr:=fr,hp:=hp,nx:=nx,cx:=cx} hp'=fpG (gdS fr g) (fpQ (fpE P Γ m op (ev GL fr) hp (nx+k)) hp hp'):=by
 simp only[fpP,fpG]
theorem cZd (fr:List (Nat×AV)):gdS fr none=some true:=(rfl)
theorem bBk (P Γ t x ρ hp id):fpE P Γ 2 (.load t x) ρ hp id=.at_ (fpV (ρ x)) []:=(rfl)
theorem bBm (P Γ m t n ps ρ hp id):fpE P Γ m (.buildSlice t n ps) ρ hp id=.at_ [] [id]:=(rfl)
def fpA (b:Bool) (y x:List Nat) (id:Nat) (o:Option (List Nat)):FP:=if b=true then .at_ y (id::x)else match o with|some l=> .at_ y (id::(x++l))|none=> .all
theorem cZt (y x:List Nat) (id:Nat) (o:Option (List Nat)):fpA true y x id o=.at_ y (id::x):=(rfl)
theorem cAb (P Γ m x y t u ρ hp id):fpE P Γ m (.call {callee:=.builtin .append,args:= #[x,y],argTypes:= #[t,u]}) ρ hp id=fpA (rW hp (ρ y)) (fpV (ρ y)) (fpV (ρ x)) id (dZr hp (ρ y)):=(rfl)
def eAu (off n:Nat):Option AO→Option (List Nat)|some (.cells xs _)=>some (dYz ((xs.drop off).take n))|_=>none
theorem eBl (hp:H) (j off n e:Nat) (g:Bool):dZr hp (.os j off n e g)=eAu off (n*e) (hp j):=by
 simp only[dZr,eAu]
 all_goals (rcases hp j with _|o<;>first|rfl|(cases o<;>rfl))
theorem eAb (off n:Nat) (xs:List AV) (mt:Bool):eAu off n (some (.cells xs mt))=some (dYz ((xs.drop off).take n)):=(rfl)
theorem eBd (P Γ m t a b ρ hp id):fpE P Γ m (.makeSlice t a b) ρ hp id=.at_ [] [id]:=(rfl)
def cHd (off n:Nat):Option AO→Bool|some (.cells xs _)=>fVs ((xs.drop off).take n)|_=>false
theorem cHe (hp:H) (j off n e:Nat) (g:Bool):rW hp (.os j off n e g)=cHd off (n*e) (hp j):=by
 simp only[rW,cHd]
 all_goals (rcases hp j with _|o<;>first|rfl|(cases o<;>rfl))
theorem aYu (off n:Nat) (xs:List AV) (mt:Bool):cHd off n (some (.cells xs mt))=fVs ((xs.drop off).take n):=(rfl)
theorem cOs (i off n e:Nat) (g:Bool):fpV (.os i off n e g)=[i]:=(rfl)
theorem cOt (i off:Nat):fpV (.op i off)=[i]:=(rfl)
theorem cOr (xs:List AV):fpV (.rp xs)=[]:=(rfl)
theorem bEx (acc:List (Nat×FP)):aDr [] acc=True:=(rfl)
theorem aUd (i j:Nat) (r:List (Nat×Nat)) (acc:List (Nat×FP)):aDr ((i,j)::r) acc=(eEc (pC acc i) (pC acc j)∧aDr r acc):=(rfl)
theorem aSg (k:Nat) (f:FP) (r:List (Nat×FP)) (i:Nat):pC ((k,f)::r) i=if i=k then f else pC r i:=(rfl)
theorem dDm (R W:List Nat) (hp hp':H):fpQ (.at_ R W) hp hp'=.at_ R W:=(rfl)
theorem bEv (R W R' W':List Nat):eEc (.at_ R W) (.at_ R' W')=(apL W R'∧apL W W'∧apL R W'):=(rfl)
theorem bRu: ∀(xs:List Nat),apL xs []=True:=fun xs=>by simp[apL]
attribute [go_sem] dDm bHi aZk cRy cRx aQy cZr cOv cZd bBk bBm cZt eBl eAb eBd cAb cHe aYu cOs cOt cOr bEx aUd aSg bEv cEc bRu bRv bRw bEw
end Go.AX

namespace Go.AX
open Go Go.Proofs
def eQs:AO→AO
 | .cells xs _=> .cells xs false
 | .mapo es _=> .mapo es false
def eOy:AV→Bool
 | .w8 _| .w16 _| .w32 _| .w64 _| .i _| .b _| .s _| .v _| .os _ _ _ _ _| .op _ _| .mp _=>true
 |_=>false
theorem Rel.keepV {σ:Nat→Loc} {I I':Nat→Prop} {w w':World} {x:AV} {y:Value} (h:Rel σ I w x y) (hk:eOy x=true):Rel σ I' w' x y:=by
 cases h with
 |w8=>exact .w8 _
 |w16=>exact .w16 _
 |w32=>exact .w32 _
 |w64=>exact .w64 _
 |i=>exact .i _
 |b=>exact .b _
 |s=>exact .s _
 |v=>exact .v _
 |os id off n e g blk base sz cap h1 h2 h3=>exact .os id off n e g blk base sz cap h1 h2 h3
 |osnil id e g h1=>exact .osnil id e g h1
 |oszero id off e g a h1=>exact .oszero id off e g a h1
 |op id off blk base sz h1=>exact .op id off blk base sz h1
 |mp id blk h1=>exact .mp id blk h1
 |_=>cases hk
theorem Rel.unpin {σ:Nat→Loc} {I:Nat→Prop} {w:World} {v:Value} {x:AV} {y:Value} (h:Rel σ I w (.pin v x) y):y=v∧Rel σ I w x y:=by
 cases h with|pin _ _ h=>exact⟨rfl,h⟩
theorem hD.set {σ:Nat→Loc} {I:Nat→Prop} {w:World} {id:Nat} {o:AO} (h:hD σ I w id o):σ id≠.unset:=by
 intro e
 cases o with
 |cells xs mt=>simp only[hD,e]at h
 |mapo es mt=>
  obtain⟨blk,h1,_⟩:=h
  rw[e]at h1;cases h1
theorem hD.lend {σ:Nat→Loc} {I I':Nat→Prop} {w:World} {id:Nat} {o:AO} (h:hD σ I w id o) (hI: ∀k,I k→I' k) (hb: ∀k base sz,σ id=.at_ k base sz→I' k):hD σ I' w id (eQs o):=by
 cases o with
 |cells xs mt=>
  simp only[hD,eQs]at h⊢
  cases e:σ id with
  |unset=>simp[e]at h
  |nil=>simpa [e]using h
  |at_ blk base sz=>
   simp only[e]at h
   exact⟨h.1.mono (fun _ _=>rfl) hI (fun _ _=>rfl) rfl,fun hm=>by simp at hm,fun _=>hb _ _ _ e⟩
 |mapo es mt=>
  obtain⟨blk,a1,a2,_,_⟩:=h
  exact⟨blk,a1,a2.mono (fun _ _=>rfl) hI (fun _ _=>rfl) rfl,fun hm=>by simp at hm,fun _=>hb _ _ _ a1⟩
theorem eRv (o:AO):(eQs o).mt=false:=by cases o<;>rfl
theorem fCz (xs:List AV) (mt:Bool):eQs (.cells xs mt)=.cells xs false:=rfl
structure fBb (s t u:S):Prop where
 hp:u.hp=s.hp
 nx:u.nx=t.nx
 cx:u.cx=t.cx
 fr: ∀k,dG u.fr k=.junk∨(eOy (dG u.fr k)=true∧dG u.fr k=dG t.fr k)∨∃v,dG s.fr k=.pin v (dG u.fr k)∧dG t.fr k=dG s.fr k
def eNk (σ:Nat→Loc) (I:Nat→Prop) (s:S):Nat→Prop:=fun k=>I k∨∃id o base sz,s.hp id=some o∧σ id=.at_ k base sz
def eRr (c:Ctx) (σ:Nat→Loc) (I:Nat→Prop) (w:World) (s:S):Ctx:= {w0:=w,σ0:=σ,I0:=eNk σ I s,O:=fun _=>False,GL:=c.GL,nt:=c.nt,u0:=c.u0,df:=c.df}
structure RL (c:Ctx) (σ0:Nat→Loc) (I0:Nat→Prop) (w0:World) (s t:S) (a:Act) (w:World):Prop where
 ex: ∃(σ:Nat→Loc) (I:Nat→Prop) (w1:World) (a0:Act),Inv c σ I w1 s.hp (fun id=>s.cx≤id∨(∃k,False∧id=s.nx+k)∨c.u0 id)∧iO σ0 I0 w0 σ I w1∧(∀k,Rel σ I w1 (dG s.fr k) (a0.tmps.getD k undef))∧
  R (eRr c σ I w1 s) σ (eNk σ I s) w1 (fun _=>False) t a w
theorem RL.back {c:Ctx} {σ0:Nat→Loc} {I0:Nat→Prop} {w0:World} {s t u:S} {a:Act} {w:World} (h:RL c σ0 I0 w0 s t a w) (hu:fBb s t u):R c σ0 I0 w0 (fun _=>False) u a w:=by
 obtain⟨σ,I,w1,a0,inv,gr,rel,⟨⟨σ',I',inv',gr',rel'⟩,hdf',hsz',hlt',hlt0'⟩⟩:=h
 have hIB: ∀id o k base sz,s.hp id=some o→σ id=.at_ k base sz→eNk σ I s k:=fun id o k base sz h1 h2=> .inr ⟨id,o,base,sz,h1,h2⟩
 have hst: ∀id o,s.hp id=some o→σ id≠.unset:=fun id o ho=>(inv.own id o ho).set
 have hσ: ∀id,σ id≠.unset→σ' id=σ id:=fun id hid=>inv'.ext id hid
 have hw: ∀k,I k→w.heap[k]? =w1.heap[k]?:=fun k hk=>inv'.iw k (.inl hk)
 have hat: ∀id o,s.hp id=some o→σ' id=σ id:=fun id o ho=>hσ id (hst id o ho)
 refine⟨⟨σ',I,?_,gr.trans ⟨hσ,fun _ h=>h,hw⟩,fun k=>?_⟩,hdf',hsz',fun k hk=>hk.elim,fun id hid=>by rw[hu.nx,hu.cx];exact hlt0' id hid⟩
 ·rw[hu.hp]
  refine⟨fun id hid=>?_,inv.imm,fun k hk=>?_,inv'.os.trans inv.os,inv'.tape.trans inv.tape,inv'.output.trans inv.output,Nat.le_trans inv.size inv'.size,fun k hk ho=>?_,fun k hk=>Nat.lt_of_lt_of_le (inv.ilt k hk) inv'.size,fun id o ho=>?_,fun id id' o o' blk base sz base' sz' ho hm ho' hne e1 e2=>?_,fun id o blk base sz ho hm e1=>?_,fun id hid=>?_,fun g xs hg=>(inv.glob g xs hg).mono hσ (fun _ h=>h) hw,inv.inew⟩
  ·have:=inv.ext id hid
   rw[hσ id (by rw[this];exact hid),this]
  ·rw[hw k (inv.imm k hk)];exact inv.iw k hk
  ·rw[inv'.old k (Nat.lt_of_lt_of_le hk inv.size) (fun h=>h)];exact inv.old k hk ho
  ·exact(inv.own id o ho).mono hσ (fun _ h=>h) hw fun blk base sz e1=>⟨inv'.iw blk (hIB id o blk base sz ho e1),fun _ h=>h⟩
  ·rw[hat id o ho]at e1
   rw[hat id' o' ho']at e2
   exact inv.inj id id' o o' blk base sz base' sz' ho hm ho' hne e1 e2
  ·rw[hat id o ho]at e1
   exact inv.lim id o blk base sz ho hm e1
  refine inv'.un id ?_
  rw[←hu.cx]
  rcases hid with hid|⟨k,hk,_⟩|hid
  ·exact .inl hid
  ·exact hk.elim
  exact .inr (.inr hid)
 rcases hu.fr k with h1|⟨h1,h2⟩|⟨v,h1,h2⟩
 ·rw[h1];exact .junk _
 ·have:=rel' k
  rw[←h2]at this
  exact this.keepV h1
 have r0:=rel k
 have r1:=rel' k
 rw[h2,h1]at r1
 rw[h1]at r0
 rw[r1.unpin.1,←r0.unpin.1]
 exact r0.unpin.2.mono hσ (fun _ h=>h) hw
section
variable {P : Program} {GL : Nat → Option (List AV)} {nt : Nat} {Q : Exit → S → Prop} {s t : S} {code : Code}
end
end Go.AX

namespace Go.AX
open Go Go.Proofs
set_option maxRecDepth 8000
theorem cvb5 (hp hp2:H) (cx id:Nat) (x:AV) (sd:Bool):cvF hp hp2 cx id x Tryz.prog.underlying sd (some (.slice 5)) (some .string)=aK (sR hp2 1 x) fun nl=>aK (fHq nl.2) fun l=>some (.s l,hp,cx):=aXn _ _ _ _ _ _ _ _ Tryz.underlying5
theorem cvs5 (hp hp2:H) (cx id:Nat) (l:List B8) (sd:Bool):cvF hp hp2 cx id (.s l) Tryz.prog.underlying sd (some .string) (some (.slice 5))=aN (l.length≤140737488355328) (some (.os id 0 l.length 1 true,upd hp id (.cells (l.map .w8) true),cx)):=aXm _ _ _ _ _ _ _ _ Tryz.underlying5
attribute [go_sem] cvb5 cvs5
theorem fCl (ps:List (List B8)):AV.ids.idsL (cS ps)=0:=by
 induction ps with
 |nil=>rfl
 |cons x l ih=>show max (AV.ids (.s x)) (AV.ids.idsL (cS l))=0;rw[ih];rfl
theorem eKy (n:Nat) (ps:List (List B8)):AV.ids (.sl n (cS ps))=0:=fCl ps
theorem fOv {k j:Nat} (hk:k≤63) (hj:j<256):ior ((k*256:Nat):Int) (j:Int)=((k*256+j:Nat):Int):=by
 have e1:(BitVec.ofInt 64 ((k*256:Nat):Int)).toNat=k*256:=by rw[BitVec.toNat_ofInt];omega
 have e2:(BitVec.ofInt 64 (j:Int)).toNat=j:=by rw[BitVec.toNat_ofInt];omega
 have e3:k*256|||j=k*256+j:=by
  have:=Nat.shiftLeft_add_eq_or_of_lt (i:=8) (b:=j) hj k
  rw[Nat.shiftLeft_eq]at this
  exact this.symm
 unfold ior
 rw[BitVec.toNat_or,e1,e2,e3]
 exact eKg (by omega) (by omega)
def nmA (b:List B8):Option (Nm×Nat)→Option (AV×List AV)
 |none=>none
 |some (n,e)=>some (.sl n.length (cS n),[.sl b.length (c8 b),.i (e:Int)])
def nmG:List AV→List AV→Option (Option (AV×List AV))
 |[.op _ 0],[.sl n xs,.i a]=>aK (fHq xs) fun b=>aN (b.length=n∧0≤a∧a≤n∧n≤100000) (some (nmA b (fJj b a.toNat)))
 |_,_=>none
theorem fNo (id n:Nat) (a:Int) (xs:List AV):nmG [.op id 0] [.sl n xs,.i a]=aK (fHq xs) fun b=>aN (b.length=n∧0≤a∧a≤n∧n≤100000) (some (nmA b (fJj b a.toNat))):=(rfl)
attribute [go_sem] fNo
def enV:Option Nat→Int
 |none=> -1
 |some e=>e
structure NMI where
 s:NS
 f:Nat
 q:Nat
 c:Nat
set_option maxHeartbeats 8000000 in
theorem eOe:fHs Tryz.prog GLh 51 (rdH nmG)∧dE Tryz.prog GLh 51 chM (rdP nmG):=by
 refine dT Tryz.func51 (aT rfl) ?_
 intro id off rest nx xs o hg
 unfold nmG at hg
 split at hg
 ·rename_i id2 n xs2 a0 heq
  simp only[List.cons.injEq,AV.op.injEq]at heq
  obtain⟨⟨rfl,rfl⟩,rfl⟩:=heq
  replace hg:=aJ hg;obtain⟨b,hl,hg⟩:=hg
  replace hg:=aP hg;obtain⟨⟨rfl,ha,han,hnb⟩,hg⟩:=hg
  obtain rfl:=J0 hg
  have:=bW hl;subst this
  obtain⟨a,rfl⟩:=Int.eq_ofNat_of_zero_le ha
  simp only[U2]at*
  refine⟨J1 rfl,fun hid=>?_⟩
  clear hl hg
  obtain⟨R,hR⟩: ∃R,fJj b a=R:=⟨_,rfl⟩
  rw[hR]
  refine aA rfl (aW [0] rfl rfl rfl fun K hK=>?_)
  simp(disch:=omega) only[Tryz.f51,go_sem,↓reduceIte]
  refine hK _ ?_
  refine aB (aA rfl (aW [0,3] rfl rfl rfl fun K hK=>?_))
  simp(disch:=omega) only[Tryz.f51,go_sem,↓reduceIte]
  refine hK _ ?_
  refine aB (aA rfl (bB (Γ:=aL) (fun _=>2) [0,3,4,5,6,7] bZ (aD _ _) rfl rfl rfl (by kernel_rfl) (fun K hK=>?_)))
  simp(disch:=omega) only[Tryz.f51,go_sem,↓reduceIte]
  refine hK _ ?_
  refine aB (iE 3 1 rfl (fPg [0,3,4,5,6,7] ?_))
  simp only[iB,fU,eW,↓reduceIte,Nat.reduceEqDiff]
  refine aR 0 rfl rfl ?_
  refine bR (fun p:NMI=> {fr:=[(0,.op id 0),(3,.os p.q 0 p.s.acc.length 1 true),(4,.i (p.s.bg:Int)),(5,.i (p.s.pl:Int)),(6,.i (enV p.s.en)),(7,.i (p.s.tot:Int))],hp:=upd (upd (fun _=>none) id (.cells [.sl b.length (c8 b),.i (a:Int)] true)) p.q (.cells (cS p.s.acc) true),nx:=0,cx:=p.c}) (fun p=>NI b p.s∧fIv b p.f p.s=R∧nMu b p.s<p.f∧id<p.q∧p.q<p.c) (fun p=>nMu b p.s) rfl ⟨⟨ns0 a,nMu b (ns0 a)+1,_,_⟩,⟨NI.start b a,hR,Nat.lt_succ_self _,by simp only;omega,by simp only;omega⟩,bD rfl rfl (U3 _)⟩ ?_
  rintro⟨⟨bg,pl,en,tot,acc⟩,f,q,c⟩ ⟨hI,hrun,hmu,hq,hqc⟩ n0
  simp only at hI hrun hmu hq hqc⊢
  obtain⟨g,rfl⟩: ∃g,f=g+1:=⟨f-1,by omega⟩
  have hile:b.length≤100000:=hnb
  have htl:tot≤255:=hI.le
  have hcl:List.length acc≤255:=hI.cnt
  by_cases hil:pl<b.length
  ·have d0:decide ((pl:Int)<(b.length:Int))=true:=J5 (by omega)
   obtain⟨k,hk⟩: ∃k,b.getD pl 0#8=k:=⟨_,rfl⟩
   have hkl:=k.isLt
   refine aR 1 rfl rfl (aA rfl (aC (Γ:=bC [(35,.pure true eO)]) [0,3,4,5,6,7] (aH rP aO) rfl rfl rfl (fun K hK=>?_)))
   simp(disch:=omega) only[Tryz.f51,go_sem,↓reduceIte,d0]
   refine hK _ ?_
   refine aB (aA rfl (aW [0,3,4,5,6,7,8] rfl rfl rfl fun K hK=>?_))
   simp(disch:=omega) only[Tryz.f51,go_sem,↓reduceIte,hk]
   refine hK _ ?_
   refine aB (aA rfl (aW [0,3,4,5,6,7,8] rfl rfl rfl fun K hK=>?_))
   simp(disch:=omega) only[Tryz.f51,go_sem,↓reduceIte]
   refine hK _ ?_
   refine aB ?_
   by_cases hk0:k.toNat=0
   ·have d1:decide ((k.toNat:Int)=0)=true:=J5 (by omega)
    have hs:fHj b ⟨bg,pl,en,tot,acc⟩=.done acc (en.getD (pl+1)):=by
     unfold fHj;simp only;rw[J3 (by omega),hk,J4 hk0]
    refine aR 2 rfl rfl (aA rfl (aW [72,0,3,4,5,6,7,8] rfl rfl rfl fun K hK=>?_))
    simp(disch:=omega) only[Tryz.f51,go_sem,↓reduceIte,d1]
    refine hK _ ?_
    refine aB (cV (.tmp 72) rfl rfl rfl (fun h=>?_) (fun h=>?_))
    ·refine aI rfl ?_
     clear h
     rw[fJi hs]at hrun
     obtain⟨_,_,hle⟩:=hI.done hs
     rcases en with _|e
     ·rw[show enV none= -1 from rfl]
      refine aA rfl (aA rfl (aW [76,0,3,5,6] rfl rfl rfl fun K hK=>?_))
      simp(disch:=omega) only[Tryz.f51,go_sem,↓reduceIte]
      refine hK _ ?_
      refine aB (cV (.tmp 76) rfl rfl rfl (fun h=>?_) (fun h=>?_))
      ·refine aI rfl ?_
       clear h
       have ea:(pl:Int)+1=((pl+1:Nat):Int):=rfl
       refine aW [0,3,6] rfl rfl rfl fun K hK=>?_
       simp(disch:=omega) only[Tryz.f51,go_sem,↓reduceIte]
       refine hK _ ?_
       refine aB (aA rfl (aW [3] rfl rfl rfl fun K hK=>?_))
       simp(disch:=omega) only[Tryz.f51,go_sem,↓reduceIte,ea]
       refine hK _ ?_
       refine aB (aA rfl (aW [2] rfl rfl rfl fun K hK=>?_))
       simp(disch:=omega) only[Tryz.f51,go_sem,↓reduceIte]
       refine hK _ ?_
       refine aB ?_
       rw[←hrun,Option.getD_none]
       refine aS rfl (bN (bN (dF (bN (⟨by simp(disch:=omega) only[bV,bK,bQ,Tryz.f51,go_sem,aV,kE,bY,eq_self,↓reduceIte,bPf],by simp(disch:=omega) only[aV,↓reduceIte,eq_self],?_,?_⟩)))))
       ·exact eKy _ _
       exact fVp _ _ _
      refine aI rfl ?_
      cases h
     rw[show enV (some e)=(e:Int)from rfl]
     have d9:decide ((e:Int)<0)=false:=J6 (by omega)
     refine aA rfl (aA rfl (aW [76,0,3,5,6] rfl rfl rfl fun K hK=>?_))
     simp(disch:=omega) only[Tryz.f51,go_sem,↓reduceIte,d9]
     refine hK _ ?_
     refine aB (cV (.tmp 76) rfl rfl rfl (fun h=>?_) (fun h=>?_))
     ·refine aI rfl ?_
      cases h
     refine aI rfl ?_
     clear h
     refine aQ rfl (aB (aA rfl (aW [3] rfl rfl rfl fun K hK=>?_)))
     simp(disch:=omega) only[Tryz.f51,go_sem,↓reduceIte]
     refine hK _ ?_
     refine aB (aA rfl (aW [2] rfl rfl rfl fun K hK=>?_))
     simp(disch:=omega) only[Tryz.f51,go_sem,↓reduceIte]
     refine hK _ ?_
     refine aB ?_
     rw[←hrun,Option.getD_some]
     refine aS rfl (bN (bN (dF (bN (⟨by simp(disch:=omega) only[bV,bK,bQ,Tryz.f51,go_sem,aV,kE,bY,eq_self,↓reduceIte,bPf],by simp(disch:=omega) only[aV,↓reduceIte,eq_self],?_,?_⟩)))))
     ·exact eKy _ _
     exact fVp _ _ _
    refine aI rfl ?_
    cases h
   have d1:decide ((k.toNat:Int)=0)=false:=J6 (by omega)
   refine aR 2 rfl rfl (aA rfl (aW [72,0,3,4,5,6,7,8] rfl rfl rfl fun K hK=>?_))
   simp(disch:=omega) only[Tryz.f51,go_sem,↓reduceIte,d1]
   refine hK _ ?_
   refine aB (cV (.tmp 72) rfl rfl rfl (fun h=>?_) (fun h=>?_))
   ·refine aI rfl ?_
    cases h
   refine aI rfl ?_
   clear h
   refine aA rfl ?_
   by_cases hk1:192≤k.toNat
   ·have d2:decide ((192:Int)≤(k.toNat:Int))=true:=J5 (by omega)
    refine aW [83,0,3,4,5,6,7,8] rfl rfl rfl fun K hK=>?_
    simp(disch:=omega) only[Tryz.f51,go_sem,↓reduceIte,d2]
    refine hK _ ?_
    refine aB (cV (.tmp 83) rfl rfl rfl (fun h=>?_) (fun h=>?_))
    ·refine aI rfl ?_
     clear h
     by_cases hp1:pl+1<b.length
     ·have d3:decide ((pl:Int)+1<(b.length:Int))=true:=J5 (by omega)
      obtain⟨k2,hk2⟩: ∃k,b.getD (pl+1) 0#8=k:=⟨_,rfl⟩
      have hk2l:=k2.isLt
      obtain⟨to,hto⟩: ∃t,(k.toNat-192)*256+k2.toNat=t:=⟨_,rfl⟩
      have hW:W (((k.toNat:Int)-192)*2^min 8 64)=(((k.toNat-192)*256:Nat):Int):=by
       rw[show((2:Int)^min 8 64)=256 from rfl]
       exact(eKg (by omega) (by omega)).trans (by omega)
      have hio:ior (((k.toNat-192)*256:Nat):Int) (k2.toNat:Int)=(to:Int):=by rw[fOv (by omega) hk2l,hto]
      have e1:((pl:Int)+1).toNat=pl+1:=by omega
      refine aA rfl (aC (Γ:=bC [(35,.pure true eO)]) [0,3,4,5,6,7,8] (aH rP aO) rfl rfl rfl (fun K hK=>?_))
      simp(disch:=omega) only[Tryz.f51,go_sem,↓reduceIte,d3]
      refine hK _ ?_
      refine aB ?_
      rcases en with _|e
      ·rw[show enV none= -1 from rfl]
       refine aA rfl (aA rfl (aW [95,0,3,4,5,6,7,8] rfl rfl rfl fun K hK=>?_))
       simp(disch:=omega) only[Tryz.f51,go_sem,↓reduceIte]
       refine hK _ ?_
       refine aB (cV (.tmp 95) rfl rfl rfl (fun h=>?_) (fun h=>?_))
       ·refine aI rfl ?_
        clear h
        refine aW [0,3,4,5,6,7,8] rfl rfl rfl fun K hK=>?_
        simp(disch:=omega) only[Tryz.f51,go_sem,↓reduceIte]
        refine hK _ ?_
        refine aB ?_
        by_cases hbg:to<bg
        ·have d5:decide ((to:Int)<(bg:Int))=true:=J5 (by omega)
         have hs:fHj b ⟨bg,pl,none,tot,acc⟩=.go ⟨to,to,some (pl+2),tot,acc⟩:=by
          unfold fHj;simp only;rw[J3 (by omega),hk,J3 hk0,J4 hk1,J3 (by omega),hk2,hto,J3 (by omega)];rfl
         rw[fIo hs]at hrun
         have hmu2:=fIu hs
         refine aA rfl (aW [0,3,4,5,6,7] rfl rfl rfl fun K hK=>?_)
         simp(disch:=omega) only[Tryz.f51,go_sem,↓reduceIte,e1,hk2,hW,hio]
         refine hK _ ?_
         refine aB (aA rfl (aC (Γ:=bC [(35,.pure true eO)]) [0,3,5,6,7] (aH rP aO) rfl rfl rfl (fun K hK=>?_)))
         simp(disch:=omega) only[Tryz.f51,go_sem,↓reduceIte,d5]
         refine hK _ ?_
         refine aB (aW [0,3,4,5,6,7] rfl rfl rfl fun K hK=>?_)
         simp(disch:=omega) only[Tryz.f51,go_sem,↓reduceIte]
         refine hK _ ?_
         refine bU (bU (bT ?_))
         refine⟨⟨⟨to,to,some (pl+2),tot,acc⟩,g,q,_⟩,⟨hI.step hs,hrun,by simp only;omega,hq,by simp only;omega⟩,hmu2,bD ?_ rfl (U3 _)⟩
         simp only[enV]
         have ee:(pl:Int)+1+1=((pl+2:Nat):Int):=by omega
         rw[ee]
        have d5:decide ((to:Int)<(bg:Int))=false:=J6 (by omega)
        have hs:fHj b ⟨bg,pl,none,tot,acc⟩=.no:=by
         unfold fHj;simp only;rw[J3 (by omega),hk,J3 hk0,J4 hk1,J3 (by omega),hk2,hto,J4 (by omega)]
        rw[fHz hs]at hrun
        refine aA rfl (aW [0,3,4,5,6,7] rfl rfl rfl fun K hK=>?_)
        simp(disch:=omega) only[Tryz.f51,go_sem,↓reduceIte,e1,hk2,hW,hio]
        refine hK _ ?_
        refine aB (aA rfl (dCn (Γ:=bC [(35,.pure true eO)]) 3 (fPd) rD (aH rP aO) rfl rfl rfl (fun Z hZ=>?_)))
        simp(disch:=omega) only[Tryz.f51,U0,U1,go_sem,↓reduceIte,bG,eq_self,true_and,bP,List.map_cons,List.map_nil,List.append_nil,d5]
        refine hZ _ ?_;clear hZ Z
        rw[←hrun]
        exact rfl
       refine aI rfl ?_
       cases h
      rw[show enV (some e)=(e:Int)from rfl]
      have d9:decide ((e:Int)<0)=false:=J6 (by omega)
      refine aA rfl (aA rfl (aW [95,0,3,4,5,6,7,8] rfl rfl rfl fun K hK=>?_))
      simp(disch:=omega) only[Tryz.f51,go_sem,↓reduceIte,d9]
      refine hK _ ?_
      refine aB (cV (.tmp 95) rfl rfl rfl (fun h=>?_) (fun h=>?_))
      ·refine aI rfl ?_
       cases h
      refine aI rfl ?_
      clear h
      refine aQ rfl (aB (aA rfl ?_))
      by_cases hbg:to<bg
      ·have d5:decide ((to:Int)<(bg:Int))=true:=J5 (by omega)
       have hs:fHj b ⟨bg,pl,(some e),tot,acc⟩=.go ⟨to,to,some e,tot,acc⟩:=by
        unfold fHj;simp only;rw[J3 (by omega),hk,J3 hk0,J4 hk1,J3 (by omega),hk2,hto,J3 (by omega)];rfl
       rw[fIo hs]at hrun
       have hmu2:=fIu hs
       refine aW [0,3,4,5,6,7] rfl rfl rfl fun K hK=>?_
       simp(disch:=omega) only[Tryz.f51,go_sem,↓reduceIte,e1,hk2,hW,hio]
       refine hK _ ?_
       refine aB (aA rfl (aC (Γ:=bC [(35,.pure true eO)]) [0,3,5,6,7] (aH rP aO) rfl rfl rfl (fun K hK=>?_)))
       simp(disch:=omega) only[Tryz.f51,go_sem,↓reduceIte,d5]
       refine hK _ ?_
       refine aB (aW [0,3,4,5,6,7] rfl rfl rfl fun K hK=>?_)
       simp(disch:=omega) only[Tryz.f51,go_sem,↓reduceIte]
       refine hK _ ?_
       refine bU (bU (bT ?_))
       refine⟨⟨⟨to,to,some e,tot,acc⟩,g,q,_⟩,⟨hI.step hs,hrun,by simp only;omega,hq,by simp only;omega⟩,hmu2,bD ?_ rfl (U3 _)⟩
       simp only[enV]
      have d5:decide ((to:Int)<(bg:Int))=false:=J6 (by omega)
      have hs:fHj b ⟨bg,pl,(some e),tot,acc⟩=.no:=by
       unfold fHj;simp only;rw[J3 (by omega),hk,J3 hk0,J4 hk1,J3 (by omega),hk2,hto,J4 (by omega)]
      rw[fHz hs]at hrun
      refine aW [0,3,4,5,6,7] rfl rfl rfl fun K hK=>?_
      simp(disch:=omega) only[Tryz.f51,go_sem,↓reduceIte,e1,hk2,hW,hio]
      refine hK _ ?_
      refine aB (aA rfl (dCn (Γ:=bC [(35,.pure true eO)]) 3 (fPd) rD (aH rP aO) rfl rfl rfl (fun Z hZ=>?_)))
      simp(disch:=omega) only[Tryz.f51,U0,U1,go_sem,↓reduceIte,bG,eq_self,true_and,bP,List.map_cons,List.map_nil,List.append_nil,d5]
      refine hZ _ ?_;clear hZ Z
      rw[←hrun]
      exact rfl
     have d3:decide ((pl:Int)+1<(b.length:Int))=false:=J6 (by omega)
     have hs:fHj b ⟨bg,pl,en,tot,acc⟩=.no:=by
      unfold fHj;simp only;rw[J3 (by omega),hk,J3 hk0,J4 hk1,J4 (by omega)]
     rw[fHz hs]at hrun
     refine aA rfl (dCn (Γ:=bC [(35,.pure true eO)]) 7 (fPd) rD (aH rP aO) rfl rfl rfl (fun Z hZ=>?_))
     simp(disch:=omega) only[Tryz.f51,U0,U1,go_sem,↓reduceIte,bG,eq_self,true_and,bP,List.map_cons,List.map_nil,List.append_nil,d3]
     refine hZ _ ?_;clear hZ Z
     rw[←hrun]
     exact rfl
    refine aI rfl ?_
    cases h
   have d2:decide ((192:Int)≤(k.toNat:Int))=false:=J6 (by omega)
   refine aW [83,0,3,4,5,6,7,8] rfl rfl rfl fun K hK=>?_
   simp(disch:=omega) only[Tryz.f51,go_sem,↓reduceIte,d2]
   refine hK _ ?_
   refine aB (cV (.tmp 83) rfl rfl rfl (fun h=>?_) (fun h=>?_))
   ·refine aI rfl ?_
    cases h
   refine aI rfl ?_
   clear h
   refine aA rfl ?_
   by_cases hlab:k.toNat≤63∧k.toNat≤b.length-(pl+1)
   ·have d3:decide ((k.toNat:Int)≤63)=true:=J5 (by omega)
    have d4:decide ((k.toNat:Int)≤(b.length:Int)-((pl:Int)+1))=true:=J5 (by omega)
    refine aC (Γ:=bC [(35,.pure true eO)]) [0,3,4,5,6,7,8] (aH rP aO) rfl rfl rfl (fun K hK=>?_)
    simp(disch:=omega) only[Tryz.f51,go_sem,↓reduceIte,d3,d4]
    refine hK _ ?_
    refine aB (aA rfl (aW [0,3,4,5,6,7,8] rfl rfl rfl fun K hK=>?_))
    simp(disch:=omega) only[Tryz.f51,go_sem,↓reduceIte]
    refine hK _ ?_
    refine aB ?_
    by_cases ht:255<tot+(1+k.toNat)
    ·have d5:decide ((tot:Int)+(1+(k.toNat:Int))≤255)=false:=J6 (by omega)
     have hs:fHj b ⟨bg,pl,en,tot,acc⟩=.no:=by
      unfold fHj;simp only;rw[J3 (by omega),hk,J3 hk0,J3 hk1,J3 (by omega),J4 ht]
     rw[fHz hs]at hrun
     refine aA rfl (dCn (Γ:=bC [(35,.pure true eO)]) 2 (fPd) rD (aH rP aO) rfl rfl rfl (fun Z hZ=>?_))
     simp(disch:=omega) only[Tryz.f51,U0,U1,go_sem,↓reduceIte,bG,eq_self,true_and,bP,List.map_cons,List.map_nil,List.append_nil,d5]
     refine hZ _ ?_;clear hZ Z
     rw[←hrun]
     exact rfl
    have d5:decide ((tot:Int)+(1+(k.toNat:Int))≤255)=true:=J5 (by omega)
    obtain⟨d,hd⟩: ∃d,(b.drop (pl+1)).take k.toNat=d:=⟨_,rfl⟩
    have hdl:d.length=k.toNat:=by rw[←hd,List.length_take,List.length_drop];omega
    have hs:fHj b ⟨bg,pl,en,tot,acc⟩=.go ⟨bg,pl+1+k.toNat,en,tot+(1+k.toNat),acc++[d]⟩:=by
     unfold fHj;simp only;rw[J3 (by omega),hk,J3 hk0,J3 hk1,J3 (by omega),J3 ht,hd]
    rw[fIo hs]at hrun
    have hmu2:=fIu hs
    have e1:((pl:Int)+1).toNat=pl+1:=by omega
    have e2:((pl:Int)+1+(k.toNat:Int)).toNat=pl+1+k.toNat:=by omega
    have e3:pl+1+k.toNat-(pl+1)=k.toNat:=by omega
    have hsn:cS acc++[AV.s d]=cS (acc++[d]):=cQq acc [d]
    refine aA rfl (aC (Γ:=bC [(35,.pure true eO)]) [0,3,4,5,6,7,8] (aH rP aO) rfl rfl rfl (fun K hK=>?_))
    simp(disch:=omega) only[Tryz.f51,go_sem,↓reduceIte,d5]
    refine hK _ ?_
    refine aB (aW [0,3,4,5,6,7] rfl rfl rfl fun K hK=>?_)
    simp(disch:=omega) only[Tryz.f51,go_sem,↓reduceIte,e1,e2,e3,hd,hdl]
    refine hK _ ?_
    refine bU (bU (bT ?_))
    refine⟨⟨⟨bg,pl+1+k.toNat,en,tot+(1+k.toNat),acc++[d]⟩,g,c+8+9+3+3+3+14+5+3+12,_⟩,⟨hI.step hs,hrun,by simp only;omega,by simp only;omega,by simp only;omega⟩,hmu2,⟨fun _=> .inr ?_,fun j o h=>?_,U3 _⟩⟩
    ·simp only[List.length_append,List.length_singleton,Int.natCast_add,Int.natCast_one]
    simp only at h
    exact bS (by simp(disch:=omega) only[aV,↓reduceIte,eq_self,hsn]) (bS (by simp(disch:=omega) only[aV,kE,bY,↓reduceIte,eq_self,hsn]) (fKa)) j o h
   have hs:fHj b ⟨bg,pl,en,tot,acc⟩=.no:=by
    unfold fHj;simp only;rw[J3 (by omega),hk,J3 hk0,J3 hk1,J4 (by omega)]
   rw[fHz hs]at hrun
   by_cases h63:k.toNat≤63
   ·have d3:decide ((k.toNat:Int)≤63)=true:=J5 (by omega)
    have d4:decide ((k.toNat:Int)≤(b.length:Int)-((pl:Int)+1))=false:=J6 (by omega)
    refine dCn (Γ:=bC [(35,.pure true eO)]) 13 (fPd) rD (aH rP aO) rfl rfl rfl (fun Z hZ=>?_)
    simp(disch:=omega) only[Tryz.f51,U0,U1,go_sem,↓reduceIte,bG,eq_self,true_and,bP,List.map_cons,List.map_nil,List.append_nil,d3,d4]
    refine hZ _ ?_;clear hZ Z
    rw[←hrun]
    exact rfl
   have d3:decide ((k.toNat:Int)≤63)=false:=J6 (by omega)
   refine dCn (Γ:=bC [(35,.pure true eO)]) 13 (fPd) rD (aH rP aO) rfl rfl rfl (fun Z hZ=>?_)
   simp(disch:=omega) only[Tryz.f51,U0,U1,go_sem,↓reduceIte,bG,eq_self,true_and,bP,List.map_cons,List.map_nil,List.append_nil,d3]
   refine hZ _ ?_;clear hZ Z
   rw[←hrun]
   exact rfl
  have d0:decide ((pl:Int)<(b.length:Int))=false:=J6 (by omega)
  have hs:fHj b ⟨bg,pl,en,tot,acc⟩=.no:=by
   unfold fHj;simp only;rw[J4 (by omega)]
  rw[fHz hs]at hrun
  refine aR 1 rfl rfl (aA rfl (dCn (Γ:=bC [(35,.pure true eO)]) 7 (fPd) rD (aH rP aO) rfl rfl rfl (fun Z hZ=>?_)))
  simp(disch:=omega) only[Tryz.f51,U0,U1,go_sem,↓reduceIte,bG,eq_self,true_and,bP,List.map_cons,List.map_nil,List.append_nil,d0]
  refine hZ _ ?_;clear hZ Z
  rw[←hrun]
  exact rfl
 cases hg
theorem rM:dE Tryz.prog GLh 51 chM (rdP nmG):=eOe.2
theorem fOb:fHm Tryz.prog 51:=⟨_,Tryz.func51,rfl,rfl⟩
theorem fKm:bX Tryz.prog GLh 51 (.heap (rdH nmG)):=⟨⟨_,Tryz.func51,rfl,rfl⟩,eOe.1⟩
end Go.AX

namespace Go.AX
open Go Go.Proofs
set_option maxRecDepth 8000
def qA (q:QN):AV:=.agg [.sl q.n.length (cS q.n),.w16 q.t,.w16 q.c]
def qsA (b:List B8):Option (QN×Nat)→Option (AV×List AV)
 |none=>none
 |some (q,e)=>some (qA q,[.sl b.length (c8 b),.i (e:Int)])
def qsG:List AV→List AV→Option (Option (AV×List AV))
 |[.op _ 0],[.sl n xs,.i a]=>aK (fHq xs) fun b=>aN (b.length=n∧0≤a∧a≤n∧n≤100000) (some (qsA b (qnR b a.toNat)))
 |_,_=>none
theorem fNm (id n:Nat) (a:Int) (xs:List AV):qsG [.op id 0] [.sl n xs,.i a]=aK (fHq xs) fun b=>aN (b.length=n∧0≤a∧a≤n∧n≤100000) (some (qsA b (qnR b a.toNat))):=(rfl)
attribute [go_sem] fNm
theorem fNv (q:QN):AV.ids (qA q)=0:=by
 show max (AV.ids (.sl q.n.length (cS q.n))) (max 0 (max 0 0))=0
 rw[eKy];rfl
theorem st3 (a b c x y z:AV):dV [a,b,c] 0 [x,y,z]=[x,y,z]:=(rfl)
theorem fGf (P:Program) (t:TypeId) (ys:List AV):ldV P t ys=ldF P t ys (fHi P t):=by simp only[ldV,ldF];cases fHi P t with|none=>rfl|some b=>cases b<;>rfl
attribute [go_sem] st3 fGf
set_option maxHeartbeats 8000000 in
theorem fJc:fHs Tryz.prog GLh 33 (rdH qsG)∧dE Tryz.prog GLh 33 chM (rdP qsG):=by
 refine dT Tryz.func33 (aT rfl) ?_
 intro id off rest nx xs o hg
 unfold qsG at hg
 split at hg
 ·rename_i id2 n xs2 a0 heq
  simp only[List.cons.injEq,AV.op.injEq]at heq
  obtain⟨⟨rfl,rfl⟩,rfl⟩:=heq
  replace hg:=aJ hg;obtain⟨b,hl,hg⟩:=hg
  replace hg:=aP hg;obtain⟨⟨rfl,ha,han,hnb⟩,hg⟩:=hg
  obtain rfl:=J0 hg
  have:=bW hl;subst this
  obtain⟨a,rfl⟩:=Int.eq_ofNat_of_zero_le ha
  simp only[U2]at*
  refine⟨J1 rfl,fun hid=>?_⟩
  clear hl hg
  refine aA rfl (aW [0,2] rfl rfl rfl fun K hK=>?_)
  simp(disch:=omega) only[Tryz.f33,go_sem,↓reduceIte]
  refine hK _ ?_
  refine aB ?_
  rcases hn:fJj b a with _|⟨n,e⟩
  ·have hq:qnR b a=none:=by unfold qnR;rw[hn]
   rw[hq]
   have hA:nmA b none=none:=rfl
   refine aA rfl (dCn (Γ:=bC [(51,.heap (rdH nmG)),(32,.heap (rdH eN))]) 1 (rM) fOb (aH fKm (aH fL aO)) rfl rfl rfl (fun Z hZ=>?_))
   simp(disch:=omega) only[Tryz.f33,U0,U1,go_sem,↓reduceIte,bG,eq_self,true_and,bP,List.map_cons,List.map_nil,List.append_nil,hn,hA,U2]
   refine hZ _ ?_;clear hZ Z
   exact rfl
  have hA:nmA b (some (n,e))=some (.sl n.length (cS n),[.sl b.length (c8 b),.i (e:Int)]):=rfl
  obtain⟨he,hlb,hsum⟩:=fLw hn
  by_cases h2:2≤b.length-e
  ·have n2:=eKs h2
   by_cases h4:2≤b.length-(e+2)
   ·have n4:=eKs h4
    have hq:qnR b a=some (⟨n,n16 b e,n16 b (e+2)⟩,e+2+2):=by
     unfold qnR;rw[hn];simp only;rw[J4 (by omega)]
    rw[hq]
    refine aA rfl (aC (Γ:=bC [(51,.heap (rdH nmG)),(32,.heap (rdH eN))]) [2] (aH fKm (aH fL aO)) rfl rfl rfl (fun K hK=>?_))
    simp(disch:=omega) only[Tryz.f33,go_sem,↓reduceIte,hn,hA,n2,n4,U2]
    refine hK _ ?_
    refine aB (aS rfl (⟨by simp(disch:=omega) only[bV,bK,bQ,Tryz.f33,go_sem,aV,eq_self,↓reduceIte,qA,n16,U0,U1,J9],by simp(disch:=omega) only[aV,bY,↓reduceIte,eq_self],?_,?_⟩))
    ·exact fNv _
    exact fVp _ _ _
   have n4:=fPs h4
   have hq:qnR b a=none:=by
    unfold qnR;rw[hn];simp only;rw[J3 (by omega)]
   rw[hq]
   refine aA rfl (dCn (Γ:=bC [(51,.heap (rdH nmG)),(32,.heap (rdH eN))]) 6 (dK) fSe (aH fKm (aH fL aO)) rfl rfl rfl (fun Z hZ=>?_))
   simp(disch:=omega) only[Tryz.f33,U0,U1,go_sem,↓reduceIte,bG,eq_self,true_and,bP,List.map_cons,List.map_nil,List.append_nil,hn,hA,n2,n4,U2]
   refine hZ _ ?_;clear hZ Z
   exact rfl
  have n2:=fPs h2
  have hq:qnR b a=none:=by
   unfold qnR;rw[hn];simp only;rw[J3 (by omega)]
  rw[hq]
  refine aA rfl (dCn (Γ:=bC [(51,.heap (rdH nmG)),(32,.heap (rdH eN))]) 3 (dK) fSe (aH fKm (aH fL aO)) rfl rfl rfl (fun Z hZ=>?_))
  simp(disch:=omega) only[Tryz.f33,U0,U1,go_sem,↓reduceIte,bG,eq_self,true_and,bP,List.map_cons,List.map_nil,List.append_nil,hn,hA,n2,U2]
  refine hZ _ ?_;clear hZ Z
  exact rfl
 cases hg
theorem fPr:dE Tryz.prog GLh 33 chM (rdP qsG):=fJc.2
theorem fRa:fHm Tryz.prog 33:=⟨_,Tryz.func33,rfl,rfl⟩
theorem fOp:bX Tryz.prog GLh 33 (.heap (rdH qsG)):=⟨⟨_,Tryz.func33,rfl,rfl⟩,fJc.1⟩
end Go.AX

namespace Go.AX
open Go Go.Proofs
set_option maxRecDepth 8000
def fLb:List AV→List AV→Option (Option (AV×List AV))
 |[.op _ 0,.i k],[.sl n xs,.i a]=>aK (fHq xs) fun b=>aN (b.length=n∧0≤a∧a≤n∧n≤100000∧k=0) (some (some (.sl 0 [],[.sl b.length (c8 b),.i a])))
 |_,_=>none
theorem fMq (id n:Nat) (k a:Int) (xs:List AV):fLb [.op id 0,.i k] [.sl n xs,.i a]=aK (fHq xs) fun b=>aN (b.length=n∧0≤a∧a≤n∧n≤100000∧k=0) (some (some (.sl 0 [],[.sl b.length (c8 b),.i a]))):=(rfl)
attribute [go_sem] fMq
structure C1 where
 c:Nat
set_option maxHeartbeats 4000000 in
theorem fJb:fHs Tryz.prog GLh 34 (rdH fLb)∧dE Tryz.prog GLh 34 chM (rdP fLb):=by
 refine dT Tryz.func34 (aT rfl) ?_
 intro id off rest nx xs o hg
 unfold fLb at hg
 split at hg
 ·rename_i id2 k n xs2 a0 heq
  simp only[List.cons.injEq,AV.op.injEq]at heq
  obtain⟨⟨rfl,rfl⟩,rfl⟩:=heq
  replace hg:=aJ hg;obtain⟨b,hl,hg⟩:=hg
  replace hg:=aP hg;obtain⟨⟨rfl,ha,han,hnb,rfl⟩,hg⟩:=hg
  obtain rfl:=J0 hg
  have:=bW hl;subst this
  obtain⟨a,rfl⟩:=Int.eq_ofNat_of_zero_le ha
  simp only[]at*
  refine⟨J1 rfl,fun hid=>?_⟩
  clear hl hg
  refine aA rfl (aW [0,1] rfl rfl rfl fun K hK=>?_)
  simp(disch:=omega) only[Tryz.f34,go_sem,↓reduceIte]
  refine hK _ ?_
  refine aB (aA rfl (aW [0,1,5] rfl rfl rfl fun K hK=>?_))
  simp(disch:=omega) only[Tryz.f34,go_sem,↓reduceIte]
  refine hK _ ?_
  refine aB (aA rfl (aA rfl (aW [0,5,7,8] rfl rfl rfl fun K hK=>?_)))
  simp(disch:=omega) only[Tryz.f34,go_sem,↓reduceIte]
  refine hK _ ?_
  refine aB (aR 0 rfl rfl (bR (fun p:C1=> {fr:=[(0,.op id 0),(5,.v (.slice none 0 0)),(7,.i 0),(8,.i 0)],hp:=upd (fun _=>none) id (.cells [.sl b.length (c8 b),.i (a:Int)] true),nx:=0,cx:=p.c}) (fun p=>True) (fun p=>0) rfl ⟨⟨_⟩,trivial,bD rfl rfl (U3 _)⟩ ?_))
  rintro⟨c⟩ _ n0
  simp only at⊢
  refine aA rfl (aW [9,0,5,7,8] rfl rfl rfl fun K hK=>?_)
  simp(disch:=omega) only[Tryz.f34,go_sem,↓reduceIte]
  refine hK _ ?_
  refine aB (aA rfl (cV (.tmp 9) rfl rfl rfl (fun h=>?_) (fun h=>?_)))
  ·refine aI rfl ?_
   cases h
  refine aI rfl ?_
  clear h
  refine bF 0 rfl rfl (aY (aZ (bE (aB (aA rfl (aW [4] rfl rfl rfl fun K hK=>?_))))))
  simp(disch:=omega) only[Tryz.f34,go_sem,↓reduceIte]
  refine hK _ ?_
  refine aB (aS rfl (⟨by simp(disch:=omega) only[bV,bK,bQ,Tryz.f34,go_sem,eq_self,↓reduceIte],by simp(disch:=omega) only[aV,↓reduceIte,eq_self],?_,?_⟩))
  ·rfl
  exact fVp _ _ _
 cases hg
theorem fOo:bX Tryz.prog GLh 34 (.heap (rdH fLb)):=⟨⟨_,Tryz.func34,rfl,rfl⟩,fJb.1⟩
def fLg:List AV→Option AV
 |[.agg [.sl _ _,.w16 t,.w16 _,.w32 _,.sl _ _]]=>some (.b (decide (t=41#16)))
 |_=>none
theorem fTm (n m:Nat) (xs ys:List AV) (t c:BitVec 16) (l:W32):fLg [.agg [.sl n xs,.w16 t,.w16 c,.w32 l,.sl m ys]]=some (.b (decide (t=41#16))):=(rfl)
attribute [go_sem] fTm
theorem st5 (a b c d e a' b' c' d' e':AV):dV [a,b,c,d,e] 0 [a',b',c',d',e']=[a',b',c',d',e']:=(rfl)
attribute [go_sem] st5
set_option maxHeartbeats 4000000 in
theorem fNr:fHn Tryz.prog GLh 37 fLg:=by
 refine zK Tryz.func37 (aT rfl) ?_
 intro args r hg
 unfold fLg at hg
 split at hg
 ·rename_i n xs t c l m ys
  obtain rfl:=J0 hg
  refine⟨J1 rfl,fun nx=>?_⟩
  clear hg
  refine aA rfl (aW [1] rfl rfl rfl fun K hK=>?_)
  simp(disch:=omega) only[Tryz.f37,go_sem,↓reduceIte]
  refine hK _ ?_
  refine aB (aA rfl (aW [2] rfl rfl rfl fun K hK=>?_))
  simp(disch:=omega) only[Tryz.f37,go_sem,↓reduceIte,J8,J7,J9]
  refine hK _ ?_
  refine aB (aS rfl ?_)
  simp(disch:=omega) only[fHo,bV,bK,bQ,Tryz.f37,go_sem,↓reduceIte]
 cases hg
theorem fLt:bX Tryz.prog GLh 37 (.pure true fLg):=⟨⟨_,Tryz.func37,rfl,rfl⟩,fNr⟩
def fLf:List AV→Option AV
 |[.sl 0 [],.fn _ _]=>some (.i (-1))
 |_=>none
theorem fMu (f:FuncId) (l:List AV):fLf [.sl 0 [],.fn f l]=some (.i (-1)):=(rfl)
def fLh:List AV→Option AV
 |[.sl 0 [],.fn _ []]=>some (.b false)
 |_=>none
theorem fMx (f:FuncId):fLh [.sl 0 [],.fn f []]=some (.b false):=(rfl)
attribute [go_sem] fMu fMx
set_option maxHeartbeats 4000000 in
theorem fNq:fHn Tryz.prog GLh 38 fLf:=by
 refine zK Tryz.func38 (aT rfl) ?_
 intro args r hg
 unfold fLf at hg
 split at hg
 ·rename_i f l
  obtain rfl:=J0 hg
  refine⟨J1 rfl,fun nx=>?_⟩
  clear hg
  refine aA rfl (aW [0,1] rfl rfl rfl fun K hK=>?_)
  simp(disch:=omega) only[Tryz.f38,go_sem,↓reduceIte]
  refine hK _ ?_
  refine aB (aA rfl (aA rfl (aW [0,1,7,8] rfl rfl rfl fun K hK=>?_)))
  simp(disch:=omega) only[Tryz.f38,go_sem,↓reduceIte]
  refine hK _ ?_
  refine aB (aR 0 rfl rfl (bR (fun p:C1=> {fr:=[(0,.sl 0 []),(1,.fn f l),(7,.i 0),(8,.i 0)],hp:=fun _=>none,nx:=0,cx:=p.c}) (fun p=>True) (fun p=>0) rfl ⟨⟨_⟩,trivial,bD rfl rfl (U3 _)⟩ ?_))
  rintro⟨c⟩ _ n0
  simp only at⊢
  refine aA rfl (aW [9,0,1,7,8] rfl rfl rfl fun K hK=>?_)
  simp(disch:=omega) only[Tryz.f38,go_sem,↓reduceIte]
  refine hK _ ?_
  refine aB (aA rfl (cV (.tmp 9) rfl rfl rfl (fun h=>?_) (fun h=>?_)))
  ·refine aI rfl ?_
   cases h
  refine aI rfl ?_
  clear h
  refine bF 0 rfl rfl (aY (aZ (bE (aB (aA rfl (aW [4] rfl rfl rfl fun K hK=>?_))))))
  simp(disch:=omega) only[Tryz.f38,go_sem,↓reduceIte]
  refine hK _ ?_
  refine aB (aS rfl ?_)
  simp(disch:=omega) only[fHo,bV,bK,bQ,Tryz.f38,go_sem,↓reduceIte]
 cases hg
theorem fNd:bX Tryz.prog GLh 38 (.pure true fLf):=⟨⟨_,Tryz.func38,rfl,rfl⟩,fNq⟩
set_option maxHeartbeats 4000000 in
theorem fNy:fHn Tryz.prog GLh 36 fLh:=by
 refine zK Tryz.func36 (aT rfl) ?_
 intro args r hg
 unfold fLh at hg
 split at hg
 ·rename_i f
  obtain rfl:=J0 hg
  refine⟨J1 rfl,fun nx=>?_⟩
  clear hg
  refine aA rfl (aW [0,1] rfl rfl rfl fun K hK=>?_)
  simp(disch:=omega) only[Tryz.f36,go_sem,↓reduceIte]
  refine hK _ ?_
  refine aB (aA rfl (aC (Γ:=bC [(38,.pure true fLf)]) [4] (aH fNd aO) rfl rfl rfl (fun K hK=>?_)))
  simp(disch:=omega) only[Tryz.f36,go_sem,↓reduceIte]
  refine hK _ ?_
  refine aB (aS rfl ?_)
  simp(disch:=omega) only[fHo,bV,bK,bQ,Tryz.f36,go_sem,↓reduceIte]
 cases hg
theorem fNe:bX Tryz.prog GLh 36 (.pure true fLh):=⟨⟨_,Tryz.func36,rfl,rfl⟩,fNy⟩
end Go.AX

namespace Go.AX
open Go
def aRj (ops:Array Oper) (rem:List Nat) (i:Nat):Bool:=match ops[i]? with
 |some x=>x.after.all fun e=> !Region.binds .any e|| !rem.contains e.on
 |none=>false
section
variable {P : Program} {Γ : Env} {c : Ctx} {σ0 : Nat → Loc} {I0 : Nat → Prop} {w0 : World} {md : Nat → Nat} {ops : Array Oper}
end
end Go.AX

namespace Go.AX
open Go
def okE (ops:Array Oper) (k:Nat) (L1 L2:List (List Nat)):Nat→List Nat→List Nat→Bool
 |0,_,_=>false
 |n+1,rem,p=>(if aRj ops rem k then L2.contains p else L1.contains p)&&rem.all fun i=> !aRj ops rem i||i==k||okE ops k L1 L2 n (rem.filter fun j=>j !=i) (p++[i])
section
variable {P : Program} {Γ : Env} {c : Ctx} {σ0 : Nat → Loc} {I0 : Nat → Prop} {w0 : World} {md : Nat → Nat} {ops : Array Oper}
theorem fPm (GL:Nat→Option (List AV)): ∀(p:List Nat) (i:Nat) (x:Oper) (s0 s t:S),ops[i]? =some x→dQ P Γ GL md ops p s0=some s→dQ P Γ GL md ops (p++[i]) s0=some t→kA P Γ GL md ops i x s=some t
 |[],i,x,s0,s,t,hx,h1,h2=>by
  obtain rfl:=J0 h1
  simp only[List.nil_append,dQ,hx]at h2
  obtain⟨s',e1,e2⟩:=aJ h2
  obtain rfl:=J0 e2
  exact e1
 |j::p,i,x,s0,s,t,hx,h1,h2=>by
  simp only[List.cons_append,dQ]at h1 h2
  split at h1
  ·rename_i y hy
   obtain⟨s1,e1,e2⟩:=aJ h1
   rw[hy]at h2
   obtain⟨s2,f1,f2⟩:=aJ h2
   rw[e1]at f1
   obtain rfl:=J0 f1
   exact fPm GL p i x _ s t hx e2 f2
  cases h1
theorem fPt (hΓ:eT P c.GL Γ) {Q:Exit→Act→World→Prop} (hdst:fK c.nt ops.toList=true) (he:tJ ops=true) {k:Nat} {o:Oper} (hk:ops[k]? =some o) {L1 L2:List (List Nat)} {s0:S}
  (h1: ∀p∈L1,∃t,dQ P Γ c.GL md ops p s0=some t)
  (h2: ∀p∈L2,∃t,dQ P Γ c.GL md ops p s0=some t∧∀rem a w,R c σ0 I0 w0 rem t a w→Region.wanted o (yielded ops a.tmps)=true∧∀K,o.wp P a w K Q):
  ∀(fuel:Nat) (listed:Array Bool) (p:List Nat) (s:S) (a:Act) (w:World),listed.size=ops.size→(unl ops.size listed).length≤fuel→k∈unl ops.size listed→
   okE ops k L1 L2 (fuel+1) (unl ops.size listed) p=true→dQ P Γ c.GL md ops p s0=some s→R c σ0 I0 w0 (fun k=>k∈unl ops.size listed) s a w→wpAny P .any ops Q fuel listed a w:=by
 have unl_nil: ∀(listed:Array Bool),listed.size=ops.size→Region.ready .any ops listed=[]→unl ops.size listed=[]:=by
  intro listed hsz hr
  have hall:=uQ he listed hsz hr
  unfold unl
  refine List.filter_eq_nil_iff.2 fun i hi=>?_
  rw[hall i (List.mem_range.1 hi)];simp
 have run: ∀n rem p,okE ops k L1 L2 n rem p=true→∃t,dQ P Γ c.GL md ops p s0=some t:=by
  intro n rem p h
  cases n with
  |zero=>cases h
  |succ n=>
   simp only[okE,Bool.and_eq_true]at h
   have h:=h.1
   split at h
   ·obtain⟨t,e,_⟩:=h2 p (List.contains_iff_mem.1 h);exact⟨t,e⟩
   ·exact h1 p (List.contains_iff_mem.1 h)
 intro fuel
 induction fuel with
 |zero=>
  intro listed p s a w hsz hlen hku hok hrun hR
  have hun0:unl ops.size listed=[]:=List.eq_nil_of_length_eq_zero (by omega)
  rw[hun0]at hku;cases hku
 |succ fuel ih=>
  intro listed p s a w hsz hlen hku hok hrun hR
  have hok0:=hok
  rw[okE]at hok
  simp only[Bool.and_eq_true,List.all_eq_true]at hok
  obtain⟨hok1,hstepT⟩:=hok
  refine⟨fun hr=>?_,fun i hi=>?_⟩
  ·have hz:=unl_nil listed hsz hr
   rw[hz]at hku;cases hku
  obtain⟨hun,x,hx,hall⟩:=mem_ready.1 hi
  have hlt:=(Array.getElem?_eq_some_iff.1 hx).1
  have hmem:i∈unl ops.size listed:=by unfold unl;rw[List.mem_filter,List.mem_range];exact⟨hlt,by rw[hun];rfl⟩
  have hrd:aRj ops (unl ops.size listed) i=true:=by
   unfold aRj
   simp only[hx]
   refine Array.all_eq_true_iff_forall_mem.2 fun e hem=>?_
   cases hb:Region.binds .any e with
   |false=>rfl
   |true=>
    have h1:=hall e hem hb
    simp only[Bool.not_true,Bool.false_or,Bool.not_eq_true']
    rw[←Bool.not_eq_true]
    intro hc
    have hc2:=List.contains_iff_mem.1 hc
    unfold unl at hc2
    rw[List.mem_filter,List.mem_range]at hc2
    obtain⟨hc3,hc4⟩:=hc2
    have hs2:e.on<listed.size:=by omega
    rw[Array.getD_eq_getD_getElem?,Array.getElem?_eq_getElem hs2]at h1 hc4
    simp only[Option.getD_some]at h1 hc4
    rw[h1]at hc4;cases hc4
  by_cases hik:i=k
  ·subst hik
   rw[hk]at hx
   obtain rfl:=J0 hx
   rw[J4 hrd]at hok1
   obtain⟨t,e1,e2⟩:=h2 p (List.contains_iff_mem.1 hok1)
   rw[hrun]at e1
   obtain rfl:=J0 e1
   obtain⟨q1,q2⟩:=e2 _ a w hR
   unfold wpOp
   simp only[hk]
   rw[J4 q1];exact .inl (q2 _)
  have hT:=hstepT i hmem
  have hb:(i==k)=false:=by simp[hik]
  rw[hrd,hb]at hT
  simp only[Bool.not_true,Bool.false_or]at hT
  have hsub: ∀k,k∈unl ops.size (listed.setIfInBounds i true)→k∈unl ops.size listed∧k≠i:=by
   intro k hk
   simp only[unl,List.mem_filter,List.mem_range]at hk⊢
   by_cases hki:k=i
   ·subst hki
    rw[Array.getD_eq_getD_getElem?,Array.getElem?_setIfInBounds_self_of_lt (by omega)]at hk
    simp at hk
   ·rw[getD_set_ne true (Ne.symm hki)]at hk
    exact⟨hk,hki⟩
  have e0:unl ops.size (listed.setIfInBounds i true)=(unl ops.size listed).filter (fun k=>k !=i):=by
   unfold unl
   rw[List.filter_filter]
   refine List.filter_congr fun k hk=>?_
   by_cases hki:k=i
   ·subst hki
    rw[Array.getD_eq_getD_getElem?,Array.getElem?_setIfInBounds_self_of_lt (by omega)];simp
   ·rw[getD_set_ne true (Ne.symm hki)]
    simp[hki]
  have hlen2:(unl ops.size (listed.setIfInBounds i true)).length<(unl ops.size listed).length:=by
   rw[e0]
   refine Nat.lt_of_le_of_ne (List.length_filter_le _ _) fun e=>?_
   have:=List.length_filter_eq_length_iff.1 e i hmem
   simp at this
  have hku2:k∈unl ops.size (listed.setIfInBounds i true):=by
   rw[e0,List.mem_filter]
   exact⟨hku,by simpa using fun e=>hik e.symm⟩
  obtain⟨s1,hr1⟩:=run _ _ _ hT
  have hs1:=fPm (P:=P) (Γ:=Γ) (md:=md) c.GL p i x s0 s s1 hx hrun hr1
  have hstep:=fX (K:=wpAny P .any ops Q fuel (listed.setIfInBounds i true)) (Q:=Q) (ops:=ops) hΓ hs1 (lU hdst (Array.mem_toList_iff.2 (Array.mem_of_getElem? hx))) (rem:=fun k=>k∈unl ops.size listed) hmem hR (fun a' w' hR'=>
   ih (listed.setIfInBounds i true) (p++[i]) s1 a' w' (by simpa using hsz) (by omega) hku2 (by rw[e0];exact hT) hr1 (hR'.un fun k hk=>hsub k hk))
  unfold wpOp
  simp only[hx]
  split
  ·rename_i hw;rw[J4 hw]at hstep;exact .inl hstep
  ·rename_i hw;rw[J3 hw]at hstep;exact hstep
end
def fRk (k:Nat) (L1 L2:List (List Nat)) (c:Code):Bool:=tJ (aM c)&&decide (k<(aM c).size)&&okE (aM c) k L1 L2 ((aM c).size+1) (List.range (aM c).size) []
theorem fQk {P:Program} {GL:Nat→Option (List AV)} {nt:Nat} {Q:Exit→S→Prop} {s:S} {code:Code} {Γ:Env} (k:Nat) (L1 L2:List (List Nat)) (md:Nat→Nat) {f:FuncId} {ch:List PanicEntry} {g:List AV→H→Nat→Option (H×Nat)} (hm:P.follows .mixedOrders=true) (hpan:dE P GL f ch g) (hcall:fHm P f) (hΓ:eT P GL Γ) (hc:eEs code=true) (hd:lZ code=true) (ho:fK nt (aM code).toList=true) (hk:fRk k L1 L2 code=true)
  (h1:aUe (fun l=>nH (xL P Γ GL md (rN code) (aF code) l (cX (rN code) s)) fun _=>True) L1)
  (h2: ∀Z:S→Prop,(∀t,Q (.panic ch) t→Z t)→aUe (fun l=>nH (xL P Γ GL md (rN code) (aF code) l (cX (rN code) s)) (bVn GL f g Z (aF code)[k]?)) L2):Awp P GL nt code s Q:=by
 have h1':=aDs h1
 have h2':=aDs (h2 (Q (.panic ch)) fun _ h=>h)
 clear h1 h2
 cases code<;>first|(cases hc;done)|skip
 rename_i id ops d
 simp only[lZ]at hd
 subst hd
 intro c e1 e2 σ0 I0 w0 a w hR
 subst e1;subst e2
 simp only[aM,fRk,Bool.and_eq_true]at ho hk
 obtain⟨⟨hk1,hk2⟩,hk3⟩:=hk
 replace hk2:=of_decide_eq_true hk2
 have h0:unl ops.size (Array.replicate ops.size false)=List.range ops.size:=by
  unfold unl
  refine List.filter_eq_self.2 fun k hk=>?_
  rw[List.mem_range]at hk
  rw[Array.getD_eq_getD_getElem?,Array.getElem?_replicate,J4 hk];rfl
 have hrun: ∀(l:List Nat) (s:S),xL P Γ c.GL md (rN (.region id ops true)) (aF (.region id ops true)) l s=dQ P Γ c.GL md ops l s:=by
  intro l
  induction l with
  |nil=>intro s;rfl
  |cons i r ih=>
   intro s
   have hl:(aF (.region id ops true))[i]? =(ops[i]?).map (aG ops):=by simp only[aF,aM,List.getElem?_map,Array.getElem?_toList]
   simp only[xL,dQ,hl]
   cases ops[i]? with
   |none=>rfl
   |some o=>
    simp only[Option.map_some,yR,vJ]
    congr 1
    funext s'
    exact ih s'
 obtain⟨o,hka⟩: ∃o,ops[k]? =some o:=⟨ops[k]'hk2,Array.getElem?_eq_getElem hk2⟩
 have hlk:(aF (.region id ops true))[k]? =some (aG ops o):=by simp only[aF,aM,List.getElem?_map,Array.getElem?_toList,hka,Option.map_some]
 refine wp_region_any hm (fPt (σ0:=σ0) (I0:=I0) (w0:=w0) (md:=md) (s0:=cX ops.size s) hΓ ho hk1 hka (fun p hp=>?_) (fun p hp=>?_) ops.size _ [] (cX ops.size s) a _ (by simp) (by rw[h0];simp) (by rw[h0];exact List.mem_range.2 hk2) (by rw[h0];exact hk3) rfl ?_)
 ·obtain⟨t,e1,_⟩:=mR (h1' p hp)
  rw[hrun]at e1
  exact⟨t,e1⟩
 ·obtain⟨t,e1,e2⟩:=mR (h2' p hp)
  rw[hrun]at e1
  rw[hlk]at e2
  refine⟨t,e1,fun rem a' w' hR'=>?_⟩
  have key:=fun K=>bIn (K:=K) (ops:=ops) (Q':=fun e a' w'=> ∃s',Q e s'∧R c σ0 I0 w0 (fun _=>False) s' a' w') hpan hcall e2 hR' (fun t' a' w' hZ hR'=>⟨t',hZ,hR'⟩)
  exact⟨(key fun _ _=>True).1,fun K=>(key K).2⟩
 ·exact((hR.enter ops.size).un fun k hk=>by rw[h0]at hk;exact List.mem_range.1 hk).world rfl rfl rfl rfl
end Go.AX

namespace Go.AX
open Go Go.Proofs
set_option maxRecDepth 8000
theorem st15 (a b c d e f g h i j k l m n o a' b' c' d' e' f' g' h' i' j' k' l' m' n' o':AV):dV [a,b,c,d,e,f,g,h,i,j,k,l,m,n,o] 0 [a',b',c',d',e',f',g',h',i',j',k',l',m',n',o']=[a',b',c',d',e',f',g',h',i',j',k',l',m',n',o']:=(rfl)
attribute [go_sem] st15
theorem sp3 (a b c x y z:AV):yC [a,b,c] 0 [x,y,z]=[x,y,z]:=(rfl)
theorem fMs (n:Nat) (xs r:List AV):fVs (.sl n xs::r)=fVs r:=(rfl)
attribute [go_sem] sp3 fMs
def qsC:List QN→List AV
 |[]=>[]
 |q::r=>[.sl q.n.length (cS q.n),.w16 q.t,.w16 q.c]++qsC r
theorem fIi: ∀l:List QN,(qsC l).length=3*l.length
 |[]=>rfl
 |q::r=>by simp only[qsC,List.length_append,List.length_cons,List.length_nil,fIi r];omega
theorem fKl: ∀l m:List QN,qsC (l++m)=qsC l++qsC m
 |[],_=>rfl
 |q::r,m=>by rw[List.cons_append,qsC,qsC,fKl r m,List.append_assoc]
theorem fLq: ∀l:List QN,dB (qsC l)=true
 |[]=>rfl
 |_::r=>fLq r
def c16 (b:List B8) (a:Nat):Nat:=(fRs ((b.drop a).take 2)).toNat
def b1 (b:List B8) (a:Nat):W32:=fRs ((b.drop a).take 1)
def msC (b:List B8) (q:AV):List AV:=[.w16 (n16 b 0),.b (!decide (b1 b 2&&&128#32=0#32)),.i ((b1 b 2>>>3&&&15#32).toNat:Int),.b (!decide (b1 b 2&&&4#32=0#32)),.b (!decide (b1 b 2&&&2#32=0#32)),.b (!decide (b1 b 2&&&1#32=0#32)),.b (!decide (b1 b 3&&&128#32=0#32)),.i ((b1 b 3&&&15#32).toNat:Int),q]
def msT:List AV:=[.sl 0 [],.sl 0 [],.sl 0 [],.b false,.w16 0#16,.b false]
def msA (b:List B8) (l:List QN):AV:=.agg (msC b (.sl l.length (qsC l))++msT)
theorem fKq: ∀l:List QN,AV.ids.idsL (qsC l)=0
 |[]=>rfl
 |q::r=>by
  show max (AV.ids (.sl q.n.length (cS q.n))) (max 0 (max 0 (AV.ids.idsL (qsC r))))=0
  rw[eKy,fKq r];rfl
theorem fMw (b:List B8) (l:List QN):AV.ids (msA b l)=0:=by
 unfold msA msC msT
 simp[AV.ids,AV.ids.idsL,fKq]
def MGd (b:List B8):Prop:=b.length<2∨(12≤b.length∧c16 b 6=0∧c16 b 8=0∧c16 b 10=0)
instance (b:List B8):Decidable (MGd b):=by unfold MGd;infer_instance
def mgX (b:List B8):Option (List QN×Nat)→Option (AV×List AV)
 |none=>none
 |some (l,e)=>if e=b.length then some (msA b l,[.sl b.length (c8 b),.i (e:Int)])else none
def mgR (b:List B8):Option (AV×List AV):=if b.length<2 then none else mgX b (fJv b (c16 b 4) 12 [])
def mgG:List AV→List AV→Option (Option (AV×List AV))
 |[.op _ 0],[.sl n xs,.i 0]=>aK (fHq xs) fun b=>aN (b.length=n∧n≤100000∧MGd b) (some (mgR b))
 |_,_=>none
theorem fNp (id n:Nat) (xs:List AV):mgG [.op id 0] [.sl n xs,.i 0]=aK (fHq xs) fun b=>aN (b.length=n∧n≤100000∧MGd b) (some (mgR b)):=(rfl)
attribute [go_sem] fNp
def fKi (b:List B8) (k:Nat):List AV:=(List.range 4).map fun j=> .i (if j<k then((c16 b (4+2*j):Nat):Int)else 0)
theorem fOa (b:List B8):fKi b 0=List.replicate 4 (.i 0):=rfl
theorem fMg (b:List B8) (k:Nat):(fKi b k).length=4:=rfl
theorem fMf (b:List B8) {k:Nat} (h:k<4):(fKi b k).set k (.i ((c16 b (4+2*k):Nat):Int))=fKi b (k+1):=by
 rcases(by omega:k=0∨k=1∨k=2∨k=3)with rfl|rfl|rfl|rfl<;>rfl
theorem fNz (b:List B8):fKi b 4=[.i ((c16 b 4:Nat):Int),.i ((c16 b 6:Nat):Int),.i ((c16 b 8:Nat):Int),.i ((c16 b 10:Nat):Int)]:=rfl
def z15:List AV:=[.w16 0#16,.b false,.i 0,.b false,.b false,.b false,.b false,.i 0,.v (.slice none 0 0),.v (.slice none 0 0),.v (.slice none 0 0),.v (.slice none 0 0),.b false,.w16 0#16,.b false]
def fKg (b:List B8):List AV:=[.w16 (n16 b 0),.b (!decide (b1 b 2&&&128#32=0#32)),.i ((b1 b 2>>>3&&&15#32).toNat:Int),.b (!decide (b1 b 2&&&4#32=0#32)),.b (!decide (b1 b 2&&&2#32=0#32)),.b (!decide (b1 b 2&&&1#32=0#32)),.b (!decide (b1 b 3&&&128#32=0#32)),.i ((b1 b 3&&&15#32).toNat:Int)]
def fKf:List AV:=[.v (.slice none 0 0),.v (.slice none 0 0),.v (.slice none 0 0),.b false,.w16 0#16,.b false]
def ms0 (b:List B8) (q:AV):List AV:=msC b q++[.v (.slice none 0 0),.v (.slice none 0 0),.v (.slice none 0 0),.b false,.w16 0#16,.b false]
theorem fMn {g:H} {a b c d:Nat} {x y z w:AO} (h1:g a=some x) (h2:g b=some y) (h3:g c=some z) (h4:g d=some w): ∀j o,upd (upd (upd (upd (fun _=>none) a x) b y) c z) d w j=some o→g j=some o:=by
 intro j o h
 simp only[bJ]at h
 split at h
 ·rename_i e;rw[e,h4];exact h
 split at h
 ·rename_i e;rw[e,h3];exact h
 split at h
 ·rename_i e;rw[e,h2];exact h
 split at h
 ·rename_i e;rw[e,h1];exact h
 cases h
theorem fNi {g:H} {a b c d e:Nat} {x y z w v:AO} (h1:g a=some x) (h2:g b=some y) (h3:g c=some z) (h4:g d=some w) (h5:g e=some v): ∀j o,upd (upd (upd (upd (upd (fun _=>none) a x) b y) c z) d w) e v j=some o→g j=some o:=by
 intro j o h
 rw[bJ]at h
 split at h
 ·rename_i e1;rw[e1,h5];exact h
 exact fMn h1 h2 h3 h4 j o h
theorem fOe (b:List B8) (a:Nat):c16 b a<65536:=by
 unfold c16
 have h:((b.drop a).take 2).length≤2:=by rw[List.length_take];omega
 obtain⟨l,hl⟩: ∃l,(b.drop a).take 2=l:=⟨_,rfl⟩
 rw[hl]at h⊢
 match l,h with
 |[],_=>decide
 |[x],_=>
  show(((0#32 <<<8)|||x.setWidth 32).toNat)<65536
  have:=x.isLt
  rw[BitVec.toNat_or,BitVec.toNat_setWidth]
  have e1:(0#32 <<<8).toNat=0:=rfl
  rw[e1,Nat.zero_or];omega
 |[x,y],_=>
  show(((((0#32 <<<8)|||x.setWidth 32) <<<8)|||y.setWidth 32).toNat)<65536
  have h1:=x.isLt
  have h2:=y.isLt
  rw[BitVec.toNat_or]
  have e0:((0#32 <<<8)|||x.setWidth 32)=x.setWidth 32:=by rw[show(0#32 <<<8)=0#32 from rfl,BitVec.zero_or]
  rw[e0]
  have e1:((x.setWidth 32:W32) <<<8).toNat=x.toNat <<<8:=by
   rw[BitVec.toNat_shiftLeft,BitVec.toNat_setWidth,Nat.shiftLeft_eq,Nat.shiftLeft_eq];omega
  have e2:(y.setWidth 32:W32).toNat=y.toNat:=by rw[BitVec.toNat_setWidth];omega
  rw[e1,e2,←Nat.shiftLeft_add_eq_or_of_lt h2,Nat.shiftLeft_eq]
  omega
structure QLI where
 k:Nat
 e:Nat
 l:List QN
 q:Nat
 c:Nat
structure MGI where
 k:Nat
 c:Nat
set_option maxHeartbeats 8000000 in
theorem fIj:fHs Tryz.prog GLh 18 (rdH mgG)∧dE Tryz.prog GLh 18 chM (rdP mgG):=by
 refine dT Tryz.func18 (aT rfl) ?_
 intro id off rest nx xs o hg
 unfold mgG at hg
 split at hg
 ·rename_i id2 n xs2 heq
  simp only[List.cons.injEq,AV.op.injEq]at heq
  obtain⟨⟨rfl,rfl⟩,rfl⟩:=heq
  replace hg:=aJ hg;obtain⟨b,hl,hg⟩:=hg
  replace hg:=aP hg;obtain⟨⟨rfl,hnb,hmg⟩,hg⟩:=hg
  obtain rfl:=J0 hg
  have:=bW hl;subst this
  refine⟨J1 rfl,fun hid=>?_⟩
  clear hl hg
  refine aA rfl (aW [0,2] rfl rfl rfl fun K hK=>?_)
  simp(disch:=omega) only[Tryz.f18,go_sem,↓reduceIte]
  refine hK _ ?_
  refine aB ?_
  by_cases hb2:b.length<2
  ·have e0:mgR b=none:=J4 hb2
   rw[e0]
   have n0:rL b 2 0=none:=fPs (by omega)
   refine aA rfl (dCn (Γ:=bC [(32,.heap (rdH eN))]) 1 (dK) fSe (aH fL aO) rfl rfl rfl (fun Z hZ=>?_))
   simp(disch:=omega) only[Tryz.f18,U0,U1,go_sem,↓reduceIte,bG,eq_self,true_and,bP,List.map_cons,List.map_nil,List.append_nil,n0]
   refine hZ _ ?_;clear hZ Z
   exact rfl
  rcases hmg with h|⟨h12,z1,z2,z3⟩
  ·exact absurd h hb2
  have e0:mgR b=mgX b (fJv b (c16 b 4) 12 []):=J3 hb2
  rw[e0]
  have n0:rL b 2 0=some (.w32 (fRs (b.take 2)),[.sl b.length (c8 b),.i ((0+2:Nat):Int)]):=eKs (by omega)
  have n2:=eKs (l:=b) (k:=1) (a:=2) (by omega)
  have n3:=eKs (l:=b) (k:=1) (a:=3) (by omega)
  refine aA rfl (aC (Γ:=bC [(32,.heap (rdH eN))]) [0,2,3] (aH fL aO) rfl rfl rfl (fun K hK=>?_))
  simp(disch:=omega) only[Tryz.f18,go_sem,↓reduceIte,n0]
  refine hK _ ?_
  refine aB (aA rfl (aC (Γ:=bC [(32,.heap (rdH eN))]) [0,2,3,4,5] (aH fL aO) rfl rfl rfl (fun K hK=>?_)))
  simp(disch:=omega) only[Tryz.f18,go_sem,↓reduceIte,n2,n3,U2]
  refine hK _ ?_
  refine aB (aA rfl (aW [0,2,3,5] rfl rfl rfl fun K hK=>?_))
  simp(disch:=omega) only[Tryz.f18,go_sem,↓reduceIte]
  refine hK _ ?_
  refine aB (aA rfl (aW [0,2,3] rfl rfl rfl fun K hK=>?_))
  simp(disch:=omega) only[Tryz.f18,go_sem,↓reduceIte]
  refine hK _ ?_
  refine aB (aA rfl (aW [0,2,3,6] rfl rfl rfl fun K hK=>?_))
  simp(disch:=omega) only[Tryz.f18,go_sem,↓reduceIte]
  refine hK _ ?_
  refine aB (aA rfl (aA rfl (aW [0,2,3,6,47] rfl rfl rfl fun K hK=>?_)))
  simp(disch:=omega) only[Tryz.f18,go_sem,↓reduceIte]
  refine hK _ ?_
  refine aB (yK (fMn (a:=id) (b:=nx) (c:=nx+1+4) (d:=nx+49) (x:=.cells [.sl b.length (c8 b),.i ((4:Nat):Int)] true) (y:=.cells z15 true) (z:=.cells (ms0 b (.v (.slice none 0 0))) true) (w:=.cells (fKi b 0) true) ?_ ?_ ?_ ?_) ?_)
  ·simp(disch:=omega) only[aV,bY,↓reduceIte]
  ·simp(disch:=omega) only[aV,bY,↓reduceIte,z15]
  ·simp(disch:=omega) only[aV,bY,↓reduceIte]
   rfl
  ·simp(disch:=omega) only[aV,↓reduceIte,fOa]
  obtain⟨mi,hmi⟩: ∃y,nx+1+4=y:=⟨_,rfl⟩
  obtain⟨ci,hci⟩: ∃y,nx+49=y:=⟨_,rfl⟩
  rw[hmi,hci]
  refine aR 0 rfl rfl ?_
  refine bR (fun p:MGI=> {fr:=[(0,.op id 0),(2,.op nx 0),(3,.op mi 0),(6,.op ci 0),(47,.i (p.k:Int))],hp:=upd (upd (upd (upd (fun _=>none) id (.cells [.sl b.length (c8 b),.i ((4+2*p.k:Nat):Int)] true)) nx (.cells z15 true)) mi (.cells (ms0 b (.v (.slice none 0 0))) true)) ci (.cells (fKi b p.k) true),nx:=0,cx:=p.c}) (fun p=>p.k≤4∧ci<p.c) (fun p=>4-p.k) rfl ⟨⟨0,_⟩,⟨Nat.zero_le _,by simp only;omega⟩,bD rfl rfl (U3 _)⟩ ?_
  rintro⟨k,c⟩ ⟨hk,hcc⟩ n0
  simp only at hk hcc⊢
  refine aA rfl (aW [48,0,2,3,6,47] rfl rfl rfl fun K hK=>?_)
  simp(disch:=omega) only[Tryz.f18,go_sem,↓reduceIte]
  refine hK _ ?_
  refine aB (aA rfl (bA (.tmp 48) rfl rfl rfl (fun h=>?_) (fun h=>?_)))
  ·refine aI rfl ?_
   have hk4:k<4:=by omega
   have nk:=eKs (l:=b) (k:=2) (a:=4+2*k) (by omega)
   have hset:=fMf b hk4
   have hcv:(fRs (List.take 2 (List.drop (4+2*k) b))).toNat=c16 b (4+2*k):=rfl
   clear h
   refine aQ rfl (aB (aA rfl (aR 1 rfl rfl (aA rfl (aW [0,2,3,6,7,47] rfl rfl rfl fun K hK=>?_)))))
   simp(disch:=omega) only[Tryz.f18,go_sem,↓reduceIte]
   refine hK _ ?_
   refine aB (aC (Γ:=bC [(32,.heap (rdH eN))]) [0,2,3,6,47] (aH fL aO) rfl rfl rfl (fun K hK=>?_))
   simp(disch:=omega) only[Tryz.f18,go_sem,↓reduceIte,nk,fMg,hcv,hset,U2]
   refine hK _ ?_
   refine bU (aB (aW [0,2,3,6,47] rfl rfl rfl fun K hK=>?_))
   simp(disch:=omega) only[Tryz.f18,go_sem,↓reduceIte]
   refine hK _ ?_
   refine bT ?_
   refine⟨⟨k+1,_⟩,⟨by simp only;omega,by simp only;omega⟩,by simp only;omega,⟨fun _=> .inr ?_,fun j o hj=>?_,U3 _⟩⟩
   ·simp only[Int.natCast_add,Int.natCast_one]
   simp only at hj
   rw[show 4+2*(k+1)=4+2*k+2 by omega]at hj
   exact fMn (by simp(disch:=omega) only[aV,bY,↓reduceIte]) (by simp(disch:=omega) only[aV,bY,↓reduceIte]) (by simp(disch:=omega) only[aV,bY,↓reduceIte]) (by simp(disch:=omega) only[aV,↓reduceIte]) j o hj
  refine aI rfl ?_
  obtain rfl:k=4:=by omega
  refine bF 0 rfl rfl (aY (aZ (bE (aB (aA rfl (aA rfl ?_))))))
  rw[fNz,z1,z2,z3]
  refine aW [0,2,3,6,57,58] rfl rfl rfl fun K hK=>?_
  simp(disch:=omega) only[Tryz.f18,go_sem,↓reduceIte,J8,J9]
  refine hK _ ?_
  refine aB ?_
  refine aDn mi 3 (fKg b) fKf true (by simp(disch:=omega) only[aV,bY,↓reduceIte];rfl) (by omega) ?_
  obtain⟨ans,hqs⟩: ∃a,fJv b (c16 b 4) 12 []=a:=⟨_,rfl⟩
  rw[hqs]
  obtain⟨N,hN⟩: ∃N,c16 b 4=N:=⟨_,rfl⟩
  rw[hN]at hqs⊢
  have hNl:N<65536:=by rw[←hN];exact fOe b 4
  refine aR 2 rfl rfl ?_
  refine bR (fun p:QLI=> {fr:=[(0,.op id 0),(2,.op nx 0),(3,.op mi 0),(6,.op ci 0),(57,.i (N:Int)),(58,.i (p.k:Int))],hp:=upd (upd (upd (upd (upd (fun _=>none) id (.cells [.sl b.length (c8 b),.i (p.e:Int)] true)) nx (.cells z15 true)) ci (.cells [.i (N:Int),.i 0,.i 0,.i 0] true)) p.q (.cells (qsC p.l) true)) mi (.cells (fKg b++ .os p.q 0 p.l.length 3 true::fKf) true),nx:=0,cx:=p.c}) (fun p=>p.k≤N∧p.l.length=p.k∧p.e≤b.length∧fJv b (N-p.k) p.e p.l=ans∧ci<p.q∧p.q<p.c) (fun p=>N-p.k) rfl ⟨⟨0,12,[],c+1+3,_⟩,⟨Nat.zero_le _,rfl,h12,hqs,by simp only;omega,by simp only;omega⟩,⟨fun _=> .inr rfl,fun j o hj=>fNi (by simp(disch:=omega) only[aV,bY,↓reduceIte]<;>rfl) (by simp(disch:=omega) only[aV,bY,↓reduceIte]<;>rfl) (by simp(disch:=omega) only[aV,bY,↓reduceIte]<;>rfl) (by simp(disch:=omega) only[aV,bY,↓reduceIte]<;>rfl) (by simp(disch:=omega) only[aV,↓reduceIte]<;>rfl) j o hj,U3 _⟩⟩ ?_
  rintro⟨k,e,l,q,c⟩ ⟨hk,hl,he,hrun,hq1,hq2⟩ n0
  simp only at hk hl he hrun hq1 hq2⊢
  refine aA rfl (aW [59,0,2,3,6,57,58] rfl rfl rfl fun K hK=>?_)
  simp(disch:=omega) only[Tryz.f18,go_sem,↓reduceIte]
  refine hK _ ?_
  refine aB (aA rfl (bA (.tmp 59) rfl rfl rfl (fun h=>?_) (fun h=>?_)))
  ·refine aI rfl ?_
   obtain⟨j,hj⟩: ∃j,N-k=j+1:=⟨N-k-1,by omega⟩
   rw[hj,fJv]at hrun
   clear h
   refine aQ rfl (aB (aA rfl (aR 3 rfl rfl ?_)))
   rcases hx:qnR b e with _|⟨x,e'⟩
   ·rw[hx]at hrun
    obtain rfl:=hrun
    have hA:qsA b none=none:=rfl
    have hM:mgX b none=none:=rfl
    have hd8: ∀y:AV,(List.drop 8 (fKg b++y::fKf)).head? =some y:=fun y=>rfl
    have hl8: ∀y:AV,(fKg b++y::fKf).length=15:=fun y=>rfl
    rw[hM]
    refine fQk (Γ:=bC [(33,.heap (rdH qsG))]) 3 [[],[0],[0,1]] [[0,1,2],[0,2],[0,2,1],[2],[2,0],[2,0,1]] (fun k=>if k=3 then 0 else 2) bZ (fPr) fRa (aH fOp aO) rfl rfl rfl (by kernel_rfl) ?_ (fun Z hZ=>?_)
    ·simp(disch:=omega) only[Tryz.f18,go_sem,aHu,aQh,cHk,nJ,lY,eDt,List.getElem?_cons_zero,List.getElem?_cons_succ,↓reduceIte,eq_self,and_self,List.map_cons,List.map_nil,hd8]
    simp(disch:=omega) only[Tryz.f18,go_sem,aHu,aQh,cHk,nJ,lY,eDt,List.getElem?_cons_zero,List.getElem?_cons_succ,↓reduceIte,bG,eq_self,true_and,and_true,bP,List.map_cons,List.map_nil,List.append_nil,hd8,hx,hA,U2]
    exact⟨hZ _ (by exact rfl),hZ _ (by exact rfl),hZ _ (by exact rfl),hZ _ (by exact rfl),hZ _ (by exact rfl),hZ _ (by exact rfl)⟩
   rw[hx]at hrun
   simp only at hrun
   have he':=fNn hx
   have hA:qsA b (some (x,e'))=some (qA x,[.sl b.length (c8 b),.i (e':Int)]):=rfl
   have hd8: ∀y:AV,(List.drop 8 (fKg b++y::fKf)).head? =some y:=fun y=>rfl
   have hs8: ∀y z:AV,(fKg b++y::fKf).set 8 z=fKg b++z::fKf:=fun y z=>rfl
   have hl8: ∀y:AV,(fKg b++y::fKf).length=15:=fun y=>rfl
   have hsn:qsC l++[.sl x.n.length (cS x.n),.w16 x.t,.w16 x.c]=qsC (l++[x]):=by rw[fKl];rfl
   have hcl:=fIi l
   have hl1:(l++[x]).length=l.length+1:=by simp
   refine aKy (Γ:=bC [(33,.heap (rdH qsG))]) 1 3 [0,1,2,3,4,5,6,7] [2,3,0,1,4,5,6,7] (fun k=>if k=3 then 0 else 2) [0,2,3,6,57,58] bZ (aH fOp aO) (by decide) rfl rfl rfl (by kernel_rfl) (fun K hK=>?_) (fun K hK=>?_)
   ·simp(disch:=omega) only[Tryz.f18,go_sem,nJ,lY,eDt,List.getElem?_cons_zero,List.getElem?_cons_succ,↓reduceIte,hd8,hs8,hl8,hx,hA,qA,hcl,hsn,U2,U0,U1,J9]
    refine hK _ ?_
    refine bU (aB (aW [0,2,3,6,57,58] rfl rfl rfl fun K hK=>?_))
    simp(disch:=omega) only[Tryz.f18,go_sem,↓reduceIte]
    refine hK _ ?_
    refine bT ?_
    refine⟨⟨k+1,e',l++[x],c+1+5,_⟩,⟨by simp only;omega,hl1.trans (by rw[hl]),he',by rw[show N-(k+1)=j by omega];exact hrun,by simp only;omega,by simp only;omega⟩,by simp only;omega,⟨fun _=> .inr ?_,fun j o hj=>?_,U3 _⟩⟩
    ·simp only[Int.natCast_add,Int.natCast_one]
    simp only at hj
    rw[hl1]at hj
    exact fNi (by simp(disch:=omega) only[aV,kE,bY,↓reduceIte]<;>rfl) (by simp(disch:=omega) only[aV,kE,bY,↓reduceIte]<;>rfl) (by simp(disch:=omega) only[aV,kE,bY,↓reduceIte]<;>rfl) (by simp(disch:=omega) only[aV,bY,↓reduceIte]<;>rfl) (by simp(disch:=omega) only[aV,↓reduceIte]<;>rfl) j o hj
   simp(disch:=omega) only[Tryz.f18,go_sem,nJ,lY,eDt,List.getElem?_cons_zero,List.getElem?_cons_succ,↓reduceIte,hd8,hs8,hl8,hx,hA,qA,hcl,hsn,U2,U0,U1,J9]
   refine hK _ ?_
   refine bU (aB (aW [0,2,3,6,57,58] rfl rfl rfl fun K hK=>?_))
   simp(disch:=omega) only[Tryz.f18,go_sem,↓reduceIte]
   refine hK _ ?_
   refine bT ?_
   refine⟨⟨k+1,e',l++[x],c+1+5,_⟩,⟨by simp only;omega,hl1.trans (by rw[hl]),he',by rw[show N-(k+1)=j by omega];exact hrun,by simp only;omega,by simp only;omega⟩,by simp only;omega,⟨fun _=> .inr ?_,fun j o hj=>?_,U3 _⟩⟩
   ·simp only[Int.natCast_add,Int.natCast_one]
   simp only at hj
   rw[hl1]at hj
   exact fNi (by simp(disch:=omega) only[aV,kE,bY,↓reduceIte]<;>rfl) (by simp(disch:=omega) only[aV,kE,bY,↓reduceIte]<;>rfl) (by simp(disch:=omega) only[aV,kE,bY,↓reduceIte]<;>rfl) (by simp(disch:=omega) only[aV,bY,↓reduceIte]<;>rfl) (by simp(disch:=omega) only[aV,↓reduceIte]<;>rfl) j o hj
  refine aI rfl ?_
  obtain rfl:k=N:=by omega
  rw[Nat.sub_self,fJv]at hrun
  obtain rfl:=hrun
  refine bF 2 rfl rfl (aY (aZ (bE (aB ?_))))
  refine lW 6 ci 0 rfl (by simp(disch:=omega) only[aV,bY,↓reduceIte]<;>rfl) ?_
  refine aA rfl (bB (Γ:=bC [(34,.heap (rdH fLb))]) (fun k=>if k=3 then 0 else if k=7 then 0 else if k=11 then 0 else if k=2 then 1 else if k=6 then 1 else if k=10 then 1 else 2) [0,2,3] bZ (aH fOo aO) rfl rfl rfl (by kernel_rfl) (fun K hK=>?_))
  simp(disch:=omega) only[Tryz.f18,go_sem,↓reduceIte,fKg,fKf,List.cons_append,List.nil_append,J8,List.set_cons_succ,List.set_cons_zero,J7,J9]
  refine hK _ ?_
  refine aB (yK (fMn (a:=id) (b:=nx) (c:=q) (d:=mi) (x:=.cells [.sl b.length (c8 b),.i (e:Int)] true) (y:=.cells z15 true) (z:=.cells (qsC l) true) (w:=.cells (msC b (.os q 0 l.length 3 true)++msT) true) ?_ ?_ ?_ ?_) ?_)
  ·simp(disch:=omega) only[aV,bY,↓reduceIte]
  ·simp(disch:=omega) only[aV,bY,↓reduceIte]
  ·simp(disch:=omega) only[aV,bY,↓reduceIte]
  ·simp(disch:=omega) only[aV,↓reduceIte]<;>rfl
  have hcl:=fIi l
  have hno:=fLq l
  by_cases hee:e=b.length
  ·have de:decide ((e:Int)=(b.length:Int))=true:=J5 (by omega)
   have hX:mgX b (some (l,e))=some (msA b l,[.sl b.length (c8 b),.i (e:Int)]):=J4 hee
   rw[hX]
   refine aA rfl (bB (Γ:=bC [(36,.pure true fLh),(37,.pure true fLg),(35,.pure true eO)]) (fun k=>if k=12 then 0 else if k=13 then 0 else if k=18 then 0 else if k=19 then 0 else if k=22 then 0 else 2) [2,3] bZ (aH fNe (aH fLt (aH rP aO))) rfl rfl rfl (by kernel_rfl) (fun K hK=>?_))
   simp(disch:=omega) only[Tryz.f18,go_sem,↓reduceIte,de,msC,msT,List.cons_append,List.nil_append,Bool.not_false,J8,J7,J9]
   refine hK _ ?_
   refine aB (aA rfl (aA rfl (aC (Γ:=bC [(38,.pure true fLf),(37,.pure true fLg)]) [2,3,8] (aH fNd (aH fLt aO)) rfl rfl rfl (fun K hK=>?_))))
   simp(disch:=omega) only[Tryz.f18,go_sem,↓reduceIte,List.cons_append,List.nil_append,J8,J7,J9]
   refine hK _ ?_
   refine aB (aA rfl (aW [110,2,3,8] rfl rfl rfl fun K hK=>?_))
   simp(disch:=omega) only[Tryz.f18,go_sem,↓reduceIte]
   refine hK _ ?_
   refine aB (cV (.tmp 110) rfl rfl rfl (fun h=>?_) (fun h=>?_))
   ·refine aI rfl ?_
    cases h
   refine aI rfl ?_
   clear h
   refine aQ rfl (aB (aA rfl (aW [2] rfl rfl rfl fun K hK=>?_)))
   simp(disch:=omega) only[Tryz.f18,go_sem,↓reduceIte,z15,U0,U1,J9]
   refine hK _ ?_
   refine aB (aS rfl (⟨by simp(disch:=omega) only[bV,bK,bQ,Tryz.f18,go_sem,aV,kE,bY,eq_self,↓reduceIte,hcl,hno,msA,msC,msT,List.cons_append,List.nil_append,U0,U1,J9],by simp(disch:=omega) only[aV,bY,↓reduceIte,eq_self],?_,?_⟩))
   ·exact fMw b l
   exact fVp _ _ _
  have de:decide ((e:Int)=(b.length:Int))=false:=J6 (by omega)
  have hX:mgX b (some (l,e))=none:=J3 hee
  rw[hX]
  refine aA rfl (dCo (Γ:=bC [(36,.pure true fLh),(37,.pure true fLg),(35,.pure true eO)]) 22 (fun _=>2) bZ (fPd) rD (aH fNe (aH fLt (aH rP aO))) rfl rfl rfl (by kernel_rfl) rfl (by kernel_rfl) (fun Z hZ=>?_))
  simp(disch:=omega) only[Tryz.f18,U0,U1,go_sem,↓reduceIte,bG,eq_self,true_and,bP,List.map_cons,List.map_nil,List.append_nil,de,msC,msT,List.cons_append,List.nil_append,J8,U0,U1,J7,J9]
  refine hZ _ ?_;clear hZ Z
  exact rfl
 cases hg
theorem fJy:dE Tryz.prog GLh 18 chM (rdP mgG):=fIj.2
theorem fOc:fHm Tryz.prog 18:=⟨_,Tryz.func18,rfl,rfl⟩
theorem fNf:bX Tryz.prog GLh 18 (.heap (rdH mgG)):=⟨⟨_,Tryz.func18,rfl,rfl⟩,fIj.1⟩
end Go.AX

namespace Go.AX
open Go
set_option maxRecDepth 8000
theorem fLc {P:Program} {GL:Nat→Option (List AV)} {f d:FuncId} {fn:Func} {r0 r1 C:Code} {id:Nat} {k:Tmp} {caps:Array Operand} {ty1 ty2:TypeId} {p1 p2:String} {af1 af2:Array Edge} {ch:List PanicEntry} {u':FrameMode} {gI gP:List AV→H→Nat→Option (H×Nat)} {g:List AV→Option AV} (hf:P.funcs[f]? =some fn)
  (hb:fn.body=some (.seq r0 (.seq r1 (.seq (.region id #[{dst:=some k,op:=.makeFunc (.func d) #[] caps,type:=ty1,pos:=p1,after:=af1,guard:=none},{dst:=none,op:=.defer {callee:=.value (.tmp k),args:= #[],argTypes:= #[]},type:=ty2,pos:=p2,after:=af2,guard:=none}] false) C))))
  (hk:k<fn.ntmps) (hd:fHm P d) (hI:bSj P GL d .returning .returning gI) (hP:bSj P GL d (.panicking ch) u' gP) (hu:settle u'=.returning)
  (h: ∀args r,g args=some r→args.length≤fn.ntmps∧∀nx,∃capsA,Awp P GL fn.ntmps r0 (sN args (fun _=>none) nx) (oS P GL fn.ntmps r1 (dYy P GL fn.ntmps C k d caps.toList capsA (fDc P fn.results.toList ch gI gP capsA r)))):fHn P GL f g:=by
 intro σ I w nx args vals r h1 h2 h3 hs hr hg
 obtain⟨hlen,haw⟩:=h args r hg
 obtain⟨capsA,haw⟩:=haw nx
 let c:=aPf σ I w GL fn.ntmps nx
 refine calls_of_wp_defers hf hb ?_
 refine wp_seq (wp_mono (haw c rfl rfl σ I w {tmps:=vals++Array.replicate (fn.ntmps-vals.size) undef,defers:=[]} w ?_) ?_)
 ·refine⟨⟨σ,I,?_,iO.refl _ _ _,fun t=>oG hs hr t⟩,rfl,by show _=fn.ntmps;simp[hs];omega,fun k hk=>hk.elim,fun id hid=>⟨hid.1,hid.1⟩⟩
  refine(bYs h1 h2 h3).mono_un fun id hid=>?_
  rcases hid with hid|⟨k,hk,_⟩|hid
  ·exact .inl hid
  ·exact hk.elim
  ·exact .inr hid
 rintro e a00 w00 ⟨t00,hq0,hR0⟩
 have hq1:e=.normal∧Awp P GL fn.ntmps r1 t00 (dYy P GL fn.ntmps C k d caps.toList capsA (fDc P fn.results.toList ch gI gP capsA r)):=by
  cases e<;>first|exact⟨rfl,hq0⟩|exact hq0.elim
 obtain⟨rfl,hq1⟩:=hq1
 refine wp_seq (wp_mono (hq1 c rfl rfl σ I w a00 w00 hR0) ?_)
 rintro e a0 w0 ⟨t0,hq,hR⟩
 cases e with
 |normal=>
  obtain⟨hcaps,hC⟩:=hq
  refine wp_seq ?_
  refine wp_region_list ?_
  obtain⟨⟨σ1,I1,b1,b2,b3⟩,bd,bs,blt,blt0⟩:=hR
  obtain⟨V,hV⟩: ∃V,caps.map a0.eval=V:=⟨_,rfl⟩
  have hVs:V.size=capsA.length:=by rw[←hV,←hcaps];simp
  have hVr: ∀i (_h:i<capsA.length),Rel σ1 I1 w0 capsA[i] (V.getD i undef):=by
   subst hcaps
   intro i hi
   have:=aAc (l:=caps.toList) (aJt b1 b3) i (by simpa using hi)
   rw[fI,List.getD_eq_getElem?_getD]at this
   have e:V[i]? =(List.map a0.eval caps.toList)[i]?:=by rw[←hV,←Array.toList_map,Array.getElem?_toList]
   rw[Array.getD_eq_getD_getElem?,e];exact this
  let D:Deferred:= {target:=.fn (.func d) V,args:= #[]}
  let a1:Act:=a0.put (some k) (.func (.func d) #[] V)
  let a2:Act:= {a1 with defers:=D::a1.defers}
  have hbs:a0.tmps.size=fn.ntmps:=bs
  have ha1:a1.eval (.tmp k)=.func (.func d) #[] V:=by
   show((a0.tmps.setIfInBounds k _).getD k undef)=_
   rw[Array.getD_eq_getD_getElem?,Array.getElem?_setIfInBounds_self_of_lt (by rw[hbs];exact hk)];rfl
  unfold wpList
  rw[J4 (by simp[Region.wanted])]
  refine .inl ?_
  have e1:(execOp a0.eval {dst:=some k,op:=.makeFunc (.func d) #[] caps,type:=ty1,pos:=p1,after:=af1,guard:=none}).run P w0=.ok (.value (.func (.func d) #[] V)) w0:=by
   rw[←hV]
   simp only[execOp,Instr.makeFunc,Array.map_empty,Sem.run_bind,Sem.run_pure,Result.andThen_ok]
  unfold Oper.wp
  rw[e1]
  show wpList P _ _ _ a1 w0
  unfold wpList
  rw[J4 (by simp[Region.wanted])]
  refine .inl ?_
  have e2:(execOp a1.eval {dst:=none,op:=.defer {callee:=.value (.tmp k),args:= #[],argTypes:= #[]},type:=ty2,pos:=p2,after:=af2,guard:=none}).run P w0=.ok (.defer D) w0:=by
   simp only[execOp,resolve,ha1,Deferred.ofValue,Sem.run_bind,Sem.run_pure,Result.andThen_ok,Array.map_empty,Array.append_empty];rfl
  unfold Oper.wp
  rw[e2]
  show Code.wp P C _ a2 w0
  have hadf:a0.defers=[]:=bd
  have hR2:R {c with df:=[D]} σ1 I1 w0 (fun _=>False) (dBa k d capsA t0) a2 w0:=by
   refine⟨⟨σ1,I1,⟨b1.ext,b1.imm,b1.iw,b1.os,b1.tape,b1.output,b1.size,b1.old,b1.ilt,b1.own,b1.inj,b1.lim,b1.un,b1.glob,b1.inew⟩,iO.refl _ _ _,?_⟩,?_,?_,fun k hk=>hk.elim,blt0⟩
   ·exact vT (n:=fn.ntmps) (dst:=some k) (x:=.fn d capsA) (v:=.func (.func d) #[] V) hbs (fun d' hd'=>by obtain rfl:=J0 hd';exact hk) (fun _=> .fn d capsA V hVs hVr) b3
   ·show D::a0.defers=[D];rw[hadf]
   ·show(a0.put (some k) _).tmps.size=_;rw[pX];exact hbs
  refine wp_mono (hC {c with df:=[D]} rfl rfl σ1 I1 w0 a2 w0 hR2) ?_
  rintro e a' w' ⟨t,hq,hR'⟩
  have hd':a'.defers=[D]:=hR'.defers
  obtain⟨⟨σ2,I2,c1,c2,c3⟩,_,_,_,clt0⟩:=hR'
  obtain⟨fnd,q1,q2,q3⟩:=hd
  have hinv:(invoke (.fn (.func d) V) #[]).run P w'=.ok (.enter d V) w':=by
   simp only[invoke,Array.empty_append,callFunc,Sem.run_bind,run_program,Result.andThen_ok,q1,q2,q3,Bool.false_eq_true,if_false,Sem.run_pure]
  have hVr2: ∀i (_h:i<capsA.length),Rel σ2 I2 w' capsA[i] (V.getD i undef):=fun i hi=>(hVr i hi).grow c2
  have fin: ∀(p:H×Nat) (σ3:Nat→Loc) (I3:Nat→Prop) (w3:World),aK (bV P fn.results.toList {t with hp:=p.1}) (zB 4 p.1)=some r→Inv {c with df:=[D]} σ3 I3 w3 p.1 (fun id=>p.2≤id)→iO σ2 I2 w' σ3 I3 w3→(∀id,id<t.cx→σ2 id=.unset→σ3 id=.unset)→
    ∃v,(results fn a'.tmps).run P w3=.ok v w3∧∃v' σ' I',Ending.returned v=.returned v'∧w3.os=w.os∧w3.tape=w.tape∧w3.output=w.output∧w.heap.size≤w3.heap.size∧(∀k,k<w.heap.size→w3.heap[k]? =w.heap[k]?)∧
     (∀id,id<nx→σ' id=σ id)∧(∀k,I' k→I k∨w.heap.size≤k)∧(∀k,I' k→k<w3.heap.size)∧Rel σ' I' w3 r v':=by
   intro p σ3 I3 w3 hres d1 d2 d3
   replace hres:=aJ hres;obtain⟨x,hx,him⟩:=hres
   obtain⟨v,hv,hrel⟩:=eZ (P:=P) (t:= {t with hp:=p.1}) d1 (fun k=>(c3 k).grow d2) hx
   have hI: ∀k,I3 k→(I3 k∨∃id o base sz,p.1 id=some o∧σ3 id=.at_ k base sz):=fun k hk=> .inl hk
   obtain⟨him',_⟩:=qH d1 hI (fun id o blk base sz e1 e2=> .inr ⟨id,o,base,sz,e1,e2⟩) 4 him hrel
   have hkeep: ∀id,id<nx→σ3 id=σ id:=by
    intro id hid
    by_cases e:σ id=.unset
    ·have hu0:c.u0 id:=⟨hid,e⟩
     rw[e];exact d3 id (clt0 id hu0).2 (c1.un id (.inr (.inr hu0)))
    ·exact d1.ext id e
   refine⟨v,hv,v,σ3,fun k=>I3 k∨∃id o base sz,p.1 id=some o∧σ3 id=.at_ k base sz,rfl,d1.os,d1.tape,d1.output,d1.size,fun k hk=>d1.old k hk (fun h=>h),hkeep,fun k hk=>?_,fun k hk=>?_,him'⟩
   ·rcases hk with hk|⟨id,o,base,sz,e1,e2⟩
    ·rcases d1.inew k hk with h|h|h
     ·exact .inl h
     ·exact .inr h
     ·exact h.elim
    ·rcases d1.blkNew e1 e2 with h|h|h
     ·exact .inl h
     ·exact .inr h
     ·exact h.elim
   ·rcases hk with hk|⟨id,o,base,sz,e1,e2⟩
    ·exact d1.ilt k hk
    ·exact(d1.own id o e1).lt e2
  have c1':Inv {c with df:=[D]} σ2 I2 w' t.hp (fun id=>t.cx≤id):=c1.mono_un fun id hid=> .inl hid
  have ret:(∃p,gI capsA t.hp t.cx=some p∧aK (bV P fn.results.toList {t with hp:=p.1}) (zB 4 p.1)=some r)→Leaves P fn a'.tmps (fun e w3=> ∃v' σ' I',e=.returned v'∧w3.os=w.os∧w3.tape=w.tape∧w3.output=w.output∧w.heap.size≤w3.heap.size∧(∀k,k<w.heap.size→w3.heap[k]? =w.heap[k]?)∧
     (∀id,id<nx→σ' id=σ id)∧(∀k,I' k→I k∨w.heap.size≤k)∧(∀k,I' k→k<w3.heap.size)∧Rel σ' I' w3 r v') a'.defers .returning w':=by
   rintro⟨p,hp1,hres⟩
   rw[hd']
   obtain⟨_,hcalls⟩:=hI {c with df:=[D]} σ2 I2 w' t.hp t.cx capsA V p.1 p.2 rfl c1' hVs hVr2 hp1
   refine leaves_cons (by simp) hinv (fun c₀ cs hm=>?_)
   obtain⟨e',u1,w3,fr',hRR,hst⟩:=hcalls c₀ cs hm
   refine⟨e',u1,w3,fr',?_,hst⟩
   obtain⟨v,σ3,I3,rfl,rfl,d1,d2,d3⟩:=hRR
   exact fin p σ3 I3 w3 hres d1 d2 d3
  cases e with
  |ret=>exact ret hq
  |normal=>exact ret hq
  |panic ch'=>
   obtain⟨rfl,p,hp1,hres⟩:=hq
   show Leaves P fn a'.tmps _ a'.defers (.panicking ch') w'
   rw[hd']
   obtain⟨_,hcalls⟩:=hP {c with df:=[D]} σ2 I2 w' t.hp t.cx capsA V p.1 p.2 rfl c1' hVs hVr2 hp1
   refine leaves_cons (by simp) hinv (fun c₀ cs hm=>?_)
   obtain⟨e',u1,w3,fr',hRR,hst⟩:=hcalls c₀ cs hm
   refine⟨e',u1,w3,fr',?_,hst⟩
   obtain⟨v,σ3,I3,rfl,rfl,d1,d2,d3⟩:=hRR
   show Leaves P fn a'.tmps _ [] (settle u1) w3
   rw[hu]
   exact fin p σ3 I3 w3 hres d1 d2 d3
  |_=>exact hq.elim
 |_=>exact hq.elim
end Go.AX

namespace Go.AX
open Go Go.Proofs
set_option maxRecDepth 20000
def fQc (n:Nat) (args:List AV) (hp:H) (nx:Nat):Option (H×Nat):=aN (args.length=n) (some (hp,nx))
theorem dPj {f:FuncId} {n:Nat} (h: ∀(vals:Array Value) (w:World),vals.size=n→CallsD Tryz.prog f vals .returning w fun e u1 w'=>e=.returned (.tuple #[])∧u1=.returning∧w'=w):bSj Tryz.prog GLh f .returning .returning (fun args hp nx=>aN (args.length=n) (some (hp,nx))):=by
 intro c σ I w hp nx args vals hp' nx' _ hi hs hr hg
 replace hg:=aP hg;obtain⟨hn,hg⟩:=hg
 simp only[Option.some.injEq,Prod.mk.injEq]at hg;obtain⟨rfl,rfl⟩:=hg
 refine⟨U3 _,fun c₀ cs hm=>?_⟩
 obtain⟨e,u1,w',fr,⟨rfl,rfl,rfl⟩,hst⟩:=h vals w (by rw[hs,hn]) c₀ cs hm
 exact⟨_,_,_,fr,⟨_,σ,I,rfl,rfl,hi,iO.refl _ _ _,fun _ _ h=>h⟩,hst⟩
def fWn:Option AO→Bool
 |some (.cells [_] true)=>true
 |_=>false
theorem fSn {o:Option AO} (h:fWn o=true): ∃x,o=some (.cells [x] true):=by
 unfold fWn at h
 split at h
 ·exact⟨_,rfl⟩
 cases h
theorem dXx (x:AV):fWn (some (.cells [x] true))=true:=(rfl)
theorem fMe {P:Program} {rs:List ResultVar} {ch:List PanicEntry} {gI gP:List AV→H→Nat→Option (H×Nat)} {capsA:List AV} {r:AV} {t:S} {p:H×Nat} (h1:gP capsA t.hp t.cx=some p) (h2:aK (bV P rs {t with hp:=p.1}) (zB 4 p.1)=some r):fDc P rs ch gI gP capsA r (.panic ch) t:=⟨rfl,p,h1,h2⟩
theorem rO {P:Program} {rs:List ResultVar} {ch:List PanicEntry} {gI gP:List AV→H→Nat→Option (H×Nat)} {capsA:List AV} {r:AV} {t:S} {p:H×Nat} (h1:gI capsA t.hp t.cx=some p) (h2:aK (bV P rs {t with hp:=p.1}) (zB 4 p.1)=some r):fDc P rs ch gI gP capsA r .ret t:=⟨p,h1,h2⟩
theorem eKm (a b:AV) (hp:H) (nx:Nat):fQc 2 [a,b] hp nx=some (hp,nx):=hH _ rfl
theorem ePe {hp:H} {nx m i1 i2:Nat} {a c1 c2:AO} (hno: ∀id,nx≤id→hp id=none) (hm:nx≤m) (id:Nat) (o:AO) (h:upd (upd hp i1 c1) i2 c2 id=some o):upd (upd (upd hp m a) i1 c1) i2 c2 id=some o:=by
 simp only[bJ]at h⊢
 split
 ·rename_i e;rw[J4 e]at h;exact h
 rename_i e;rw[J3 e]at h
 split
 ·rename_i e;rw[J4 e]at h;exact h
 rename_i e;rw[J3 e]at h
 split
 ·rename_i e;rw[e,hno m hm]at h;cases h
 exact h
theorem dYm:ofV (.agg #[])=.agg []:=(rfl)
theorem fOk (ys:List AV):dV ys 0 []=ys:=by simp[dV,yC]
attribute [go_sem] dXx eKm dYm fOk
theorem isi55:uG Tryz.prog 55=false:=by kernel_rfl
theorem zc55:lA Tryz.prog 55=some []:=by kernel_rfl
theorem dYl (t:TypeId) (v:Value):ofV (.iface t v)=.v (.iface t v):=(rfl)
attribute [go_sem] isi55 zc55 dYl
def fLz:Option AO→Bool
 |some (.cells xs true)=>decide (xs.length=15)
 |_=>false
theorem fLy {o:Option AO} (h:fLz o=true): ∃xs,o=some (.cells xs true)∧xs.length=15:=by
 unfold fLz at h
 split at h
 ·exact⟨_,rfl,of_decide_eq_true h⟩
 cases h
theorem fNu (xs:List AV):fLz (some (.cells xs true))=decide (xs.length=15):=(rfl)
attribute [go_sem] fNu
theorem fNw (vals:Array Value) (w:World) (hs:vals.size=2):CallsD Tryz.prog 17 vals .returning w fun e u1 w'=>e=.returned (.tuple #[])∧u1=.returning∧w'=w:=by
 obtain⟨l⟩:=vals
 match l,hs with
 |[a,b],_=>
  refine callsD_of_wpS Tryz.func17 rfl fun c₀ cs hu=>?_
  apply wpS_seq
  apply wpS_region
  simp[wpOpsS,go_sem,recoverD,hu,Tryz.ntmps17,Exit.thenS]
  apply wpS_seq
  apply wpS_region
  simp[wpOpsS,go_sem,Tryz.ntmps17,Exit.thenS]
  refine wpS_cond (t:=false) (by simp[Act.eval,Array.replicate]) ?_
  simp only[Bool.false_eq_true,if_false]
  refine wpS_of_wp (wp_skip ?_)
  cases c₀
  simp_all [bodyPostS,results,Tryz.results17]
theorem fOx:bSj Tryz.prog GLh 17 .returning .returning (fQc 2):=dPj fNw
theorem fOd:fHm Tryz.prog 17:=⟨_,Tryz.func17,rfl,rfl⟩
def fMh:List AV→H→Nat→Option (H×Nat)
 |[.op i1 0,.op i2 0],hp,nx=>aN ((fLz (hp i1)=true∧fWn (hp i2)=true)∧i1≠i2∧i1<nx∧i2<nx) (some (upd (upd hp i1 (.cells z15 true)) i2 (.cells [.i 60] true),nx+30))
 |_,_,_=>none
theorem fMz (i1 i2 nx:Nat) (hp:H):fMh [.op i1 0,.op i2 0] hp nx=aN ((fLz (hp i1)=true∧fWn (hp i2)=true)∧i1≠i2∧i1<nx∧i2<nx) (some (upd (upd hp i1 (.cells z15 true)) i2 (.cells [.i 60] true),nx+30)):=(rfl)
attribute [go_sem] fMz
theorem fOj (xs:List AV) (h:xs.length=15) (a b c d e f g i j k l m n o p:AV):dV xs 0 [a,b,c,d,e,f,g,i,j,k,l,m,n,o,p]=[a,b,c,d,e,f,g,i,j,k,l,m,n,o,p]:=by
 unfold dV yC
 simp[List.drop_of_length_le,h]
set_option maxHeartbeats 4000000 in
theorem fMy:bSj Tryz.prog GLh 17 (.panicking chM) (.panicking [{v:=.iface 55 (.agg #[]),recovered:=true}]) fMh:=by
 refine fZ (rest:=(cr (aE Tryz.f17))) (rv:=.iface 55 (.agg #[])) (a:=5) (b:=2) Tryz.func17 rfl (.inl rfl) ⟨J1 rfl,J1 rfl⟩ ?_
 intro args hp nx hp' nx' hg
 unfold fMh at hg
 split at hg
 ·rename_i i1 i2
  replace hg:=aP hg;obtain⟨⟨⟨o1,o2⟩,n12,l1,l2⟩,hg⟩:=hg
  simp only[Option.some.injEq,Prod.mk.injEq]at hg;obtain⟨rfl,rfl⟩:=hg
  obtain⟨xs,h1,hx⟩:=fLy o1
  obtain⟨y,h2⟩:=fSn o2
  refine⟨J1 rfl,Nat.le_add_right _ _,fun hno=>?_⟩
  simp only[aOo]
  have hst:=fOj xs hx
  refine aA rfl (aW [7,0,1,2] rfl rfl rfl fun K hK=>?_)
  simp(disch:=omega) only[Tryz.f17,go_sem,↓reduceIte]
  refine hK _ ?_
  refine aB (cV (.tmp 7) rfl rfl rfl (fun h=>?_) (fun h=>?_))
  ·refine aI rfl (aA rfl (aA rfl (aW [0,1,2,4] rfl rfl rfl fun K hK=>?_)))
   simp(disch:=omega) only[Tryz.f17,go_sem,↓reduceIte]
   refine hK _ ?_
   refine aB (aA rfl (aW [14,0,1,2] rfl rfl rfl fun K hK=>?_))
   simp(disch:=omega) only[Tryz.f17,go_sem,↓reduceIte]
   refine hK _ ?_
   refine aB (cV (.tmp 14) rfl rfl rfl (fun h=>?_) (fun h=>?_))
   ·refine aI rfl ?_
    cases h
   refine aI rfl ?_
   clear h
   refine aQ rfl (aB (aW [] rfl rfl rfl fun K hK=>?_))
   simp(disch:=omega) only[Tryz.f17,go_sem,↓reduceIte,h1,h2,hst,hx,List.getElem?_toArray]
   refine hK _ ?_
   exact⟨rfl,ePe hno (by omega),by simp only;omega⟩
  refine aI rfl ?_
  cases h
 cases hg
def msZ:AV:=.agg [.w16 0#16,.b false,.i 0,.b false,.b false,.b false,.b false,.i 0,.sl 0 [],.sl 0 [],.sl 0 [],.sl 0 [],.b false,.w16 0#16,.b false]
def rwT:Option (AV×List AV)→AV
 |none=> .tup [msZ,.i 60]
 |some (v,_)=> .tup [v,.i 0]
def rwG:List AV→Option AV
 |[.sl n xs]=>aK (fHq xs) fun b=>aN (b.length=n∧n≤65535∧MGd b) (some (rwT (mgR b)))
 |_=>none
theorem fNj (n:Nat) (xs:List AV):rwG [.sl n xs]=aK (fHq xs) fun b=>aN (b.length=n∧n≤65535∧MGd b) (some (rwT (mgR b))):=(rfl)
attribute [go_sem] fNj
theorem fLe (b:List B8):mgR b=none∨∃l e,mgR b=some (msA b l,[.sl b.length (c8 b),.i (e:Int)]):=by
 unfold mgR
 split
 ·exact .inl rfl
 rcases h:fJv b (c16 b 4) 12 []with _|⟨l,e⟩
 ·exact .inl rfl
 unfold mgX
 simp only
 split
 ·exact .inr ⟨l,e,rfl⟩
 exact .inl rfl
set_option maxHeartbeats 4000000 in
theorem fMo (b:List B8) (h100:b.length≤100000) (hmg:MGd b) {i nx cx:Nat} (hic:i+1<cx):
  Awp Tryz.prog GLh Tryz.f7.ntmps (cr (cr (cr (aE Tryz.f7)))) {fr:=[(9,.fn 17 [.op i 0,.op (i+1) 0]),(0,.sl b.length (c8 b)),(2,.op i 0),(3,.op (i+1) 0)],hp:=upd (upd (fun _=>none) i (.cells z15 true)) (i+1) (.cells [.i 0] true),nx:=nx,cx:=cx} (fDc Tryz.prog Tryz.f7.results.toList chM (fQc 2) fMh [.op i 0,.op (i+1) 0] (rwT (mgR b))):=by
 refine aA rfl ?_
 refine aW [2,3,4] rfl rfl rfl fun K hK=>?_
 simp(disch:=omega) only[Tryz.f7,go_sem,↓reduceIte]
 refine hK _ ?_
 refine aB ?_
 rcases fLe b with e2|⟨l,e,e2⟩
 ·skip
  refine aA rfl ?_
  refine dCn (Γ:=bC [(18,.heap (rdH mgG))]) 1 (fJy) fOc (aH fNf aO) rfl rfl rfl (fun Z hZ=>?_)
  simp(disch:=omega) only[Tryz.f7,U0,U1,go_sem,↓reduceIte,bG,eq_self,true_and,and_true,bP,List.map_cons,List.map_nil,List.append_nil,h100,hmg,e2]
  refine hZ _ ?_;clear hZ Z
  refine fMe (gI:=fQc 2) (p:=_) (by simp(disch:=omega) only[go_sem,aV,kE,bY,↓reduceIte];exact hH _ ⟨rfl,by omega⟩) ?_
  rw[e2]
  simp(disch:=omega) only[bV,bK,bQ,Tryz.f7,go_sem,aV,bY,↓reduceIte,z15,rwT,msZ,J8,U0,U1,J9]
 ·skip
  refine aA rfl ?_
  refine aC (Γ:=bC [(18,.heap (rdH mgG))]) [2,3] (aH fNf aO) rfl rfl rfl (fun K hK=>?_)
  simp(disch:=omega) only[Tryz.f7,go_sem,↓reduceIte,h100,hmg,e2,msA,msC,msT,z15,List.cons_append,List.nil_append,List.set_cons_zero]
  refine hK _ ?_
  refine aB ?_
  refine aS rfl ?_
  refine rO (gP:=fMh) (ch:=chM) (p:=_) (eKm _ _ _ _) ?_
  rw[e2]
  simp(disch:=omega) only[bV,bK,bQ,Tryz.f7,go_sem,aV,bY,↓reduceIte,rwT,msA,msC,msT,List.cons_append,List.nil_append,J8,U0,U1,J9]
set_option maxHeartbeats 4000000 in
theorem fOm:fHn Tryz.prog GLh 7 rwG:=by
 refine fLc (r0:=(cl (aE Tryz.f7))) (r1:=(cl (cr (aE Tryz.f7)))) (C:=(cr (cr (cr (aE Tryz.f7))))) (k:=9) (d:=17) (caps:= #[.tmp 2,.tmp 3]) Tryz.func7 rfl (J1 rfl) fOd fOx fMy rfl ?_
 intro args r hg
 unfold rwG at hg
 split at hg
 ·rename_i n xs
  replace hg:=aJ hg;obtain⟨b,hl,hg⟩:=hg
  replace hg:=aP hg;obtain⟨⟨rfl,hnb,hmg⟩,hg⟩:=hg
  obtain rfl:=J0 hg
  have:=bW hl;subst this
  refine⟨J1 rfl,fun nx=>⟨[.op nx 0,.op (nx+1) 0],?_⟩⟩
  clear hl hg
  have h100:b.length≤100000:=by omega
  have d0:decide ((65535:Int)<(b.length:Int))=false:=J6 (by omega)
  refine aW [0,2,3] rfl rfl rfl fun K hK=>?_
  simp(disch:=omega) only[Tryz.f7,go_sem,↓reduceIte]
  refine hK _ ?_
  refine aB (aA rfl (aW [7,0,2,3] rfl rfl rfl fun K hK=>?_))
  simp(disch:=omega) only[Tryz.f7,go_sem,↓reduceIte,d0]
  refine hK _ ?_
  refine aB (cV (.tmp 7) rfl rfl rfl (fun h=>?_) (fun h=>?_))
  ·refine aI rfl ?_
   cases h
  refine aI rfl ?_
  clear h
  refine aQ rfl (⟨rfl,?_⟩)
  simp only[dBa]
  exact fMo b (by omega) hmg (by omega)
 cases hg
theorem fOn:bX Tryz.prog GLh 7 (.pure false rwG):=⟨⟨_,Tryz.func7,rfl,rfl⟩,fOm⟩
end Go.AX

namespace Go.AX
open Go Go.Proofs
def wl (ls:Nm):Nat:=1+(ls.map fun l=>l.length+1).sum
theorem fBj:wl []=1:=rfl
theorem eKu (l:List B8) (r:Nm):wl (l::r)=wl r+(l.length+1):=by unfold wl;simp only[List.map_cons,List.sum_cons];omega
theorem fBk (p q:Nm):wl (p++q)+1=wl p+wl q:=by unfold wl;simp only[List.map_append,List.sum_append];omega
theorem eXm (p:Nm) (l:List B8):wl (p++[l])=wl p+(l.length+1):=by have:=fBk p [l];rw[eKu,fBj]at this;omega
theorem eRc (ls:Nm) (k:Nat) (h:k<ls.length):wl (ls.take (k+1))=wl (ls.take k)+((ls.getD k []).length+1):=by
 rw[List.take_succ_eq_append_getElem h,eXm,List.getD_eq_getElem?_getD,List.getElem?_eq_getElem h];rfl
def gZ (l:List B8):Prop:=1≤l.length∧l.length≤63
instance (l:List B8):Decidable (gZ l):=by unfold gZ;infer_instance
theorem eKw:ofV (Value.string {data:= #[]})=.s []:=(rfl)
def eTn:List AV→Option AV
 |[.sl n xs]=>aK (unS xs) fun ls=>aN (ls.length=n∧n≤1000000∧∀l∈ls,gZ l) (some (.i (if 255<wl ls then 31 else 0)))
 |_=>none
theorem eZq (n:Nat) (xs:List AV):eTn [.sl n xs]=aK (unS xs) fun ls=>aN (ls.length=n∧n≤1000000∧∀l∈ls,gZ l) (some (.i (if 255<wl ls then 31 else 0))):=(rfl)
attribute [go_sem] eZq
theorem eWb {ls:Nm} (h: ∀l∈ls,gZ l) {k:Nat} (hk:k<ls.length):gZ (ls.getD k []):=by
 rw[List.getD_eq_getElem?_getD,List.getElem?_eq_getElem hk];exact h _ (List.getElem_mem hk)
set_option maxHeartbeats 2000000 in
theorem fDk:fHn Tryz.prog GLh 45 eTn:=by
 refine zK Tryz.func45 (aT rfl) ?_
 intro args r hg
 unfold eTn at hg
 split at hg
 ·rename_i n xs
  replace hg:=aJ hg;obtain⟨ls,hl,hg⟩:=hg
  replace hg:=aP hg;obtain⟨⟨rfl,hn,hall⟩,hg⟩:=hg
  obtain rfl:=J0 hg
  have:=gT hl;subst this
  refine⟨J1 rfl,fun nx=>?_⟩
  clear hl hg
  refine aA rfl (aW [0] rfl rfl rfl fun K hK=>?_)
  simp(disch:=omega) only[Tryz.f45,go_sem,↓reduceIte]
  refine hK _ ?_
  refine aB (aA rfl (aW [0,3,4] rfl rfl rfl fun K hK=>?_))
  simp(disch:=omega) only[Tryz.f45,go_sem,↓reduceIte]
  refine hK _ ?_
  refine aB (aA rfl (aA rfl (aW [3,4,7,8,9] rfl rfl rfl fun K hK=>?_)))
  simp(disch:=omega) only[Tryz.f45,go_sem,↓reduceIte]
  refine hK _ ?_
  refine aB (aR 0 rfl rfl (bR (fun p:KC5=> {fr:=[(3,.i ((min (wl (ls.take p.k)) 510:Nat):Int)),(4,.b false),(7,.sl ls.length (cS ls)),(8,.i (ls.length:Int)),(9,.i (p.k:Int))],hp:=fun _=>none,nx:=0,cx:=p.c}) (fun p=>p.k≤ls.length) (fun p=>ls.length-p.k) rfl ⟨⟨0,_⟩,Nat.zero_le _,bD rfl rfl (U3 _)⟩ ?_))
  rintro⟨k,c⟩ hk n0
  simp only at hk⊢
  refine aA rfl (aW [10,3,4,7,8,9] rfl rfl rfl fun K hK=>?_)
  simp(disch:=omega) only[Tryz.f45,go_sem,↓reduceIte]
  refine hK _ ?_
  refine aB (aA rfl (bA (.tmp 10) rfl rfl rfl (fun h=>?_) (fun h=>?_)))
  ·refine aI rfl ?_
   have hkl:k<ls.length:=by omega
   have hlk:=eWb hall hkl
   have hst:=eRc ls k hkl
   obtain⟨l,hl⟩: ∃l,ls.getD k []=l:=⟨_,rfl⟩
   rw[hl]at hlk hst
   unfold gZ at hlk
   have hne:decide (l=[])=false:=J6 fun e=>by rw[e]at hlk;simp at hlk
   refine aQ rfl (aB (aA rfl (aR 1 rfl rfl (aA rfl (aW [3,4,6,7,8,9] rfl rfl rfl fun K hK=>?_)))))
   simp(disch:=omega) only[Tryz.f45,go_sem,↓reduceIte,hl]
   refine hK _ ?_
   refine aB (aA rfl (aA rfl (aW [14,3,4,6,7,8,9] rfl rfl rfl fun K hK=>?_)))
   simp(disch:=omega) only[Tryz.f45,go_sem,↓reduceIte,hne,eKw]
   refine hK _ ?_
   refine aB (cV (.tmp 14) rfl rfl rfl (fun h=>?_) (fun h=>?_))
   ·refine aI rfl ?_
    cases h
   refine aI rfl ?_
   clear h
   refine aQ rfl (aB (aA rfl ?_))
   have h63:decide (63<(l.length:Int))=false:=J6 (by omega)
   refine aW [3,4,6,7,8,9] rfl rfl rfl fun K hK=>?_
   simp(disch:=omega) only[Tryz.f45,go_sem,↓reduceIte,h63]
   refine hK _ ?_
   refine aB ?_
   have e1:(if(255:Int)<(l.length:Int)then(255:Int)else(l.length:Int))=(l.length:Int):=J3 (by omega)
   have e2:(if(510:Int)<((min (wl (ls.take k)) 510:Nat):Int)+1+(l.length:Int)then(510:Int)else((min (wl (ls.take k)) 510:Nat):Int)+1+(l.length:Int))=((min (wl (ls.take (k+1))) 510:Nat):Int):=by rw[hst];split<;>omega
   refine aW [3,4,7,8,9] rfl rfl rfl fun K hK=>?_
   simp(disch:=omega) only[Tryz.f45,go_sem,↓reduceIte,e1,e2]
   refine hK _ ?_
   refine bU (aB (aW [3,4,7,8,9] rfl rfl rfl fun K hK=>?_))
   simp(disch:=omega) only[Tryz.f45,go_sem,↓reduceIte]
   refine hK _ ?_
   refine bT ?_
   refine⟨⟨k+1,_⟩,by simp only;omega,by simp only;omega,bD ?_ rfl (U3 _)⟩
   simp only[Int.natCast_add,Int.natCast_one]
  refine aI rfl ?_
  obtain rfl:k=ls.length:=by omega
  have et:ls.take ls.length=ls:=List.take_length
  refine bF 0 rfl rfl (aY (aZ (bE (aB (aA rfl (aA rfl ?_))))))
  by_cases hw:255<wl ls
  ·have hd:decide (255<((min (wl ls) 510:Nat):Int))=true:=J5 (by omega)
   refine aW [33] rfl rfl rfl fun K hK=>?_
   simp(disch:=omega) only[Tryz.f45,go_sem,↓reduceIte,et,hd]
   refine hK _ ?_
   refine aB (cV (.tmp 33) rfl rfl rfl (fun h=>?_) (fun h=>?_))
   ·refine aI rfl (aA rfl (aW [2] rfl rfl rfl fun K hK=>?_))
    simp(disch:=omega) only[Tryz.f45,go_sem,↓reduceIte]
    refine hK _ ?_
    refine aB (aS rfl (bI ?_))
    simp(disch:=omega) only[fHo,bV,bK,bQ,Tryz.f45,go_sem,↓reduceIte,hw]
   refine aI rfl ?_
   cases h
  have hd:decide (255<((min (wl ls) 510:Nat):Int))=false:=J6 (by omega)
  refine aW [33] rfl rfl rfl fun K hK=>?_
  simp(disch:=omega) only[Tryz.f45,go_sem,↓reduceIte,et,hd]
  refine hK _ ?_
  refine aB (cV (.tmp 33) rfl rfl rfl (fun h=>?_) (fun h=>?_))
  ·refine aI rfl ?_
   cases h
  refine aI rfl ?_
  clear h
  refine aQ rfl (aB (aA rfl (aW [2] rfl rfl rfl fun K hK=>?_)))
  simp(disch:=omega) only[Tryz.f45,go_sem,↓reduceIte]
  refine hK _ ?_
  refine aB (aS rfl ?_)
  simp(disch:=omega) only[fHo,bV,bK,bQ,Tryz.f45,go_sem,↓reduceIte,hw]
 cases hg
theorem fFg:bX Tryz.prog GLh 45 (.pure true eTn):=⟨⟨_,Tryz.func45,rfl,rfl⟩,fDk⟩
end Go.AX

namespace Go.AX
open Go Go.Proofs
def ePy (l:List B8):List B8:=BitVec.ofInt 8 (l.length:Int)::l
def eRs (ps:List (List B8)):List B8:=ps.flatMap ePy
def fHk (ps:List (List B8)):List B8:=eRs ps++[0#8]
theorem fJr:eRs []=[]:=rfl
theorem eNx (p:List B8) (ps:List (List B8)):eRs (p::ps)=ePy p++eRs ps:=by simp[eRs]
theorem gX (p:List B8) (ps:List (List B8)):(eRs (p::ps)).length=p.length+1+(eRs ps).length:=by rw[eNx];simp[ePy];omega
theorem eNw (ps:List (List B8)) (k:Nat) (h:k<ps.length):eRs (ps.take (k+1))=eRs (ps.take k)++ePy (ps.getD k []):=by
 have e:ps.take (k+1)=ps.take k++[ps.getD k []]:=by rw[List.take_succ_eq_append_getElem h];simp[List.getD,List.getElem?_eq_getElem h,-List.take_append_getElem]
 rw[e];unfold eRs;rw[List.flatMap_append];simp only[List.flatMap_cons,List.flatMap_nil,List.append_nil]
theorem eOo (ps:List (List B8)):ps.length≤(eRs ps).length:=by
 induction ps with
 |nil=>simp
 |cons p ps ih=>rw[gX,List.length_cons];omega
theorem eMr (ps:List (List B8)) (k:Nat):(ps.getD k []).length≤(eRs ps).length:=by
 induction ps generalizing k with
 |nil=>simp
 |cons p ps ih=>
  rw[gX]
  cases k with
  |zero=>simp;omega
  |succ k=>have:=ih k;simp at this⊢;omega
theorem eRd (ps:List (List B8)) (k:Nat):(eRs (ps.take k)).length≤(eRs ps).length:=by
 induction ps generalizing k with
 |nil=>simp
 |cons p ps ih=>
  cases k with
  |zero=>simp[eRs]
  |succ k=>rw[U0,gX,gX];have:=ih k;omega
def rG:List AV→Option (Nat×Nat×List AV)
 |[.sl n xs]=>aK (unS xs) fun ps=>aN (ps.length=n∧(eRs ps).length≤1000000) (some ((fHk ps).length,1,c8 (fHk ps)))
 |_=>none
theorem eTt (n:Nat) (xs:List AV):rG [.sl n xs]=aK (unS xs) fun ps=>aN (ps.length=n∧(eRs ps).length≤1000000) (some ((fHk ps).length,1,c8 (fHk ps))):=(rfl)
attribute [go_sem] eTt
set_option maxHeartbeats 1000000 in
theorem eXn:dH Tryz.prog GLh 46 rG:=by
 refine fJo Tryz.func46 (aT rfl) ?_
 intro args r hg
 unfold rG at hg
 split at hg
 ·rename_i n xs
  replace hg:=aJ hg;obtain⟨ps,hb,hg⟩:=hg
  replace hg:=aP hg;obtain⟨⟨hn,hbig⟩,hg⟩:=hg
  obtain rfl:=J0 hg
  have:=gT hb;subst this
  subst hn
  clear hg hb
  refine⟨J1 rfl,fun nx=>?_⟩
  have hpn:=eOo ps
  refine aA rfl (aW [0] rfl rfl rfl fun K hK=>?_)
  simp(disch:=omega) only[Tryz.f46,go_sem,↓reduceIte]
  refine hK _ ?_
  refine aB (aA rfl (aW [0,3] rfl rfl rfl fun K hK=>?_))
  simp(disch:=omega) only[Tryz.f46,go_sem,↓reduceIte]
  refine hK _ ?_
  refine aB (aA rfl (aA rfl (aW [3,6,7,8] rfl rfl rfl fun K hK=>?_)))
  simp(disch:=omega) only[Tryz.f46,go_sem,↓reduceIte]
  refine hK _ ?_
  refine aB (iE 3 1 rfl (fPg [3,6,7,8] ?_))
  simp only[iB,fU,eW,↓reduceIte,Nat.reduceEqDiff]
  refine aR 0 rfl rfl ?_
  refine bR (fun p:KIC=> {fr:=[(3,.os p.id 0 (eRs (ps.take p.k)).length 1 true),(6,.sl ps.length (cS ps)),(7,.i ps.length),(8,.i p.k)],hp:=upd (fun _=>none) p.id (.cells (c8 (eRs (ps.take p.k))) true),nx:=0,cx:=p.c}) (fun p=>p.k≤ps.length∧p.id<p.c) (fun p=>ps.length-p.k) rfl ⟨⟨0,_,_⟩,⟨Nat.zero_le _,by simp only;omega⟩,bD rfl rfl (U3 _)⟩ ?_
  rintro⟨k,id,c⟩ ⟨hk,hid⟩ n0
  simp only at hk hid⊢
  refine aA rfl (aW [9,3,6,7,8] rfl rfl rfl fun K hK=>?_)
  simp(disch:=omega) only[Tryz.f46,go_sem,↓reduceIte]
  refine hK _ ?_
  refine aB (aA rfl (bA (.tmp 9) rfl rfl rfl (fun h=>?_) (fun h=>?_)))
  ·refine aI rfl ?_
   have hkl:k<ps.length:=by omega
   have ht:=eRd ps k
   have hm:=eMr ps k
   refine aQ rfl (aB (aA rfl (aR 1 rfl rfl (aA rfl (aW [3,5,6,7,8] rfl rfl rfl fun K hK=>?_)))))
   simp(disch:=omega) only[Tryz.f46,go_sem,↓reduceIte]
   refine hK _ ?_
   refine aB ?_
   generalize hl:ps.getD k []=l at hm
   refine aW [3,6,7,8] rfl rfl rfl fun K hK=>?_
   simp(disch:=omega) only[Tryz.f46,go_sem,↓reduceIte]
   refine hK _ ?_
   refine bU (aB ?_)
   have e6:eRs (ps.take (k+1))=eRs (ps.take k)++[BitVec.ofInt 8 (l.length:Int)]++l:=by rw[eNw ps k hkl,hl];simp[ePy]
   have e7:(eRs (ps.take (k+1))).length=(eRs (ps.take k)).length+1+l.length:=by rw[e6];simp;omega
   refine aW [3,6,7,8] rfl rfl rfl fun K hK=>?_
   simp(disch:=omega) only[Tryz.f46,go_sem,↓reduceIte]
   refine hK _ ?_
   refine bT ?_
   refine⟨⟨k+1,c+1+3+7,_⟩,⟨by simp only;omega,by simp only;omega⟩,by simp only;omega,⟨fun _=> .inr ?_,fun j o h=>?_,U3 _⟩⟩
   ·simp only[e7,Int.natCast_add,Int.natCast_one]
   simp only at h
   exact bS (by simp(disch:=omega) only[aV,↓reduceIte,eq_self,e6]) (fKa) j o h
  refine aI rfl (bF 0 rfl rfl (aY (aZ (bE (aB (aA rfl ?_))))))
  obtain rfl:k=ps.length:=by omega
  have e8:ps.take ps.length=ps:=List.take_length
  have e9:(fHk ps).length=(eRs ps).length+1:=by simp[fHk]
  have ew:eRs ps++[0#8]=fHk ps:=rfl
  refine aW [2] rfl rfl rfl fun K hK=>?_
  simp(disch:=omega) only[Tryz.f46,go_sem,↓reduceIte,e8,ew]
  refine hK _ ?_
  refine aB (aS rfl ?_)
  simp(disch:=omega) only[fPz,fRw,bV,bK,bQ,Tryz.f46,go_sem,↓reduceIte,fQ,e9]
 cases hg
theorem eVk:bX Tryz.prog GLh 46 (.fresh true rG):=⟨⟨_,Tryz.func46,rfl,rfl⟩,eXn⟩
end Go.AX

namespace Go.AX
open Go Go.Proofs
def okN (n:Nm):Prop:=(∀l∈n,gZ l)∧wl n≤255
instance (n:Nm):Decidable (okN n):=by unfold okN;infer_instance
theorem fSi: ∀(n:Nm),(∀l∈n,gZ l)→2*n.length+1≤wl n
 |[],_=>U3 _
 |l::r,h=>by
  rw[eKu,List.length_cons]
  have:=fSi r fun x hx=>h x (by simp[hx])
  have:=(h l (by simp)).1
  omega
theorem eYr {n:Nm} (h:okN n):n.length≤127:=by
 have:=fSi n h.1
 have:=h.2
 omega
end Go.AX
