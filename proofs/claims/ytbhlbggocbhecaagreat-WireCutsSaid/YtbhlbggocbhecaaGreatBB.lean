/-
  AX, part L: store, append, copy. AX, part M: states, steps, calls. AX, part N: one step of a region. AX, part O: regions, in the text's order and in any order. AX, part Q: a region that draws its order comes to what the text's order comes to. AX, part T: code, functions. AX, part U: what is known of a function, out of its code's run. AX, part V: rules in the form in which they are used. AX, part W: rules with the rest of the code hidden; facts of the seat's types. AX, part X: evaluation, one lemma for each shape. AX, part Y: what comes next; rows of bytes and words. AX, part Z: functions that turn one own row in place, and leave all else as it was.
-/
import Derived.Test.YtbhlbggocbhecaaGreatBA
import Derived.Test.YtbhlbggocbhecaaGreatProg
import Derived.KernelRfl
namespace Go.AX
open Go
section
variable {P : Program} {c : Ctx} {σ : Nat → Loc} {I : Nat → Prop} {w : World} {hp : H} {un : Nat → Prop}
structure Src (P:Program) (σ:Nat→Loc) (I:Nat→Prop) (w:World) (z:Nat) (v:Value) (m:Nat) (ys:List AV) (news:List Value):Prop where
 len:(Builtin.lenOf v).run P w=.ok m w
 first: ∀w':World,w'.heap=w.heap→∀k,k≤m→(Builtin.firstCells z k v).run P w'=.ok (news.take (k*z)).toArray w'
 size:ys.length=m*z
 nsize:news.length=ys.length
 rel: ∀i (_h:i<ys.length),ys[i].isCell=true∧Rel σ I w ys[i] (news.getD i undef)
theorem aUx {z m:Nat} {y:AV} {ys:List AV} {v:Value} (h:tX hp z y=some (m,ys)) (hy:Rel σ I w y v) (hown: ∀id o,hp id=some o→eD σ I w id o):
  ∃news,Src P σ I w z v m ys news:=by
 have other:sR hp z y=some (m,ys)→∃news,Src P σ I w z v m ys news:=by
  intro h
  obtain⟨h1,h2,a,cap,vs,rfl,h3,h4,h5⟩:=rY h hy hown
  refine⟨vs.toList,rfl,fun w' hw' k hk=>?_,h1,by simpa using h3,fun i hi=>⟨h2 i hi,by have:=h4 i hi;rwa [←Array.toArray_toList (xs:=vs),fI]at this⟩⟩
  cases a with
  |none=>
    simp only at h5;subst h5;obtain rfl:k=0:=by omega
    simp[run_firstCells_none]
  |some a=>
   simp only at h5
   exact run_firstCells_some w' z k a m cap _ (by rw[List.length_take,Array.length_toList,h3,h1];exact Nat.min_eq_left (Nat.mul_le_mul_right _ hk)) (fun j v hj=>by
    rw[List.getElem?_take]at hj
    split at hj
    ·have:=h5 j v hj;simp only[World.cell?,hw'];exact this
    cases hj)
 unfold tX at h
 split at h
 ·rename_i l
  obtain⟨rfl,h⟩:=aP h
  obtain⟨rfl,rfl⟩:=Prod.mk.inj (J0 h)
  obtain rfl:=aFt hy
  refine⟨l.map fun x=>Value.int .u8 (x.toNat:Int),?_,fun w' _ k hk=>?_,by simp,by simp,fun i hi=>?_⟩
  ·simp[Builtin.lenOf,eU]
  ·simp only[Builtin.firstCells,Sem.run_pure,Nat.mul_one]
   congr 1
   apply Array.ext'
   simp[dA,ByteArray.data_extract,List.map_take,Function.comp_def]
  simp at hi
  have e:(l.map fun x=>Value.int .u8 (x.toNat:Int)).getD i undef=.int .u8 (l[i].toNat:Int):=by
   rw[List.getD_eq_getElem?_getD,List.getElem?_map,List.getElem?_eq_getElem hi];rfl
  rw[e,List.getElem_map]
  exact⟨rfl,.w8 _⟩
 exact other h
theorem aCf {t:TypeId} (h:eDw P t=true): ∃d,P.underlying t=some d∧∀k,d≠.int k:=by
 unfold eDw at h
 split at h
 ·cases h
 ·rename_i d hne hd
  exact⟨d,hd,fun k e=>by subst e;exact hne k rfl⟩
 cases h
section app
variable {t t' ty e : TypeId} {z by_ m : Nat} {v : Value} {ys : List AV} {news : List Value} (ht : P.underlying t = some (.slice e)) (ht' : eDw P t' = true) (hz : eK P e = some z) (hby : dU P e = some by_)
 (hs:Src P σ I w z v m ys news)
include ht ht' hz hs
theorem aEb (base:Option Addr) (sLen sCap:Nat) (hroom:sLen+m≤sCap):
  (Builtin.append_ #[t,t'] ty #[.slice base sLen sCap,v]).run P w=
   ((match base with|some a=>storeCells (a.add (sLen*z)) news|none=>pure ():Sem Unit).run P w).andThen fun _ w'=> .ok (.slice base (sLen+m) sCap) w':=by
 obtain⟨d,hd,hdi⟩:=aCf ht'
 have hf:=hs.first w rfl m (U3 _)
 rw[List.take_of_length_le (by rw[hs.nsize,hs.size];exact U3 _)]at hf
 cases d with
 |int k=>exact absurd rfl (hdi k)
 |_=>
  simp only[Builtin.append_,List.getElem?_toArray,List.getElem?_cons_zero,List.getElem?_cons_succ,Sem.run_bind,run_underlying ht,Result.andThen_ok,run_sizeOf' hz,run_underlying hd,Sem.run_pure,Bool.false_eq_true,if_false,hs.len,
   J4 hroom,Bool.not_false,if_true,hf]
  cases base with
  |none=>rfl
  |some a=>simp only[Sem.run_bind];rfl
include hby
theorem aBo {zv:Value} (hzv: ∀w,(zeroValue e).run P w=.ok zv w) (base:Option Addr) (sLen sCap:Nat) (old:List Value) (hold: ∀w',w'.heap=w.heap→(Builtin.firstCells z sLen (.slice base sLen sCap)).run P w'=.ok old.toArray w')
  (hgrow:sCap<sLen+m) (h63:sLen+m≤140737488355328) (hb:(sLen+m)*by_≤140737488355328):
  (Builtin.append_ #[t,t'] ty #[.slice base sLen sCap,v]).run P w=
   .ok (.slice (some ⟨w.heap.size,0,none⟩) (sLen+m) (grownCap w (sLen+m) sCap e))
    (w.drew.alloc (.cells (old.toArray++news.toArray++Builtin.zeroCells zv.cells (grownCap w (sLen+m) sCap e-(sLen+m))) e)):=by
 obtain⟨d,hd,hdi⟩:=aCf ht'
 obtain⟨i,hi,hib⟩:=wT hby
 have hf:=hs.first w.drew rfl m (U3 _)
 rw[List.take_of_length_le (by rw[hs.nsize,hs.size];exact U3 _)]at hf
 have hold':=hold w.drew rfl
 have n1: ¬sLen+m≤sCap:=by omega
 have n2: ¬(((sLen+m:Nat):Int)>IntKind.i64.max∧(False∨i.bytes=0)):=by
  have e1:IntKind.i64.max=9223372036854775807:=by decide
  rw[e1];omega
 have n3: ¬(Builtin.nextslicecap (sLen+m) sCap*i.bytes>2^48):=by
  have:=growslice_fits hgrow (bytes:=by_) hb
  rw[hib];have e1:(2:Nat)^48=281474976710656:=by decide
  omega
 cases d with
 |int k=>exact absurd rfl (hdi k)
 |_=>
  simp only[Builtin.append_,List.getElem?_toArray,List.getElem?_cons_zero,List.getElem?_cons_succ,Sem.run_bind,run_underlying ht,Result.andThen_ok,run_sizeOf' hz,run_underlying hd,Sem.run_pure,Bool.false_eq_true,if_false,hs.len,
   J3 n1,run_typeInfo' hi,Bool.not_false,if_true]
  rw[J3 n2]
  simp only[Sem.run_bind,run_typeInfo' hi,Result.andThen_ok,J3 n3]
  simp only[run_choose,Question.forced,Bool.false_eq_true,if_false,Result.andThen_ok,run_askRoom]
  have e0:({w with drawn:=w.drawn+1}:World)=w.drew:=rfl
  simp only[e0,hold',hf,Result.andThen_ok,hzv,newRow,Sem.run_bind,run_newObj,Sem.run_pure]
  rfl
end app
theorem Src.grow {σ':Nat→Loc} {I':Nat→Prop} {z:Nat} {v:Value} {m:Nat} {ys:List AV} {news:List Value} (h:Src P σ I w z v m ys news) (ys':List AV) (hl:ys'.length=ys.length)
  (hr: ∀i (_h:i<ys'.length),ys'[i].isCell=true∧Rel σ' I' w ys'[i] (news.getD i undef)):Src P σ' I' w z v m ys' news:=
 ⟨h.len,h.first,by rw[hl,h.size],by rw[h.nsize,hl],hr⟩
theorem aCx {ys:List AV} {us:Nat→Value} {p:List AV×H} (h:uU hp ys=some p) (hi:Inv c σ I w hp un) (hr: ∀i (_h:i<ys.length),ys[i].isCell=true∧Rel σ I w ys[i] (us i)):
  ∃I',Inv c σ I' w p.2 un∧Grow σ I w σ I' w∧p.1.length=ys.length∧(∀i (_h:i<p.1.length),p.1[i].isCell=true∧Rel σ I' w p.1[i] (us i)):=by
 unfold uU at h
 split at h
 ·obtain rfl:=J0 h;exact⟨I,hi,Grow.refl _ _ _,rfl,hr⟩
 obtain⟨I',a1,a2,a3,a4,_⟩:=tM ys us h hi hr
 exact⟨I',a1,a2,a3,a4⟩
structure dDc (σ:Nat→Loc) (I:Nat→Prop) (w:World) (z m:Nat) (ys:List AV) (news:List Value):Prop where
 size:ys.length=m*z
 nsize:news.length=ys.length
 rel: ∀i (_h:i<ys.length),ys[i].isCell=true∧Rel σ I w ys[i] (news.getD i undef)
theorem Inv.trunc (h:Inv c σ I w hp un) {i:Nat} {xs:List AV} (ho:hp i=some (.cells xs true)) (k:Nat):
  Inv c σ I w (upd hp i (.cells (xs.take k) true)) un:=by
 have get: ∀id o,upd hp i (.cells (xs.take k) true) id=some o→(id=i∧o=.cells (xs.take k) true)∨(id≠i∧hp id=some o):=by
  intro id o h
  simp only[upd]at h
  split at h
  ·rename_i e;exact .inl ⟨e,(J0 h).symm⟩
  rename_i e;exact .inr ⟨e,h⟩
 have hil:=h.updIL ho (.cells (xs.take k) true) fun _=>rfl
 refine {h with own:=fun id o h1=>?_,inj:=hil.1,lim:=hil.2}
 rcases get id o h1 with⟨rfl,rfl⟩|⟨_,h2⟩
 ·have h3:=h.own id _ ho
  simp only[eD]at h3⊢
  cases e:σ id with
  |unset=>simp only[e]at h3
  |nil=>simp only[e]at h3⊢;subst h3;exact List.take_nil
  |at_ blk base sz=>
   simp only[e]at h3⊢
   obtain⟨⟨⟨cs,T,lo,hi,q1,q2,q3,q4,q5⟩,q6⟩,q7⟩:=h3
   have hl:(xs.take k).length≤xs.length:=by rw[List.length_take];omega
   refine⟨⟨⟨cs,T,lo,hi,q1,q2,by omega,q4,fun i hi'=>?_⟩,fun i hi'=>?_⟩,q7⟩
   ·rw[List.getElem_take];exact q5 i (by omega)
   rw[List.getElem_take];exact q6 i (by omega)
 exact h.own id o h2
theorem pJ {t t' ty e:TypeId} {x z0:AV} {a b:Value} {id z by_ m:Nat} {ys':List AV} {news:List Value} {hp1 hp':H} {I1:Nat→Prop} {zv:Value} (hi1:Inv c σ I1 w hp1 un) (hu:un id) (hg1:Grow σ I w σ I1 w)
  (hx1:Rel σ I1 w x a) (hsrc1:dDc σ I1 w z m ys' news) (hzs':zv.cells.size=z)
  (hin: ∀(base:Option Addr) (sLen sCap:Nat) (_hroom:sLen+m≤sCap),(Builtin.append_ #[t,t'] ty #[.slice base sLen sCap,b]).run P w=
   ((match base with|some a=>storeCells (a.add (sLen*z)) news|none=>pure ():Sem Unit).run P w).andThen fun _ w'=> .ok (.slice base (sLen+m) sCap) w')
  (hout: ∀(base:Option Addr) (sLen sCap:Nat) (old:List Value) (_hold: ∀w',w'.heap=w.heap→(Builtin.firstCells z sLen (.slice base sLen sCap)).run P w'=.ok old.toArray w')
   (_hgrow:sCap<sLen+m) (_h63:sLen+m≤140737488355328) (_hb:(sLen+m)*by_≤140737488355328),(Builtin.append_ #[t,t'] ty #[.slice base sLen sCap,b]).run P w=
   .ok (.slice (some ⟨w.heap.size,0,none⟩) (sLen+m) (grownCap w (sLen+m) sCap e))
    (w.drew.alloc (.cells (old.toArray++news.toArray++Builtin.zeroCells zv.cells (grownCap w (sLen+m) sCap e-(sLen+m))) e)))
  (h:kF z by_ x m ys' hp1 id=some (z0,hp')):
  ∃v w' σ' I',(Builtin.append_ #[t,t'] ty #[a,b]).run P w=.ok v w'∧Rel σ' I' w' z0 v∧Inv c σ' I' w' hp' (fun k=>un k∧k≠id)∧Grow σ I w σ' I' w':=by
 unfold kF at h
 have hr1:=hsrc1.rel
 have nlen:news.length=m*z:=by rw[hsrc1.nsize,hsrc1.size]
 have grown: ∀(hp2:H) (hi2:Inv c σ I1 w hp2 un) (n cap:Nat) (old:List Value) (xs:List AV),cap<n+m→xs.length=n*z→old.length=xs.length→(∀i (_h:i<xs.length),xs[i].isCell=true∧Rel σ I1 w xs[i] (old.getD i undef))→
   ∃σ',Rel σ' I1 (w.drew.alloc (.cells (old.toArray++news.toArray++Builtin.zeroCells zv.cells (grownCap w (n+m) cap e-(n+m))) e)) (.os id 0 (n+m) z true) (.slice (some ⟨w.heap.size,0,none⟩) (n+m) (grownCap w (n+m) cap e))∧
    Inv c σ' I1 (w.drew.alloc (.cells (old.toArray++news.toArray++Builtin.zeroCells zv.cells (grownCap w (n+m) cap e-(n+m))) e)) (upd hp2 id (.cells (xs++ys') true)) (fun k=>un k∧k≠id)∧
    Grow σ I1 w σ' I1 (w.drew.alloc (.cells (old.toArray++news.toArray++Builtin.zeroCells zv.cells (grownCap w (n+m) cap e-(n+m))) e)):=by
  intro hp2 hi2 n cap old xs hlt hxl hol hor
  have hge:=grownCap_ge w (n+m) cap e
  have hsize:(old.toArray++news.toArray++Builtin.zeroCells zv.cells (grownCap w (n+m) cap e-(n+m))).size=grownCap w (n+m) cap e*z:=by
   simp only[Array.size_append,List.size_toArray,size_zeroCells,hzs',hol,hxl,nlen,←Nat.add_mul]
   congr 1;omega
  have hxy:(xs++ys').length=(n+m)*z:=by rw[List.length_append,hxl,hsrc1.size,Nat.add_mul]
  have hle:(n+m)*z≤grownCap w (n+m) cap e*z:=Nat.mul_le_mul_right _ hge
  obtain⟨σ',hinv,hloc,hg⟩:=qD hi2 hu w.drew ⟨rfl,rfl,rfl,rfl⟩ (old.toArray++news.toArray++Builtin.zeroCells zv.cells (grownCap w (n+m) cap e-(n+m))) e (0,0) ⟨U3 _,fun _ _=>by omega⟩ (xs++ys')
   (by rw[hsize,hxy];exact hle) (fun i x hx=>by
    rw[List.getElem?_append]at hx
    rw[Array.append_assoc,Array.getElem?_append]
    simp only[List.size_toArray,hol]
    split at hx
    ·rename_i hlt
     obtain⟨_,rfl⟩:=List.getElem?_eq_some_iff.1 hx
     rw[J4 hlt]
     refine⟨(hor i hlt).1,_,?_,(hor i hlt).2⟩
     rw[List.getElem?_toArray,List.getElem?_eq_getElem (by omega),List.getD_eq_getElem?_getD,List.getElem?_eq_getElem (by omega)];rfl
    ·rename_i hge'
     obtain⟨hlt,rfl⟩:=List.getElem?_eq_some_iff.1 hx
     rw[J3 hge',Array.getElem?_append_left (by simp[hsrc1.nsize];exact hlt)]
     refine⟨(hr1 _ hlt).1,_,?_,(hr1 _ hlt).2⟩
     have:=hsrc1.nsize
     rw[List.getElem?_toArray,List.getElem?_eq_getElem (by omega),List.getD_eq_getElem?_getD,List.getElem?_eq_getElem (by omega)];rfl)
  exact⟨σ',.os id 0 (n+m) z true _ 0 _ _ hloc hge (fun _=>by rw[hsize];omega),hinv,hg⟩
 split at h
 ·replace h:=aP h;obtain⟨⟨hm1,hm2⟩,h⟩:=h
  obtain⟨rfl,rfl⟩:=Prod.mk.inj (J0 h)
  cases hx1
  by_cases hm:m=0
  ·subst hm
   have hrun:=hin none 0 0 (by omega)
   have hnil:=hi1.newNil hu
   have hys:ys'=[]:=List.eq_nil_of_length_eq_zero (by rw[hsrc1.size];simp)
   subst hys
   exact⟨.slice none 0 0,w,_,I1,hrun,.osnil _ _ _ (by simp[cU]),hnil,hg1.trans ⟨dM (hi1.un id hu),fun _ h=>h,fun _ _=>rfl⟩⟩
  obtain⟨σ',r1,r2,r3⟩:=grown hp1 hi1 0 0 [] [] (by omega) (by simp) rfl (fun i hi=>by simp at hi)
  have hrun:=hout none 0 0 [] (fun w' _=>run_firstCells_none w' z 0 0 0) (by omega) (by omega) (by rw[Nat.zero_add];exact hm2)
  rw[Nat.zero_add]at hrun r1
  simp only[Nat.zero_add,List.nil_append]at r1 r2 r3 hrun
  exact⟨_,_,σ',I1,hrun,r1,r2,hg1.trans r3⟩
 ·rename_i i off n e' g
  replace h:=aJ h;obtain⟨o,ho,h⟩:=h
  obtain⟨xs,mt,rfl⟩: ∃a b,o=AO.cells a b:=by cases o<;>first|exact⟨_,_,rfl⟩|(simp at h)
  simp only at h
  replace h:=aP h;obtain⟨⟨hmt,hgt,hez,hend,hb1,hb2⟩,h⟩:=h
  obtain⟨rfl,rfl⟩:=Prod.mk.inj (J0 h)
  subst hmt
  subst hez
  subst hgt
  have hown:=hi1.own i _ ho
  have hdel:Inv c σ I1 w (del hp1 i) un:=hi1.sub (aAh hp1 i)
  have hxl:(xs.drop off).length=n*e':=by simp;omega
  have hne:i≠id:=fun e=>by subst e;rw[hi1.none_un hu]at ho;cases ho
  have zero: ∀(base:Option Addr) (hh: ∀w':World,w'.heap=w.heap→(Builtin.firstCells e' 0 (.slice base 0 0)).run P w'=.ok #[] w') (hn:n=0) (hσ:σ i≠.unset),
    ∃v w' σ' I',(Builtin.append_ #[t,t'] ty #[.slice base 0 0,b]).run P w=.ok v w'∧Rel σ' I' w' (.os id 0 (n+m) e' true) v∧Inv c σ' I' w' (upd (del hp1 i) id (.cells (xs.drop off++ys') true)) (fun k=>un k∧k≠id)∧Grow σ I w σ' I' w':=by
   intro base hh hn hσ
   subst hn
   have hd0:xs.drop off=[]:=List.eq_nil_of_length_eq_zero (by rw[hxl];simp)
   by_cases hm:m=0
   ·subst hm
    have hrun:=hin base 0 0 (by omega)
    have hn0:news=[]:=List.eq_nil_of_length_eq_zero (by rw[nlen];simp)
    subst hn0
    have hnil:=hdel.newNil hu
    have hys:ys'=[]:=List.eq_nil_of_length_eq_zero (by rw[hsrc1.size];simp)
    subst hys
    rw[hd0]
    have hrun':(Builtin.append_ #[t,t'] ty #[.slice base 0 0,b]).run P w=.ok (.slice base 0 0) w:=by
     rw[hrun];cases base<;>rfl
    cases base with
    |none=>exact⟨.slice none 0 0,w,_,I1,hrun',.osnil _ _ _ (by simp[cU]),hnil,hg1.trans ⟨dM (hi1.un id hu),fun _ h=>h,fun _ _=>rfl⟩⟩
    |some a=>exact⟨.slice (some a) 0 0,w,_,I1,hrun',.oszero _ _ _ _ _ (by simp[cU]),hnil,hg1.trans ⟨dM (hi1.un id hu),fun _ h=>h,fun _ _=>rfl⟩⟩
   ·rw[hd0]
    obtain⟨σ',r1,r2,r3⟩:=grown (del hp1 i) hdel 0 0 [] [] (by omega) (by simp) rfl (fun i hi=>by simp at hi)
    have hrun:=hout base 0 0 [] hh (by omega) (by omega) hb2
    exact⟨_,_,σ',I1,hrun,r1,r2,hg1.trans r3⟩
  cases hx1 with
  |osnil _ _ _ g1=>exact zero none (fun w' _=>run_firstCells_none w' e' 0 0 0) rfl (by rw[g1];simp)
  |oszero _ _ _ _ a g1=>exact zero (some a) (fun w' _=>by simp[Builtin.firstCells,loadCells,loadCellsFrom]) rfl g1
  |os _ _ _ _ _ blk base sz cap g1 g2 g3=>
   replace g3:=g3 rfl
   have hrow:=fPc hown g1
   have hlen:=aVu hown g1
   by_cases hroom:n+m≤cap
   ·have hrun:=hin (some ⟨blk,base+off,none⟩) n cap hroom
    simp only[fVr]at hrun
    have hfit:base+xs.length+ys'.length≤sz:=by
     rw[hsrc1.size]
     have:(n+m)*e'≤cap*e':=Nat.mul_le_mul_right _ hroom
     rw[Nat.add_mul]at this
     omega
    have key: ∃w' σ',(storeCells ⟨blk,base+off+n*e',none⟩ news 0).run P w=.ok () w'∧Inv c σ' I1 w' (upd (del hp1 i) id (.cells (xs.drop off++ys') true)) (fun k=>un k∧k≠id)∧σ' id=.at_ blk (base+off) sz∧Grow σ I1 w σ' I1 w':=by
     simp only[eD,g1]at hown
     obtain⟨⟨⟨cs,T,lo,hi_,q1,q2,q3,q4,q5⟩,q6⟩,q7,_⟩:=hown
     have hnI:=q7 trivial
     have h1: ∀v∈news,v.oneCell'=true:=by
      intro v hv
      obtain⟨k,hk,rfl⟩:=List.getElem_of_mem hv
      have hk':k<ys'.length:=by rw[←hsrc1.nsize];exact hk
      have:=(hr1 k hk').2
      rw[List.getD_eq_getElem?_getD,List.getElem?_eq_getElem hk]at this
      exact this.oneCell (hr1 k hk').1
     obtain⟨w',r1,r2,r3,r4,r5,r6,cur',r7,r8,r9⟩:=fY (P:=P) blk (base+off+n*e') T lo hi_ news 0 cs w q1 (by rw[q2];exact q4.out) (by rw[hsrc1.nsize,q2];omega) h1
     have hw: ∀k,I1 k→w'.heap[k]? =w.heap[k]?:=fun k hk=>r6 k (fun e=>hnI (e▸hk))
     have hσ:=dM (l:=.at_ blk (base+off) sz) (hi1.un id hu)
     have lim:=hi1.lim i _ blk base sz ho rfl g1
     have other: ∀k o,k≠i→hp1 k=some o→∀blk' base' sz',σ k=.at_ blk' base' sz'→blk'≠blk:=by
      intro k o hk hko blk' base' sz' e eb
      subst eb
      exact hi1.inj i k _ o blk' base sz base' sz' ho rfl hko (Ne.symm hk) g1 e
     have get: ∀k o,upd (del hp1 i) id (.cells (xs.drop off++ys') true) k=some o→(k=id∧o=.cells (xs.drop off++ys') true)∨(k≠id∧k≠i∧hp1 k=some o):=by
      intro k o hk
      rw[bJ]at hk
      split at hk
      ·rename_i e;exact .inl ⟨e,(J0 hk).symm⟩
      rename_i e
      rw[eV]at hk
      split at hk
      ·cases hk
      rename_i e2;exact .inr ⟨e,e2,hk⟩
     refine⟨w',cU σ id (.at_ blk (base+off) sz),r1,?_,by simp[cU],⟨hσ,fun _ h=>h,hw⟩⟩
     refine⟨fun k hk=>?_,hi1.imm,fun k hk=>?_,by rw[r2];exact hi1.os,by rw[r3];exact hi1.tape,by rw[r4];exact hi1.output,by rw[r5];exact hi1.size,fun k hk hO=>?_,fun k hk=>by rw[r5];exact hi1.ilt k hk,?_,?_,?_,?_,fun g zs hg=>(hi1.glob g zs hg).mono hσ (fun _ h=>h) hw,hi1.inew⟩
     ·have:=hi1.ext k hk
      rw[hσ k (by rw[this];exact hk),this]
     ·rw[hw k (hi1.imm k hk)];exact hi1.iw k hk
     ·by_cases e:k=blk
      ·subst e
       rcases lim with lim|lim
       ·omega
       exact absurd lim hO
      rw[r6 k e];exact hi1.old k hk hO
     ·intro k o hk
      rcases get k o hk with⟨rfl,rfl⟩|⟨e1,e2,e3⟩
      ·simp only[eD,cU,if_true]
       have hcell: ∀j (_h:j<(xs.drop off++ys').length),(xs.drop off++ys')[j].isCell=true:=by
        intro j hj
        rw[List.getElem_append]
        split
        ·rw[getElem_drop'];exact q6 _ _
        exact(hr1 _ _).1
       refine⟨⟨⟨cur',T,lo,hi_,r7,by rw[r8];exact q2,by rw[List.length_append,hxl];omega,q4,fun j hj=>?_⟩,hcell⟩,fun _=>hnI,fun hm=>by simp at hm⟩
       refine Rel.mono (σ:=σ) (I:=I1) (w:=w) ?_ hσ (fun _ h=>h) hw
       rw[Array.getD_eq_getD_getElem?,r9]
       rw[List.getElem_append]
       split
       ·rename_i hlt
        rw[getElem_drop',J4 (by rw[hxl]at hlt;omega)]
        have:=q5 (off+j) (by rw[hxl]at hlt;omega)
        rw[Array.getD_eq_getD_getElem?]at this
        rw[show base+off+j=base+(off+j)from by omega];exact this
       rename_i hge
       have hj':j-(xs.drop off).length<ys'.length:=by rw[List.length_append]at hj;omega
       have hns:=hsrc1.nsize
       rw[J3 (by rw[hxl]at hge;omega),J4 (by rw[hxl]at hge hj';omega)]
       have:=(hr1 _ hj').2
       rw[List.getD_eq_getElem?_getD]at this
       rw[show base+off+j-(base+off+n*e'+0)=j-(xs.drop off).length from by rw[hxl];omega];exact this
      exact(hi1.own k o e3).mono hσ (fun _ h=>h) hw fun blk' base' sz' e=>⟨r6 blk' (other k o e2 e3 blk' base' sz' e),fun _ h=>h⟩
     ·intro k k' o1 o' blk1 base1 sz1 base2 sz2 h1 hm1 h2 hn e1 e2
      rcases get k _ h1 with⟨rfl,_⟩|⟨a1,a2,a3⟩
      ·rcases get k' _ h2 with⟨rfl,_⟩|⟨b1,b2,b3⟩
       ·exact hn rfl
       simp only[cU,if_true,Loc.at_.injEq]at e1
       simp only[cU,J3 b1]at e2
       exact other k' o' b2 b3 blk1 base2 sz2 e2 e1.1.symm
      simp only[cU,J3 a1]at e1
      rcases get k' _ h2 with⟨rfl,_⟩|⟨b1,b2,b3⟩
      ·simp only[cU,if_true,Loc.at_.injEq]at e2
       exact other k _ a2 a3 blk1 base1 sz1 e1 e2.1.symm
      simp only[cU,J3 b1]at e2
      exact hi1.inj k k' o1 o' blk1 base1 sz1 base2 sz2 a3 hm1 b3 hn e1 e2
     ·intro k o1 blk1 base1 sz1 h1 hm1 e1
      rcases get k _ h1 with⟨rfl,_⟩|⟨a1,a2,a3⟩
      ·simp only[cU,if_true,Loc.at_.injEq]at e1
       rw[←e1.1];exact lim
      simp only[cU,J3 a1]at e1
      exact hi1.lim k o1 blk1 base1 sz1 a3 hm1 e1
     intro k ⟨hk,hn⟩
     simp only[cU,J3 hn]
     exact hi1.un k hk
    obtain⟨w',σ',k1,k2,k3,k4⟩:=key
    simp only[k1,Result.andThen_ok]at hrun
    refine⟨_,w',σ',I1,hrun,?_,k2,hg1.trans k4⟩
    have:=Rel.os (σ:=σ') (I:=I1) (w:=w') id 0 (n+m) e' true blk (base+off) sz cap k3 hroom (fun _=>by omega)
    exact this
   have hold: ∀w':World,w'.heap=w.heap→(Builtin.firstCells e' n (.slice (some ⟨blk,base+off,none⟩) n cap)).run P w'=.ok ((List.range (n*e')).map fun j=>(w.cell? ⟨blk,base+off+j,none⟩).getD undef).toArray w':=by
    intro w' hw'
    refine run_firstCells_some w' e' n _ n cap _ (by simp) (fun j v hj=>?_)
    rw[List.getElem?_map]at hj
    obtain⟨k,hk,rfl⟩:=Option.map_eq_some_iff.1 hj
    rw[List.getElem?_eq_some_iff]at hk
    obtain⟨hlt,hk⟩:=hk
    simp at hlt hk
    subst hk
    obtain⟨v,hv,_⟩:=hrow.get (off+j) (by omega)
    rw[←Nat.add_assoc]at hv
    rw[fVr]
    simp only[World.cell?,hw']at hv⊢
    rw[hv];rfl
   obtain⟨σ',r1,r2,r3⟩:=grown (del hp1 i) hdel n cap ((List.range (n*e')).map fun j=>(w.cell? ⟨blk,base+off+j,none⟩).getD undef) (xs.drop off) (by omega) hxl (by rw[hxl,List.length_map,List.length_range]) (fun j hj=>by
    rw[hxl]at hj
    rw[getElem_drop']
    obtain⟨v,hv,hc,hr⟩:=hrow.get (off+j) (by omega)
    rw[←Nat.add_assoc]at hv
    refine⟨hc,?_⟩
    rw[List.getD_eq_getElem?_getD,List.getElem?_map,List.getElem?_range hj]
    simp only[Option.map_some,hv,Option.getD_some]
    exact hr)
   have hrun:=hout (some ⟨blk,base+off,none⟩) n cap _ hold (by omega) (by omega) hb2
   exact⟨_,_,σ',I1,hrun,r1,r2,hg1.trans r3⟩
 cases h
theorem aLf {t t' ty e:TypeId} {x z0:AV} {a b:Value} {id z by_ m:Nat} {ys':List AV} {news:List Value} {hp1 hp':H} {I1:Nat→Prop} {zv:Value} (hi1:Inv c σ I1 w hp1 un) (hu:un id) (hg1:Grow σ I w σ I1 w)
  (hx1:Rel σ I1 w x a) (hsrc1:dDc σ I1 w z m ys' news) (hzs':zv.cells.size=z)
  (hin: ∀(base:Option Addr) (sLen sCap:Nat) (_hroom:sLen+m≤sCap),(Builtin.append_ #[t,t'] ty #[.slice base sLen sCap,b]).run P w=
   ((match base with|some a=>storeCells (a.add (sLen*z)) news|none=>pure ():Sem Unit).run P w).andThen fun _ w'=> .ok (.slice base (sLen+m) sCap) w')
  (hout: ∀(base:Option Addr) (sLen sCap:Nat) (old:List Value) (_hold: ∀w',w'.heap=w.heap→(Builtin.firstCells z sLen (.slice base sLen sCap)).run P w'=.ok old.toArray w')
   (_hgrow:sCap<sLen+m) (_h63:sLen+m≤140737488355328) (_hb:(sLen+m)*by_≤140737488355328),(Builtin.append_ #[t,t'] ty #[.slice base sLen sCap,b]).run P w=
   .ok (.slice (some ⟨w.heap.size,0,none⟩) (sLen+m) (grownCap w (sLen+m) sCap e))
    (w.drew.alloc (.cells (old.toArray++news.toArray++Builtin.zeroCells zv.cells (grownCap w (sLen+m) sCap e-(sLen+m))) e)))
  (h:zV z by_ x m ys' hp1 id=some (z0,hp')):
  ∃v w' σ' I',(Builtin.append_ #[t,t'] ty #[a,b]).run P w=.ok v w'∧Rel σ' I' w' z0 v∧Inv c σ' I' w' hp' (fun k=>un k∧k≠id)∧Grow σ I w σ' I' w':=by
 unfold zV at h
 split at h
 ·rename_i i off n e' g
  replace h:=aJ h;obtain⟨o,ho,h⟩:=h
  obtain⟨xs,mt,rfl⟩: ∃a b,o=AO.cells a b:=by cases o<;>first|exact⟨_,_,rfl⟩|(simp at h)
  simp only[eqO]at h
  split at h
  ·exact pJ hi1 hu hg1 hx1 hsrc1 hzs' hin hout h
  unfold aDp at h
  replace h:=aP h;obtain⟨⟨hmt,hg,hez,hle,hb1,hb2⟩,h⟩:=h
  subst hmt
  refine pJ (by_:=by_) (hp':=hp') (z0:=z0) (hi1.trunc ho (off+n*z)) hu hg1 hx1 hsrc1 hzs' hin hout ?_
  simp only[kF,bJ,if_true,aX]
  rw[eE _ ⟨trivial,hg,hez,by rw[List.length_take];omega,hb1,hb2⟩]
  have hd:del (upd hp1 i (.cells (xs.take (off+n*z)) true)) i=del hp1 i:=by
   funext k;simp only[eV,bJ];split<;>rfl
  have ht:(xs.take (off+n*z)).drop off=(xs.drop off).take (n*z):=by rw[List.drop_take];congr 1;omega
  rw[hd,ht];exact h
 exact pJ hi1 hu hg1 hx1 hsrc1 hzs' hin hout h
theorem uB {z:Array Value} {n i:Nat} (h:i<n*z.size):(Builtin.zeroCells z n)[i]? =z[i%z.size]?:=by
 have hz:0<z.size:=by
  rcases Nat.eq_zero_or_pos z.size with e|e
  ·rw[e]at h;omega
  exact e
 have hm:=Nat.mod_lt i hz
 simp only[Builtin.zeroCells,Array.getElem?_map]
 rw[Array.getElem?_eq_getElem (by simpa using h)]
 simp only[Array.getElem_range,Option.map_some]
 rw[Array.getElem?_eq_getElem hm,getElem!_pos z _ hm]
theorem uN {e:TypeId} {z:Nat} {zs:List AV} (hzs:lA P e=some zs) (hzl:zs.length=z): ∃zv:Value,(∀w,(zeroValue e).run P w=.ok zv w)∧zv.cells.size=z∧zs=zv.cells.toList.map aEg∧∀x∈zv.cells.toList,x.oneCell'=true:=by
 obtain⟨zv,_,hzero,_,_⟩:=run_zeroValue' hzs (default:World)
 refine⟨zv,fun w=>?_,?_,?_,?_⟩
 ·obtain⟨zv',h1,h2,_⟩:=run_zeroValue' hzs w
  rw[hzero]at h2;obtain rfl:=J0 h2;exact h1
 ·obtain⟨zv',_,h2,h3,_⟩:=run_zeroValue' hzs (default:World)
  rw[hzero]at h2;obtain rfl:=J0 h2
  rw[←hzl,h3];simp
 ·obtain⟨zv',_,h2,h3,_⟩:=run_zeroValue' hzs (default:World)
  rw[hzero]at h2;obtain rfl:=J0 h2
  exact h3
 obtain⟨zv',_,h2,_,h4⟩:=run_zeroValue' hzs (default:World)
 rw[hzero]at h2;obtain rfl:=J0 h2
 exact h4
theorem aLe {t t' ty:TypeId} {x y z0:AV} {a b:Value} {id:Nat} {hp':H} (h:pK P t x y hp id=some (z0,hp')) (ht':eDw P t'=true) (hx:Rel σ I w x a) (hy:Rel σ I w y b)
  (hi:Inv c σ I w hp un) (hu:un id):
  ∃v w' σ' I',(Builtin.append_ #[t,t'] ty #[a,b]).run P w=.ok v w'∧Rel σ' I' w' z0 v∧Inv c σ' I' w' hp' (fun k=>un k∧k≠id)∧Grow σ I w σ' I' w':=by
 unfold pK at h
 split at h
 rotate_left
 ·cases h
 rename_i e ht
 replace h:=aJ h;obtain⟨z,hz,h⟩:=h
 replace h:=aJ h;obtain⟨by_,hby,h⟩:=h
 replace h:=aJ h;obtain⟨zs,hzs,h⟩:=h
 replace h:=aP h;obtain⟨⟨hpos,hzl⟩,h⟩:=h
 replace h:=aJ h;obtain⟨my,hmy,h⟩:=h
 replace h:=aJ h;obtain⟨fy,hfy,h⟩:=h
 obtain⟨m,ys⟩:=my
 obtain⟨ys',hp1⟩:=fy
 simp only at hmy hfy h
 obtain⟨news,hsrc⟩:=aUx (P:=P) hmy hy hi.own
 obtain⟨I1,hi1,hg1,hl1,hr1⟩:=aCx (us:=fun i=>news.getD i undef) hfy hi hsrc.rel
 simp only at hi1 hl1 hr1
 obtain⟨zv,hzv,hzs',_,_⟩:=uN (P:=P) hzs hzl
 exact aLf (by_:=by_) (e:=e) (zv:=zv) hi1 hu hg1 (hx.grow hg1) ⟨by rw[hl1,hsrc.size],by rw[hl1,hsrc.nsize],hr1⟩ hzs'
  (fun base sLen sCap hroom=>aEb (ty:=ty) ht ht' hz hsrc base sLen sCap hroom)
  (fun base sLen sCap old hold hg h6 hb=>aBo (ty:=ty) ht ht' hz hby hsrc hzv base sLen sCap old hold hg h6 hb) h
theorem aOf {m:Nat} (hm:m≤140737488355328):IntKind.i64.wrap (m:Int)=m:=by
 have:=mP (n:=(m:Int)) (by omega) (by omega)
 exact this
section appz
variable {t t' ty e : TypeId} {z by_ m : Nat} {k : IntKind} {zv : Value} (ht : P.underlying t = some (.slice e)) (ht' : P.underlying t' = some (.int k)) (hz : eK P e = some z) (hby : dU P e = some by_) (hpos : 0 < z)
 (hzv: ∀w,(zeroValue e).run P w=.ok zv w) (hm:m≤140737488355328) (hmb:m*by_≤140737488355328)
include ht ht' hz hby hpos hzv hm hmb
theorem aMi (base:Option Addr) (sLen sCap:Nat) (hroom:sLen+m≤sCap):
  (Builtin.append_ #[t,t'] ty #[.slice base sLen sCap,.int .i64 m]).run P w=
   ((match base with|some a=>storeCells (a.add (sLen*z)) (Builtin.zeroCells zv.cells m).toList|none=>pure ():Sem Unit).run P w).andThen fun _ w'=> .ok (.slice base (sLen+m) sCap) w':=by
 obtain⟨i,hi,hib⟩:=wT hby
 have hw:=aOf hm
 have e2:(2:Int)^48=281474976710656:=by decide
 have n3: ¬((m:Int)*(i.bytes:Int)>2^48):=by
  rw[hib,e2,←Int.natCast_mul];omega
 have n4: ¬((m:Int)<0):=by omega
 simp only[Builtin.append_,List.getElem?_toArray,List.getElem?_cons_zero,List.getElem?_cons_succ,Sem.run_bind,run_underlying ht,Result.andThen_ok,run_sizeOf' hz,run_underlying ht',Sem.run_pure,if_true,asInt,asIntOf,hw,J3 n4,run_typeInfo' hi,J3 n3,U2,
  J4 hroom,Bool.not_true,Bool.false_eq_true,if_false]
 by_cases hm0:m*z=0
 ·have:m=0:=by
   rcases Nat.mul_eq_zero.1 hm0 with h|h
   ·exact h
   omega
  subst this
  have hz0:(Builtin.zeroCells zv.cells 0).toList=[]:=by simp[Builtin.zeroCells]
  rw[hz0]
  simp only[Nat.zero_mul,if_true,Sem.run_pure,Result.andThen_ok]
  cases base<;>rfl
 simp only[J3 hm0,Sem.run_bind,hzv,Result.andThen_ok,Sem.run_pure]
 cases base with
 |none=>rfl
 |some a=>simp only[Sem.run_bind];rfl
theorem aIj (base:Option Addr) (sLen sCap:Nat) (old:List Value) (hold: ∀w',w'.heap=w.heap→(Builtin.firstCells z sLen (.slice base sLen sCap)).run P w'=.ok old.toArray w')
  (hgrow:sCap<sLen+m) (h63:sLen+m≤140737488355328) (hb:(sLen+m)*by_≤140737488355328):
  (Builtin.append_ #[t,t'] ty #[.slice base sLen sCap,.int .i64 m]).run P w=
   .ok (.slice (some ⟨w.heap.size,0,none⟩) (sLen+m) (grownCap w (sLen+m) sCap e))
    (w.drew.alloc (.cells (old.toArray++(Builtin.zeroCells zv.cells m).toList.toArray++Builtin.zeroCells zv.cells (grownCap w (sLen+m) sCap e-(sLen+m))) e)):=by
 obtain⟨i,hi,hib⟩:=wT hby
 have hw:=aOf hm
 have e2:(2:Int)^48=281474976710656:=by decide
 have n3: ¬((m:Int)*(i.bytes:Int)>2^48):=by
  rw[hib,e2,←Int.natCast_mul];omega
 have n4: ¬((m:Int)<0):=by omega
 have hold':=hold w.drew rfl
 have n1: ¬sLen+m≤sCap:=by omega
 have n2: ¬(((sLen+m:Nat):Int)>IntKind.i64.max∧(True∨i.bytes=0)):=by
  have e1:IntKind.i64.max=9223372036854775807:=by decide
  rw[e1];omega
 have n5: ¬(Builtin.nextslicecap (sLen+m) sCap*i.bytes>2^48):=by
  have:=growslice_fits hgrow (bytes:=by_) hb
  rw[hib];have e1:(2:Nat)^48=281474976710656:=by decide
  omega
 simp only[Builtin.append_,List.getElem?_toArray,List.getElem?_cons_zero,List.getElem?_cons_succ,Sem.run_bind,run_underlying ht,Result.andThen_ok,run_sizeOf' hz,run_underlying ht',Sem.run_pure,if_true,asInt,asIntOf,hw,J3 n4,run_typeInfo' hi,J3 n3,U2,
  J3 n1,Bool.not_true,Bool.false_eq_true,if_false]
 rw[J3 n2]
 simp only[Sem.run_bind,run_typeInfo' hi,Result.andThen_ok,J3 n5]
 simp only[run_choose,Question.forced,Bool.false_eq_true,if_false,Result.andThen_ok,run_askRoom]
 have e0:({w with drawn:=w.drawn+1}:World)=w.drew:=rfl
 simp only[e0,hold',Result.andThen_ok]
 by_cases hm0:m*z=0
 ·have:m=0:=by
   rcases Nat.mul_eq_zero.1 hm0 with h|h
   ·exact h
   omega
  subst this
  have hz0:Builtin.zeroCells zv.cells 0= #[]:=by simp[Builtin.zeroCells]
  simp only[Nat.zero_mul,if_true,Sem.run_pure,Result.andThen_ok,hzv,newRow,Sem.run_bind,run_newObj,hz0]
  rfl
 simp only[J3 hm0,Sem.run_bind,hzv,Result.andThen_ok,Sem.run_pure,newRow,run_newObj,Array.toArray_toList]
 rfl
end appz
theorem aSn {t:TypeId} (h:xW P t=true): ∃k,P.underlying t=some (.int k):=by
 unfold xW at h
 split at h
 ·exact⟨_,‹_›⟩
 cases h
theorem aFg {t t' ty:TypeId} {x y z0:AV} {a b:Value} {id:Nat} {hp':H} (h:wX P t x y hp id=some (z0,hp')) (ht':xW P t'=true) (hx:Rel σ I w x a) (hy:Rel σ I w y b)
  (hi:Inv c σ I w hp un) (hu:un id):
  ∃v w' σ' I',(Builtin.append_ #[t,t'] ty #[a,b]).run P w=.ok v w'∧Rel σ' I' w' z0 v∧Inv c σ' I' w' hp' (fun k=>un k∧k≠id)∧Grow σ I w σ' I' w':=by
 obtain⟨k,ht'⟩:=aSn ht'
 unfold wX at h
 split at h
 rotate_left
 ·cases h
 rename_i e ht
 replace h:=aJ h;obtain⟨z,hz,h⟩:=h
 replace h:=aJ h;obtain⟨by_,hby,h⟩:=h
 replace h:=aJ h;obtain⟨zs,hzs,h⟩:=h
 replace h:=aP h;obtain⟨⟨hpos,hzl⟩,h⟩:=h
 replace h:=aJ h;obtain⟨m,hm,h⟩:=h
 replace h:=aP h;obtain⟨⟨hm1,hm2⟩,h⟩:=h
 obtain⟨zv,hzv,hzs',hze,hzc⟩:=uN (P:=P) hzs hzl
 unfold bCb at hm
 split at hm
 rotate_left
 ·cases hm
 rename_i n
 replace hm:=aP hm;obtain⟨hn,hm⟩:=hm
 obtain rfl:=J0 hm
 cases hy
 obtain⟨m,rfl⟩:=Int.eq_ofNat_of_zero_le hn
 simp only[U2]at*
 have hrl:(rep m zs).length=m*z:=by rw[mU,hzl]
 have hnl:(Builtin.zeroCells zv.cells m).toList.length=m*z:=by rw[Array.length_toList,size_zeroCells,hzs']
 have hrc:eI σ I w zs zv.cells:=fRq hze hzc
 refine pJ (by_:=by_) (e:=e) (zv:=zv) hi hu (Grow.refl _ _ _) hx ⟨hrl,by rw[hnl,hrl],fun i hi'=>?_⟩ hzs'
  (fun base sLen sCap hroom=>aMi (ty:=ty) ht ht' hz hby hpos hzv hm1 hm2 base sLen sCap hroom)
  (fun base sLen sCap old hold hg h6 hb=>aIj (ty:=ty) ht ht' hz hby hpos hzv hm1 hm2 base sLen sCap old hold hg h6 hb) h
 have hg:=zZ hzl hpos m i (by omega)
 rw[List.getElem?_eq_getElem hi']at hg
 obtain⟨c1,v,c2,c3⟩:=(cY.1 hrc).2 _ _ hg.symm
 refine⟨c1,?_⟩
 have e1:(Builtin.zeroCells zv.cells m).toList.getD i undef=v:=by
  rw[List.getD_eq_getElem?_getD,Array.getElem?_toList,uB (by rw[hzs'];omega),hzs',c2];rfl
 rw[e1];exact c3
theorem aSy {t t' ty:TypeId} {x y z0:AV} {a b:Value} {hp':H} (h:aXo P t x y hp=some (z0,hp')) (hx:Rel σ I w x a) (hy:Rel σ I w y b) (hi:Inv c σ I w hp un):
  ∃v w',(Builtin.copy_ #[t,t'] ty #[a,b]).run P w=.ok v w'∧Rel σ I w' z0 v∧Inv c σ I w' hp' un∧Grow σ I w σ I w':=by
 unfold aXo at h
 split at h
 rotate_left
 ·cases h
 rename_i e ht
 replace h:=aJ h;obtain⟨z,hz,h⟩:=h
 replace h:=aJ h;obtain⟨my,hmy,h⟩:=h
 obtain⟨m,ys⟩:=my
 simp only at hmy h
 obtain⟨news,hsrc⟩:=aUx (P:=P) hmy hy hi.own
 split at h
 ·rename_i i off n e' g
  replace h:=aJ h;obtain⟨o,ho,h⟩:=h
  obtain⟨xs,mt,rfl⟩: ∃a b,o=AO.cells a b:=by cases o<;>first|exact⟨_,_,rfl⟩|(simp at h)
  simp only at h
  replace h:=aP h;obtain⟨⟨hmt,hez,hend⟩,h⟩:=h
  obtain⟨rfl,rfl⟩:=Prod.mk.inj (J0 h)
  subst hmt
  subst hez
  have hown:=hi.own i _ ho
  have hlen:(ys.take (min m n*e')).length=min m n*e':=by
   rw[List.length_take,hsrc.size];exact Nat.min_eq_left (Nat.mul_le_mul_right _ (Nat.min_le_left _ _))
  have hnl:(news.take (min m n*e')).length=min m n*e':=by
   rw[List.length_take,hsrc.nsize,hsrc.size];exact Nat.min_eq_left (Nat.mul_le_mul_right _ (Nat.min_le_left _ _))
  have hmn:min m n*e'≤n*e':=Nat.mul_le_mul_right _ (Nat.min_le_right _ _)
  have hf:=hsrc.first w rfl (min m n) (Nat.min_le_left _ _)
  have start: ∀(base:Option Addr) (cap:Nat),(Builtin.copy_ #[t,t'] ty #[.slice base n cap,b]).run P w=
    ((match base with|some a=>storeCells a (news.take (min m n*e'))|none=>pure ():Sem Unit).run P w).andThen fun _ w'=> .ok (.int .i64 (min m n:Nat)) w':=by
   intro base cap
   have hf':(Builtin.firstCells e' (Nat.min m n) b).run P w=.ok (news.take (min m n*e')).toArray w:=hf
   simp only[Builtin.copy_,List.getElem?_toArray,List.getElem?_cons_zero,List.getElem?_cons_succ,Sem.run_bind,run_underlying ht,Result.andThen_ok,hsrc.len,run_sizeOf' hz,hf',goInt]
   cases base with
   |none=>rfl
   |some a=>simp only[Sem.run_bind];rfl
  have hrel: ∀j (_h:j<(ys.take (min m n*e')).length),(ys.take (min m n*e'))[j].isCell=true∧Rel σ I w (ys.take (min m n*e'))[j] ((news.take (min m n*e')).getD j undef):=by
   intro j hj
   have hj':=hj
   rw[hlen]at hj'
   rw[getElem_take']
   have hjy:j<ys.length:=by rw[List.length_take]at hj;omega
   have:=hsrc.rel j hjy
   refine⟨this.1,?_⟩
   rw[List.getD_eq_getElem?_getD,List.getElem?_take_of_lt hj',←List.getD_eq_getElem?_getD]
   exact this.2
  have zero: ∀base:Option Addr,n=0→∃v w',(Builtin.copy_ #[t,t'] ty #[.slice base n 0,b]).run P w=.ok v w'∧Rel σ I w' (.i (min m n:Nat)) v∧Inv c σ I w' (upd hp i (.cells (eG xs off (ys.take (min m n*e'))) true)) un∧Grow σ I w σ I w':=by
   intro base hn
   subst hn
   refine⟨_,w,by rw[start base 0];simp only[Nat.min_zero,Nat.zero_mul,U1];cases base<;>rfl,.i _,?_,Grow.refl _ _ _⟩
   have:upd hp i (.cells (eG xs off (ys.take (min m 0*e'))) true)=hp:=by
    funext k
    rw[bJ]
    split
    ·rename_i e;subst e;rw[ho];simp[eG]
    rfl
   rw[this];exact hi
  cases hx with
  |osnil=>exact zero none rfl
  |oszero _ _ _ _ a=>exact zero (some a) rfl
  |os _ _ _ _ _ blk base sz cap g1 g2 g3=>
   obtain⟨w',r1,r2,r3⟩:=xC (P:=P) hi (off:=off) (ys:=ys.take (min m n*e')) (zs:=eG xs off (ys.take (min m n*e'))) (us:=news.take (min m n*e')) ho g1 (by rw[hlen];omega) (by rw[hlen,hnl])
    (fun j hj=>(hrel j hj).1) (fun j hj=>(hrel j hj).2) (fN (by rw[hlen];omega)) (fun j=>qO (by rw[hlen];omega))
   refine⟨_,w',by rw[start];simp only[r1,Result.andThen_ok],.i _,r2,r3⟩
 cases h
theorem aPh {t ty:TypeId} {x z0:AV} {a:Value} {hp':H} (h:aKa P t x hp=some (z0,hp')) (hx:Rel σ I w x a) (hi:Inv c σ I w hp un):
  ∃v w',(Builtin.clear_ #[t] ty #[a]).run P w=.ok v w'∧Rel σ I w' z0 v∧Inv c σ I w' hp' un∧Grow σ I w σ I w':=by
 unfold aKa at h
 split at h
 ·rename_i kt et ht
  split at h
  rotate_left
  ·cases h
  rename_i id
  replace h:=aJ h;obtain⟨o,ho,h⟩:=h
  exact aTa (P:=P) ht h ho hx hi
 rotate_left
 ·cases h
 rename_i e ht
 replace h:=aJ h;obtain⟨z,hz,h⟩:=h
 replace h:=aJ h;obtain⟨zs,hzs,h⟩:=h
 replace h:=aP h;obtain⟨⟨hpos,hzl⟩,h⟩:=h
 obtain⟨zv,hzv,hzs',hze,hzc⟩:=uN (P:=P) hzs hzl
 split at h
 ·rename_i i off n e' g
  replace h:=aJ h;obtain⟨o,ho,h⟩:=h
  obtain⟨xs,mt,rfl⟩: ∃a b,o=AO.cells a b:=by cases o<;>first|exact⟨_,_,rfl⟩|(simp at h)
  simp only at h
  replace h:=aP h;obtain⟨⟨hmt,hez,hend⟩,h⟩:=h
  obtain⟨rfl,rfl⟩:=Prod.mk.inj (J0 h)
  subst hmt
  subst hez
  have hrl:(rep n zs).length=n*e':=by rw[mU,hzl]
  have hnl:(Builtin.zeroCells zv.cells n).toList.length=n*e':=by rw[Array.length_toList,size_zeroCells,hzs']
  have hrc:eI σ I w zs zv.cells:=fRq hze hzc
  have hrel: ∀j (_h:j<(rep n zs).length),(rep n zs)[j].isCell=true∧Rel σ I w (rep n zs)[j] ((Builtin.zeroCells zv.cells n).toList.getD j undef):=by
   intro j hj
   have hg:=zZ hzl hpos n j (by omega)
   rw[List.getElem?_eq_getElem hj]at hg
   obtain⟨c1,v,c2,c3⟩:=(cY.1 hrc).2 _ _ hg.symm
   refine⟨c1,?_⟩
   have e1:(Builtin.zeroCells zv.cells n).toList.getD j undef=v:=by
    rw[List.getD_eq_getElem?_getD,Array.getElem?_toList,uB (by rw[hzs'];omega),hzs',c2];rfl
   rw[e1];exact c3
  have zero: ∀base:Option Addr,n=0→∃v w',(Builtin.clear_ #[t] ty #[.slice base n 0]).run P w=.ok v w'∧Rel σ I w' (.tup []) v∧Inv c σ I w' (upd hp i (.cells (eG xs off (rep n zs)) true)) un∧Grow σ I w σ I w':=by
   intro base hn
   subst hn
   refine⟨.tuple #[],w,?_,.tup [] #[] rfl (fun j hj=>by simp at hj),?_,Grow.refl _ _ _⟩
   ·simp only[Builtin.clear_,List.getElem?_toArray,List.getElem?_cons_zero,Sem.run_bind,run_underlying ht,Result.andThen_ok]
    cases base<;>rfl
   have:upd hp i (.cells (eG xs off (rep 0 zs)) true)=hp:=by
    funext k
    rw[bJ]
    split
    ·rename_i e;subst e;rw[ho];simp[eG,rep]
    rfl
   rw[this];exact hi
  cases hx with
  |osnil=>exact zero none rfl
  |oszero _ _ _ _ a=>exact zero (some a) rfl
  |os _ _ _ _ _ blk base sz cap g1 g2 g3=>
   rcases Nat.eq_zero_or_pos n with hn|hn
   ·subst hn
    obtain⟨v,w',r1,r2,r3,r4⟩:=zero (some ⟨blk,base+off,none⟩) rfl
    refine⟨v,w',?_,r2,r3,r4⟩
    rw[←r1]
    simp only[Builtin.clear_,List.getElem?_toArray,List.getElem?_cons_zero,Sem.run_bind,run_underlying ht,Result.andThen_ok]
   obtain⟨w',r1,r2,r3⟩:=xC (P:=P) hi (off:=off) (ys:=rep n zs) (zs:=eG xs off (rep n zs)) (us:=(Builtin.zeroCells zv.cells n).toList) ho g1 (by rw[hrl];omega) (by rw[hrl,hnl])
    (fun j hj=>(hrel j hj).1) (fun j hj=>(hrel j hj).2) (fN (by rw[hrl];omega)) (fun j=>qO (by rw[hrl];omega))
   refine⟨.tuple #[],w',?_,.tup [] #[] rfl (fun j hj=>by simp at hj),r2,r3⟩
   obtain⟨m,rfl⟩: ∃m,n=m+1:=⟨n-1,by omega⟩
   simp only[Builtin.clear_,List.getElem?_toArray,List.getElem?_cons_zero,Sem.run_bind,run_underlying ht,Result.andThen_ok,hzv,r1,Sem.run_pure]
 cases h
theorem aSr {w:World} {blk:Nat} {cs:Array Value} {T:TypeId} {lo hi:Nat} (h:w.heap[blk]? =some (.cells cs T (lo,hi))) (hu:aUg lo hi cs.size):
  ∃lo' hi',(w.freeze ⟨blk,cs.size,none⟩ 1).heap[blk]? =some (.cells cs T (lo',hi'))∧aUg lo' hi' cs.size∧(w.freeze ⟨blk,cs.size,none⟩ 1).heap.size=w.heap.size∧∀k,k≠blk→(w.freeze ⟨blk,cs.size,none⟩ 1).heap[k]? =w.heap[k]?:=by
 unfold World.freeze
 rw[J3 (by decide)]
 simp only[Array.size_modify,Array.getElem?_modify,h,if_true,Option.map_some]
 obtain⟨u1,u2⟩:=hu
 have hlo:lo=hi∨cs.size≤lo:=by
  rcases Nat.lt_or_ge lo cs.size with e|e
  ·left
   have:=u2 lo e
   omega
  exact .inr e
 by_cases e:lo=hi
 ·subst e
  exact⟨cs.size,cs.size+1,by simp,⟨by omega,fun o ho=>by omega⟩,trivial,fun k hk=>by rw[J3 (fun e=>hk e.symm)]⟩
 have hs:cs.size≤lo:=hlo.resolve_left e
 have e2:(lo==hi)=false:=by simpa using e
 exact⟨min lo cs.size,max hi (cs.size+1),by simp[e2],⟨by omega,fun o ho=>by omega⟩,trivial,fun k hk=>by rw[J3 (fun e=>hk e.symm)]⟩
theorem aSf {e t:TypeId} {x z0:AV} {a:Value} {hp':H} (h:aWr P e x hp=some (z0,hp')) (ht:P.underlying t=some (.slice e)) (hx:Rel σ I w x a) (hi:Inv c σ I w hp un):
  ∃w',(convert t t a).run P w=.ok a w'∧Rel σ I w' z0 a∧Inv c σ I w' hp' un∧Grow σ I w σ I w':=by
 unfold aWr at h
 split at h
 rotate_left
 ·cases h
 rename_i he
 split at h
 rotate_left
 ·cases h
 rename_i i off n e' g
 replace h:=aJ h;obtain⟨o,ho,h⟩:=h
 obtain⟨xs,mt,rfl⟩: ∃a b,o=AO.cells a b:=by cases o<;>first|exact⟨_,_,rfl⟩|(simp at h)
 simp only at h
 replace h:=aP h;obtain⟨⟨hmt,hn⟩,h⟩:=h
 obtain⟨rfl,rfl⟩:=Prod.mk.inj (J0 h)
 subst hmt
 cases hx with
 |osnil=>omega
 |oszero=>omega
 |os _ _ _ _ _ blk base sz cap g1 g2 g3=>
  have hown:=hi.own i _ ho
  have hnI: ¬I blk:=by simp only[eD,g1]at hown;exact hown.2.1 trivial
  obtain⟨⟨cs,T,lo,hi_,q1,q2,q3,q4,q5⟩,q6⟩:=fPc hown g1
  subst q2
  obtain⟨lo',hi',f1,f2,f3,f4⟩:=aSr q1 q4
  have hw: ∀k,I k→(w.freeze ⟨blk,cs.size,none⟩ 1).heap[k]? =w.heap[k]?:=fun k hk=>f4 k (fun e=>hnI (e▸hk))
  have hinv:Inv c σ I (w.freeze ⟨blk,cs.size,none⟩ 1) (upd hp i (.cells xs true)) un:=by
   refine hi.setRowG ho g1 ?_ ?_ ?_ f3 f4 q6 (fun cs2 T2 lo2 hi2 r1 r2 r3=>?_)
   ·unfold World.freeze;split<;>rfl
   ·unfold World.freeze;split<;>rfl
   ·unfold World.freeze;split<;>rfl
   rw[q1]at r1
   simp only[Option.some.injEq,Obj.cells.injEq,Prod.mk.injEq]at r1
   obtain⟨rfl,rfl,rfl,rfl⟩:=r1
   exact⟨cs,lo',hi',f1,rfl,f2,q3,q5⟩
  refine⟨_,?_,?_,hinv,⟨fun _ _=>rfl,fun _ h=>h,hw⟩⟩
  ·have hsh:w.shape? blk=some (T,cs.size):=by unfold World.shape?;rw[q1]
   simp[convert,run_underlying ht,run_underlying he,markStringish,hsh]
  exact .os i off n e' g blk base cs.size cap g1 g2 g3
theorem aLw {t:TypeId} {x:AV} {i off z:Nat} {cs xs:List AV} {mt:Bool} {a v:Value} (ha:Rel σ I w (.op i off) a) (hv:Rel σ I w x v) (hcs:dC x=some cs) (hz:eK P t=some z)
  (ho:hp i=some (.cells xs mt)) (hmt:mt=true) (hl:cs.length=z) (hfit:off+z≤xs.length) (hi:Inv c σ I w hp un):
  ∃w',(Instr.storeAt t a v).run P w=.ok () w'∧Inv c σ I w' (upd hp i (.cells (dV xs off cs) true)) un∧Grow σ I w σ I w':=by
 subst hmt
 obtain⟨blk,base,sz,hloc,rfl⟩:=dZc ha
 have hc:=fT hcs hv
 obtain⟨w',r1,r2,r3⟩:=xC (P:=P) hi (off:=off) (ys:=cs) (zs:=dV xs off cs) (us:=v.cells.toList) ho hloc (by omega) (by simpa using hc.size) hc.cell
  (fun j hj=>by have:=hc.rel j hj;rwa [←Array.toArray_toList (xs:=v.cells),fI]at this) (aDw (by omega)) (fun j=>aQt (by omega))
 refine⟨w',?_,r2,r3⟩
 have hne: ¬(v.cells.size≠z):=by rw[hc.size,hl];simp
 simp only[Instr.storeAt,Instr.sureAddr,storeVar,Sem.run_bind,Sem.run_pure,Result.andThen_ok,run_sizeOf' hz,J3 hne,r1]
theorem aLn {o:Oper} {ρA:Operand→AV} {ρ:Operand→Value} {id:Nat} {x:AV} {hp':H} (h:fR P o.op ρA hp id=some (x,hp')) (hρ: ∀y,Rel σ I w (ρA y) (ρ y))
  (hi:Inv c σ I w hp un) (hu:un id):
  ∃r w' σ' I',(execOp ρ o).run P w=.ok r w'∧((∃v,r=.value v∧Rel σ' I' w' x v)∨(r=.skip∧x=.junk))∧Inv c σ' I' w' hp' (fun k=>un k∧k≠id)∧Grow σ I w σ' I' w':=by
 obtain⟨dst,op,type,pos,after,guard⟩:=o
 simp only at h
 unfold fR at h
 split at h
 ·rename_i t a y
  have ha:=hρ a
  split at h
  ·rename_i i off eq
   rw[eq]at ha
   replace h:=aJ h;obtain⟨cs,hcs,h⟩:=h
   replace h:=aJ h;obtain⟨z,hz,h⟩:=h
   replace h:=aJ h;obtain⟨o,ho,h⟩:=h
   obtain⟨xs,mt,rfl⟩: ∃a b,o=AO.cells a b:=by cases o<;>first|exact⟨_,_,rfl⟩|(simp at h)
   simp only at h
   replace h:=aP h;obtain⟨⟨hmt,hl,hfit⟩,h⟩:=h
   obtain⟨rfl,rfl⟩:=Prod.mk.inj (J0 h)
   obtain⟨w',r1,r2,r3⟩:=aLw (P:=P) ha (hρ y) hcs hz ho hmt hl hfit hi
   exact⟨.skip,w',σ,I,cHz r1,.inr ⟨rfl,rfl⟩,r2.mono_un (fun _ h=>h.1),r3⟩
  cases h
 ·rename_i src dst' y
  replace h:=aP h;obtain⟨hs,h⟩:=h
  subst hs
  split at h
  ·rename_i e ht
   obtain⟨w',r1,r2,r3,r4⟩:=aSf (P:=P) h ht (hρ y) hi
   exact⟨.value (ρ y),w',σ,I,by simp only[execOp,Sem.run_bind,r1,Result.andThen_ok,Sem.run_pure],.inl ⟨_,rfl,r2⟩,r3.mono_un (fun _ h=>h.1),r4⟩
  cases h
 ·rename_i t
  obtain⟨rfl,rfl⟩:=Prod.mk.inj (J0 h)
  obtain⟨v,w',σ',r1,r2,r3,r4⟩:=aNs (P:=P) (t:=t) hi hu
  exact⟨.value v,w',σ',I,dVz r1,.inl ⟨_,rfl,r2⟩,r3,r4⟩
 ·rename_i t m k y
  obtain⟨w',I',r1,rfl,r2,r3⟩:=zF (P:=P) h (hρ m) (hρ k) (hρ y) hi
  exact⟨.skip,w',σ,I',cHz r1,.inr ⟨rfl,rfl⟩,r2.mono_un (fun _ h=>h.1),r3⟩
 ·rename_i t m k y
  obtain⟨w',I',r1,rfl,r2,r3⟩:=zF (P:=P) h (hρ m) (hρ k) (hρ y) hi
  exact⟨.skip,w',σ,I',cHz r1,.inr ⟨rfl,rfl⟩,r2.mono_un (fun _ h=>h.1),r3⟩
 ·rename_i cl
  obtain⟨callee,args,argTypes⟩:=cl
  simp only at h
  split at h
  ·rename_i a b t t' e1 e2
   have ea:args= #[a,b]:=by rw[←Array.toArray_toList (xs:=args),e1]
   have et:argTypes= #[t,t']:=by rw[←Array.toArray_toList (xs:=argTypes),e2]
   subst ea;subst et
   split at h
   ·rename_i hni
    obtain⟨v,w',σ',I',r1,r2,r3,r4⟩:=aLe (ty:=type) h hni (hρ a) (hρ b) hi hu
    refine⟨.value v,w',σ',I',?_,.inl ⟨v,rfl,r2⟩,r3,r4⟩
    simp only[execOp,resolve,invoke,builtin,Sem.run_bind,Sem.run_pure,Result.andThen_ok,List.map_toArray,List.map_cons,List.map_nil,r1]
   replace h:=aP h;obtain⟨hni,h⟩:=h
   obtain⟨v,w',σ',I',r1,r2,r3,r4⟩:=aFg (ty:=type) h hni (hρ a) (hρ b) hi hu
   refine⟨.value v,w',σ',I',?_,.inl ⟨v,rfl,r2⟩,r3,r4⟩
   simp only[execOp,resolve,invoke,builtin,Sem.run_bind,Sem.run_pure,Result.andThen_ok,List.map_toArray,List.map_cons,List.map_nil,r1]
  ·rename_i a b t t' e1 e2
   have ea:args= #[a,b]:=by rw[←Array.toArray_toList (xs:=args),e1]
   have et:argTypes= #[t,t']:=by rw[←Array.toArray_toList (xs:=argTypes),e2]
   subst ea;subst et
   obtain⟨v,w',r1,r2,r3,r4⟩:=aSy (P:=P) (t':=t') (ty:=type) h (hρ a) (hρ b) hi
   refine⟨.value v,w',σ,I,?_,.inl ⟨v,rfl,r2⟩,r3.mono_un (fun _ h=>h.1),r4⟩
   simp only[execOp,resolve,invoke,builtin,Sem.run_bind,Sem.run_pure,Result.andThen_ok,List.map_toArray,List.map_cons,List.map_nil,r1]
  ·rename_i a t e1 e2
   have ea:args= #[a]:=by rw[←Array.toArray_toList (xs:=args),e1]
   have et:argTypes= #[t]:=by rw[←Array.toArray_toList (xs:=argTypes),e2]
   subst ea;subst et
   obtain⟨v,w',r1,r2,r3,r4⟩:=aPh (P:=P) (ty:=type) h (hρ a) hi
   refine⟨.value v,w',σ,I,?_,.inl ⟨v,rfl,r2⟩,r3.mono_un (fun _ h=>h.1),r4⟩
   simp only[execOp,resolve,invoke,builtin,Sem.run_bind,Sem.run_pure,Result.andThen_ok,List.map_toArray,List.map_cons,List.map_nil,r1]
  ·rename_i a k t t' e1 e2
   have ea:args= #[a,k]:=by rw[←Array.toArray_toList (xs:=args),e1]
   have et:argTypes= #[t,t']:=by rw[←Array.toArray_toList (xs:=argTypes),e2]
   subst ea;subst et
   obtain⟨v,w',r1,r2,r3,r4⟩:=aSx (P:=P) (t':=t') (ty:=type) h (hρ a) (hρ k) hi
   refine⟨.value v,w',σ,I,?_,.inl ⟨v,rfl,r2⟩,r3.mono_un (fun _ h=>h.1),r4⟩
   simp only[execOp,resolve,invoke,builtin,Sem.run_bind,Sem.run_pure,Result.andThen_ok,List.map_toArray,List.map_cons,List.map_nil,r1]
  cases h
 cases h
end
end Go.AX

namespace Go.AX
open Go
def dG:List (Nat×AV)→Nat→AV
 |[],_=> .junk
 |(k,x)::r,t=>if k=t then x else dG r t
def ev (GL:Nat→Option (List AV)) (fr:List (Nat×AV)):Operand→AV
 | .tmp t=>dG fr t
 | .const v=>ofV v
 | .global g=>match GL g with|some xs=> .rp xs|none=> .junk
 | .func f=> .fn f []
def eM (dst:Option Tmp) (x:AV) (fr:List (Nat×AV)):List (Nat×AV):=
 match dst with
 |some d=>(d,x)::fr
 |none=>fr
inductive bFb where
 |pure (sc:Bool) (g:List AV→Option AV)
 |fresh (sc:Bool) (g:List AV→Option (Nat×Nat×List AV))
 |heap (g:List AV→H→Nat→Option (AV×H×Nat))
abbrev Env:=Nat→Option bFb
structure S where
 fr:List (Nat×AV)
 hp:H
 nx:Nat
 cx:Nat
def dD (hp:H) (x:AV):Option AV:=
 match x with
 | .os id off n e _=>aK (hp id) fun o=>match o with| .cells xs _=>aN (off+n*e≤xs.length) (some (.sl n ((xs.drop off).take (n*e))))|_=>none
 | .op id off=>aK (hp id) fun o=>match o with| .cells xs _=>some (.rp (xs.drop off))|_=>none
 |x=>some x
def fW (hp:H):List AV→Option (List AV)
 |[]=>some []
 |x::r=>aK (dD hp x) fun y=>aK (fW hp r) fun l=>some (y::l)
def dB (xs:List AV):Bool:=xs.all fun x=>match x with| .os ..=>false| .op ..=>false| .mp _=>false| .fn ..=>false| .agg _=>false| .tup _=>false| .v (.slice none 0 0)=>false| .pin ..=>false|_=>true
def gAb (f:AV→Option AV):List AV→Option (List AV)
 |[]=>some []
 |x::r=>aK (f x) fun y=>aK (gAb f r) fun l=>some (y::l)
def lE (f:AV→Option AV) (xs:List AV):Option (List AV):=if dB xs=true then some xs else gAb f xs
def zB:Nat→H→AV→Option AV
 |0,_,_=>none
 |n+1,hp,x=>match x with
  | .os id off m e _=>aK (hp id) fun o=>match o with
   | .cells xs _=>aN (off+m*e≤xs.length) (aK (lE (zB n hp) ((xs.drop off).take (m*e))) fun l=>some (.sl m l))
   |_=>none
  | .op id off=>aK (hp id) fun o=>match o with
   | .cells xs _=>aK (lE (zB n hp) (xs.drop off)) fun l=>some (.rp l)
   |_=>none
  | .v (.slice none 0 0)=>some (.sl 0 [])
  | .agg xs=>aK (lE (zB n hp) xs) fun l=>some (.agg l)
  | .tup xs=>aK (lE (zB n hp) xs) fun l=>some (.tup l)
  | .fn f xs=>aK (lE (zB n hp) xs) fun l=>some (.fn f l)
  | .mp _=>none
  | .pin _ x=>zB n hp x
  |x=>some x
def gR (hp:H) (xs:List AV):Option (List AV):=gAb (zB 4 hp) xs
def dW (hp:H) (x:AV):Option (AV×H):=
 match x with
 | .os id off n e _=>aK (hp id) fun o=>match o with| .cells xs _=>aN (off+n*e≤xs.length) (some (.sl n ((xs.drop off).take (n*e)),upd hp id (.cells xs false)))|_=>none
 | .op id off=>aK (hp id) fun o=>match o with| .cells xs _=>some (.rp (xs.drop off),upd hp id (.cells xs false))|_=>none
 | .v (.slice none 0 0)=>some (.sl 0 [],hp)
 |x=>some (x,hp)
def fV (hp:H):List AV→Option (List AV×H)
 |[]=>some ([],hp)
 |x::r=>aK (dW hp x) fun y=>aK (fV y.2 r) fun l=>some (y.1::l.1,l.2)
def mY (m nx n:Nat) (hp:H):H:=
 match m with
 |0=>hp
 |1=>fun _=>none
 |_=>fun id=>if nx≤id∧id<nx+n∧(m/2-1).testBit (id-nx)=false then none else hp id
def eFj (Γ:Env) (f:FuncId) (args:List AV) (m nx n:Nat) (hp:H) (id cx:Nat):Option (AV×H×Nat):=
 match Γ f with
 |some (.pure true g)=>aK (gR (mY m nx n hp) args) fun as_=>aK (g as_) fun r=>aN (r.noMem=true) (some (r,hp,cx))
 |some (.pure false g)=>if m=0 then aK (fV hp args) fun ah=>aK (g ah.1) fun r=>some (r,ah.2,cx)
   else aK (fW (fun _=>none) args) fun as_=>aK (g as_) fun r=>some (r,hp,cx)
 |some (.fresh true g)=>aK (gR (mY m nx n hp) args) fun as_=>aK (g as_) fun r=>aN (AV.noMem.noMemL r.2.2=true) (some (.os id 0 r.1 r.2.1 true,upd hp id (.cells r.2.2 true),cx))
 |some (.fresh false g)=>if m=0 then aK (fV hp args) fun ah=>aK (g ah.1) fun r=>some (.os id 0 r.1 r.2.1 true,upd ah.2 id (.cells r.2.2 true),cx)
   else aK (fW (fun _=>none) args) fun as_=>aK (g as_) fun r=>some (.os id 0 r.1 r.2.1 true,upd hp id (.cells r.2.2 true),cx)
 |some (.heap g)=>aN (m=0) (g args hp cx)
 |none=>none
def eEr (Γ:Env) (op:Op) (ρ:Operand→AV) (m nx n:Nat) (hp:H) (id cx:Nat):Option (AV×H×Nat):=
 match op with
 | .call c=>match c.callee with
  | .value f=>match ρ f with
   | .fn f caps=>eFj Γ f (c.args.toList.map ρ++caps) m nx n hp id cx
   |_=>none
  |_=>none
 |_=>none
def eff (P:Program) (Γ:Env) (op:Op) (ρ:Operand→AV) (m nx n:Nat) (hp:H) (id cx:Nat):Option (AV×H×Nat):=
 match cls P op with
 | .pure=>aK (dI P op ρ) fun x=>some (x,hp,cx)
 | .read=>aK (eKi P op ρ (mY m nx n hp)) fun x=>some (x,hp,cx)
 | .new=>aK (eEm P op ρ id) fun p=>some (p.1,upd hp id (.cells p.2 true),cx)
 | .write=>aK (fR P op ρ hp id) fun p=>some (p.1,p.2,cx)
 | .call=>eEr Γ op ρ m nx n hp id cx
def qZ (want:Bool):AV→Option Bool
 | .b x=>some (x==want)
 | .tup []=>some false
 |_=>none
def gdO (ops:Array Oper) (fr:List (Nat×AV)) (o:Oper):Option Bool:=
 match o.guard with
 |none=>some true
 |some (j,want)=>match (ops[j]?).bind (·.dst)with
  |some t=>qZ want (dG fr t)
  |none=>none
def kA (P:Program) (Γ:Env) (GL:Nat→Option (List AV)) (md:Nat→Nat) (ops:Array Oper) (k:Nat) (o:Oper) (s:S):Option S:=
 aK (gdO ops s.fr o) fun b=>match b with
  |true=>aK (eff P Γ o.op (ev GL s.fr) (md k) s.nx ops.size s.hp (s.nx+k) s.cx) fun r=>some {fr:=eM o.dst r.1 s.fr,hp:=r.2.1,nx:=s.nx,cx:=r.2.2}
  |false=>some {s with fr:=eM o.dst (.tup []) s.fr}
structure R (c:Ctx) (σ0:Nat→Loc) (I0:Nat→Prop) (w0:World) (rem:Nat→Prop) (s:S) (a:Act) (w:World):Prop where
 ex: ∃σ I,Inv c σ I w s.hp (fun id=>s.cx≤id∨(∃k,rem k∧id=s.nx+k)∨c.u0 id)∧Grow σ0 I0 w0 σ I w∧(∀t,Rel σ I w (dG s.fr t) (a.tmps.getD t undef))
 defers:a.defers=c.df
 size:a.tmps.size=c.nt
 lt: ∀k,rem k→s.nx+k<s.cx
 lt0: ∀id,c.u0 id→id<s.nx∧id<s.cx
theorem aJt {c:Ctx} {σ:Nat→Loc} {I:Nat→Prop} {w:World} {hp:H} {un:Nat→Prop} {fr:List (Nat×AV)} {a:Act} (hi:Inv c σ I w hp un) (hf: ∀t,Rel σ I w (dG fr t) (a.tmps.getD t undef)):
  ∀y,Rel σ I w (ev c.GL fr y) (a.eval y):=by
 intro y
 cases y with
 |tmp t=>exact hf t
 |const v=>exact vP v
 |global g=>
  simp only[ev,Act.eval]
  split
  ·rename_i xs h;exact hi.glob g xs h
  exact .junk _
 |func f=>exact .fn f [] #[] rfl (fun i h=>by simp at h)
theorem vT {σ:Nat→Loc} {I:Nat→Prop} {w:World} {fr:List (Nat×AV)} {a:Act} {dst:Option Tmp} {x:AV} {v:Value} {n:Nat} (hn:a.tmps.size=n) (hd: ∀d,dst=some d→d<n)
  (hx:dst.isSome=true→Rel σ I w x v) (hf: ∀t,Rel σ I w (dG fr t) (a.tmps.getD t undef)): ∀t,Rel σ I w (dG (eM dst x fr) t) ((a.put dst v).tmps.getD t undef):=by
 intro t
 cases dst with
 |none=>exact hf t
 |some d=>
  simp only[eM,dG,Act.put]
  have hlt:=hd d rfl
  split
  ·rename_i e;subst e
   have:(a.tmps.setIfInBounds d v).getD d undef=v:=by
    rw[Array.getD_eq_getD_getElem?,Array.getElem?_setIfInBounds_self_of_lt (by rw[hn];exact hlt)];rfl
   rw[this];exact hx rfl
  rename_i e
  have:(a.tmps.setIfInBounds d v).getD t undef=a.tmps.getD t undef:=by
   rw[Array.getD_eq_getD_getElem?,Array.getElem?_setIfInBounds_ne e,←Array.getD_eq_getD_getElem?]
  rw[this];exact hf t
theorem pX (a:Act) (dst:Option Tmp) (v:Value):(a.put dst v).tmps.size=a.tmps.size:=by
 cases dst<;>simp[Act.put]
theorem aDg (a:Act) (dst:Option Tmp) (v:Value):(a.put dst v).defers=a.defers:=by
 cases dst<;>rfl
def fHm (P : Program) (f : FuncId) : Prop := ∃ fn, P.funcs[f]? = some fn ∧ (fn.name == "runtime.NumGoroutine") = false ∧ fn.body.isNone = false
def fHn (P:Program) (GL:Nat→Option (List AV)) (f:FuncId) (g:List AV→Option AV):Prop:=
 ∀(σ:Nat→Loc) (I:Nat→Prop) (w:World) (nx:Nat) (args:List AV) (vals:Array Value) (r:AV),
  (∀id,nx≤id→σ id=.unset)→(∀k,I k→k<w.heap.size)→(∀g xs,GL g=some xs→Rel σ I w (.rp xs) (.pointer (some ⟨g,0,none⟩)))→
  vals.size=args.length→(∀i (_h:i<args.length),Rel σ I w args[i] (vals.getD i undef))→g args=some r→
  Calls P f vals w fun e w'=> ∃v σ' I',e=.returned v∧w'.os=w.os∧w'.tape=w.tape∧w'.output=w.output∧w.heap.size≤w'.heap.size∧(∀k,k<w.heap.size→w'.heap[k]? =w.heap[k]?)∧
   (∀id,id<nx→σ' id=σ id)∧(∀k,I' k→I k∨w.heap.size≤k)∧(∀k,I' k→k<w'.heap.size)∧Rel σ' I' w' r v
def dH (P:Program) (GL:Nat→Option (List AV)) (f:FuncId) (g:List AV→Option (Nat×Nat×List AV)):Prop:=
 ∀(σ:Nat→Loc) (I:Nat→Prop) (w:World) (nx:Nat) (args:List AV) (vals:Array Value) (n e:Nat) (xs:List AV),
  (∀id,nx≤id→σ id=.unset)→(∀k,I k→k<w.heap.size)→(∀g xs,GL g=some xs→Rel σ I w (.rp xs) (.pointer (some ⟨g,0,none⟩)))→
  vals.size=args.length→(∀i (_h:i<args.length),Rel σ I w args[i] (vals.getD i undef))→g args=some (n,e,xs)→
  Calls P f vals w fun e' w'=> ∃v σ' I',e'=.returned v∧w'.os=w.os∧w'.tape=w.tape∧w'.output=w.output∧w.heap.size≤w'.heap.size∧(∀k,k<w.heap.size→w'.heap[k]? =w.heap[k]?)∧
   (∀id,id<nx→σ' id=σ id)∧(∀k,I' k→I k∨w.heap.size≤k)∧(∀k,I' k→k<w'.heap.size)∧
   (((v=.slice none 0 0∨∃a,v=.slice (some a) 0 0)∧n=0∧xs=[])∨∃blk base sz cap,v=.slice (some ⟨blk,base,none⟩) n cap∧n≤cap∧base+cap*e≤sz∧w.heap.size≤blk∧¬I' blk∧uM σ' I' w' xs blk base sz)
def fHs (P:Program) (GL:Nat→Option (List AV)) (f:FuncId) (g:List AV→H→Nat→Option (AV×H×Nat)):Prop:=
 ∀(c:Ctx) (σ:Nat→Loc) (I:Nat→Prop) (w:World) (hp:H) (nx:Nat) (args:List AV) (vals:Array Value) (r:AV) (hp':H) (nx':Nat),
  c.GL=GL→Inv c σ I w hp (fun id=>nx≤id)→vals.size=args.length→(∀i (_h:i<args.length),Rel σ I w args[i] (vals.getD i undef))→g args hp nx=some (r,hp',nx')→
  nx≤nx'∧Calls P f vals w fun e w'=> ∃v σ' I',e=.returned v∧Inv c σ' I' w' hp' (fun id=>nx'≤id)∧Rel σ' I' w' r v∧Grow σ I w σ' I' w'∧(∀id,id<nx→σ id=.unset→σ' id=.unset)
def eT (P:Program) (GL:Nat→Option (List AV)) (Γ:Env):Prop:=
 ∀f s,Γ f=some s→fHm P f∧match s with
  | .pure _ g=>fHn P GL f g
  | .fresh _ g=>dH P GL f g
  | .heap g=>fHs P GL f g
section
variable {P : Program} {c : Ctx} {σ : Nat → Loc} {I : Nat → Prop} {w : World} {hp : H} {un : Nat → Prop}
theorem Inv.extend {w':World} (h:Inv c σ I w hp un) (hos:w'.os=w.os) (ht:w'.tape=w.tape) (ho:w'.output=w.output) (hs:w.heap.size≤w'.heap.size) (hk: ∀k,k<w.heap.size→w'.heap[k]? =w.heap[k]?)
  (I':Nat→Prop) (hI: ∀k,I k→I' k) (hI2: ∀k,I' k→I k∨(w.heap.size≤k∧k<w'.heap.size)):Inv c σ I' w' hp un:=by
 have hw: ∀k,I k→w'.heap[k]? =w.heap[k]?:=fun k hi=>hk k (h.ilt k hi)
 refine⟨h.ext,fun k hk=>hI k (h.imm k hk),fun k hi=>by rw[hw k (h.imm k hi)];exact h.iw k hi,by rw[hos];exact h.os,by rw[ht];exact h.tape,by rw[ho];exact h.output,Nat.le_trans h.size hs,
  fun k h1 h2=>by rw[hk k (by have:=h.size;omega)];exact h.old k h1 h2,fun k hi=>?_,fun id o hid=>?_,h.inj,h.lim,h.un,fun g xs hg=>(h.glob g xs hg).mono (fun _ _=>rfl) hI hw,fun k hi=>?_⟩
 ·rcases hI2 k hi with hi|hi
  ·have:=h.ilt k hi;omega
  exact hi.2
 ·exact(h.own id o hid).mono (fun _ _=>rfl) hI hw fun blk base sz e=>by
   have hlt:=(h.own id o hid).lt e
   exact⟨hk blk hlt,fun _ hn hb=>by
    rcases hI2 blk hb with hb|hb
    ·exact hn hb
    omega⟩
 rcases hI2 k hi with hi|hi
 ·exact h.inew k hi
 exact .inr (.inl (by have:=h.size;omega))
theorem sO (m nx n:Nat) (hp:H): ∀id o,mY m nx n hp id=some o→hp id=some o:=by
 intro id o h
 unfold mY at h
 split at h
 ·exact h
 ·cases h
 replace h:(if nx≤id∧id<nx+n∧(m/2-1).testBit (id-nx)=false then none else hp id)=some o:=h
 split at h
 ·cases h
 exact h
theorem Inv.adopt (h:Inv c σ I w hp un) {id:Nat} (hu:un id) {xs:List AV} {blk base sz:Nat} (hrow:uM σ I w xs blk base sz) (hnI: ¬I blk) (hlim:c.w0.heap.size≤blk)
  (hother: ∀k o blk' base' sz',hp k=some o→σ k=.at_ blk' base' sz'→blk'≠blk):
  Inv c (cU σ id (.at_ blk base sz)) I w (upd hp id (.cells xs true)) (fun k=>un k∧k≠id):=by
 have hσ:=dM (l:=.at_ blk base sz) (h.un id hu)
 have get: ∀k o,upd hp id (.cells xs true) k=some o→(k=id∧o=.cells xs true)∨(k≠id∧hp k=some o):=by
  intro k o hk
  rw[bJ]at hk
  split at hk
  ·rename_i e;exact .inl ⟨e,(J0 hk).symm⟩
  rename_i e;exact .inr ⟨e,hk⟩
 refine {h with ext:=fun k hk=>?_,own:=fun k o hk=>?_,inj:=?_,lim:=?_,un:=?_,glob:=fun g ys hg=>(h.glob g ys hg).mono hσ (fun _ h=>h) fun _ _=>rfl}
 ·have:=h.ext k hk
  rw[hσ k (by rw[this];exact hk),this]
 ·rcases get k o hk with⟨rfl,rfl⟩|⟨e1,e2⟩
  ·simp only[eD,cU,if_true]
   exact⟨hrow.mono hσ (fun _ h=>h) (fun _ _=>rfl) rfl,fun _=>hnI,fun hm=>by simp at hm⟩
  exact(h.own k o e2).mono hσ (fun _ h=>h) (fun _ _=>rfl) fun _ _ _ _=>⟨rfl,fun _ h=>h⟩
 ·intro k k' o1 o' blk1 base1 sz1 base2 sz2 h1 hm1 h2 hn e1 e2
  rcases get k _ h1 with⟨rfl,_⟩|⟨a1,a2⟩
  ·rcases get k' _ h2 with⟨rfl,_⟩|⟨b1,b2⟩
   ·exact hn rfl
   simp only[cU,if_true,Loc.at_.injEq]at e1
   simp only[cU,J3 b1]at e2
   exact hother k' o' blk1 base2 sz2 b2 e2 e1.1.symm
  simp only[cU,J3 a1]at e1
  rcases get k' _ h2 with⟨rfl,_⟩|⟨b1,b2⟩
  ·simp only[cU,if_true,Loc.at_.injEq]at e2
   exact hother k _ blk1 base1 sz1 a2 e1 e2.1.symm
  simp only[cU,J3 b1]at e2
  exact h.inj k k' o1 o' blk1 base1 sz1 base2 sz2 a2 hm1 b2 hn e1 e2
 ·intro k o1 blk1 base1 sz1 h1 hm1 e1
  rcases get k _ h1 with⟨rfl,_⟩|⟨a1,a2⟩
  ·simp only[cU,if_true,Loc.at_.injEq]at e1
   rw[←e1.1];exact .inl hlim
  simp only[cU,J3 a1]at e1
  exact h.lim k o1 blk1 base1 sz1 a2 hm1 e1
 intro k ⟨hk,hn⟩
 simp only[cU,J3 hn]
 exact h.un k hk
theorem wU {Ib:Nat→Prop} (hi:Inv c σ I w hp un) (hIb: ∀k,I k→Ib k) (hIb2: ∀id o blk base sz,hp id=some o→σ id=.at_ blk base sz→Ib blk):
  ∀ {x y:AV} {v:Value},dD hp x=some y→Rel σ I w x v→Rel σ Ib w y v:=by
 intro x y v h hr
 have hmono:Rel σ Ib w x v:=hr.mono (fun _ _=>rfl) hIb (fun _ _=>rfl)
 unfold dD at h
 split at h
 ·rename_i id off n e g
  replace h:=aJ h;obtain⟨o,ho,h⟩:=h
  obtain⟨xs,mt,rfl⟩: ∃a b,o=AO.cells a b:=by cases o<;>first|exact⟨_,_,rfl⟩|(simp at h)
  simp only at h
  replace h:=aP h;obtain⟨hfit,h⟩:=h
  obtain rfl:=J0 h
  have hown:=hi.own id _ ho
  have hlen:((xs.drop off).take (n*e)).length=n*e:=by simp;omega
  cases hr with
  |os _ _ _ _ _ blk base sz cap g1 g2 g3=>
   have hrow:=fPc hown g1
   refine .sl n _ blk (base+off) cap (fun i=>(w.cell? ⟨blk,base+off+i,none⟩).getD undef) (hIb2 id _ _ _ _ ho g1) g2 (fun i hi=>?_) (fun i hi=>?_) (fun i hi=>?_)
   ·rw[hlen]at hi
    obtain⟨v,hv,_⟩:=hrow.get (off+i) (by omega)
    rw[←Nat.add_assoc]at hv;rw[hv];rfl
   ·rw[hlen]at hi
    rw[getElem_take',getElem_drop'];exact(hrow.get (off+i) (by omega)).choose_spec.2.1
   rw[hlen]at hi
   rw[getElem_take',getElem_drop']
   obtain⟨v,hv,_,hrel⟩:=hrow.get (off+i) (by omega)
   rw[←Nat.add_assoc]at hv;rw[hv];exact hrel.mono (fun _ _=>rfl) hIb (fun _ _=>rfl)
  |osnil=>simp only[Nat.zero_mul,U1];exact .slnil
  |oszero _ _ _ _ a=>simp only[Nat.zero_mul,U1];exact .slzero a
 ·rename_i id off
  replace h:=aJ h;obtain⟨o,ho,h⟩:=h
  obtain⟨xs,mt,rfl⟩: ∃a b,o=AO.cells a b:=by cases o<;>first|exact⟨_,_,rfl⟩|(simp at h)
  simp only at h
  obtain rfl:=J0 h
  have hown:=hi.own id _ ho
  obtain⟨blk,base,sz,g1,rfl⟩:=dZc hr
  have hrow:=fPc hown g1
  refine .rp _ blk (base+off) (fun i=>(w.cell? ⟨blk,base+off+i,none⟩).getD undef) (hIb2 id _ _ _ _ ho g1) (fun i hi=>?_) (fun i hi=>?_) (fun i hi=>?_)
  ·simp at hi
   obtain⟨v,hv,_⟩:=hrow.get (off+i) (by omega)
   rw[←Nat.add_assoc]at hv;rw[hv];rfl
  ·simp at hi
   rw[getElem_drop'];exact(hrow.get (off+i) (by omega)).choose_spec.2.1
  simp at hi
  rw[getElem_drop']
  obtain⟨v,hv,_,hrel⟩:=hrow.get (off+i) (by omega)
  rw[←Nat.add_assoc]at hv;rw[hv];exact hrel.mono (fun _ _=>rfl) hIb (fun _ _=>rfl)
 obtain rfl:=J0 h
 exact hmono
theorem pQ {Ib:Nat→Prop} (hi:Inv c σ I w hp un) (hIb: ∀k,I k→Ib k) (hIb2: ∀id o blk base sz,hp id=some o→σ id=.at_ blk base sz→Ib blk):
  ∀(xs:List AV) {ys:List AV} (vs:Nat→Value),fW hp xs=some ys→(∀i (_h:i<xs.length),Rel σ I w xs[i] (vs i))→ys.length=xs.length∧∀i (_h:i<ys.length),Rel σ Ib w ys[i] (vs i)
 |[],ys,vs,h,_=>by obtain rfl:=J0 h;exact⟨rfl,fun i h=>by simp at h⟩
 |x::r,ys,vs,h,hr=>by
  simp only[fW]at h
  replace h:=aJ h;obtain⟨y,hy,h⟩:=h
  replace h:=aJ h;obtain⟨l,hl,h⟩:=h
  obtain rfl:=J0 h
  have h0:=hr 0 (by simp)
  obtain⟨e1,e2⟩:=pQ hi hIb hIb2 r (fun i=>vs (i+1)) hl (fun i hi=>by have:=hr (i+1) (by simpa using hi);simpa using this)
  refine⟨by simp[e1],fun i hi'=>?_⟩
  cases i with
  |zero=>exact wU hi hIb hIb2 hy h0
  |succ k=>exact e2 k (by simpa using hi')
theorem qH {c:Ctx} {σ:Nat→Loc} {I I':Nat→Prop} {w:World} {hp:H} {un:Nat→Prop} (hi:Inv c σ I w hp un) (hI: ∀k,I k→I' k) (hI2: ∀id o blk base sz,hp id=some o→σ id=.at_ blk base sz→I' blk):
  ∀(n:Nat) {x y:AV} {v:Value},zB n hp x=some y→Rel σ I w x v→Rel σ I' w y v∧(x.isCell=true→y.isCell=true):=by
 intro n
 induction n with
 |zero=>intro x y v h;simp[zB]at h
 |succ n ih=>
  intro x y v h hr
  have hmono: ∀ {x:AV} {v:Value},Rel σ I w x v→Rel σ I' w x v:=fun h=>h.mono (fun _ _=>rfl) hI (fun _ _=>rfl)
  have immMs: ∀(xs:List AV) {ys:List AV},gAb (zB n hp) xs=some ys→ys.length=xs.length∧∀(f:Nat→Value),(∀i (_h:i<xs.length),Rel σ I w xs[i] (f i))→∀i (_h:i<ys.length),Rel σ I' w ys[i] (f i)∧∀h2:i<xs.length,xs[i].isCell=true→ys[i].isCell=true:=by
   intro xs
   induction xs with
   |nil=>intro ys h;obtain rfl:=J0 h;exact⟨rfl,fun f _ i h=>by simp at h⟩
   |cons a r ihr=>
    intro ys h
    simp only[gAb]at h
    replace h:=aJ h;obtain⟨b,hb,h⟩:=h
    replace h:=aJ h;obtain⟨l,hl,h⟩:=h
    obtain rfl:=J0 h
    obtain⟨e1,e2⟩:=ihr hl
    refine⟨by simp[e1],fun f hf i hi'=>?_⟩
    cases i with
    |zero=>exact⟨(ih hb (hf 0 (by simp))).1,fun _ hc=>(ih hb (hf 0 (by simp))).2 hc⟩
    |succ k=>
     have:=e2 (fun i=>f (i+1)) (fun i hi=>by have:=hf (i+1) (by simpa using hi);simpa using this) k (by simpa using hi')
     exact⟨this.1,fun h2 hc=>this.2 (by simpa using h2) (by simpa using hc)⟩
  have immLs: ∀(xs:List AV) {ys:List AV},lE (zB n hp) xs=some ys→ys.length=xs.length∧∀(f:Nat→Value),(∀i (_h:i<xs.length),Rel σ I w xs[i] (f i))→∀i (_h:i<ys.length),Rel σ I' w ys[i] (f i)∧∀h2:i<xs.length,xs[i].isCell=true→ys[i].isCell=true:=by
   intro xs ys h
   unfold lE at h
   split at h
   ·obtain rfl:=J0 h
    exact⟨rfl,fun f hf i hi=>⟨hmono (hf i hi),fun _ h=>h⟩⟩
   exact immMs xs h
  have id_case:some x=some y→Rel σ I' w y v∧(x.isCell=true→y.isCell=true):=by
   intro h;obtain rfl:=J0 h;exact⟨hmono hr,fun h=>h⟩
  simp only[zB]at h
  split at h
  ·rename_i id off m e g
   replace h:=aJ h;obtain⟨o,ho,h⟩:=h
   obtain⟨xs,mt,rfl⟩: ∃a b,o=AO.cells a b:=by cases o<;>first|exact⟨_,_,rfl⟩|(simp at h)
   simp only at h
   replace h:=aP h;obtain⟨hfit,h⟩:=h
   replace h:=aJ h;obtain⟨l,hl,h⟩:=h
   obtain rfl:=J0 h
   refine⟨?_,fun _=>rfl⟩
   obtain⟨e1,e2⟩:=immLs _ hl
   have hown:=hi.own id _ ho
   have hlen:((xs.drop off).take (m*e)).length=m*e:=by simp;omega
   cases hr with
   |os _ _ _ _ _ blk base sz cap g1 g2 g3=>
    have hrow:=fPc hown g1
    have hget: ∀i (_h:i<((xs.drop off).take (m*e)).length),Rel σ I w ((xs.drop off).take (m*e))[i] ((w.cell? ⟨blk,base+off+i,none⟩).getD undef)∧w.cell? ⟨blk,base+off+i,none⟩=some ((w.cell? ⟨blk,base+off+i,none⟩).getD undef)∧((xs.drop off).take (m*e))[i].isCell=true:=by
     intro i hi
     rw[hlen]at hi
     rw[getElem_take',getElem_drop']
     obtain⟨v,hv,hc,hrel⟩:=hrow.get (off+i) (by omega)
     rw[←Nat.add_assoc]at hv
     rw[hv];exact⟨hrel,rfl,hc⟩
    have:=e2 (fun i=>(w.cell? ⟨blk,base+off+i,none⟩).getD undef) (fun i hi=>(hget i hi).1)
    exact .sl m l blk (base+off) cap _ (hI2 id _ _ _ _ ho g1) g2 (fun i hi=>(hget i (by rw[←e1];exact hi)).2.1) (fun i hi=>(this i hi).2 (by rw[←e1];exact hi) (hget i (by rw[←e1];exact hi)).2.2) (fun i hi=>(this i hi).1)
   |osnil=>
    have:l=[]:=List.eq_nil_of_length_eq_zero (by rw[e1];simp)
    subst this;exact .slnil
   |oszero _ _ _ _ a=>
    have:l=[]:=List.eq_nil_of_length_eq_zero (by rw[e1];simp)
    subst this;exact .slzero a
  ·rename_i id off
   replace h:=aJ h;obtain⟨o,ho,h⟩:=h
   obtain⟨xs,mt,rfl⟩: ∃a b,o=AO.cells a b:=by cases o<;>first|exact⟨_,_,rfl⟩|(simp at h)
   simp only at h
   replace h:=aJ h;obtain⟨l,hl,h⟩:=h
   obtain rfl:=J0 h
   refine⟨?_,fun _=>rfl⟩
   obtain⟨e1,e2⟩:=immLs _ hl
   have hown:=hi.own id _ ho
   obtain⟨blk,base,sz,g1,rfl⟩:=dZc hr
   have hrow:=fPc hown g1
   have hget: ∀i (_h:i<(xs.drop off).length),Rel σ I w (xs.drop off)[i] ((w.cell? ⟨blk,base+off+i,none⟩).getD undef)∧w.cell? ⟨blk,base+off+i,none⟩=some ((w.cell? ⟨blk,base+off+i,none⟩).getD undef)∧(xs.drop off)[i].isCell=true:=by
    intro i hi
    rw[getElem_drop']
    simp at hi
    obtain⟨v,hv,hc,hrel⟩:=hrow.get (off+i) (by omega)
    rw[←Nat.add_assoc]at hv
    rw[hv];exact⟨hrel,rfl,hc⟩
   have:=e2 (fun i=>(w.cell? ⟨blk,base+off+i,none⟩).getD undef) (fun i hi=>(hget i hi).1)
   exact .rp l blk (base+off) _ (hI2 id _ _ _ _ ho g1) (fun i hi=>(hget i (by rw[←e1];exact hi)).2.1) (fun i hi=>(this i hi).2 (by rw[←e1];exact hi) (hget i (by rw[←e1];exact hi)).2.2) (fun i hi=>(this i hi).1)
  ·obtain rfl:=J0 h
   cases hr;exact⟨.slnil,fun _=>rfl⟩
  ·rename_i xs
   replace h:=aJ h;obtain⟨l,hl,h⟩:=h
   obtain rfl:=J0 h
   obtain⟨e1,e2⟩:=immLs _ hl
   refine⟨?_,fun h=>h⟩
   cases hr with
   |agg _ vs h1 h2 h3=>
    have:=e2 (fun i=>vs.getD i undef) h3
    exact .agg _ vs (by rw[h1,e1]) (fun i hi=>(this i hi).2 (by rw[←e1];exact hi) (h2 i (by rw[←e1];exact hi))) (fun i hi=>(this i hi).1)
  ·rename_i xs
   replace h:=aJ h;obtain⟨l,hl,h⟩:=h
   obtain rfl:=J0 h
   obtain⟨e1,e2⟩:=immLs _ hl
   refine⟨?_,fun h=>h⟩
   cases hr with
   |tup _ vs h1 h3=>
    have:=e2 (fun i=>vs.getD i undef) h3
    exact .tup _ vs (by rw[h1,e1]) (fun i hi=>(this i hi).1)
  ·rename_i f xs
   replace h:=aJ h;obtain⟨l,hl,h⟩:=h
   obtain rfl:=J0 h
   obtain⟨e1,e2⟩:=immLs _ hl
   refine⟨?_,fun _=>rfl⟩
   cases hr with
   |fn _ _ vs h1 h3=>
    have:=e2 (fun i=>vs.getD i undef) h3
    exact .fn _ _ vs (by rw[h1,e1]) (fun i hi=>(this i hi).1)
  ·cases h
  ·cases hr with
   |pin _ _ hx=>
    obtain⟨a1,_⟩:=ih h hx
    exact⟨a1,fun hc=>by simp[AV.isCell]at hc⟩
  exact id_case h
theorem pR {Ib:Nat→Prop} (hi:Inv c σ I w hp un) (hIb: ∀k,I k→Ib k) (hIb2: ∀id o blk base sz,hp id=some o→σ id=.at_ blk base sz→Ib blk):
  ∀(xs:List AV) {ys:List AV} (vs:Nat→Value),gR hp xs=some ys→(∀i (_h:i<xs.length),Rel σ I w xs[i] (vs i))→ys.length=xs.length∧∀i (_h:i<ys.length),Rel σ Ib w ys[i] (vs i)
 |[],ys,vs,h,_=>by obtain rfl:=J0 h;exact⟨rfl,fun i h=>by simp at h⟩
 |x::r,ys,vs,h,hr=>by
  simp only[gR,gAb]at h
  replace h:=aJ h;obtain⟨y,hy,h⟩:=h
  replace h:=aJ h;obtain⟨l,hl,h⟩:=h
  obtain rfl:=J0 h
  have h0:=hr 0 (by simp)
  obtain⟨e1,e2⟩:=pR hi hIb hIb2 r (fun i=>vs (i+1)) hl (fun i hi=>by have:=hr (i+1) (by simpa using hi);simpa using this)
  refine⟨by simp[e1],fun i hi'=>?_⟩
  cases i with
  |zero=>exact(qH hi hIb hIb2 4 hy h0).1
  |succ k=>exact e2 k (by simpa using hi')
theorem Inv.freeze' (h:Inv c σ I w hp un) {id:Nat} {xs:List AV} {mt:Bool} (ho:hp id=some (.cells xs mt)):
  ∃I',(∀k,I k→I' k)∧Inv c σ I' w (upd hp id (.cells xs false)) un:=by
 cases mt with
 |true=>obtain⟨I',a,_,b⟩:=h.freeze ho;exact⟨I',a,b⟩
 |false=>
  refine⟨I,fun _ h=>h,?_⟩
  have:upd hp id (.cells xs false)=hp:=by
   funext k;rw[bJ];split
   ·rename_i e;rw[e,ho]
   rfl
  rw[this];exact h
theorem gN {x:AV} {v:Value} {p:AV×H} (h:dW hp x=some p) (hi:Inv c σ I w hp un) (hr:Rel σ I w x v):
  ∃I',(∀k,I k→I' k)∧Inv c σ I' w p.2 un∧Rel σ I' w p.1 v:=by
 have key: ∀id xs mt,hp id=some (.cells xs mt)→∀y,dD hp x=some y→p=(y,upd hp id (.cells xs false))→((∃off n e g,x=.os id off n e g)∨(∃off,x=.op id off))→
   ∃I',(∀k,I k→I' k)∧Inv c σ I' w p.2 un∧Rel σ I' w p.1 v:=by
  intro id xs mt ho y hy hp' hx
  subst hp'
  obtain⟨I',a1,a2⟩:=hi.freeze' ho
  refine⟨I',a1,a2,?_⟩
  have hpid:upd hp id (.cells xs false) id=some (.cells xs false):=by rw[bJ,J4 rfl]
  have hy':dD (fun k=>if k=id then some (.cells xs false)else none) x=some y:=by
   rcases hx with⟨off,n,e,g,rfl⟩|⟨off,rfl⟩
   ·simp only[dD,ho,aX,J4]at hy⊢;exact hy
   ·simp only[dD,ho,aX,J4]at hy⊢;exact hy
  have hsub:Inv c σ I' w (fun k=>if k=id then some (.cells xs false)else none) un:=a2.sub (fun k o hk=>by
   split at hk
   ·rename_i e;rw[bJ,J4 e];exact hk
   ·cases hk)
  refine wU hsub (fun _ h=>h) (fun id' o blk base sz e1 e2=>?_) hy' (hr.mono (fun _ _=>rfl) a1 (fun _ _=>rfl))
  split at e1
  ·rename_i e;subst e
   obtain rfl:=J0 e1
   have:=hsub.own id' (.cells xs false) (by simp only[J4])
   simp only[eD,e2]at this
   exact this.2.2 trivial
  ·cases e1
 unfold dW at h
 split at h
 ·rename_i id off n e g
  replace h:=aJ h;obtain⟨o,ho,h⟩:=h
  obtain⟨xs,mt,rfl⟩: ∃a b,o=AO.cells a b:=by cases o<;>first|exact⟨_,_,rfl⟩|(simp at h)
  simp only at h
  replace h:=aP h;obtain⟨hfit,h⟩:=h
  obtain rfl:=J0 h
  exact key id xs mt ho _ (by simp only[dD,ho,aX];rw[eE _ hfit]) rfl (.inl ⟨_,_,_,_,rfl⟩)
 ·rename_i id off
  replace h:=aJ h;obtain⟨o,ho,h⟩:=h
  obtain⟨xs,mt,rfl⟩: ∃a b,o=AO.cells a b:=by cases o<;>first|exact⟨_,_,rfl⟩|(simp at h)
  simp only at h
  obtain rfl:=J0 h
  exact key id xs mt ho _ (by simp only[dD,ho,aX]) rfl (.inr ⟨_,rfl⟩)
 ·obtain rfl:=J0 h
  cases hr;exact⟨I,fun _ h=>h,hi,.slnil⟩
 obtain rfl:=J0 h
 exact⟨I,fun _ h=>h,hi,hr⟩
theorem pO: ∀(xs:List AV) {hp:H} {I:Nat→Prop} {p:List AV×H} (vs:Nat→Value),fV hp xs=some p→Inv c σ I w hp un→(∀i (_h:i<xs.length),Rel σ I w xs[i] (vs i))→
  ∃I',(∀k,I k→I' k)∧Inv c σ I' w p.2 un∧p.1.length=xs.length∧∀i (_h:i<p.1.length),Rel σ I' w p.1[i] (vs i)
 |[],hp,I,p,vs,h,hi,_=>by obtain rfl:=J0 h;exact⟨I,fun _ h=>h,hi,rfl,fun i h=>by simp at h⟩
 |x::r,hp,I,p,vs,h,hi,hr=>by
  simp only[fV]at h
  replace h:=aJ h;obtain⟨y,hy,h⟩:=h
  replace h:=aJ h;obtain⟨l,hl,h⟩:=h
  obtain rfl:=J0 h
  obtain⟨I1,a1,a2,a3⟩:=gN hy hi (hr 0 (by simp))
  obtain⟨I2,b1,b2,b3,b4⟩:=pO r (fun i=>vs (i+1)) hl a2 (fun i hi=>by have:=hr (i+1) (by simpa using hi);simp only[List.getElem_cons_succ]at this;exact this.mono (fun _ _=>rfl) a1 (fun _ _=>rfl))
  refine⟨I2,fun k hk=>b1 k (a1 k hk),b2,by simp[b3],fun i hi'=>?_⟩
  cases i with
  |zero=>exact a3.mono (fun _ _=>rfl) b1 (fun _ _=>rfl)
  |succ k=>exact b4 k (by simpa using hi')
end
end Go.AX

namespace Go.AX
open Go
section
variable {P : Program} {Γ : Env} {c : Ctx} {σ0 : Nat → Loc} {I0 : Nat → Prop} {w0 : World} {rem : Nat → Prop} {s : S} {a : Act} {w : World} {ops : Array Oper}
theorem aHc {j:Nat} {g want:Bool} {t:Tmp} (ht:(ops[j]?).bind (·.dst)=some t) (h:qZ want (dG s.fr t)=some g) {σ:Nat→Loc} {I:Nat→Prop} (hf: ∀t,Rel σ I w (dG s.fr t) (a.tmps.getD t undef)):(yielded ops a.tmps j==some want)=g:=by
 unfold qZ at h
 split at h
 ·rename_i x hx
  obtain rfl:=J0 h
  have:=hf t
  rw[hx]at this
  have hv:=bQs this
  have hlt:t<a.tmps.size:=by
   rcases Nat.lt_or_ge t a.tmps.size with h|h
   ·exact h
   rw[Array.getD_eq_getD_getElem?,Array.getElem?_eq_none h]at hv;cases hv
  rw[Array.getD_eq_getD_getElem?,Array.getElem?_eq_getElem hlt]at hv
  simp only[Option.getD_some]at hv
  simp[yielded,ht,Option.bind_some,Array.getElem?_eq_getElem hlt,hv]
 ·rename_i hx
  obtain rfl:=J0 h
  have:=hf t
  rw[hx]at this
  have hv: ∃vs,a.tmps.getD t undef=.tuple vs:=by
   generalize a.tmps.getD t undef=v at this
   cases this;exact⟨_,rfl⟩
  obtain⟨vs,hv⟩:=hv
  simp only[yielded,ht,Option.bind_some]
  rw[Array.getD_eq_getD_getElem?]at hv
  cases e:a.tmps[t]? with
  |none=>rfl
  |some v=>rw[e]at hv;simp only[Option.getD_some]at hv;subst hv;rfl
 cases h
theorem aHy {k:Nat} (hk:rem k) (hlt: ∀k,rem k→s.nx+k<s.cx) (hlt0: ∀id,c.u0 id→id<s.nx∧id<s.cx) {σ:Nat→Loc} {I:Nat→Prop} {hp:H}
  (h:Inv c σ I w hp (fun id=>(s.cx≤id∨(∃k,rem k∧id=s.nx+k)∨c.u0 id)∧id≠s.nx+k)):Inv c σ I w hp (fun id=>s.cx≤id∨(∃m,(rem m∧m≠k)∧id=s.nx+m)∨c.u0 id):=
 h.mono_un fun id hid=>by
  rcases hid with hid|⟨m,⟨hm,hne⟩,rfl⟩|hid
  ·have:=hlt k hk;exact⟨.inl hid,by omega⟩
  ·exact⟨.inr (.inl ⟨m,hm,rfl⟩),by omega⟩
  ·have:=hlt0 id hid;exact⟨.inr (.inr hid),by omega⟩
theorem aCy {σ:Nat→Loc} {I Iw:Nat→Prop} {w':World} {hp:H} {un:Nat→Prop} {id cx nn ee:Nat} {xs:List AV} {v:Value} {I1:Nat→Prop} (hext:Inv c σ I w' hp (fun k=>cx≤k∨un k)) (hid:un id)
  (hsz:c.w0.heap.size≤w.heap.size) (_hI1: ∀k,Iw k→k<w.heap.size) (hlt: ∀k o blk base sz,hp k=some o→σ k=.at_ blk base sz→blk<w.heap.size) (hgr:Grow σ I1 w σ I w')
  (hv:((v=.slice none 0 0∨∃a,v=.slice (some a) 0 0)∧nn=0∧xs=[])∨∃blk base sz cap,v=.slice (some ⟨blk,base,none⟩) nn cap∧nn≤cap∧base+cap*ee≤sz∧w.heap.size≤blk∧¬I blk∧uM σ I w' xs blk base sz) (hunl: ∀k,cx≤k→k≠id):
  ∃v0 σ' I',(Ending.returned v)=.returned v0∧Inv c σ' I' w' (upd hp id (.cells xs true)) (fun k=>cx≤k∨(un k∧k≠id))∧Rel σ' I' w' (.os id 0 nn ee true) v0∧Grow σ I1 w σ' I' w':=by
 have hu:(fun k=>cx≤k∨un k) id:=.inr hid
 have hunm: ∀k,(cx≤k∨(un k∧k≠id))→((cx≤k∨un k)∧k≠id):=by
  intro k hk
  rcases hk with hk|hk
  ·exact⟨.inl hk,hunl k hk⟩
  exact⟨.inr hk.1,hk.2⟩
 rcases hv with⟨hv,rfl,rfl⟩|⟨blk,base,sz,cap,rfl,b2,b3,b4,b5,b6⟩
 ·refine⟨_,_,I,rfl,(hext.newNil hu).mono_un hunm,?_,hgr.trans ⟨dM (hext.un id hu),fun _ h=>h,fun _ _=>rfl⟩⟩
  rcases hv with rfl|⟨a,rfl⟩
  ·exact .osnil _ _ _ (by simp[cU])
  exact .oszero _ _ _ _ _ (by simp[cU])
 refine⟨_,_,I,rfl,(hext.adopt hu b6 b5 (by omega) (fun k o blk' base' sz' h1 h2 e=>?_)).mono_un hunm,?_,hgr.trans ⟨dM (hext.un id hu),fun _ h=>h,fun _ _=>rfl⟩⟩
 ·have:=hlt k o blk' base' sz' h1 h2;omega
 exact .os id 0 nn ee true blk base sz cap (by simp[cU]) b2 (fun _=>by omega)
theorem aTg {op:Op} {type:TypeId} {dst:Option Tmp} {pos:String} {after:Array Edge} {guard:Option (Nat×Bool)} {ρA:Operand→AV} {ρ:Operand→Value} {σ:Nat→Loc} {I:Nat→Prop} {hp hp':H} {m nx n id cx cx':Nat} {x:AV} {un:Nat→Prop}
  (hΓ:eT P c.GL Γ) (h:eEr Γ op ρA m nx n hp id cx=some (x,hp',cx')) (hρ: ∀y,Rel σ I w (ρA y) (ρ y)) (hi:Inv c σ I w hp (fun id=>cx≤id∨un id)) (hun: ∀id,un id→id<cx) (hid:un id):
  cx≤cx'∧∃f vals,(execOp ρ {dst,op,type,pos,after,guard}).run P w=.ok (.enter f vals) w∧Calls P f vals w fun e w'=> ∃v σ' I',e=.returned v∧Inv c σ' I' w' hp' (fun k=>cx'≤k∨(un k∧k≠id))∧Rel σ' I' w' x v∧Grow σ I w σ' I' w':=by
 have keepU: ∀ {σ':Nat→Loc} {I':Nat→Prop} {w':World} {hp':H} {cx':Nat},Inv c σ' I' w' hp' (fun k=>cx'≤k∨un k)→Inv c σ' I' w' hp' (fun k=>cx'≤k∨(un k∧k≠id)):=
  fun h=>h.mono_un fun k hk=>hk.imp (fun h=>h) (fun h=>h.1)
 have hunl: ∀k,cx≤k→k≠id:=fun k hk e=>by have:=hun id hid;omega
 unfold eEr at h
 split at h
 rotate_left
 ·cases h
 rename_i cl
 obtain⟨callee,cargs,argTypes⟩:=cl
 simp only at h
 split at h
 rotate_left
 ·cases h
 rename_i fo
 split at h
 rotate_left
 ·cases h
 rename_i f caps hfo
 have hfv:=hρ fo
 rw[hfo]at hfv
 have hfn: ∃vs,ρ fo=.func (.func f) #[] vs∧vs.size=caps.length∧∀i (_h:i<caps.length),Rel σ I w caps[i] (vs.getD i undef):=by
  generalize ρ fo=u at hfv
  cases hfv with
  |fn _ _ vs h1 h2=>exact⟨vs,rfl,h1,h2⟩
 obtain⟨vs,hv,hvs,hvr⟩:=hfn
 have hsize:(cargs.map ρ++vs).size=(cargs.toList.map ρA++caps).length:=by simp[hvs]
 have hargs: ∀i (_h:i<(cargs.toList.map ρA++caps).length),Rel σ I w (cargs.toList.map ρA++caps)[i] ((cargs.map ρ++vs).getD i undef):=by
  intro i hi'
  rw[List.getElem_append]
  rw[Array.getD_eq_getD_getElem?,Array.getElem?_append]
  split
  ·rename_i hlt
   rw[J4 (by simpa using hlt)]
   have:=aAc (l:=cargs.toList) hρ i hlt
   rw[fI,List.getD_eq_getElem?_getD]at this
   have e:(Array.map ρ cargs)[i]? =(List.map ρ cargs.toList)[i]?:=by rw[←Array.toList_map,Array.getElem?_toList]
   rw[e];exact this
  rename_i hge
  rw[J3 (by simpa using hge)]
  simp only[List.length_map,Array.length_toList,Array.size_map]at hge⊢
  have:=hvr (i-cargs.size) (by simp at hi';omega)
  rw[Array.getD_eq_getD_getElem?]at this
  exact this
 have hrun:fHm P f→(execOp ρ {dst:=dst,op:=.call {callee:=.value fo,args:=cargs,argTypes:=argTypes},type:=type,pos:=pos,after:=after,guard:=guard}).run P w=.ok (.enter f (cargs.map ρ++vs)) w:=by
  rintro⟨fn,h1,h2,h3⟩
  simp only[execOp,resolve,hv,Deferred.ofValue,Array.empty_append,Sem.run_bind,Sem.run_pure,Result.andThen_ok,invoke,callFunc,run_program,h1,h2,h3,Bool.false_eq_true,if_false]
 generalize hA:cargs.toList.map ρA++caps=A at h hsize hargs
 generalize hV:cargs.map ρ++vs=V at hrun hsize hargs
 unfold eFj at h
 split at h
 ·rename_i g hg
  obtain⟨hcall,hok⟩:=hΓ f _ hg
  replace h:=aJ h;obtain⟨as_,has,h⟩:=h
  replace h:=aJ h;obtain⟨r,hr,h⟩:=h
  replace h:=aP h;obtain⟨hnm,h⟩:=h
  simp only[Option.some.injEq,Prod.mk.injEq]at h;obtain⟨rfl,rfl,rfl⟩:=h
  refine⟨U3 _,f,V,hrun hcall,?_⟩
  have hIb: ∀k,I k→(I k∨∃id o base sz,hp id=some o∧σ id=.at_ k base sz):=fun k hk=> .inl hk
  obtain⟨e1,e2⟩:=pR (Ib:=fun k=>I k∨∃id o base sz,hp id=some o∧σ id=.at_ k base sz) (hi.sub (sO m nx n hp)) hIb (fun id o blk base sz h1 h2=> .inr ⟨id,o,base,sz,sO m nx n hp id o h1,h2⟩) A (fun i=>V.getD i undef) has hargs
  refine(hok σ (fun k=>I k∨∃id o base sz,hp id=some o∧σ id=.at_ k base sz) w cx as_ V r (fun id hid=>hi.un id (.inl hid)) (fun k hk=>?_) (fun g xs hgl=>(hi.glob g xs hgl).mono (fun _ _=>rfl) hIb (fun _ _=>rfl)) (by rw[hsize,e1]) e2 hr).mono ?_
  ·rcases hk with hk|⟨id,o,base,sz,h1,h2⟩
   ·exact hi.ilt k hk
   exact(hi.own id o h1).lt h2
  rintro e w' ⟨v,σ',I',rfl,a1,a2,a3,a4,a5,_,_,_,a9⟩
  exact⟨v,σ,I,rfl,keepU (hi.extend a1 a2 a3 a4 a5 I (fun _ h=>h) (fun _ h=> .inl h)),a9.noMem hnm,⟨fun _ _=>rfl,fun _ h=>h,fun k hk=>a5 k (hi.ilt k hk)⟩⟩
 ·rename_i g hg
  obtain⟨hcall,hok⟩:=hΓ f _ hg
  have fin: ∀(I1:Nat→Prop) (as_:List AV) (hp1:H) (r:AV),(∀k,I k→I1 k)→Inv c σ I1 w hp1 (fun id=>cx≤id∨un id)→as_.length=A.length→(∀i (_h:i<as_.length),Rel σ I1 w as_[i] (V.getD i undef))→g as_=some r→
    Calls P f V w fun e w'=> ∃v σ' I',e=.returned v∧Inv c σ' I' w' hp1 (fun k=>cx≤k∨(un k∧k≠id))∧Rel σ' I' w' r v∧Grow σ I w σ' I' w':=by
   intro I1 as_ hp1 r b1 b2 b3 b4 hr
   refine(hok σ I1 w (max cx r.ids) as_ V r (fun id hid=>b2.un id (.inl (by omega))) b2.ilt b2.glob (by rw[hsize,b3]) b4 hr).mono ?_
   rintro e w' ⟨v,σ',I',rfl,a1,a2,a3,a4,a5,a6,a7,a8,a9⟩
   have hg1: ∀k,I1 k→(I1 k∨(w.heap.size≤k∧k<w'.heap.size)):=fun k hk=> .inl hk
   refine⟨v,σ,fun k=>I1 k∨(w.heap.size≤k∧k<w'.heap.size),rfl,keepU (b2.extend a1 a2 a3 a4 a5 _ hg1 (fun _ h=>h)),?_,⟨fun _ _=>rfl,fun k hk=> .inl (b1 k hk),fun k hk=>a5 k (hi.ilt k hk)⟩⟩
   have h9:Rel σ I' w' r v:=a9.congr_ids fun id hid=>(a6 id (by omega)).symm
   exact h9.mono (fun _ _=>rfl) (fun k hk=>by
    rcases a7 k hk with h|h
    ·exact .inl h
    ·exact .inr ⟨h,a8 k hk⟩) (fun _ _=>rfl)
  split at h
  ·replace h:=aJ h;obtain⟨ah,hah,h⟩:=h
   replace h:=aJ h;obtain⟨r,hr,h⟩:=h
   obtain⟨as_,hp1⟩:=ah
   simp only[Option.some.injEq,Prod.mk.injEq]at h;obtain⟨rfl,rfl,rfl⟩:=h
   refine⟨U3 _,f,V,hrun hcall,?_⟩
   obtain⟨I1,b1,b2,b3,b4⟩:=pO A (fun i=>V.getD i undef) hah hi hargs
   exact fin I1 as_ hp1 r b1 b2 b3 b4 hr
  replace h:=aJ h;obtain⟨as_,has,h⟩:=h
  replace h:=aJ h;obtain⟨r,hr,h⟩:=h
  simp only[Option.some.injEq,Prod.mk.injEq]at h;obtain⟨rfl,rfl,rfl⟩:=h
  refine⟨U3 _,f,V,hrun hcall,?_⟩
  obtain⟨e1,e2⟩:=pQ (Ib:=I) (hp:=fun _=>none) (hi.sub (fun id o h=>by cases h)) (fun _ h=>h) (fun id o blk base sz h1 h2=>by cases h1) A (fun i=>V.getD i undef) has hargs
  exact fin I as_ hp r (fun _ h=>h) hi e1 e2 hr
 ·rename_i g hg
  obtain⟨hcall,hok⟩:=hΓ f _ hg
  replace h:=aJ h;obtain⟨as_,has,h⟩:=h
  replace h:=aJ h;obtain⟨r,hr,h⟩:=h
  replace h:=aP h;obtain⟨hnm,h⟩:=h
  obtain⟨nn,ee,xs⟩:=r
  simp only[Option.some.injEq,Prod.mk.injEq]at h;obtain⟨rfl,rfl,rfl⟩:=h
  refine⟨U3 _,f,V,hrun hcall,?_⟩
  have hIb: ∀k,I k→(I k∨∃id o base sz,hp id=some o∧σ id=.at_ k base sz):=fun k hk=> .inl hk
  obtain⟨e1,e2⟩:=pR (Ib:=fun k=>I k∨∃id o base sz,hp id=some o∧σ id=.at_ k base sz) (hi.sub (sO m nx n hp)) hIb (fun id o blk base sz h1 h2=> .inr ⟨id,o,base,sz,sO m nx n hp id o h1,h2⟩) A (fun i=>V.getD i undef) has hargs
  refine(hok σ (fun k=>I k∨∃id o base sz,hp id=some o∧σ id=.at_ k base sz) w cx as_ V nn ee xs (fun id hid=>hi.un id (.inl hid)) (fun k hk=>?_) (fun g xs hgl=>(hi.glob g xs hgl).mono (fun _ _=>rfl) hIb (fun _ _=>rfl)) (by rw[hsize,e1]) e2 hr).mono ?_
  ·rcases hk with hk|⟨id,o,base,sz,h1,h2⟩
   ·exact hi.ilt k hk
   exact(hi.own id o h1).lt h2
  rintro e w' ⟨v,σ',I',rfl,a1,a2,a3,a4,a5,_,_,_,a9⟩
  have hext:=hi.extend a1 a2 a3 a4 a5 I (fun _ h=>h) (fun _ h=> .inl h)
  have hgr:Grow σ I w σ I w':=⟨fun _ _=>rfl,fun _ h=>h,fun k hk=>a5 k (hi.ilt k hk)⟩
  refine aCy (Iw:=I) hext hid hi.size hi.ilt (fun k o blk base sz h1 h2=>(hi.own k o h1).lt h2) hgr ?_ hunl
  rcases a9 with a9|⟨blk,base,sz,cap,b1,b2,b3,b4,b5,b6⟩
  ·exact .inl a9
  refine .inr ⟨blk,base,sz,cap,b1,b2,b3,b4,fun hb=>by have:=hi.ilt blk hb;omega,?_⟩
  obtain⟨⟨cs,T,lo,hi',q1,q2,q3,q4,q5⟩,q6⟩:=b6
  exact⟨⟨cs,T,lo,hi',q1,q2,q3,q4,fun i hi''=>(q5 i hi'').noMem (AV.noMem_get xs hnm i hi'')⟩,q6⟩
 ·rename_i g hg
  obtain⟨hcall,hok⟩:=hΓ f _ hg
  have fin: ∀(I1:Nat→Prop) (as_:List AV) (hp1:H) (nn ee:Nat) (xs:List AV),(∀k,I k→I1 k)→Inv c σ I1 w hp1 (fun id=>cx≤id∨un id)→as_.length=A.length→(∀i (_h:i<as_.length),Rel σ I1 w as_[i] (V.getD i undef))→g as_=some (nn,ee,xs)→
    Calls P f V w fun e w'=> ∃v σ' I',e=.returned v∧Inv c σ' I' w' (upd hp1 id (.cells xs true)) (fun k=>cx≤k∨(un k∧k≠id))∧Rel σ' I' w' (.os id 0 nn ee true) v∧Grow σ I w σ' I' w':=by
   intro I1 as_ hp1 nn ee xs b1 b2 b3 b4 hr
   refine(hok σ I1 w (max cx (AV.ids.idsL xs)) as_ V nn ee xs (fun id hid=>b2.un id (.inl (by omega))) b2.ilt b2.glob (by rw[hsize,b3]) b4 hr).mono ?_
   rintro e w' ⟨v,σ',I',rfl,a1,a2,a3,a4,a5,a6,a7,a8,a9⟩
   have hI2: ∀k,I1 k→(I1 k∨(w.heap.size≤k∧k<w'.heap.size∧I' k)):=fun k hk=> .inl hk
   have hext:=b2.extend a1 a2 a3 a4 a5 (fun k=>I1 k∨(w.heap.size≤k∧k<w'.heap.size∧I' k)) hI2 (fun k hk=>hk.imp (fun h=>h) (fun h=>⟨h.1,h.2.1⟩))
   have hgr:Grow σ I w σ (fun k=>I1 k∨(w.heap.size≤k∧k<w'.heap.size∧I' k)) w':=⟨fun _ _=>rfl,fun k hk=> .inl (b1 k hk),fun k hk=>a5 k (hi.ilt k hk)⟩
   refine aCy (Iw:=I1) hext hid hi.size b2.ilt (fun k o blk base sz h1 h2=>(b2.own k o h1).lt h2) hgr ?_ hunl
   rcases a9 with a9|⟨blk,base,sz,cap,c1,c2,c3,c4,c5,c6⟩
   ·exact .inl a9
   ·refine .inr ⟨blk,base,sz,cap,c1,c2,c3,c4,fun hb=>hb.elim (fun h=>by have:=b2.ilt blk h;omega) (fun h=>c5 h.2.2),?_⟩
    obtain⟨⟨cs,T,lo,hi',q1,q2,q3,q4,q5⟩,q6⟩:=c6
    refine⟨⟨cs,T,lo,hi',q1,q2,q3,q4,fun i hi''=>?_⟩,q6⟩
    have h9:=(q5 i hi'').congr_ids (σ':=σ) fun id hid=>(a6 id (by have:=AV.ids_get xs i hi'';omega)).symm
    exact h9.mono (fun _ _=>rfl) (fun k hk=>by
     rcases a7 k hk with h|h
     ·exact .inl h
     ·exact .inr ⟨h,a8 k hk,hk⟩) (fun _ _=>rfl)
  split at h
  ·replace h:=aJ h;obtain⟨ah,hah,h⟩:=h
   replace h:=aJ h;obtain⟨r,hr,h⟩:=h
   obtain⟨as_,hp1⟩:=ah
   obtain⟨nn,ee,xs⟩:=r
   simp only[Option.some.injEq,Prod.mk.injEq]at h;obtain⟨rfl,rfl,rfl⟩:=h
   refine⟨U3 _,f,V,hrun hcall,?_⟩
   obtain⟨I1,b1,b2,b3,b4⟩:=pO A (fun i=>V.getD i undef) hah hi hargs
   exact fin I1 as_ hp1 nn ee xs b1 b2 b3 b4 hr
  replace h:=aJ h;obtain⟨as_,has,h⟩:=h
  replace h:=aJ h;obtain⟨r,hr,h⟩:=h
  obtain⟨nn,ee,xs⟩:=r
  simp only[Option.some.injEq,Prod.mk.injEq]at h;obtain⟨rfl,rfl,rfl⟩:=h
  refine⟨U3 _,f,V,hrun hcall,?_⟩
  obtain⟨e1,e2⟩:=pQ (Ib:=I) (hp:=fun _=>none) (hi.sub (fun id o h=>by cases h)) (fun _ h=>h) (fun id o blk base sz h1 h2=>by cases h1) A (fun i=>V.getD i undef) has hargs
  exact fin I as_ hp nn ee xs (fun _ h=>h) hi e1 e2 hr
 ·rename_i g hg
  obtain⟨hcall,hok⟩:=hΓ f _ hg
  replace h:=aP h;obtain⟨_,h⟩:=h
  obtain⟨k1,k2⟩:=hok c σ I w hp cx A V x hp' cx' rfl (hi.mono_un fun id hid=> .inl hid) hsize hargs h
  refine⟨k1,f,V,hrun hcall,k2.mono ?_⟩
  rintro e w' ⟨v,σ',I',rfl,a1,a2,a3,a4⟩
  refine⟨v,σ',I',rfl,keepU ?_,a2,a3⟩
  have hu': ∀id,(cx'≤id∨un id)→σ' id=.unset:=by
   intro id hid
   rcases hid with hid|hid
   ·exact a1.un id hid
   exact a4 id (hun id hid) (hi.un id (.inr hid))
  exact {a1 with un:=hu'}
 cases h
theorem fX {k:Nat} {md:Nat→Nat} {o:Oper} {s':S} {K:Act→World→Prop} {Q:Exit→Act→World→Prop} (hΓ:eT P c.GL Γ) (h:kA P Γ c.GL md ops k o s=some s') (hdst: ∀d,o.dst=some d→d<c.nt) (hk:rem k)
  (hR:R c σ0 I0 w0 rem s a w) (hK: ∀a' w',R c σ0 I0 w0 (fun m=>rem m∧m≠k) s' a' w'→K a' w'):
  if Region.wanted o (yielded ops a.tmps)then o.wp P a w K Q else K (a.put o.dst undef) w:=by
 obtain⟨⟨σ,I,hi,hg,hf⟩,hd,hsz,hlt,hlt0⟩:=hR
 have hρ:=aJt hi hf
 have hun: ∀id,((∃m,rem m∧id=s.nx+m)∨c.u0 id)→id<s.cx:=by
  rintro id (⟨m,hm,rfl⟩|h)
  ·exact hlt m hm
  exact(hlt0 id h).2
 have run: ∀r,eff P Γ o.op (ev c.GL s.fr) (md k) s.nx ops.size s.hp (s.nx+k) s.cx=some r→s'= {fr:=eM o.dst r.1 s.fr,hp:=r.2.1,nx:=s.nx,cx:=r.2.2}→o.wp P a w K Q:=by
  intro r hr hs'
  subst hs'
  obtain⟨x,hp',cx'⟩:=r
  have fin: ∀(v:Value) (w':World) (σ':Nat→Loc) (I':Nat→Prop),s.cx≤cx'→Inv c σ' I' w' hp' (fun id=>cx'≤id∨(∃m,(rem m∧m≠k)∧id=s.nx+m)∨c.u0 id)→(o.dst.isSome=true→Rel σ' I' w' x v)→Grow σ I w σ' I' w'→K (a.put o.dst v) w':=by
   intro v w' σ' I' hcx hinv hrel hgr
   refine hK _ _ ⟨⟨σ',I',hinv,hg.trans hgr,?_⟩,by rw[aDg];exact hd,by rw[pX];exact hsz,fun m hm=>?_,fun id hid=>?_⟩
   ·exact vT hsz hdst hrel (fun t=>(hf t).grow hgr)
   ·have:=hlt m hm.1;show s.nx+m<cx';omega
   have:=hlt0 id hid;show id<s.nx∧id<cx';omega
  have keep: ∀ {σ':Nat→Loc} {I':Nat→Prop} {w':World} {hp':H} {cx':Nat},Inv c σ' I' w' hp' (fun id=>cx'≤id∨(∃m,rem m∧id=s.nx+m)∨c.u0 id)→Inv c σ' I' w' hp' (fun id=>cx'≤id∨(∃m,(rem m∧m≠k)∧id=s.nx+m)∨c.u0 id):=
   fun h=>h.mono_un fun id hid=>hid.imp (fun h=>h) (fun h=>h.imp (fun⟨m,hm,e⟩=>⟨m,hm.1,e⟩) (fun h=>h))
  have hu:(fun id=>s.cx≤id∨(∃k,rem k∧id=s.nx+k)∨c.u0 id) (s.nx+k):=.inr (.inl ⟨k,hk,rfl⟩)
  unfold Oper.wp
  unfold eff at hr
  split at hr
  ·replace hr:=aJ hr;obtain⟨y,hy,hr⟩:=hr
   simp only[Option.some.injEq,Prod.mk.injEq]at hr;obtain⟨rfl,rfl,rfl⟩:=hr
   obtain⟨v,hrun,hrel⟩:=aRm (P:=P) hy hρ
   rw[hrun]
   exact fin v w σ I (U3 _) (keep hi) (fun _=>hrel) (Grow.refl _ _ _)
  ·replace hr:=aJ hr;obtain⟨y,hy,hr⟩:=hr
   simp only[Option.some.injEq,Prod.mk.injEq]at hr;obtain⟨rfl,rfl,rfl⟩:=hr
   obtain⟨v,hrun,hrel⟩:=aRk (P:=P) hy hρ (fun id o h=>hi.own id o (sO _ _ _ _ id o h))
   rw[hrun]
   exact fin v w σ I (U3 _) (keep hi) (fun _=>hrel) (Grow.refl _ _ _)
  ·replace hr:=aJ hr;obtain⟨y,hy,hr⟩:=hr
   simp only[Option.some.injEq,Prod.mk.injEq]at hr;obtain⟨rfl,rfl,rfl⟩:=hr
   obtain⟨y1,y2⟩:=y
   obtain⟨v,w',σ',hrun,hinv,hrel,hgr⟩:=bAh (P:=P) hy hρ hi hu
   rw[hrun]
   exact fin v w' σ' I (U3 _) (aHy hk hlt hlt0 hinv) (fun _=>hrel) hgr
  ·replace hr:=aJ hr;obtain⟨y,hy,hr⟩:=hr
   simp only[Option.some.injEq,Prod.mk.injEq]at hr;obtain⟨rfl,rfl,rfl⟩:=hr
   obtain⟨y1,y2⟩:=y
   obtain⟨r,w',σ',I',hrun,hres,hinv,hgr⟩:=aLn (P:=P) hy hρ hi hu
   rw[hrun]
   rcases hres with⟨v,rfl,hrel⟩|⟨rfl,rfl⟩
   ·exact fin v w' σ' I' (U3 _) (aHy hk hlt hlt0 hinv) (fun _=>hrel) hgr
   exact fin undef w' σ' I' (U3 _) (aHy hk hlt hlt0 hinv) (fun _=> .junk _) hgr
  obtain⟨dst,op,type,pos,after,guard⟩:=o
  obtain⟨hle,f,vals,hrun,hcalls⟩:=aTg (type:=type) (dst:=dst) (pos:=pos) (after:=after) (guard:=guard) hΓ hr hρ hi hun (.inl ⟨k,hk,rfl⟩)
  rw[hrun]
  refine hcalls.mono ?_
  rintro e w' ⟨v,σ',I',rfl,hinv,hrel,hgr⟩
  exact fin v w' σ' I' hle (hinv.mono_un fun id hid=>hid.imp (fun h=>h) (fun h=>by
   rcases h with⟨q,hq,e⟩|h
   ·exact⟨.inl ⟨q,hq.1,e⟩,by have:=hq.2;omega⟩
   have:=hlt0 id h;exact⟨.inr h,by omega⟩)) (fun _=>hrel) hgr
 unfold kA at h
 replace h:=aJ h;obtain⟨b,hb,h⟩:=h
 have hw:Region.wanted o (yielded ops a.tmps)=b:=by
  unfold gdO at hb
  cases hgd:o.guard with
  |none=>rw[hgd]at hb;obtain rfl:=J0 hb;simp[Region.wanted,hgd]
  |some jw=>
   obtain⟨j,want⟩:=jw
   rw[hgd]at hb
   simp only at hb
   split at hb
   ·rename_i t ht
    simp only[Region.wanted,hgd]
    exact aHc ht hb hf
   cases hb
 cases b with
 |true=>
  replace h:=aJ h;obtain⟨r,hr,h⟩:=h
  rw[J4 hw]
  exact run r hr (J0 h).symm
 |false=>
  obtain rfl:=J0 h
  rw[J3 (by rw[hw];simp)]
  refine hK _ _ ⟨⟨σ,I,hi.mono_un fun id hid=>hid.imp (fun h=>h) (fun h=>h.imp (fun⟨m,hm,e⟩=>⟨m,hm.1,e⟩) (fun h=>h)),hg,vT hsz hdst (fun _=> .tup _ _ rfl (fun i h=>by simp at h)) hf⟩,by rw[aDg];exact hd,by rw[pX];exact hsz,fun m hm=>hlt m hm.1,hlt0⟩
end
end Go.AX

namespace Go.AX
open Go
def oT (P:Program) (Γ:Env) (GL:Nat→Option (List AV)) (md:Nat→Nat) (ops:Array Oper):Nat→List Oper→S→Option S
 |_,[],s=>some s
 |k,o::r,s=>aK (kA P Γ GL md ops k o s) fun s'=>oT P Γ GL md ops (k+1) r s'
def cX (n:Nat) (s:S):S:= {s with nx:=s.cx,cx:=s.cx+n}
def fK (nt:Nat) (ops:List Oper):Bool:=ops.all fun o=>match o.dst with|some d=>d<nt|none=>true
section
variable {P : Program} {Γ : Env} {c : Ctx} {σ0 : Nat → Loc} {I0 : Nat → Prop} {w0 : World} {md : Nat → Nat}
theorem R.un {rem rem':Nat→Prop} {s:S} {a:Act} {w:World} (h:R c σ0 I0 w0 rem s a w) (hr: ∀k,rem' k→rem k):R c σ0 I0 w0 rem' s a w:=by
 obtain⟨⟨σ,I,a1,a2,a3⟩,b,d,e,e0⟩:=h
 exact⟨⟨σ,I,a1.mono_un fun id hid=>hid.imp (fun h=>h) (fun h=>h.imp (fun⟨k,hk,e⟩=>⟨k,hr k hk,e⟩) (fun h=>h)),a2,a3⟩,b,d,fun k hk=>e k (hr k hk),e0⟩
theorem R.enter {s:S} {a:Act} {w:World} (n:Nat) (h:R c σ0 I0 w0 (fun _=>False) s a w):R c σ0 I0 w0 (fun k=>k<n) (cX n s) a w:=by
 obtain⟨⟨σ,I,a1,a2,a3⟩,b,d,e,e0⟩:=h
 refine⟨⟨σ,I,a1.mono_un fun id hid=>?_,a2,a3⟩,b,d,fun k hk=>by simp only[cX];omega,fun id hid=>by simp only[cX];have:=e0 id hid;omega⟩
 simp only[cX]at hid
 rcases hid with hid|⟨k,hk,hid⟩|hid
 ·exact .inl (by omega)
 ·exact .inl (by omega)
 exact .inr (.inr hid)
theorem R.world {rem:Nat→Prop} {s:S} {a:Act} {w w':World} (h:R c σ0 I0 w0 rem s a w) (h1:w'.heap=w.heap) (h2:w'.os=w.os) (h3:w'.tape=w.tape) (h4:w'.output=w.output):R c σ0 I0 w0 rem s a w':=by
 obtain⟨⟨σ,I,a1,a2,a3⟩,b,d,e,e0⟩:=h
 exact⟨⟨σ,I,a1.world h1 h2 h3 h4,⟨a2.loc,a2.imm,fun k hk=>by rw[h1];exact a2.heap k hk⟩,fun t=>(a3 t).world h1⟩,b,d,e,e0⟩
theorem lU {nt:Nat} {ops:List Oper} (h:fK nt ops=true) {o:Oper} (ho:o∈ops): ∀d,o.dst=some d→d<nt:=by
 intro d hd
 have:=List.all_eq_true.1 h o ho
 simpa [hd]using this
theorem aBp (hΓ:eT P c.GL Γ) {ops:Array Oper} {Q:Exit→Act→World→Prop} (hdst:fK c.nt ops.toList=true) {s':S} (hQ: ∀a' w',R c σ0 I0 w0 (fun _=>False) s' a' w'→Q .normal a' w'):
  ∀(l:List Oper) (k:Nat) (s:S) (a:Act) (w:World),(∀o∈l,o∈ops.toList)→k+l.length=ops.size→oT P Γ c.GL md ops k l s=some s'→R c σ0 I0 w0 (fun m=>k≤m∧m<ops.size) s a w→wpList P ops Q l a w
 |[],k,s,a,w,_,hk,h,hR=>by
  obtain rfl:=J0 h
  simp at hk
  exact hQ _ _ (hR.un fun m hm=>hm.elim)
 |o::r,k,s,a,w,hmem,hk,h,hR=>by
  simp only[oT]at h
  replace h:=aJ h;obtain⟨s1,hs1,h⟩:=h
  simp only[List.length_cons]at hk
  have:=fX (K:=wpList P ops Q r) (Q:=Q) hΓ hs1 (lU hdst (hmem o (by simp))) (rem:=fun m=>k≤m∧m<ops.size) ⟨U3 _,by omega⟩ hR (fun a' w' hR'=>
   aBp hΓ hdst hQ r (k+1) s1 a' w' (fun o ho=>hmem o (by simp[ho])) (by omega) h (hR'.un fun m hm=>⟨⟨by omega,hm.2⟩,by omega⟩))
  unfold wpList
  split
  ·rename_i hw;rw[J4 hw]at this;exact .inl this
  ·rename_i hw;rw[J3 hw]at this;exact this
theorem aIp (hΓ:eT P c.GL Γ) {id:Nat} {ops:Array Oper} {Q:Exit→Act→World→Prop} (hdst:fK c.nt ops.toList=true) {s s':S} {a:Act} {w:World}
  (h:oT P Γ c.GL md ops 0 ops.toList (cX ops.size s)=some s') (hR:R c σ0 I0 w0 (fun _=>False) s a w) (hQ: ∀a' w',R c σ0 I0 w0 (fun _=>False) s' a' w'→Q .normal a' w'):
  (Code.region id ops false).wp P Q a w:=
 wp_region_list (aBp hΓ hdst hQ ops.toList 0 _ a w (fun _ h=>h) (by simp) h ((hR.enter ops.size).un fun _ hm=>hm.2))
end
def fVo (s t:S):Prop:=(∀k,dG s.fr k=dG t.fr k)∧s.hp=t.hp∧s.nx=t.nx∧s.cx=t.cx
theorem fVo.refl (s:S):fVo s s:=⟨fun _=>rfl,rfl,rfl,rfl⟩
theorem fVo.symm {s t:S} (h:fVo s t):fVo t s:=⟨fun k=>(h.1 k).symm,h.2.1.symm,h.2.2.1.symm,h.2.2.2.symm⟩
theorem fVo.trans {s t u:S} (h:fVo s t) (g:fVo t u):fVo s u:=⟨fun k=>(h.1 k).trans (g.1 k),h.2.1.trans g.2.1,h.2.2.1.trans g.2.2.1,h.2.2.2.trans g.2.2.2⟩
theorem bNk {GL:Nat→Option (List AV)} {fr fr':List (Nat×AV)} (h: ∀k,dG fr k=dG fr' k):ev GL fr=ev GL fr':=by
 funext y;cases y<;>simp[ev,h]
theorem aXd {ops:Array Oper} {fr fr':List (Nat×AV)} (h: ∀k,dG fr k=dG fr' k) (o:Oper):gdO ops fr o=gdO ops fr' o:=by
 unfold gdO;simp only[h]
theorem sI (dst:Option Tmp) (x:AV) (fr:List (Nat×AV)) (t:Nat):dG (eM dst x fr) t=if dst=some t then x else dG fr t:=by
 cases dst with
 |none=>simp[eM]
 |some d=>simp only[eM,dG,Option.some.injEq]
section
variable {P : Program} {Γ : Env} {GL : Nat → Option (List AV)} {md : Nat → Nat} {ops : Array Oper}
theorem aFn {k:Nat} {o:Oper} {s t s':S} (h:kA P Γ GL md ops k o s=some s') (he:fVo s t): ∃t',kA P Γ GL md ops k o t=some t'∧fVo s' t':=by
 obtain⟨e1,e2,e3,e4⟩:=he
 unfold kA at h⊢
 rw[←aXd e1 o,←bNk e1,←e2,←e3,←e4]
 replace h:=aJ h;obtain⟨b,hb,h⟩:=h
 rw[hb,aX]
 cases b with
 |true=>
  replace h:=aJ h;obtain⟨r,hr,h⟩:=h
  obtain rfl:=J0 h
  simp only[hr,aX]
  exact⟨_,rfl,fun k=>by simp only[sI,e1],rfl,rfl,rfl⟩
 |false=>
  obtain rfl:=J0 h
  exact⟨_,rfl,fun k=>by simp only[sI,e1],rfl,rfl,rfl⟩
inductive Dc where|P|M (k:Nat)|W
 deriving DecidableEq
def tI (P:Program) (Γ:Env) (m:Nat) (op:Op):Dc:=
 match cls P op with
 | .pure=> .P
 | .read=>if m=0 then .W else if m=1 then .P else .M (m/2-1)
 | .new=> .M 0
 | .write=> .W
 | .call=>match op with
  | .call c=>match c.callee with
   | .value (.func f)=>match Γ f with
    |some (.pure true _)=>if m=0 then .W else if m=1 then .P else .M (m/2-1)
    |some (.pure false _)=>if m=0 then .W else .P
    |some (.fresh _ _)=>if m=0 then .W else .M (m/2-1)
    |_=> .W
   |_=> .W
  |_=> .W
def eEq (i j:Nat) (a b:Dc):Bool:=
 match a,b with
 | .P,_=>true
 |_,.P=>true
 | .M k,.M l=> !k.testBit j&& !l.testBit i
 |_,_=>false
def sW (hp:H) (id:Nat) (oo:Option AO):H:=match oo with|some o=>upd hp id o|none=>hp
def aHb (k nx n:Nat) (hp:H):H:=fun id=>if nx≤id∧id<nx+n∧k.testBit (id-nx)=false then none else hp id
theorem aAe {m nx n:Nat} (h0: ¬m=0) (h1: ¬m=1) (hp:H):mY m nx n hp=aHb (m/2-1) nx n hp:=by
 unfold mY;split<;>first|omega|rfl
theorem aOj (nx n:Nat) (hp:H):mY 1 nx n hp=fun _=>none:=rfl
theorem aDd {m nx n:Nat} {op:Op} {ρ:Operand→AV} (hf: ∀f,ρ (.func f)=.fn f []) (h:tI P Γ m op=.P) (hp hp2:H) (id id2 cx cx2:Nat) {r:AV×H×Nat} (hr:eff P Γ op ρ m nx n hp id cx=some r):
  r.2=(hp,cx)∧eff P Γ op ρ m nx n hp2 id2 cx2=some (r.1,hp2,cx2):=by
 unfold tI at h
 unfold eff at hr⊢
 cases hc:cls P op with
 |pure=>
  simp only[hc]at hr⊢
  replace hr:=aJ hr;obtain⟨x,hx,hr⟩:=hr
  obtain rfl:=J0 hr
  exact⟨rfl,by rw[hx];rfl⟩
 |read=>
  simp only[hc]at h hr⊢
  split at h
  ·cases h
  split at h
  ·rename_i h1;subst h1
   simp only[aOj]at hr⊢
   replace hr:=aJ hr;obtain⟨x,hx,hr⟩:=hr
   obtain rfl:=J0 hr
   exact⟨rfl,by rw[hx];rfl⟩
  cases h
 |new=>simp[hc]at h
 |write=>simp[hc]at h
 |call=>
  simp only[hc]at h hr⊢
  cases op with
  |call c=>
   obtain⟨callee,args,ats⟩:=c
   simp only at h
   cases callee with
   |value fo=>
    cases fo with
    |func f=>
     simp only at h
     simp only[eEr,hf]at hr⊢
     unfold eFj at hr⊢
     cases hΓ:Γ f with
     |none=>simp[hΓ]at h
     |some sp=>
      cases sp with
      |heap g=>simp[hΓ]at h
      |fresh sc g=>simp only[hΓ]at h;split at h<;>cases h
      |pure sc g=>
       cases sc with
       |true=>
        simp only[hΓ]at h hr⊢
        split at h
        ·cases h
        split at h
        ·rename_i h1;subst h1
         simp only[aOj]at hr⊢
         replace hr:=aJ hr;obtain⟨x,hx,hr⟩:=hr
         replace hr:=aJ hr;obtain⟨y,hy,hr⟩:=hr
         replace hr:=aP hr;obtain⟨hn,hr⟩:=hr
         obtain rfl:=J0 hr
         exact⟨rfl,by rw[hx,aX,hy,aX,eE _ hn]⟩
        cases h
       |false=>
        simp only[hΓ]at h hr⊢
        split at h
        ·cases h
        rename_i h0
        rw[J3 h0]at hr⊢
        replace hr:=aJ hr;obtain⟨x,hx,hr⟩:=hr
        replace hr:=aJ hr;obtain⟨y,hy,hr⟩:=hr
        obtain rfl:=J0 hr
        exact⟨rfl,by rw[hx,aX,hy,aX]⟩
    |_=>cases h
   |_=>cases h
  |_=>cases h
theorem bNu {m nx n k:Nat} {op:Op} {ρ:Operand→AV} (hf: ∀f,ρ (.func f)=.fn f []) (h:tI P Γ m op=.M k) (hp hp2:H) (hh:aHb k nx n hp2=aHb k nx n hp) (id cx cx2:Nat) {r:AV×H×Nat} (hr:eff P Γ op ρ m nx n hp id cx=some r):
  ∃oo,r.2=(sW hp id oo,cx)∧eff P Γ op ρ m nx n hp2 id cx2=some (r.1,sW hp2 id oo,cx2):=by
 unfold tI at h
 unfold eff at hr⊢
 cases hc:cls P op with
 |pure=>simp[hc]at h
 |read=>
  simp only[hc]at h hr⊢
  split at h
  ·cases h
  split at h
  ·cases h
  rename_i h0 h1
  obtain rfl:=Dc.M.inj h
  rw[aAe h0 h1]at hr⊢
  replace hr:=aJ hr;obtain⟨x,hx,hr⟩:=hr
  obtain rfl:=J0 hr
  exact⟨none,rfl,by rw[hh,hx];rfl⟩
 |new=>
  simp only[hc]at hr⊢
  replace hr:=aJ hr;obtain⟨x,hx,hr⟩:=hr
  obtain rfl:=J0 hr
  exact⟨some _,rfl,by rw[hx];rfl⟩
 |write=>simp[hc]at h
 |call=>
  simp only[hc]at h hr⊢
  cases op with
  |call c=>
   obtain⟨callee,args,ats⟩:=c
   simp only at h
   cases callee with
   |value fo=>
    cases fo with
    |func f=>
     simp only at h
     simp only[eEr,hf]at hr⊢
     unfold eFj at hr⊢
     cases hΓ:Γ f with
     |none=>simp[hΓ]at h
     |some sp=>
      cases sp with
      |heap g=>simp[hΓ]at h
      |pure sc g=>
       cases sc with
       |true=>
        simp only[hΓ]at h hr⊢
        split at h
        ·cases h
        split at h
        ·cases h
        rename_i h0 h1
        obtain rfl:=Dc.M.inj h
        rw[aAe h0 h1]at hr⊢
        replace hr:=aJ hr;obtain⟨x,hx,hr⟩:=hr
        replace hr:=aJ hr;obtain⟨y,hy,hr⟩:=hr
        replace hr:=aP hr;obtain⟨hn,hr⟩:=hr
        obtain rfl:=J0 hr
        exact⟨none,rfl,by rw[hh,hx,aX,hy,aX,eE _ hn];rfl⟩
       |false=>simp only[hΓ]at h;split at h<;>cases h
      |fresh sc g=>
       simp only[hΓ]at h
       split at h
       ·cases h
       rename_i h0
       obtain rfl:=Dc.M.inj h
       cases sc with
       |true=>
        simp only[hΓ]at hr⊢
        have hs:mY m nx n hp2=mY m nx n hp:=by
         by_cases h1:m=1
         ·subst h1;rfl
         rw[aAe h0 h1,aAe h0 h1,hh]
        rw[hs]
        replace hr:=aJ hr;obtain⟨x,hx,hr⟩:=hr
        replace hr:=aJ hr;obtain⟨y,hy,hr⟩:=hr
        replace hr:=aP hr;obtain⟨hn,hr⟩:=hr
        obtain rfl:=J0 hr
        exact⟨some _,rfl,by rw[hx,aX,hy,aX,eE _ hn];rfl⟩
       |false=>
        simp only[hΓ]at hr⊢
        rw[J3 h0]at hr⊢
        replace hr:=aJ hr;obtain⟨x,hx,hr⟩:=hr
        replace hr:=aJ hr;obtain⟨y,hy,hr⟩:=hr
        obtain rfl:=J0 hr
        exact⟨some _,rfl,by rw[hx,aX,hy,aX];rfl⟩
    |_=>cases h
   |_=>cases h
  |_=>cases h
theorem yZ {ρ ρ':Operand→AV} {parts:Array (Nat×Operand)} (h: ∀y∈(parts.toList.map (·.2)).toArray,ρ y=ρ' y):(parts.toList.map fun p=>(p.1,ρ p.2))=parts.toList.map fun p=>(p.1,ρ' p.2):=by
 apply List.map_congr_left
 intro p hp
 rw[h p.2 (by simp only[List.mem_toArray,List.mem_map];exact⟨p,hp,rfl⟩)]
theorem qS {ρ ρ':Operand→AV} {x:Option Operand} (h: ∀y∈x.toArray,ρ y=ρ' y):x.map ρ=x.map ρ':=by
 cases x with
 |none=>rfl
 |some y=>simp only[Option.map_some];rw[h y (by simp)]
theorem aDo {ρ ρ':Operand→AV} {args:Array Operand} (h: ∀y∈args,ρ y=ρ' y):args.toList.map ρ=args.toList.map ρ':=
 List.map_congr_left fun y hy=>h y (Array.mem_toList_iff.1 hy)
theorem aIv {op:Op} {ρ ρ':Operand→AV} (h: ∀y∈op.operands,ρ y=ρ' y):dI P op ρ=dI P op ρ':=by
 cases op with
 |build t parts=>simp only[Op.operands]at h;simp only[dI,yZ h]
 |makeFunc fn first captured=>
  simp only[Op.operands,Array.mem_append]at h
  cases fn<;>simp only[dI,aDo (fun y hy=>h y (.inr hy))]
 |typeAssert x xt t ok=>
  have hx:ρ x=ρ' x:=h x (by simp[Op.operands])
  cases ok<;>simp only[dI,hx]
 |slice t x lo hi mx=>
  simp only[Op.operands,Array.mem_append]at h
  cases mx with
  |none=>simp only[dI,h x (.inl (.inl (.inl (by simp)))),qS (fun y hy=>h y (.inl (.inl (.inr hy)))),qS (fun y hy=>h y (.inl (.inr hy)))]
  |some m=>simp only[dI,h x (.inl (.inl (.inl (by simp)))),qS (fun y hy=>h y (.inl (.inl (.inr hy)))),qS (fun y hy=>h y (.inl (.inr hy))),h m (.inr (by simp))]
 |call c=>
  obtain⟨callee,args,ats⟩:=c
  have hA: ∀y∈args.toList,ρ y=ρ' y:=fun y hy=>h y (by simp only[Op.operands,Call.operands,Array.mem_append];exact .inr (Array.mem_toList_iff.1 hy))
  simp only[dI,aAi]
  split
  ·rename_i x t ts e1 e2;rw[hA x (by rw[e1];simp)]
  ·rename_i x y e1;rw[hA x (by rw[e1];simp),hA y (by rw[e1];simp)]
  ·rename_i x y e1;rw[hA x (by rw[e1];simp),hA y (by rw[e1];simp)]
  ·rename_i x t ts e1 e2;rw[hA x (by rw[e1];simp)]
  rfl
 |_=>simp_all [Op.operands,dI]
theorem aIq {op:Op} {ρ ρ':Operand→AV} (hp:H) (h: ∀y∈op.operands,ρ y=ρ' y):eKi P op ρ hp=eKi P op ρ' hp:=by
 cases op with
 |call c=>
  obtain⟨callee,args,ats⟩:=c
  have hA: ∀y∈args.toList,ρ y=ρ' y:=fun y hy=>h y (by simp only[Op.operands,Call.operands,Array.mem_append];exact .inr (Array.mem_toList_iff.1 hy))
  simp only[eKi]
  split
  ·rename_i x t e1 e2;rw[hA x (by rw[e1];simp)]
  rfl
 |_=>first|rfl|simp_all [Op.operands,eKi]
theorem aNi {op:Op} {ρ ρ':Operand→AV} (id:Nat) (h: ∀y∈op.operands,ρ y=ρ' y):eEm P op ρ id=eEm P op ρ' id:=by
 cases op with
 |buildSlice t len parts=>simp only[Op.operands]at h;simp only[eEm,yZ h]
 |_=>first|rfl|simp_all [Op.operands,eEm]
theorem aDv {op:Op} {ρ ρ':Operand→AV} (hp:H) (id:Nat) (h: ∀y∈op.operands,ρ y=ρ' y):fR P op ρ hp id=fR P op ρ' hp id:=by
 cases op with
 |call c=>
  obtain⟨callee,args,ats⟩:=c
  have hA: ∀y∈args.toList,ρ y=ρ' y:=fun y hy=>h y (by simp only[Op.operands,Call.operands,Array.mem_append];exact .inr (Array.mem_toList_iff.1 hy))
  simp only[fR]
  split
  ·rename_i x y t t' e1 e2;rw[hA x (by rw[e1];simp),hA y (by rw[e1];simp)]
  ·rename_i x y t t' e1 e2;rw[hA x (by rw[e1];simp),hA y (by rw[e1];simp)]
  ·rename_i x t e1 e2;rw[hA x (by rw[e1];simp)]
  ·rename_i x y t t' e1 e2;rw[hA x (by rw[e1];simp),hA y (by rw[e1];simp)]
  rfl
 |makeMap t r=>cases r<;>rfl
 |_=>first|rfl|simp_all [Op.operands,fR]
theorem aKc {op:Op} {ρ ρ':Operand→AV} (m nx n:Nat) (hp:H) (id cx:Nat) (h: ∀y∈op.operands,ρ y=ρ' y):eEr Γ op ρ m nx n hp id cx=eEr Γ op ρ' m nx n hp id cx:=by
 cases op with
 |call c=>
  obtain⟨callee,args,ats⟩:=c
  have hA: ∀y∈args,ρ y=ρ' y:=fun y hy=>h y (by simp only[Op.operands,Call.operands,Array.mem_append];exact .inr hy)
  simp only[eEr,aDo hA]
  cases callee with
  |value f=>simp only[h f (by simp[Op.operands,Call.operands])]
  |_=>rfl
 |_=>rfl
theorem kI {op:Op} {ρ ρ':Operand→AV} (m nx n:Nat) (hp:H) (id cx:Nat) (h: ∀y∈op.operands,ρ y=ρ' y):eff P Γ op ρ m nx n hp id cx=eff P Γ op ρ' m nx n hp id cx:=by
 unfold eff
 rw[aIv h,aIq _ h,aNi _ h,aDv _ _ h,aKc _ _ _ _ _ _ h]
theorem kO {d:Option Tmp} {x:AV} {fr:List (Nat×AV)} {o:Oper} (h: ∀t,d=some t→t∉o.looksAt ops): ∀y∈o.op.operands,ev GL (eM d x fr) y=ev GL fr y:=by
 intro y hy
 cases y with
 |tmp t=>
  simp only[ev,sI]
  rw[J3]
  intro e
  refine h t e ?_
  simp only[Oper.looksAt,List.mem_append,List.mem_filterMap]
  exact .inl ⟨.tmp t,by simpa using hy,rfl⟩
 |_=>rfl
theorem jT {d:Option Tmp} {x:AV} {fr:List (Nat×AV)} {o:Oper} (h: ∀t,d=some t→t∉o.looksAt ops):gdO ops (eM d x fr) o=gdO ops fr o:=by
 unfold gdO
 cases hg:o.guard with
 |none=>rfl
 |some jw=>
  obtain⟨j,want⟩:=jw
  simp only
  cases ht:(ops[j]?).bind (·.dst)with
  |none=>rfl
  |some t=>
   simp only[sI]
   rw[J3]
   intro e
   refine h t e ?_
   simp only[Oper.looksAt,hg,ht,List.mem_append]
   exact .inr (by simp)
theorem jV {d e:Option Tmp} (h: ∀t,d=some t→e≠some t) (x y:AV) (fr:List (Nat×AV)) (t:Nat):dG (eM e y (eM d x fr)) t=dG (eM d x (eM e y fr)) t:=by
 simp only[sI]
 by_cases h1:e=some t
 ·rw[J4 h1]
  by_cases h2:d=some t
  ·exact absurd h1 (h t h2)
  rw[J3 h2,J4 h1]
 rw[J3 h1]
 by_cases h2:d=some t
 ·simp[h2]
 simp[h1,h2]
theorem bEu {hp:H} {i j:Nat} (h:i≠j) (a b:Option AO):sW (sW hp i a) j b=sW (sW hp j b) i a:=by
 cases a with
 |none=>rfl
 |some a=>
  cases b with
  |none=>rfl
  |some b=>
   funext k
   simp only[sW,bJ]
   by_cases h1:k=j
   ·subst h1;rw[J4 rfl,J3 (Ne.symm h)]
    try simp
   rw[J3 h1]
   by_cases h2:k=i
   ·simp[h2]
   simp[h1,h2]
theorem aHa {m nx n k:Nat} (hp:H) (hk:k<n) (hm:m.testBit k=false) (oo:Option AO):aHb m nx n (sW hp (nx+k) oo)=aHb m nx n hp:=by
 cases oo with
 |none=>rfl
 |some o=>
  funext id
  simp only[aHb,sW,bJ]
  by_cases h1:nx≤id∧id<nx+n∧m.testBit (id-nx)=false
  ·rw[J4 h1,J4 h1]
  rw[J3 h1,J3 h1,J3 (fun e=>h1 (by subst e;exact⟨by omega,by omega,by rw[Nat.add_sub_cancel_left];exact hm⟩))]
theorem aYt {i j:Nat} {x y:Oper} {s s1 s2:S} (hap:x.apart ops y=true) (hc:eEq i j (tI P Γ (md i) x.op) (tI P Γ (md j) y.op)=true) (hij:i≠j) (hi:i<ops.size) (hj:j<ops.size)
  (h1:kA P Γ GL md ops i x s=some s1) (h2:kA P Γ GL md ops j y s1=some s2):
  ∃t1 t2,kA P Γ GL md ops j y s=some t1∧kA P Γ GL md ops i x t1=some t2∧fVo s2 t2:=by
 obtain⟨a1,a2,a3⟩:=Oper.apart_spec hap
 have hfn: ∀fr f,ev GL fr (.func f)=.fn f []:=fun _ _=>rfl
 unfold kA at h1 h2⊢
 replace h1:=aJ h1;obtain⟨bx,hbx,h1⟩:=h1
 replace h2:=aJ h2;obtain⟨by',hby,h2⟩:=h2
 have idne:s.nx+i≠s.nx+j:=by omega
 cases bx with
 |false=>
  obtain rfl:=J0 h1
  simp only at hby h2
  rw[jT a1]at hby
  rw[hby,aX]
  cases by' with
  |false=>
   obtain rfl:=J0 h2
   refine⟨_,{fr:=eM x.dst (.tup []) (eM y.dst (.tup []) s.fr),hp:=s.hp,nx:=s.nx,cx:=s.cx},rfl,?_,?_⟩
   ·simp only[];rw[jT a3,hbx,aX]
   exact⟨fun t=>jV a2 _ _ _ t,rfl,rfl,rfl⟩
  |true=>
   replace h2:=aJ h2;obtain⟨r,hr,h2⟩:=h2
   obtain rfl:=J0 h2
   rw[kI _ _ _ _ _ _ (kO a1)]at hr
   simp only[hr,aX]
   refine⟨_,{fr:=eM x.dst (.tup []) (eM y.dst r.1 s.fr),hp:=r.2.1,nx:=s.nx,cx:=r.2.2},rfl,?_,?_⟩
   ·simp only[];rw[jT a3,hbx,aX]
   exact⟨fun t=>jV a2 _ _ _ t,rfl,rfl,rfl⟩
 |true=>
  replace h1:=aJ h1;obtain⟨rx,hrx,h1⟩:=h1
  obtain rfl:=J0 h1
  simp only at hby h2
  rw[jT a1]at hby
  rw[hby,aX]
  cases by' with
  |false=>
   obtain rfl:=J0 h2
   refine⟨_,{fr:=eM x.dst rx.1 (eM y.dst (.tup []) s.fr),hp:=rx.2.1,nx:=s.nx,cx:=rx.2.2},rfl,?_,?_⟩
   ·simp only[]
    rw[jT a3,hbx,aX]
    simp only[]
    rw[kI _ _ _ _ _ _ (kO a3),hrx,aX]
   exact⟨fun t=>jV a2 _ _ _ t,rfl,rfl,rfl⟩
  |true=>
   replace h2:=aJ h2;obtain⟨ry,hry,h2⟩:=h2
   obtain rfl:=J0 h2
   rw[kI _ _ _ _ _ _ (kO a1)]at hry
   have fin: ∀(hp1:H) (cx1:Nat),eff P Γ y.op (ev GL s.fr) (md j) s.nx ops.size s.hp (s.nx+j) s.cx=some (ry.1,hp1,cx1)→
     eff P Γ x.op (ev GL s.fr) (md i) s.nx ops.size hp1 (s.nx+i) cx1=some (rx.1,ry.2.1,ry.2.2)→
     ∃t1 t2,(aK (eff P Γ y.op (ev GL s.fr) (md j) s.nx ops.size s.hp (s.nx+j) s.cx) fun r=>some ({fr:=eM y.dst r.1 s.fr,hp:=r.2.1,nx:=s.nx,cx:=r.2.2}:S))=some t1∧
      (aK (gdO ops t1.fr x) fun b=>match b with
       |true=>aK (eff P Γ x.op (ev GL t1.fr) (md i) t1.nx ops.size t1.hp (t1.nx+i) t1.cx) fun r=>some ({fr:=eM x.dst r.1 t1.fr,hp:=r.2.1,nx:=t1.nx,cx:=r.2.2}:S)
       |false=>some {t1 with fr:=eM x.dst (.tup []) t1.fr})=some t2∧
      fVo {fr:=eM y.dst ry.1 (eM x.dst rx.1 s.fr),hp:=ry.2.1,nx:=s.nx,cx:=ry.2.2} t2:=by
    intro hp1 cx1 e1 e2
    rw[e1,aX]
    refine⟨_,{fr:=eM x.dst rx.1 (eM y.dst ry.1 s.fr),hp:=ry.2.1,nx:=s.nx,cx:=ry.2.2},rfl,?_,?_⟩
    ·simp only[]
     rw[jT a3,hbx,aX]
     simp only[]
     rw[kI _ _ _ _ _ _ (kO a3),e2,aX]
    ·exact⟨fun t=>jV a2 _ _ _ t,rfl,rfl,rfl⟩
   cases hx:tI P Γ (md i) x.op with
   |P=>
    obtain⟨p1,_⟩:=aDd (P:=P) (Γ:=Γ) (hfn s.fr) hx _ s.hp _ 0 _ 0 hrx
    obtain⟨rx1,rx2⟩:=rx
    simp only at p1
    subst p1
    simp only at hry
    exact fin ry.2.1 ry.2.2 hry (aDd (P:=P) (Γ:=Γ) (hfn s.fr) hx _ _ _ _ _ _ hrx).2
   |W=>
    rw[hx]at hc
    cases hy:tI P Γ (md j) y.op with
    |P=>
     obtain⟨ry1,ry2⟩:=ry
     obtain⟨p1,p2⟩:=aDd (P:=P) (Γ:=Γ) (hfn s.fr) hy _ s.hp _ (s.nx+j) _ s.cx hry
     simp only at p1
     subst p1
     exact fin s.hp s.cx p2 hrx
    |M _=>rw[hy]at hc;cases hc
    |W=>rw[hy]at hc;cases hc
   |M kx=>
    rw[hx]at hc
    cases hy:tI P Γ (md j) y.op with
    |P=>
     obtain⟨ry1,ry2⟩:=ry
     obtain⟨p1,p2⟩:=aDd (P:=P) (Γ:=Γ) (hfn s.fr) hy _ s.hp _ (s.nx+j) _ s.cx hry
     simp only at p1
     subst p1
     exact fin s.hp s.cx p2 hrx
    |W=>rw[hy]at hc;cases hc
    |M ky=>
     rw[hy]at hc
     simp only[eEq,Bool.and_eq_true,Bool.not_eq_true']at hc
     obtain⟨ox,q1,_⟩:=bNu (P:=P) (Γ:=Γ) (hfn s.fr) hx s.hp s.hp rfl _ _ s.cx hrx
     obtain⟨rx1,rx2⟩:=rx
     simp only at q1
     subst q1
     simp only at hry
     obtain⟨oy,q2,q3⟩:=bNu (P:=P) (Γ:=Γ) (hfn s.fr) hy (sW s.hp (s.nx+i) ox) s.hp (aHa s.hp hi hc.2 ox).symm _ _ s.cx hry
     obtain⟨ry1,ry2⟩:=ry
     simp only at q2
     subst q2
     obtain⟨ox',q4,q5⟩:=bNu (P:=P) (Γ:=Γ) (hfn s.fr) hx s.hp (sW s.hp (s.nx+j) oy) (aHa s.hp hj hc.1 oy) _ _ s.cx hrx
     refine fin _ _ q3 ?_
     rw[q5]
     have:sW (sW s.hp (s.nx+j) oy) (s.nx+i) ox'=sW (sW s.hp (s.nx+i) ox) (s.nx+j) oy:=by
      have e:sW s.hp (s.nx+i) ox=sW s.hp (s.nx+i) ox':=by simpa using q4
      rw[e,bEu (Ne.symm idne)]
     simp only[this]
end
end Go.AX

namespace Go.AX
open Go
inductive Anc (ops:Array Oper):Nat→Nat→Prop
 |edge {m:Nat} {o:Oper} {e:Edge}:ops[m]? =some o→e∈o.after→Region.binds .any e=true→Anc ops m e.on
 |step {m j:Nat} {o:Oper} {e:Edge}:ops[m]? =some o→e∈o.after→Region.binds .any e=true→Anc ops e.on j→Anc ops m j
theorem aDe (acc:Array Nat) (j:Nat): ∀(l:List Edge) (s:Nat),(l.foldl (fun s e=>if Region.binds .any e then s|||2^e.on|||acc.getD e.on 0 else s) s).testBit j=true→
  s.testBit j=true∨∃e∈l,Region.binds .any e=true∧(j=e.on∨(acc.getD e.on 0).testBit j=true)
 |[],s,h=> .inl h
 |e::r,s,h=>by
  simp only[List.foldl_cons]at h
  rcases aDe acc j r _ h with h|⟨e',h1,h2,h3⟩
  ·split at h
   ·rename_i hb
    rw[Nat.testBit_or,Nat.testBit_or,Bool.or_eq_true,Bool.or_eq_true,Nat.testBit_two_pow]at h
    rcases h with(h|h)|h
    ·exact .inl h
    ·exact .inr ⟨e,by simp,hb,.inl (by simpa [eq_comm]using h)⟩
    ·exact .inr ⟨e,by simp,hb,.inr h⟩
   ·exact .inl h
  ·exact .inr ⟨e',by simp[h1],h2,h3⟩
theorem sV (ops:Array Oper): ∀(l pre:List Oper) (acc:Array Nat),ops.toList=pre++l→acc.size=pre.length→(∀m j,(acc.getD m 0).testBit j=true→Anc ops m j)→
  ∀m j,((l.foldl (fun acc o=>acc.push (o.after.foldl (fun s e=>if Region.binds .any e then s|||2^e.on|||acc.getD e.on 0 else s) 0)) acc).getD m 0).testBit j=true→Anc ops m j
 |[],_,_,_,_,h=>h
 |o::r,pre,acc,ho,hs,h=>by
  simp only[List.foldl_cons]
  refine sV ops r (pre++[o]) _ (by simp[ho]) (by simp[hs]) ?_
  intro m j hm
  rw[Array.getD_eq_getD_getElem?,Array.getElem?_push]at hm
  split at hm
  ·rename_i e
   subst e
   simp only[Option.getD_some]at hm
   rw[←Array.foldl_toList]at hm
   have hget:ops[acc.size]? =some o:=by rw[←Array.getElem?_toList,ho,hs];simp
   rcases aDe acc j o.after.toList 0 hm with hm|⟨e,h1,h2,h3⟩
   ·simp at hm
   ·rcases h3 with rfl|h3
    ·exact .edge hget (Array.mem_toList_iff.1 h1) h2
    ·exact .step hget (Array.mem_toList_iff.1 h1) h2 (h _ _ h3)
  ·exact h m j (by rw[Array.getD_eq_getD_getElem?];exact hm)
theorem oR (ops:Array Oper) (m j:Nat) (h:((Region.before ops).getD m 0).testBit j=true):Anc ops m j:=by
 unfold Region.before at h
 rw[←Array.foldl_toList]at h
 exact sV ops ops.toList [] #[] (by simp) rfl (fun m j hm=>by simp at hm) m j h
def sF (P:Program) (Γ:Env) (md:Nat→Nat) (ops:Array Oper):Bool:=
 let b:=Region.before ops
 (List.range ops.size).all fun j=>match ops[j]? with
  |none=>true
  |some y=>y.after.all (fun e=> !Region.binds .any e||decide (e.on<j))&&
   let bj:=b.getD j 0
   (List.range j).all fun i=>bj.testBit i||match ops[i]? with
    |none=>true
    |some x=>x.apart ops y&&eEq i j (tI P Γ (md i) x.op) (tI P Γ (md j) y.op)
def dQ (P:Program) (Γ:Env) (GL:Nat→Option (List AV)) (md:Nat→Nat) (ops:Array Oper):List Nat→S→Option S
 |[],s=>some s
 |i::r,s=>match ops[i]? with
  |some o=>aK (kA P Γ GL md ops i o s) fun s'=>dQ P Γ GL md ops r s'
  |none=>none
section
variable {P : Program} {Γ : Env} {c : Ctx} {σ0 : Nat → Loc} {I0 : Nat → Prop} {w0 : World} {GL : Nat → Option (List AV)} {md : Nat → Nat} {ops : Array Oper}
theorem aFu: ∀(l:List Nat) {s t s':S},dQ P Γ GL md ops l s=some s'→fVo s t→∃t',dQ P Γ GL md ops l t=some t'∧fVo s' t'
 |[],s,t,s',h,he=>by obtain rfl:=J0 h;exact⟨t,rfl,he⟩
 |i::r,s,t,s',h,he=>by
  simp only[dQ]at h⊢
  cases ho:ops[i]? with
  |none=>simp[ho]at h
  |some o=>
   simp only[ho]at h⊢
   replace h:=aJ h;obtain⟨s1,h1,h⟩:=h
   obtain⟨t1,e1,e2⟩:=aFn h1 he
   obtain⟨t',e3,e4⟩:=aFu r h e2
   exact⟨t',by rw[e1,aX];exact e3,e4⟩
theorem aBq: ∀(l:List Oper) (k:Nat) (s:S),(∀m,l[m]? =ops[k+m]?)→oT P Γ GL md ops k l s=dQ P Γ GL md ops (List.range' k l.length) s
 |[],k,s,_=>rfl
 |o::r,k,s,h=>by
  have h0:ops[k]? =some o:=by have:=(h 0).symm;simpa using this
  simp only[oT,List.length_cons,List.range'_succ,dQ,h0]
  congr 1
  funext s'
  exact aBq r (k+1) s' (fun m=>by have:=h (m+1);simpa [Nat.add_assoc,Nat.add_comm 1 m]using this)
theorem wK {i:Nat} {x:Oper} (hx:ops[i]? =some x): ∀(l1 l2:List Nat) {s sf:S},
  (∀j∈l1,j≠i∧∃y,ops[j]? =some y∧y.apart ops x=true∧eEq j i (tI P Γ (md j) y.op) (tI P Γ (md i) x.op)=true)→
  dQ P Γ GL md ops (l1++i::l2) s=some sf→∃s1 sf',kA P Γ GL md ops i x s=some s1∧dQ P Γ GL md ops (l1++l2) s1=some sf'∧fVo sf sf'
 |[],l2,s,sf,_,h=>by
  simp only[List.nil_append,dQ,hx]at h
  replace h:=aJ h;obtain⟨s1,h1,h⟩:=h
  exact⟨s1,sf,h1,h,fVo.refl _⟩
 |j::r,l2,s,sf,hl,h=>by
  obtain⟨hji,y,hy,hap,hc⟩:=hl j (by simp)
  simp only[List.cons_append,dQ,hy]at h
  replace h:=aJ h;obtain⟨sj,hj,h⟩:=h
  obtain⟨s2,sf2,e1,e2,e3⟩:=wK hx r l2 (fun k hk=>hl k (by simp[hk])) h
  obtain⟨t1,t2,c1,c2,c3⟩:=aYt hap hc hji (Array.getElem?_eq_some_iff.1 hy).1 (Array.getElem?_eq_some_iff.1 hx).1 hj e1
  obtain⟨sf3,g1,g2⟩:=aFu (r++l2) e2 c3
  refine⟨t1,sf3,c1,?_,e3.trans g2⟩
  simp only[List.cons_append,dQ,hy]
  rw[c2,aX];exact g1
def unl (n:Nat) (listed:Array Bool):List Nat:=(List.range n).filter fun i=> !listed.getD i true
theorem R.eqv {rem:Nat→Prop} {s t:S} {a:Act} {w:World} (h:R c σ0 I0 w0 rem s a w) (he:fVo s t):R c σ0 I0 w0 rem t a w:=by
 obtain⟨e1,e2,e3,e4⟩:=he
 obtain⟨⟨σ,I,a1,a2,a3⟩,b,d,e,e0⟩:=h
 refine⟨⟨σ,I,?_,a2,fun k=>by rw[←e1 k];exact a3 k⟩,b,d,?_,?_⟩
 ·rw[←e2,←e3,←e4];exact a1
 ·rw[←e3,←e4];exact e
 rw[←e3,←e4];exact e0
theorem aPb (hΓ:eT P c.GL Γ) {Q:Exit→Act→World→Prop} (hdst:fK c.nt ops.toList=true) (hok:sF P Γ md ops=true) {s':S}
  (hQ: ∀a' w',R c σ0 I0 w0 (fun _=>False) s' a' w'→Q .normal a' w'):
  ∀(fuel:Nat) (listed:Array Bool) (s sf:S) (a:Act) (w:World),listed.size=ops.size→(unl ops.size listed).length≤fuel→
   (∀m o,listed.getD m false=true→ops[m]? =some o→∀e∈o.after,Region.binds .any e=true→listed.getD e.on false=true)→
   dQ P Γ c.GL md ops (unl ops.size listed) s=some sf→fVo s' sf→R c σ0 I0 w0 (fun k=>k∈unl ops.size listed) s a w→wpAny P .any ops Q fuel listed a w:=by
 have hchk: ∀j y,ops[j]? =some y→(∀e∈y.after,Region.binds .any e=true→e.on<j)∧∀i x,i<j→ops[i]? =some x→((Region.before ops).getD j 0).testBit i=true∨(x.apart ops y=true∧eEq i j (tI P Γ (md i) x.op) (tI P Γ (md j) y.op)=true):=by
  intro j y hy
  have hlt:=(Array.getElem?_eq_some_iff.1 hy).1
  have h:=List.all_eq_true.1 hok j (List.mem_range.2 hlt)
  simp only[hy,Bool.and_eq_true]at h
  refine⟨fun e he hb=>?_,fun i x hi hx=>?_⟩
  ·have:=Array.all_eq_true_iff_forall_mem.1 h.1 e he
   simpa [hb]using this
  have:=List.all_eq_true.1 h.2 i (List.mem_range.2 hi)
  simp only[hx,Bool.or_eq_true,Bool.and_eq_true]at this
  exact this
 have mem_unl: ∀(listed:Array Bool) i,i∈unl ops.size listed↔i<ops.size∧listed.getD i true=false:=by
  intro listed i;simp[unl]
 have done: ∀(listed:Array Bool) (s sf:S) (a:Act) (w:World),unl ops.size listed=[]→dQ P Γ c.GL md ops (unl ops.size listed) s=some sf→fVo s' sf→R c σ0 I0 w0 (fun k=>k∈unl ops.size listed) s a w→Q .normal a w:=by
  intro listed s sf a w h0 hrun heq hR
  rw[h0]at hrun
  obtain rfl:=J0 hrun
  exact hQ _ _ ((hR.un fun k hk=>hk.elim).eqv heq.symm)
 have noready: ∀(listed:Array Bool),listed.size=ops.size→(Region.ready .any ops listed=[]↔unl ops.size listed=[]):=by
  intro listed hsz
  constructor
  ·intro hr
   refine List.eq_nil_iff_forall_not_mem.2 fun i=>?_
   induction i using Nat.strongRecOn with
   |_ i ih=>
    intro hi
    obtain⟨hlt,hun⟩:=(mem_unl listed i).1 hi
    have:i∈Region.ready .any ops listed:=by
     rw[mem_ready]
     refine⟨hun,ops[i],Array.getElem?_eq_getElem hlt,fun e he hb=>?_⟩
     have hlt':=(hchk i _ (Array.getElem?_eq_getElem hlt)).1 e he hb
     have hn:=ih e.on hlt'
     rw[mem_unl]at hn
     have hs2:e.on<listed.size:=by omega
     rw[Array.getD_eq_getD_getElem?,Array.getElem?_eq_getElem hs2]at hn⊢
     simp only[Option.getD_some]at hn⊢
     cases hv:listed[e.on]with
     |true=>rfl
     |false=>exact absurd ⟨by omega,hv⟩ hn
    rw[hr]at this;cases this
  intro h0
  refine List.eq_nil_iff_forall_not_mem.2 fun i hi=>?_
  rw[mem_ready]at hi
  obtain⟨h1,o,ho,_⟩:=hi
  have:i∈unl ops.size listed:=(mem_unl listed i).2 ⟨(Array.getElem?_eq_some_iff.1 ho).1,h1⟩
  rw[h0]at this;cases this
 intro fuel
 induction fuel with
 |zero=>
  intro listed s sf a w hsz hlen hdc hrun heq hR
  have h0:unl ops.size listed=[]:=List.eq_nil_of_length_eq_zero (by omega)
  exact⟨(noready listed hsz).2 h0,done listed s sf a w h0 hrun heq hR⟩
 |succ fuel ih=>
  intro listed s sf a w hsz hlen hdc hrun heq hR
  refine⟨fun hr=>done listed s sf a w ((noready listed hsz).1 hr) hrun heq hR,fun i hi=>?_⟩
  obtain⟨hun,x,hx,hall⟩:=mem_ready.1 hi
  have hlt:=(Array.getElem?_eq_some_iff.1 hx).1
  have hmem:i∈unl ops.size listed:=(mem_unl listed i).2 ⟨hlt,hun⟩
  have hanc: ∀m j,Anc ops m j→(∀o,ops[m]? =some o→∀e∈o.after,Region.binds .any e=true→listed.getD e.on false=true)→listed.getD j false=true:=by
   intro m j ha
   induction ha with
   |edge ho he hb=>exact fun h=>h _ ho _ he hb
   |step ho he hb _ ih2=>exact fun h=>ih2 fun o ho' e' he' hb'=>hdc _ o (h _ ho _ he hb) ho' e' he' hb'
  obtain⟨l1,l2,hl⟩:=List.append_of_mem hmem
  have hpw:(unl ops.size listed).Pairwise (· < ·):=List.Pairwise.filter _ List.pairwise_lt_range
  rw[hl]at hpw hrun
  have hlt1: ∀j∈l1,j<i:=fun j hj=>(List.pairwise_append.1 hpw).2.2 j hj i (by simp)
  have hlt2: ∀j∈l2,i<j:=fun j hj=>(List.pairwise_cons.1 (List.pairwise_append.1 hpw).2.1).1 j hj
  obtain⟨s1,sf1,f1,f2,f3⟩:=wK hx l1 l2 (fun j hj=>by
   have hjm:j∈unl ops.size listed:=by rw[hl];simp[hj]
   obtain⟨hjlt,hjun⟩:=(mem_unl listed j).1 hjm
   refine⟨by have:=hlt1 j hj;omega,ops[j],Array.getElem?_eq_getElem hjlt,?_⟩
   rcases(hchk i x hx).2 j _ (hlt1 j hj) (Array.getElem?_eq_getElem hjlt)with h|h
   ·have:=hanc i j (oR ops i j h) (fun o ho e he hb=>by rw[hx]at ho;obtain rfl:=J0 ho;exact hall e he hb)
    have hs2:j<listed.size:=by omega
    rw[Array.getD_eq_getD_getElem?,Array.getElem?_eq_getElem hs2]at hjun this
    simp only[Option.getD_some]at hjun this
    rw[hjun]at this;cases this
   exact h) hrun
  have hnew:unl ops.size (listed.setIfInBounds i true)=l1++l2:=by
   have e1:unl ops.size (listed.setIfInBounds i true)=(unl ops.size listed).filter (fun k=>k !=i):=by
    unfold unl
    rw[List.filter_filter]
    refine List.filter_congr fun k hk=>?_
    by_cases hki:k=i
    ·subst hki
     rw[Array.getD_eq_getD_getElem?,Array.getElem?_setIfInBounds_self_of_lt (by omega)];simp
    rw[getD_set_ne true (Ne.symm hki)]
    simp[hki]
   rw[e1,hl,List.filter_append,List.filter_cons]
   simp only[bne_self_eq_false,Bool.false_eq_true,if_false]
   congr 1
   ·exact List.filter_eq_self.2 fun k hk=>by have:=hlt1 k hk;simp;omega
   exact List.filter_eq_self.2 fun k hk=>by have:=hlt2 k hk;simp;omega
  have hstep:=fX (K:=wpAny P .any ops Q fuel (listed.setIfInBounds i true)) (Q:=Q) (ops:=ops) hΓ f1 (lU hdst (Array.mem_toList_iff.2 (Array.mem_of_getElem? hx))) (rem:=fun k=>k∈unl ops.size listed) hmem hR (fun a' w' hR'=>
   ih (listed.setIfInBounds i true) s1 sf1 a' w' (by simpa using hsz) (by rw[hnew];rw[hl]at hlen;simp at hlen⊢;omega) (fun m o hm ho e he hb=>by
     by_cases hmi:m=i
     ·subst hmi
      rw[hx]at ho;obtain rfl:=J0 ho
      exact getD_set_true (hall e he hb)
     ·rw[getD_set_ne false (Ne.symm hmi)]at hm
      exact getD_set_true (hdc m o hm ho e he hb))
    (by rw[hnew];exact f2) (heq.trans f3) (hR'.un fun k hk=>by
     rw[hnew]at hk
     rw[hl]
     simp only[List.mem_append,List.mem_cons]at hk⊢
     rcases hk with hk|hk
     ·exact⟨.inl hk,by have:=hlt1 k hk;omega⟩
     ·exact⟨.inr (.inr hk),by have:=hlt2 k hk;omega⟩))
  unfold wpOp
  simp only[hx]
  split
  ·rename_i hw;rw[J4 hw]at hstep;exact .inl hstep
  rename_i hw;rw[J3 hw]at hstep;exact hstep
theorem aSv (hm:P.follows .mixedOrders=true) (hΓ:eT P c.GL Γ) {id:Nat} {Q:Exit→Act→World→Prop} (hdst:fK c.nt ops.toList=true) (hok:sF P Γ md ops=true) {s s':S} {a:Act} {w:World}
  (h:oT P Γ c.GL md ops 0 ops.toList (cX ops.size s)=some s') (hR:R c σ0 I0 w0 (fun _=>False) s a w) (hQ: ∀a' w',R c σ0 I0 w0 (fun _=>False) s' a' w'→Q .normal a' w'):
  (Code.region id ops true).wp P Q a w:=by
 have h0:unl ops.size (Array.replicate ops.size false)=List.range ops.size:=by
  unfold unl
  refine List.filter_eq_self.2 fun k hk=>?_
  rw[List.mem_range]at hk
  rw[Array.getD_eq_getD_getElem?,Array.getElem?_replicate,J4 hk];rfl
 refine wp_region_any hm (aPb hΓ hdst hok hQ ops.size _ (cX ops.size s) s' a _ (by simp) (by rw[h0];simp) (fun m o hl=>?_) ?_ (fVo.refl _) ?_)
 ·rw[Array.getD_eq_getD_getElem?,Array.getElem?_replicate]at hl;split at hl<;>cases hl
 ·rw[h0,List.range_eq_range',←Array.length_toList,←aBq ops.toList 0 _ (by simp)];exact h
 exact((hR.enter ops.size).un fun k hk=>by rw[h0]at hk;exact List.mem_range.1 hk).world rfl rfl rfl rfl
end
end Go.AX

namespace Go.AX
open Go
def Awp (P:Program) (GL:Nat→Option (List AV)) (nt:Nat) (code:Code) (s:S) (Q:Exit→S→Prop):Prop:=
 ∀(c:Ctx),c.GL=GL→c.nt=nt→∀(σ0:Nat→Loc) (I0:Nat→Prop) (w0:World) (a:Act) (w:World),R c σ0 I0 w0 (fun _=>False) s a w→
  code.wp P (fun e a' w'=> ∃s',Q e s'∧R c σ0 I0 w0 (fun _=>False) s' a' w') a w
structure Sub (s t:S):Prop where
 fr: ∀k,dG s.fr k=.junk∨dG s.fr k=dG t.fr k
 hp: ∀id o,s.hp id=some o→t.hp id=some o
 cx:t.cx≤s.cx
section
variable {P : Program} {GL : Nat → Option (List AV)} {nt : Nat} {Q : Exit → S → Prop} {s : S}
theorem R.sub {c:Ctx} {σ0:Nat→Loc} {I0:Nat→Prop} {w0:World} {s t:S} {a:Act} {w:World} (h:R c σ0 I0 w0 (fun _=>False) t a w) (hs:Sub s t) (hn:s.nx=t.nx):R c σ0 I0 w0 (fun _=>False) s a w:=by
 obtain⟨⟨σ,I,a1,a2,a3⟩,b,d,e,e0⟩:=h
 refine⟨⟨σ,I,(a1.sub hs.hp).mono_un fun id hid=>?_,a2,fun k=>?_⟩,b,d,fun k hk=>hk.elim,fun id hid=>?_⟩
 ·rcases hid with hid|⟨k,hk,_⟩|hid
  ·exact .inl (Nat.le_trans hs.cx hid)
  ·exact hk.elim
  exact .inr (.inr hid)
 ·rcases hs.fr k with h|h
  ·rw[h];exact .junk _
  rw[h];exact a3 k
 have:=e0 id hid;have:=hs.cx;rw[hn];omega
theorem tU {code:Code} {t:S} (h:Awp P GL nt code s Q) (hs:Sub s t) (hn:s.nx=t.nx):Awp P GL nt code t Q:=
 fun c h1 h2 σ0 I0 w0 a w hR=>h c h1 h2 σ0 I0 w0 a w (hR.sub hs hn)
theorem dCq {code:Code} {Q':Exit→S→Prop} (h:Awp P GL nt code s Q) (hq: ∀e t,Q e t→Q' e t):Awp P GL nt code s Q':=
 fun c h1 h2 σ0 I0 w0 a w hR=>wp_mono (h c h1 h2 σ0 I0 w0 a w hR) fun _ _ _ ⟨t,a1,a2⟩=>⟨t,hq _ _ a1,a2⟩
def oS (P:Program) (GL:Nat→Option (List AV)) (nt:Nat) (b:Code) (Q:Exit→S→Prop):Exit→S→Prop
 | .normal,t=>Awp P GL nt b t Q
 |e,t=>Q e t
theorem cDt {x y:Code} (h:Awp P GL nt x s (oS P GL nt y Q)):Awp P GL nt (.seq x y) s Q:=by
 intro c h1 h2 σ0 I0 w0 a w hR
 refine wp_seq (wp_mono (h c h1 h2 σ0 I0 w0 a w hR) ?_)
 rintro e a' w' ⟨t,hq,hr⟩
 cases e with
 |normal=>exact hq c h1 h2 σ0 I0 w0 a' w' hr
 |_=>exact⟨t,hq,hr⟩
theorem aTt {Γ:Env} {md:Nat→Nat} {id:Nat} {ops:Array Oper} {t:S} (hΓ:eT P GL Γ) (hd:fK nt ops.toList=true) (h:oT P Γ GL md ops 0 ops.toList (cX ops.size s)=some t) (hq:Q .normal t):
  Awp P GL nt (.region id ops false) s Q:=by
 intro c h1 h2 σ0 I0 w0 a w hR
 subst h1;subst h2
 exact aIp hΓ hd h hR fun a' w' hR'=>⟨t,hq,hR'⟩
theorem bRn {Γ:Env} {md:Nat→Nat} {id:Nat} {ops:Array Oper} {t:S} (hm:P.follows .mixedOrders=true) (hΓ:eT P GL Γ) (hd:fK nt ops.toList=true) (ho:sF P Γ md ops=true)
  (h:oT P Γ GL md ops 0 ops.toList (cX ops.size s)=some t) (hq:Q .normal t):Awp P GL nt (.region id ops true) s Q:=by
 intro c h1 h2 σ0 I0 w0 a w hR
 subst h1;subst h2
 exact aSv hm hΓ hd ho h hR fun a' w' hR'=>⟨t,hq,hR'⟩
theorem bRo {x y:Code} {cnd:Operand} {b:Bool} (hb:ev GL s.fr cnd=.b b) (ht:b=true→Awp P GL nt x s Q) (hf:b=false→Awp P GL nt y s Q):Awp P GL nt (.cond cnd x y) s Q:=by
 intro c h1 h2 σ0 I0 w0 a w hR
 have hv:a.eval cnd=.bool b:=by
  obtain⟨⟨σ,I,a1,a2,a3⟩,_⟩:=hR
  have:=aJt a1 a3 cnd
  rw[h1,hb]at this
  exact bQs this
 refine wp_cond_split hv (fun h=>ht h c h1 h2 σ0 I0 w0 a w hR) (fun h=>hf h c h1 h2 σ0 I0 w0 a w hR)
theorem bRi (h:Q .normal s):Awp P GL nt .skip s Q:=fun _ _ _ _ _ _ _ _ hR=>wp_skip ⟨s,h,hR⟩
theorem bRl {id:Nat} (h:Q (.exit id) s):Awp P GL nt (.exit id) s Q:=fun _ _ _ _ _ _ _ _ hR=>wp_exit ⟨s,h,hR⟩
theorem cDu (h:Q .ret s):Awp P GL nt .ret s Q:=fun _ _ _ _ _ _ _ _ hR=>wp_ret ⟨s,h,hR⟩
def fP (id:Nat) (Q:Exit→S→Prop):Exit→S→Prop
 | .exit id',t=>if id'=id then Q .normal t else Q (.exit id') t
 |e,t=>Q e t
theorem bEr {id:Nat} {x:Code} (h:Awp P GL nt x s (fP id Q)):Awp P GL nt (.block id x) s Q:=by
 intro c h1 h2 σ0 I0 w0 a w hR
 refine wp_block (wp_mono (h c h1 h2 σ0 I0 w0 a w hR) ?_)
 rintro e a' w' ⟨t,hq,hr⟩
 cases e with
 |exit id'=>
  simp only[Exit.inBlock,fP]at hq⊢
  split
  ·rename_i e;rw[J4 e]at hq;exact⟨t,hq,hr⟩
  rename_i e;rw[J3 e]at hq;exact⟨t,hq,hr⟩
 |_=>exact⟨t,hq,hr⟩
def aNw {ι:Type} (st:ι→S) (inv:ι→Prop) (μ:ι→Nat) (i:ι) (Q:Exit→S→Prop):Exit→S→Prop
 | .normal,t=> ∃j,inv j∧μ j<μ i∧Sub (st j) t
 |e,t=>Q e t
theorem bRk {ι:Type} (st:ι→S) (inv:ι→Prop) (μ:ι→Nat) {x:Code} (h0: ∃i,inv i∧Sub (st i) s) (hr: ∀i,inv i→∀n,Awp P GL nt x {st i with nx:=n} (aNw st inv μ i Q)):Awp P GL nt (.loop x) s Q:=by
 intro c h1 h2 σ0 I0 w0 a w hR
 obtain⟨i0,hi0,hs0⟩:=h0
 intro b kk cs
 have key: ∀(k:Nat) (i:ι) (n:Nat) (a:Act) (w:World),μ i=k→inv i→R c σ0 I0 w0 (fun _=>False) {st i with nx:=n} a w→
   ∃e a' w',(∃s',Q e s'∧R c σ0 I0 w0 (fun _=>False) s' a' w')∧Arrives P (lone (b.at a (.code x::.inLoop x::kk)) cs w) b kk cs e a' w':=by
  intro k
  induction k using Nat.strongRecOn with
  |_ k ih=>
   intro i n a w hk hi hR
   obtain⟨e,a',w',⟨t,hq,hrt⟩,harr⟩:=hr i hi n c h1 h2 σ0 I0 w0 a w hR b (.inLoop x::kk) cs
   cases e with
   |normal=>
    obtain⟨j,hj,hlt,hsub⟩:=hq
    obtain⟨e2,a2,w2,hq2,harr2⟩:=ih (μ j) (hk▸hlt) j t.nx a' w' rfl hj (hrt.sub ⟨hsub.fr,hsub.hp,hsub.cx⟩ rfl)
    exact⟨e2,a2,w2,hq2,.of_steps (Steps.trans harr (.one step_inLoop)) harr2⟩
   |exit id=>exact⟨_,a',w',⟨t,hq,hrt⟩,.pass (x:=.inLoop x) rfl (fun _ _=> .inl (by simp)) harr⟩
   |goto l=>exact⟨_,a',w',⟨t,hq,hrt⟩,.pass (x:=.inLoop x) rfl (fun _ _=> .inl (by simp)) harr⟩
   |ret=>exact⟨_,a',w',⟨t,hq,hrt⟩,.pass (x:=.inLoop x) rfl (fun _ _=> .inl (by simp)) harr⟩
   |panic ch=>exact⟨_,a',w',⟨t,hq,hrt⟩,.pass (x:=.inLoop x) rfl (fun _ _=> .inl (by simp)) harr⟩
   |outgrown=>exact⟨_,a',w',⟨t,hq,hrt⟩,.pass (x:=.inLoop x) rfl (fun _ _=> .inl (by simp)) harr⟩
 obtain⟨e,a',w',hq,harr⟩:=key (μ i0) i0 s.nx a w rfl hi0 (hR.sub ⟨hs0.fr,hs0.hp,hs0.cx⟩ rfl)
 exact⟨e,a',w',hq,.of_steps (.one step_loop) harr⟩
def aOo:Nat→List AV→List (Nat×AV)
 |_,[]=>[]
 |k,x::r=>(k,x)::aOo (k+1) r
theorem aGu: ∀(l:List AV) (k t:Nat),dG (aOo k l) t=if h:k≤t∧t-k<l.length then l[t-k]'h.2 else .junk
 |[],k,t=>by simp[aOo,dG]
 |x::r,k,t=>by
  simp only[aOo,dG,aGu r (k+1) t,List.length_cons]
  by_cases h:k=t
  ·subst h;rw[J4 rfl,dif_pos ⟨U3 _,by omega⟩];simp
  rw[J3 h]
  by_cases h2:k+1≤t∧t-(k+1)<r.length
  ·rw[dif_pos h2,dif_pos ⟨by omega,by omega⟩]
   have e:t-k=(t-(k+1))+1:=by omega
   simp only[e,List.getElem_cons_succ]
  rw[dif_neg h2,dif_neg (by omega)]
def bQ (P:Program) (hp:H) (fr:List (Nat×AV)) (r:ResultVar):Option AV:=
 match r with
 | .tmp t=>some (dG fr t)
 | .cell a t=>match dG fr a with
  | .op id off=>aK (hp id) fun o=>match o with| .cells xs _=>ldV P t (xs.drop off)|_=>none
  |_=>none
def bK (P:Program) (hp:H) (fr:List (Nat×AV)):List ResultVar→Option (List AV)
 |[]=>some []
 |r::rs=>aK (bQ P hp fr r) fun x=>aK (bK P hp fr rs) fun l=>some (x::l)
def bV (P:Program) (rs:List ResultVar) (s:S):Option AV:=
 aK (bK P s.hp s.fr rs) fun l=>some (match l with|[x]=>x|l=> .tup l)
theorem yX {c:Ctx} {σ:Nat→Loc} {I:Nat→Prop} {w:World} {hp:H} {fr:List (Nat×AV)} {a:Act} {un:Nat→Prop} (hi:Inv c σ I w hp un) (hf: ∀t,Rel σ I w (dG fr t) (a.tmps.getD t undef)):
  ∀(rs:List ResultVar) {l:List AV},bK P hp fr rs=some l→
   ∃vs:List Value,(rs.mapM (fun r=>match r with| .tmp t=>pure (a.tmps.getD t undef)| .cell p t=>do loadVar t (←asAddr (a.tmps.getD p undef)):ResultVar→Sem Value)).run P w=.ok vs w∧vs.length=l.length∧∀i (_h:i<l.length),Rel σ I w l[i] (vs.getD i undef)
 |[],l,h=>by obtain rfl:=J0 h;exact⟨[],rfl,rfl,fun i h=>by simp at h⟩
 |r::rs,l,h=>by
  simp only[bK]at h
  replace h:=aJ h;obtain⟨x,hx,h⟩:=h
  replace h:=aJ h;obtain⟨l',hl',h⟩:=h
  obtain rfl:=J0 h
  obtain⟨vs,e1,e2,e3⟩:=yX hi hf rs hl'
  have one: ∃v,(match r with| .tmp t=>pure (a.tmps.getD t undef)| .cell p t=>do loadVar t (←asAddr (a.tmps.getD p undef)):Sem Value).run P w=.ok v w∧Rel σ I w x v:=by
   cases r with
   |tmp t=>
    obtain rfl:=J0 hx
    exact⟨_,rfl,hf t⟩
   |cell p t=>
    simp only[bQ]at hx
    split at hx
    ·rename_i id off e
     replace hx:=aJ hx;obtain⟨o,ho,hx⟩:=hx
     obtain⟨xs,mt,rfl⟩: ∃a b,o=AO.cells a b:=by cases o<;>first|exact⟨_,_,rfl⟩|(simp at hx)
     simp only at hx
     have hp':=hf p
     rw[e]at hp'
     obtain⟨blk,base,sz,g1,hv⟩:=dZc hp'
     have hrow:=fPc (hi.own id _ ho) g1
     obtain⟨v,hrun,hr⟩:=aCp (P:=P) (blk:=blk) (o:=base+off) hx (fun i hi=>by
      rw[getElem_drop']
      simp at hi
      have:=hrow.get (off+i) (by omega)
      rwa [←Nat.add_assoc]at this)
     exact⟨v,by simp only[hv,asAddr,Sem.run_bind,Sem.run_pure,Result.andThen_ok,hrun],hr⟩
    ·cases hx
  obtain⟨v,o1,o2⟩:=one
  refine⟨v::vs,?_,by simp[e2],fun i hi'=>?_⟩
  ·rw[List.mapM_cons]
   simp only[Sem.run_bind]
   rw[o1]
   simp only[Result.andThen_ok]
   rw[e1];rfl
  ·cases i with
   |zero=>exact o2
   |succ k=>exact e3 k (by simpa using hi')
theorem eZ {c:Ctx} {σ:Nat→Loc} {I:Nat→Prop} {w:World} {t:S} {a:Act} {un:Nat→Prop} {fn:Func} {x:AV} (hi:Inv c σ I w t.hp un) (hf: ∀k,Rel σ I w (dG t.fr k) (a.tmps.getD k undef))
  (h:bV P fn.results.toList t=some x): ∃v,(results fn a.tmps).run P w=.ok v w∧Rel σ I w x v:=by
 unfold bV at h
 replace h:=aJ h;obtain⟨l,hl,h⟩:=h
 obtain rfl:=J0 h
 obtain⟨vs,e1,e2,e3⟩:=yX hi hf _ hl
 have hm:(fn.results.mapM (fun r=>match r with| .tmp t=>pure (a.tmps.getD t undef)| .cell p t=>do loadVar t (←asAddr (a.tmps.getD p undef)):ResultVar→Sem Value)).run P w=.ok vs.toArray w:=by
  rw[Array.mapM_eq_mapM_toList,Sem.run_map,e1];rfl
 refine⟨if h:vs.toArray.size=1 then vs.toArray[0]else .tuple vs.toArray,?_,?_⟩
 ·unfold results
  rw[Sem.run_bind]
  exact(congrArg (fun r=>Result.andThen r (fun(vs:Array Value) w'=>(pure (if h:vs.size=1 then vs[0]else Value.tuple vs):Sem Value).run P w')) hm).trans rfl
 have big:l.length≠1→Rel σ I w (.tup l) (if h:vs.toArray.size=1 then vs.toArray[0]else .tuple vs.toArray):=by
  intro hne
  rw[dif_neg (by simp;omega)]
  exact .tup _ _ (by simpa using e2) fun i hi'=>by rw[fI];exact e3 i hi'
 cases l with
 |nil=>exact big (by simp)
 |cons x r=>
  cases r with
  |cons y r=>exact big (by simp)
  |nil=>
   cases vs with
   |nil=>simp at e2
   |cons v q=>
    cases q with
    |nil=>exact e3 0 (by simp)
    |cons _ _=>simp at e2
end
end Go.AX

namespace Go.AX
open Go
def sN (args:List AV) (hp:H) (nx:Nat):S:= {fr:=aOo 0 args,hp:=hp,nx:=nx,cx:=nx}
def fHo (P:Program) (rs:List ResultVar) (r:AV):Exit→S→Prop
 | .ret,t=>aK (bV P rs t) (zB 4 t.hp)=some r
 | .normal,t=>aK (bV P rs t) (zB 4 t.hp)=some r
 |_,_=>False
def fRw (P:Program) (rs:List ResultVar) (e:Nat) (t:S):Option (Nat×Nat×List AV):=
 aK (bV P rs t) fun x=>match x with
  | .os id off m e' g=>aK (t.hp id) fun o=>match o with
   | .cells ys mt=>aN (mt=true∧g=true∧off+m*e'=ys.length) (aK (lE (zB 3 (del t.hp id)) (ys.drop off)) fun zs=>some (m,e',zs))
   |_=>none
  | .v (.slice none 0 0)=>some (0,e,[])
  |_=>none
def fPz (P:Program) (rs:List ResultVar) (r:Nat×Nat×List AV):Exit→S→Prop
 | .ret,t=>fRw P rs r.2.1 t=some r
 | .normal,t=>fRw P rs r.2.1 t=some r
 |_,_=>False
structure wZ (P:Program) (rs:List ResultVar) (r:AV) (hp':H) (nx':Nat) (t:S):Prop where
 res:bV P rs t=some r
 hp: ∀id o,hp' id=some o→t.hp id=some o
 cx:t.cx≤nx'
def bMy (P:Program) (rs:List ResultVar) (r:AV) (hp':H) (nx':Nat):Exit→S→Prop
 | .ret,t=>wZ P rs r hp' nx' t
 | .normal,t=>wZ P rs r hp' nx' t
 |_,_=>False
section
variable {P : Program} {GL : Nat → Option (List AV)}
theorem oG {args:List AV} {vals:Array Value} {σ:Nat→Loc} {I:Nat→Prop} {w:World} {n:Nat} (hs:vals.size=args.length) (hr: ∀i (_h:i<args.length),Rel σ I w args[i] (vals.getD i undef)) (t:Nat):
  Rel σ I w (dG (aOo 0 args) t) ((vals++Array.replicate n undef).getD t undef):=by
 rw[aGu]
 split
 ·rename_i h
  simp only[Nat.sub_zero,Nat.zero_le,true_and]at h⊢
  have:=hr t h
  rw[Array.getD_eq_getD_getElem?]at this⊢
  rw[Array.getElem?_append_left (by omega)];exact this
 exact .junk _
theorem aBm {f:FuncId} {fn:Func} {code:Code} (hf:P.funcs[f]? =some fn) (hb:fn.body=some code) (c:Ctx) (hGL:c.GL=GL) (hnt:c.nt=fn.ntmps) (hdf:c.df=[]) {args:List AV} {vals:Array Value} {σ:Nat→Loc} {I:Nat→Prop} {w:World} {hp:H} {nx:Nat}
  {Q:Exit→S→Prop} (hlen:args.length≤fn.ntmps) (hQ: ∀e t,Q e t→e=.ret∨e=.normal) (h:Awp P GL fn.ntmps code (sN args hp nx) Q) (hi:Inv c σ I w hp (fun id=>nx≤id∨c.u0 id)) (hu0: ∀id,c.u0 id→id<nx)
  (hs:vals.size=args.length) (hr: ∀i (_h:i<args.length),Rel σ I w args[i] (vals.getD i undef)) {Rr:Ending→World→Prop}
  (hfin: ∀e t a w',Q e t→R c σ I w (fun _=>False) t a w'→∃v,(results fn a.tmps).run P w'=.ok v w'∧Rr (.returned v) w'):Calls P f vals w Rr:=by
 refine calls_of_wp hf hb (wp_mono (h c hGL hnt σ I w {tmps:=vals++Array.replicate (fn.ntmps-vals.size) undef,defers:=[]} w ?_) ?_)
 ·refine⟨⟨σ,I,?_,Grow.refl _ _ _,fun t=>oG hs hr t⟩,hdf.symm,by simp[hs];omega,fun k hk=>hk.elim,fun id hid=>⟨hu0 id hid,hu0 id hid⟩⟩
  refine hi.mono_un fun id hid=>?_
  rcases hid with hid|⟨k,hk,_⟩|hid
  ·exact .inl hid
  ·exact hk.elim
  exact .inr hid
 rintro e a' w' ⟨t,hq,hR⟩
 obtain⟨v,hv,hr⟩:=hfin e t a' w' hq hR
 have hd:=hR.defers.trans hdf
 rcases hQ e t hq with rfl|rfl
 ·exact⟨hd,v,hv,hr⟩
 exact⟨hd,v,hv,hr⟩
def aPf (σ:Nat→Loc) (I:Nat→Prop) (w:World) (GL:Nat→Option (List AV)) (nt nx:Nat):Ctx:= {w0:=w,σ0:=σ,I0:=I,O:=fun _=>False,GL:=GL,nt:=nt,u0:=fun id=>id<nx∧σ id=.unset,df:=[]}
theorem bYs {σ:Nat→Loc} {I:Nat→Prop} {w:World} {nt nx:Nat} (h1: ∀id,nx≤id→σ id=.unset) (h2: ∀k,I k→k<w.heap.size) (h3: ∀g xs,GL g=some xs→Rel σ I w (.rp xs) (.pointer (some ⟨g,0,none⟩))):
  Inv (aPf σ I w GL nt nx) σ I w (fun _=>none) (fun id=>nx≤id∨(aPf σ I w GL nt nx).u0 id):=
 ⟨fun _ _=>rfl,fun _ h=>h,fun _ _=>rfl,rfl,rfl,rfl,U3 _,fun _ _ _=>rfl,h2,fun _ _ h=>by simp at h,fun _ _ _ _ _ _ _ _ _ h=>by simp at h,fun _ _ _ _ _ h=>by simp at h,fun id h=>h.elim (h1 id) (fun h=>h.2),h3,fun _ h=> .inl h⟩
theorem aCt {σ σ':Nat→Loc} {I I':Nat→Prop} {w w':World} {nt nx cx:Nat} {hp:H} {rem:Nat→Prop} (h:Inv (aPf σ I w GL nt nx) σ' I' w' hp (fun id=>cx≤id∨rem id∨(aPf σ I w GL nt nx).u0 id)): ∀id,id<nx→σ' id=σ id:=by
 intro id hid
 by_cases e:σ id=.unset
 ·rw[e];exact h.un id (.inr (.inr ⟨hid,e⟩))
 exact h.ext id e
theorem zK {f:FuncId} {fn:Func} {code:Code} {g:List AV→Option AV} (hf:P.funcs[f]? =some fn) (hb:fn.body=some code)
  (h: ∀args r,g args=some r→args.length≤fn.ntmps∧∀nx,Awp P GL fn.ntmps code (sN args (fun _=>none) nx) (fHo P fn.results.toList r)):fHn P GL f g:=by
 intro σ I w nx args vals r h1 h2 h3 hs hr hg
 obtain⟨hlen,haw⟩:=h args r hg
 have hQ: ∀e t,fHo P fn.results.toList r e t→(e=.ret∨e=.normal)∧aK (bV P fn.results.toList t) (zB 4 t.hp)=some r:=by
  intro e t hq;cases e<;>first|exact⟨.inl rfl,hq⟩|exact⟨.inr rfl,hq⟩|exact hq.elim
 refine aBm hf hb (aPf σ I w GL fn.ntmps nx) rfl rfl rfl hlen (fun e t hq=>(hQ e t hq).1) (haw nx) (bYs h1 h2 h3) (fun _ h=>h.1) hs hr ?_
 intro e t a w' hq hR
 obtain⟨⟨σ',I',a1,a2,a3⟩,_⟩:=hR
 have:=(hQ e t hq).2
 replace this:=aJ this;obtain⟨x,hx,him⟩:=this
 obtain⟨v,hv,hrel⟩:=eZ (P:=P) a1 a3 hx
 have hI: ∀k,I' k→(I' k∨∃id o base sz,t.hp id=some o∧σ' id=.at_ k base sz):=fun k hk=> .inl hk
 obtain⟨him',_⟩:=qH a1 hI (fun id o blk base sz e1 e2=> .inr ⟨id,o,base,sz,e1,e2⟩) 4 him hrel
 refine⟨v,hv,v,σ',fun k=>I' k∨∃id o base sz,t.hp id=some o∧σ' id=.at_ k base sz,rfl,a1.os,a1.tape,a1.output,a1.size,fun k hk=>a1.old k hk (fun h=>h),aCt a1,fun k hk=>?_,fun k hk=>?_,him'⟩
 ·rcases hk with hk|⟨id,o,base,sz,e1,e2⟩
  ·rcases a1.inew k hk with h|h|h
   ·exact .inl h
   ·exact .inr h
   exact h.elim
  rcases a1.blkNew e1 e2 with h|h|h
  ·exact .inl h
  ·exact .inr h
  exact h.elim
 rcases hk with hk|⟨id,o,base,sz,e1,e2⟩
 ·exact a1.ilt k hk
 exact(a1.own id o e1).lt e2
theorem fJo {f:FuncId} {fn:Func} {code:Code} {g:List AV→Option (Nat×Nat×List AV)} (hf:P.funcs[f]? =some fn) (hb:fn.body=some code)
  (h: ∀args r,g args=some r→args.length≤fn.ntmps∧∀nx,Awp P GL fn.ntmps code (sN args (fun _=>none) nx) (fPz P fn.results.toList r)):dH P GL f g:=by
 intro σ I w nx args vals n e xs h1 h2 h3 hs hr hg
 obtain⟨hlen,haw⟩:=h args _ hg
 have hQ: ∀e' t,fPz P fn.results.toList (n,e,xs) e' t→(e'=.ret∨e'=.normal)∧fRw P fn.results.toList e t=some (n,e,xs):=by
  intro e' t hq;cases e'<;>first|exact⟨.inl rfl,hq⟩|exact⟨.inr rfl,hq⟩|exact hq.elim
 refine aBm hf hb (aPf σ I w GL fn.ntmps nx) rfl rfl rfl hlen (fun e t hq=>(hQ e t hq).1) (haw nx) (bYs h1 h2 h3) (fun _ h=>h.1) hs hr ?_
 intro e' t a w' hq hR
 obtain⟨⟨σ',I',a1,a2,a3⟩,_⟩:=hR
 have:=(hQ e' t hq).2
 unfold fRw at this
 replace this:=aJ this;obtain⟨x,hx,this⟩:=this
 obtain⟨v,hv,hrel⟩:=eZ (P:=P) a1 a3 hx
 split at this
 ·rename_i id off m e0 g0
  replace this:=aJ this;obtain⟨o,ho,this⟩:=this
  obtain⟨ys,mt,rfl⟩: ∃a b,o=AO.cells a b:=by cases o<;>first|exact⟨_,_,rfl⟩|(simp at this)
  simp only at this
  replace this:=aP this;obtain⟨⟨hmt,hgt,hend⟩,this⟩:=this
  replace this:=aJ this;obtain⟨zs,hzs,this⟩:=this
  simp only[Option.some.injEq,Prod.mk.injEq]at this;obtain⟨rfl,rfl,rfl⟩:=this
  subst hmt;subst hgt
  have a1d:=a1.sub (aAh t.hp id)
  have hdel: ∀id' o',del t.hp id id'=some o'→id'≠id:=fun id' o' hd e=>by subst e;rw[eV,J4 rfl]at hd;cases hd
  have hI: ∀k,I' k→(I' k∨∃id' o base sz,del t.hp id id'=some o∧σ' id'=.at_ k base sz):=fun k hk=> .inl hk
  have hnew: ∀k,(I' k∨∃id' o base sz,del t.hp id id'=some o∧σ' id'=.at_ k base sz)→I k∨w.heap.size≤k:=by
   intro k hk
   rcases hk with hk|⟨id',o,base,sz,e1,e2⟩
   ·rcases a1.inew k hk with h|h|h
    ·exact .inl h
    ·exact .inr h
    exact h.elim
   rcases a1d.blkNew e1 e2 with h|h|h
   ·exact .inl h
   ·exact .inr h
   exact h.elim
  have hlt: ∀k,(I' k∨∃id' o base sz,del t.hp id id'=some o∧σ' id'=.at_ k base sz)→k<w'.heap.size:=by
   intro k hk
   rcases hk with hk|⟨id',o,base,sz,e1,e2⟩
   ·exact a1.ilt k hk
   exact(a1d.own id' o e1).lt e2
  refine⟨v,hv,v,σ',fun k=>I' k∨∃id' o base sz,del t.hp id id'=some o∧σ' id'=.at_ k base sz,rfl,a1.os,a1.tape,a1.output,a1.size,fun k hk=>a1.old k hk (fun h=>h),aCt a1,hnew,hlt,?_⟩
  have hzl:zs.length=(ys.drop off).length∧∀(f:Nat→Value),(∀i (_h:i<(ys.drop off).length),Rel σ' I' w' (ys.drop off)[i] (f i))→∀i (_h:i<zs.length),Rel σ' (fun k=>I' k∨∃id' o base sz,del t.hp id id'=some o∧σ' id'=.at_ k base sz) w' zs[i] (f i)∧∀h2:i<(ys.drop off).length,(ys.drop off)[i].isCell=true→zs[i].isCell=true:=by
   have one: ∀(xs ys:List AV),lE (zB 3 (del t.hp id)) xs=some ys→ys.length=xs.length∧∀(f:Nat→Value),(∀i (_h:i<xs.length),Rel σ' I' w' xs[i] (f i))→∀i (_h:i<ys.length),Rel σ' (fun k=>I' k∨∃id' o base sz,del t.hp id id'=some o∧σ' id'=.at_ k base sz) w' ys[i] (f i)∧∀h2:i<xs.length,xs[i].isCell=true→ys[i].isCell=true:=by
    intro xs ys hh
    have hM: ∀(xs ys:List AV),gAb (zB 3 (del t.hp id)) xs=some ys→ys.length=xs.length∧∀(f:Nat→Value),(∀i (_h:i<xs.length),Rel σ' I' w' xs[i] (f i))→∀i (_h:i<ys.length),Rel σ' (fun k=>I' k∨∃id' o base sz,del t.hp id id'=some o∧σ' id'=.at_ k base sz) w' ys[i] (f i)∧∀h2:i<xs.length,xs[i].isCell=true→ys[i].isCell=true:=by
     intro xs
     induction xs with
     |nil=>intro ys h;obtain rfl:=J0 h;exact⟨rfl,fun f _ i h=>by simp at h⟩
     |cons b r ihr=>
      intro ys h
      simp only[gAb]at h
      replace h:=aJ h;obtain⟨d,hd,h⟩:=h
      replace h:=aJ h;obtain⟨l,hl,h⟩:=h
      obtain rfl:=J0 h
      obtain⟨e1,e2⟩:=ihr l hl
      refine⟨by simp[e1],fun f hf i hi'=>?_⟩
      cases i with
      |zero=>
       have:=qH a1d hI (fun id o blk base sz e1 e2=> .inr ⟨id,o,base,sz,e1,e2⟩) 3 hd (hf 0 (by simp))
       exact⟨this.1,fun _ hc=>this.2 hc⟩
      |succ k=>
       have:=e2 (fun i=>f (i+1)) (fun i hi=>by have:=hf (i+1) (by simpa using hi);simpa using this) k (by simpa using hi')
       exact⟨this.1,fun h2 hc=>this.2 (by simpa using h2) (by simpa using hc)⟩
    unfold lE at hh
    split at hh
    ·obtain rfl:=J0 hh
     exact⟨rfl,fun f hf i hi=>⟨(hf i hi).mono (fun _ _=>rfl) hI (fun _ _=>rfl),fun _ h=>h⟩⟩
    exact hM xs ys hh
   exact one _ _ hzs
  have hown:=a1.own id _ ho
  cases hrel with
  |osnil _ _ _ g1=>
   have:ys=[]:=bVq hown g1
   subst this
   refine .inl ⟨.inl rfl,rfl,List.eq_nil_of_length_eq_zero (by rw[hzl.1];simp)⟩
  |oszero _ _ _ _ ad g1=>exact .inl ⟨.inr ⟨ad,rfl⟩,rfl,List.eq_nil_of_length_eq_zero (by rw[hzl.1];simp;omega)⟩
  |os _ _ _ _ _ blk base sz cap g1 g2 g3=>
   have hrow:=fPc hown g1
   have hlen:=aVu hown g1
   simp only[eD,g1]at hown
   refine .inr ⟨blk,base+off,sz,cap,rfl,g2,g3 rfl,?_,?_,?_⟩
   ·rcases a1.lim id _ blk base sz ho rfl g1 with h|h
    ·exact h
    exact h.elim
   ·rintro(h|⟨id',o',base',sz',e1,e2⟩)
    ·exact hown.2.1 trivial h
    exact a1.inj id id' _ o' blk base sz base' sz' ho rfl (aAh _ _ _ _ e1) (Ne.symm (hdel id' o' e1)) g1 e2
   obtain⟨⟨cs,T,lo,hi_,q1,q2,q3,q4,q5⟩,q6⟩:=hrow
   have hget: ∀i (_h:i<(ys.drop off).length),Rel σ' I' w' (ys.drop off)[i] (cs.getD (base+off+i) undef):=by
    intro i hi
    rw[getElem_drop']
    simp at hi
    have:=q5 (off+i) (by omega)
    rw[Nat.add_assoc];exact this
   have hz:=hzl.2 _ hget
   have hoff:off≤ys.length∨ys.length<off:=by omega
   refine⟨⟨cs,T,lo,hi_,q1,q2,?_,q4,fun i hi=>(hz i hi).1⟩,fun i hi=>(hz i hi).2 (by rw[←hzl.1];exact hi) (by rw[getElem_drop'];exact q6 _ _)⟩
   rw[hzl.1];simp
   have:=g3 rfl
   omega
 ·simp only[Option.some.injEq,Prod.mk.injEq]at this;obtain⟨rfl,_,rfl⟩:=this
  cases hrel
  refine⟨_,hv,_,σ',I',rfl,a1.os,a1.tape,a1.output,a1.size,fun k hk=>a1.old k hk (fun h=>h),aCt a1,fun k hk=>?_,a1.ilt,.inl ⟨.inl rfl,rfl,rfl⟩⟩
  rcases a1.inew k hk with h|h|h
  ·exact .inl h
  ·exact .inr h
  exact h.elim
 cases this
theorem fVw {f:FuncId} {fn:Func} {code:Code} {g:List AV→H→Nat→Option (AV×H×Nat)} (hf:P.funcs[f]? =some fn) (hb:fn.body=some code)
  (h: ∀args hp nx r hp' nx',g args hp nx=some (r,hp',nx')→args.length≤fn.ntmps∧nx≤nx'∧((∀id,nx≤id→hp id=none)→Awp P GL fn.ntmps code (sN args hp nx) (bMy P fn.results.toList r hp' nx'))):fHs P GL f g:=by
 intro c σ I w hp nx args vals r hp' nx' hGL hi hs hr hg
 obtain⟨hlen,hle,haw⟩:=h args hp nx r hp' nx' hg
 refine⟨hle,?_⟩
 have hQ: ∀e t,bMy P fn.results.toList r hp' nx' e t→(e=.ret∨e=.normal)∧wZ P fn.results.toList r hp' nx' t:=by
  intro e t hq;cases e<;>first|exact⟨.inl rfl,hq⟩|exact⟨.inr rfl,hq⟩|exact hq.elim
 have hi':Inv {c with nt:=fn.ntmps,u0:=fun id=>id<nx∧σ id=.unset,df:=[]} σ I w hp (fun id=>nx≤id∨(id<nx∧σ id=.unset)):=
  ⟨hi.ext,hi.imm,hi.iw,hi.os,hi.tape,hi.output,hi.size,hi.old,hi.ilt,hi.own,hi.inj,hi.lim,fun id h=>h.elim (hi.un id) (fun h=>h.2),hi.glob,hi.inew⟩
 refine aBm hf hb {c with nt:=fn.ntmps,u0:=fun id=>id<nx∧σ id=.unset,df:=[]} hGL rfl rfl hlen (fun e t hq=>(hQ e t hq).1) (haw fun id hid=>hi.none_un hid) hi' (fun _ h=>h.1) hs hr ?_
 intro e t a w' hq hR
 obtain⟨⟨σ',I',a1,a2,a3⟩,_⟩:=hR
 obtain⟨q1,q2,q3⟩:=(hQ e t hq).2
 obtain⟨v,hv,hrel⟩:=eZ (P:=P) a1 a3 q1
 have a1':=a1.sub q2
 refine⟨v,hv,v,σ',I',rfl,?_,hrel,a2,fun id hid hun=>a1.un id (.inr (.inr ⟨hid,hun⟩))⟩
 exact⟨a1'.ext,a1'.imm,a1'.iw,a1'.os,a1'.tape,a1'.output,a1'.size,a1'.old,a1'.ilt,a1'.own,a1'.inj,a1'.lim,fun id h=>a1'.un id (.inl (Nat.le_trans q3 h)),a1'.glob,a1'.inew⟩
end
end Go.AX

namespace Go.AX
open Go
def cl:Code→Code| .seq a _=>a| .block _ a=>a| .loop a=>a| .cond _ a _=>a| .scope a=>a|c=>c
def cr:Code→Code| .seq _ b=>b| .cond _ _ b=>b|c=>c
def aE (f:Func):Code:=f.body.getD .skip
def cYj:Code→Bool| .seq _ _=>true|_=>false
def eEs:Code→Bool| .region _ _ _=>true|_=>false
def aM:Code→Array Oper| .region _ ops _=>ops|_=> #[]
def lZ:Code→Bool| .region _ _ d=>d|_=>false
def aCu:Code→Bool| .cond _ _ _=>true|_=>false
def cOp:Code→Operand| .cond c _ _=>c|_=> .const undef
def aXc:Code→Bool| .block _ _=>true|_=>false
def bId:Code→Nat| .block id _=>id| .exit id=>id|_=>0
def cNg:Code→Bool| .loop _=>true|_=>false
def bMo:Code→Bool| .exit _=>true|_=>false
def cYk:Code→Bool| .ret=>true|_=>false
def cNf:Code→Bool| .skip=>true|_=>false
def gL (ks:List Nat) (fr:List (Nat×AV)):List (Nat×AV):=ks.map fun k=>(k,dG fr k)
theorem aSm (k:Nat) (ks:List Nat) (fr:List (Nat×AV)):gL (k::ks) fr=(k,dG fr k)::gL ks fr:=rfl
theorem uR (ks:List Nat) (fr:List (Nat×AV)) (t:Nat):dG (gL ks fr) t=.junk∨dG (gL ks fr) t=dG fr t:=by
 induction ks with
 |nil=>exact .inl rfl
 |cons k ks ih=>
  rw[aSm]
  simp only[dG]
  split
  ·rename_i e;subst e;exact .inr rfl
  exact ih
def nH (o:Option S) (Q:S→Prop):Prop:=match o with|some t=>Q t|none=>False
theorem cHk (t:S) (Q:S→Prop):nH (some t) Q=Q t:=rfl
theorem mR {o:Option S} {Q:S→Prop} (h:nH o Q): ∃t,o=some t∧Q t:=by
 cases o with
 |none=>exact h.elim
 |some t=>exact⟨t,rfl,h⟩
theorem zI {α:Type} (x:Option α):aN True x=x:=by simp[aN]
section
variable {P : Program} {GL : Nat → Option (List AV)} {nt : Nat} {Q : Exit → S → Prop} {s : S} {code : Code}
theorem aA (hc:cYj code=true) (h:Awp P GL nt (cl code) s (oS P GL nt (cr code) Q)):Awp P GL nt code s Q:=by
 cases code<;>first|(cases hc;done)|exact cDt h
theorem sX {code:Code} (h:Awp P GL nt code s fun e t=> ∃u,Q e u∧Sub u t∧u.nx=t.nx):Awp P GL nt code s Q:=by
 intro c h1 h2 σ0 I0 w0 a w hR
 refine wp_mono (h c h1 h2 σ0 I0 w0 a w hR) ?_
 rintro e a' w' ⟨t,⟨u,hq,hs,hn⟩,hr⟩
 exact⟨u,hq,hr.sub hs hn⟩
theorem dWs (ks:List Nat) (t:S):Sub {t with fr:=gL ks t.fr} t:=⟨fun k=>uR ks t.fr k,fun _ _ h=>h,U3 _⟩
theorem cDv {Γ:Env} (ks:List Nat) (hc:eEs code=true) (hd:lZ code=false) (hΓ:eT P GL Γ) (ho:fK nt (aM code).toList=true)
  (h:nH (oT P Γ GL (fun _=>0) (aM code) 0 (aM code).toList (cX (aM code).size s)) fun t=>Q .normal {t with fr:=gL ks t.fr}):Awp P GL nt code s Q:=by
 obtain⟨t,h1,h2⟩:=mR h
 cases code<;>first|(cases hc;done)|skip
 rename_i id ops d
 simp only[lZ]at hd
 subst hd
 exact sX (aTt hΓ ho h1 ⟨_,h2,dWs ks t,rfl⟩)
theorem cDx {Γ:Env} (md:Nat→Nat) (ks:List Nat) (hm:P.follows .mixedOrders=true) (hc:eEs code=true) (hd:lZ code=true) (hΓ:eT P GL Γ) (ho:fK nt (aM code).toList=true) (hk:sF P Γ md (aM code)=true)
  (h:nH (oT P Γ GL md (aM code) 0 (aM code).toList (cX (aM code).size s)) fun t=>Q .normal {t with fr:=gL ks t.fr}):Awp P GL nt code s Q:=by
 obtain⟨t,h1,h2⟩:=mR h
 cases code<;>first|(cases hc;done)|skip
 rename_i id ops d
 simp only[lZ]at hd
 subst hd
 exact sX (bRn hm hΓ ho hk h1 ⟨_,h2,dWs ks t,rfl⟩)
theorem aKx {b:Bool} (hc:aCu code=true) (hb:ev GL s.fr (cOp code)=.b b) (ht:b=true→Awp P GL nt (cl code) s Q) (hf:b=false→Awp P GL nt (cr code) s Q):Awp P GL nt code s Q:=by
 cases code<;>first|(cases hc;done)|exact bRo hb ht hf
theorem aTv (hc:aXc code=true) (h:Awp P GL nt (cl code) s (fP (bId code) Q)):Awp P GL nt code s Q:=by
 cases code<;>first|(cases hc;done)|exact bEr h
theorem bR {ι:Type} (st:ι→S) (inv:ι→Prop) (μ:ι→Nat) (hc:cNg code=true) (h0: ∃i,inv i∧Sub (st i) s) (hr: ∀i,inv i→∀n,Awp P GL nt (cl code) {st i with nx:=n} (aNw st inv μ i Q)):Awp P GL nt code s Q:=by
 cases code<;>first|(cases hc;done)|exact bRk st inv μ h0 hr
theorem bEq (hc:bMo code=true) (h:Q (.exit (bId code)) s):Awp P GL nt code s Q:=by
 cases code<;>first|(cases hc;done)|exact bRl h
theorem aS (hc:cYk code=true) (h:Q .ret s):Awp P GL nt code s Q:=by
 cases code<;>first|(cases hc;done)|exact cDu h
theorem aQ (hc:cNf code=true) (h:Q .normal s):Awp P GL nt code s Q:=by
 cases code<;>first|(cases hc;done)|exact bRi h
theorem aT {fn:Func} (h:fn.body.isSome=true):fn.body=some (aE fn):=by
 unfold aE;cases hb:fn.body with
 |none=>simp[hb]at h
 |some c=>rfl
end
def aL:Env:=fun _=>none
theorem aD (P:Program) (GL:Nat→Option (List AV)):eT P GL aL:=fun f s h=>by cases h
end Go.AX

namespace Go.AX
open Go Go.Proofs
theorem bRj {P:Program} {GL:Nat→Option (List AV)} {nt:Nat} {Q:Exit→S→Prop} {s:S} {code:Code} {Γ:Env} (ks:List Nat) (hΓ:eT P GL Γ) (hc:eEs code=true) (hd:lZ code=false) (ho:fK nt (aM code).toList=true)
  (h: ∀K:S→Prop,(∀t,Q .normal t→K t)→nH (oT P Γ GL (fun _=>0) (aM code) 0 (aM code).toList (cX (aM code).size s)) fun t=>K {t with fr:=gL ks t.fr}):Awp P GL nt code s Q:=
 cDv ks hc hd hΓ ho (h (Q .normal) fun _ h=>h)
theorem bRm {P:Program} {GL:Nat→Option (List AV)} {nt:Nat} {Q:Exit→S→Prop} {s:S} {code:Code} {Γ:Env} (md:Nat→Nat) (ks:List Nat) (hm:P.follows .mixedOrders=true) (hΓ:eT P GL Γ) (hc:eEs code=true) (hd:lZ code=true) (ho:fK nt (aM code).toList=true) (hk:sF P Γ md (aM code)=true)
  (h: ∀K:S→Prop,(∀t,Q .normal t→K t)→nH (oT P Γ GL md (aM code) 0 (aM code).toList (cX (aM code).size s)) fun t=>K {t with fr:=gL ks t.fr}):Awp P GL nt code s Q:=
 cDx md ks hm hc hd hΓ ho hk (h (Q .normal) fun _ h=>h)
theorem bZ:Tryz.prog.follows .mixedOrders=true:=by kernel_rfl
theorem sz1:eK Tryz.prog 1=some 1:=by kernel_rfl
theorem sz2:eK Tryz.prog 2=some 1:=by kernel_rfl
theorem sz3:eK Tryz.prog 3=some 1:=by kernel_rfl
theorem ag3:fHi Tryz.prog 3=some false:=by kernel_rfl
theorem zc3:lA Tryz.prog 3=some ([.i 0]):=by kernel_rfl
theorem sz4:eK Tryz.prog 4=some 1:=by kernel_rfl
theorem ag4:fHi Tryz.prog 4=some false:=by kernel_rfl
theorem sz5:eK Tryz.prog 5=some 1:=by kernel_rfl
theorem by5:dU Tryz.prog 5=some 1:=by kernel_rfl
theorem ag5:fHi Tryz.prog 5=some false:=by kernel_rfl
theorem zc5:lA Tryz.prog 5=some ([.w8 0#8]):=by kernel_rfl
theorem sz9:eK Tryz.prog 9=some 1:=by kernel_rfl
theorem by9:dU Tryz.prog 9=some 16:=by kernel_rfl
theorem ag9:fHi Tryz.prog 9=some false:=by kernel_rfl
theorem zc9:lA Tryz.prog 9=some ([.s []]):=by kernel_rfl
theorem sz22:eK Tryz.prog 22=some 1:=by kernel_rfl
theorem ag22:fHi Tryz.prog 22=some false:=by kernel_rfl
theorem sz24:eK Tryz.prog 24=some 1:=by kernel_rfl
theorem by24:dU Tryz.prog 24=some 2:=by kernel_rfl
theorem ag24:fHi Tryz.prog 24=some false:=by kernel_rfl
theorem zc24:lA Tryz.prog 24=some ([.w16 0#16]):=by kernel_rfl
theorem sz25:eK Tryz.prog 25=some 1:=by kernel_rfl
theorem ag25:fHi Tryz.prog 25=some false:=by kernel_rfl
theorem sz26:eK Tryz.prog 26=some 1:=by kernel_rfl
theorem ag26:fHi Tryz.prog 26=some false:=by kernel_rfl
theorem zc26:lA Tryz.prog 26=some ([.v (Value.slice none 0 0)]):=by kernel_rfl
theorem sz28:eK Tryz.prog 28=some 15:=by kernel_rfl
theorem ag28:fHi Tryz.prog 28=some true:=by kernel_rfl
theorem zc28:lA Tryz.prog 28=some ([.w16 0#16,.b false,.i 0,.b false,.b false,.b false,.b false,.i 0,.v (Value.slice none 0 0),.v (Value.slice none 0 0),.v (Value.slice none 0 0),.v (Value.slice none 0 0),.b false,.w16 0#16,.b false]):=by kernel_rfl
theorem sz29:eK Tryz.prog 29=some 1:=by kernel_rfl
theorem ag29:fHi Tryz.prog 29=some false:=by kernel_rfl
theorem zc29:lA Tryz.prog 29=some ([.i 0]):=by kernel_rfl
theorem sz42:eK Tryz.prog 42=some 1:=by kernel_rfl
theorem ag42:fHi Tryz.prog 42=some false:=by kernel_rfl
theorem zc42:lA Tryz.prog 42=some ([.v (Value.slice none 0 0)]):=by kernel_rfl
theorem sz43:eK Tryz.prog 43=some 1:=by kernel_rfl
theorem ag43:fHi Tryz.prog 43=some false:=by kernel_rfl
theorem fYp:eK Tryz.prog 45=some 5:=by kernel_rfl
theorem by45:dU Tryz.prog 45=some 56:=by kernel_rfl
theorem ag45:fHi Tryz.prog 45=some true:=by kernel_rfl
theorem fYm:lA Tryz.prog 45=some ([.v (Value.slice none 0 0),.w16 0#16,.w16 0#16,.w32 0#32,.v (Value.slice none 0 0)]):=by kernel_rfl
theorem sz51:eK Tryz.prog 51=some 3:=by kernel_rfl
theorem by51:dU Tryz.prog 51=some 32:=by kernel_rfl
theorem ag51:fHi Tryz.prog 51=some true:=by kernel_rfl
theorem zc51:lA Tryz.prog 51=some ([.v (Value.slice none 0 0),.w16 0#16,.w16 0#16]):=by kernel_rfl
theorem sz55:eK Tryz.prog 55=some 0:=by kernel_rfl
theorem zc59:lA Tryz.prog 59=some ([.v (Value.slice none 0 0),.i 0]):=by kernel_rfl
theorem zc63:lA Tryz.prog 63=some ([.v (Value.slice none 0 0),.i 0,.b false]):=by kernel_rfl
theorem zc66:lA Tryz.prog 66=some (List.replicate 4 (.i 0)):=by kernel_rfl
theorem sz73:eK Tryz.prog 73=some 1:=by kernel_rfl
theorem ag73:fHi Tryz.prog 73=some false:=by kernel_rfl
theorem zc75:lA Tryz.prog 75=some ([.v (Value.slice none 0 0),.v (Value.map none)]):=by kernel_rfl
theorem gJe:eK Tryz.prog 102=some 7:=by kernel_rfl
theorem gKt:fHi Tryz.prog 102=some true:=by kernel_rfl
theorem gIu:lA Tryz.prog 102=some ([.v (Value.slice none 0 0),.v (Value.slice none 0 0),.w32 0#32,.w32 0#32,.w32 0#32,.w32 0#32,.w32 0#32]):=by kernel_rfl
theorem gJd:eK Tryz.prog 106=some 9:=by kernel_rfl
theorem gKs:fHi Tryz.prog 106=some true:=by kernel_rfl
theorem gIt:lA Tryz.prog 106=some ([.w16 0#16,.w8 0#8,.w8 0#8,.w32 0#32,.w32 0#32,.w32 0#32,.w16 0#16,.v (Value.slice none 0 0),.v (Value.slice none 0 0)]):=by kernel_rfl
theorem gJc:eK Tryz.prog 110=some 4:=by kernel_rfl
theorem gKr:fHi Tryz.prog 110=some true:=by kernel_rfl
theorem gIs:lA Tryz.prog 110=some ([.w16 0#16,.w8 0#8,.w8 0#8,.v (Value.slice none 0 0)]):=by kernel_rfl
theorem gJb:eK Tryz.prog 113=some 1:=by kernel_rfl
theorem gJa:eK Tryz.prog 115=some 6:=by kernel_rfl
theorem gKq:fHi Tryz.prog 115=some true:=by kernel_rfl
theorem gIr:lA Tryz.prog 115=some ([.w8 0#8,.w8 0#8,.w16 0#16,.v (Value.slice none 0 0),.v (Value.slice none 0 0),.v (Value.slice none 0 0)]):=by kernel_rfl
theorem gIz:eK Tryz.prog 154=some 0:=by kernel_rfl
theorem fYn:lA Tryz.prog 157=some ([.v (Value.slice none 0 0),.i 0]):=by kernel_rfl
theorem gIq:lA Tryz.prog 165=some (List.replicate 32 (.w8 0#8)):=by kernel_rfl
theorem gIy:eK Tryz.prog 167=some 1:=by kernel_rfl
theorem gIp:lA Tryz.prog 167=some ([.i 0]):=by kernel_rfl
theorem gIx:eK Tryz.prog 189=some 1:=by kernel_rfl
theorem gKp:fHi Tryz.prog 189=some false:=by kernel_rfl
theorem gIo:lA Tryz.prog 189=some ([.w64 0#64]):=by kernel_rfl
theorem zv3:zvA Tryz.prog 3=some (.i 0):=by kernel_rfl
attribute [go_sem] sz1 sz2 sz3 sz4 sz5 sz9 sz22 sz24 sz25 sz26 sz28 sz29
attribute [go_sem] sz42 sz43 fYp sz51 sz55 sz73
attribute [go_sem] gJe gJd gJc gJb gJa
attribute [go_sem] gIz
attribute [go_sem] gIy gIx
attribute [go_sem] by5 by9 by24
attribute [go_sem] by45 by51
attribute [go_sem] ag3 ag4 ag5 ag9
attribute [go_sem] ag22 ag24 ag25 ag26 ag28 ag29 ag42 ag43 ag45 ag51
attribute [go_sem] ag73
attribute [go_sem] gKt gKs gKr gKq
attribute [go_sem] gKp
attribute [go_sem] zc3 zc5 zc9 zc24 zc26 zc28 zc29 zc42 fYm
attribute [go_sem] zc51 zc59 zc63 zc66 zc75 gIu gIt gIs gIr fYn gIq gIp gIo
attribute [go_sem] zv3 Tryz.underlying0 Tryz.underlying1 Tryz.underlying2 Tryz.underlying3 Tryz.underlying4 Tryz.underlying5 Tryz.underlying6 Tryz.underlying7 Tryz.underlying8 Tryz.underlying9 Tryz.underlying10 Tryz.underlying11 Tryz.underlying12 Tryz.underlying13 Tryz.underlying14 Tryz.underlying15 Tryz.underlying16 Tryz.underlying17 Tryz.underlying18 Tryz.underlying19 Tryz.underlying20 Tryz.underlying21 Tryz.underlying22 Tryz.underlying23 Tryz.underlying24 Tryz.underlying25 Tryz.underlying26 Tryz.underlying27 Tryz.underlying28 Tryz.underlying29 Tryz.underlying30 Tryz.underlying31 Tryz.underlying32 Tryz.underlying33 Tryz.underlying34 Tryz.underlying35
attribute [go_sem] Tryz.underlying36 Tryz.underlying37 Tryz.underlying38 Tryz.underlying39 Tryz.underlying40 Tryz.underlying41 Tryz.underlying42 Tryz.underlying43 Tryz.underlying44 Tryz.underlying45 Tryz.underlying46 Tryz.underlying47 Tryz.underlying48 Tryz.underlying49 Tryz.underlying50 Tryz.underlying51 Tryz.underlying52 Tryz.underlying53 Tryz.underlying54 Tryz.underlying55 Tryz.underlying56 Tryz.underlying57 Tryz.underlying58 Tryz.underlying59 Tryz.underlying60 Tryz.underlying61 Tryz.underlying62 Tryz.underlying63 Tryz.underlying64 Tryz.underlying65 Tryz.underlying66 Tryz.underlying67 Tryz.underlying68 Tryz.underlying69 Tryz.underlying70 Tryz.underlying71 Tryz.underlying72 Tryz.underlying73 Tryz.underlying74 Tryz.underlying75
attribute [go_sem] Tryz.underlying76 Tryz.underlying77 Tryz.underlying78 Tryz.underlying79 Tryz.underlying80 Tryz.underlying81 Tryz.underlying82 Tryz.underlying83 Tryz.underlying84 Tryz.underlying85 Tryz.underlying86 Tryz.underlying87 Tryz.underlying88 Tryz.underlying89 Tryz.underlying90 Tryz.underlying91 Tryz.underlying92 Tryz.underlying93 Tryz.underlying94 Tryz.underlying95 Tryz.underlying96 Tryz.underlying97 Tryz.underlying98 Tryz.underlying99 Tryz.underlying100 Tryz.underlying101 Tryz.underlying102 Tryz.underlying103 Tryz.underlying104 Tryz.underlying105 Tryz.underlying106 Tryz.underlying107 Tryz.underlying108 Tryz.underlying109 Tryz.underlying110 Tryz.underlying111 Tryz.underlying112 Tryz.underlying113 Tryz.underlying114 Tryz.underlying115
attribute [go_sem] Tryz.underlying116 Tryz.underlying117 Tryz.underlying118 Tryz.underlying119 Tryz.underlying120 Tryz.underlying121 Tryz.underlying122 Tryz.underlying123 Tryz.underlying124 Tryz.underlying125 Tryz.underlying126 Tryz.underlying127 Tryz.underlying128 Tryz.underlying129 Tryz.underlying130 Tryz.underlying131 Tryz.underlying132 Tryz.underlying133 Tryz.underlying134 Tryz.underlying135 Tryz.underlying136 Tryz.underlying137 Tryz.underlying138 Tryz.underlying139 Tryz.underlying140 Tryz.underlying141 Tryz.underlying142 Tryz.underlying143 Tryz.underlying144 Tryz.underlying145 Tryz.underlying146 Tryz.underlying147 Tryz.underlying148 Tryz.underlying149 Tryz.underlying150 Tryz.underlying151 Tryz.underlying152 Tryz.underlying153 Tryz.underlying154 Tryz.underlying155
attribute [go_sem] Tryz.underlying156 Tryz.underlying157 Tryz.underlying158 Tryz.underlying159 Tryz.underlying160 Tryz.underlying161 Tryz.underlying162 Tryz.underlying163 Tryz.underlying164 Tryz.underlying165 Tryz.underlying166 Tryz.underlying167 Tryz.underlying168 Tryz.underlying169 Tryz.underlying170 Tryz.underlying171 Tryz.underlying172 Tryz.underlying173 Tryz.underlying174 Tryz.underlying175 Tryz.underlying176 Tryz.underlying177 Tryz.underlying178 Tryz.underlying179 Tryz.underlying180 Tryz.underlying181 Tryz.underlying182 Tryz.underlying183 Tryz.underlying184 Tryz.underlying185 Tryz.underlying186 Tryz.underlying187 Tryz.underlying188 Tryz.underlying189 Tryz.underlying190 Tryz.underlying191 Tryz.underlying192 Tryz.underlying193 Tryz.underlying194 Tryz.underlying195
attribute [go_sem] Tryz.underlying196 Tryz.underlying197 Tryz.underlying198 Tryz.underlying199 Tryz.underlying200 Tryz.underlying201 Tryz.underlying202 Tryz.underlying203 Tryz.underlying204 Tryz.underlying205 Tryz.underlying206 Tryz.underlying207 Tryz.underlying208 Tryz.underlying209 Tryz.underlying210 Tryz.underlying211 Tryz.underlying212 Tryz.underlying213
attribute [go_sem] List.head?_cons List.set_cons_succ List.set_cons_zero List.take_succ_cons List.take_zero List.drop_succ_cons List.drop_zero List.all_cons List.all_nil Option.isSome_some Bool.and_self Bool.and_true
attribute [go_sem] reduceIte
attribute [go_sem] Tryz.f78 Tryz.f79 Tryz.f82 Tryz.f75 Tryz.f91 Tryz.f92 Tryz.f85 Tryz.f20 Tryz.f19 Tryz.f21 Tryz.f60 Tryz.f18 Tryz.f51 Tryz.f32 Tryz.f33 Tryz.f34 Tryz.f52 Tryz.f50 Tryz.f66 Tryz.f28
attribute [go_sem] Tryz.f26 Tryz.f29 Tryz.f127 Tryz.f97 Tryz.f120 Tryz.f130 Tryz.f124 Tryz.f113 Tryz.f45 Tryz.f101 Tryz.f94 Tryz.f46 Tryz.f104 Tryz.f100 Tryz.f84 Tryz.f71 Tryz.f74 Tryz.f68 Tryz.f89 Tryz.f72
attribute [go_sem] Tryz.f81 Tryz.f70 Tryz.f77 Tryz.f69 Tryz.f90 Tryz.f73 Tryz.f96 Tryz.f83 Tryz.f99 Tryz.f88 Tryz.f95 Tryz.f80 Tryz.f93 Tryz.f76 Tryz.f98 Tryz.f103 Tryz.f87 Tryz.f23 Tryz.f24 Tryz.f12
attribute [go_sem] Tryz.f4 Tryz.f6 Tryz.f10 Tryz.f57 Tryz.f44 Tryz.f40 Tryz.f56 Tryz.f62 Tryz.f61 Tryz.f42 Tryz.f55 Tryz.f54 Tryz.f43 Tryz.f53 Tryz.f8 Tryz.f41 Tryz.f11 Tryz.f16 Tryz.f17 Tryz.f7
attribute [go_sem] Tryz.f27 Tryz.f37 Tryz.f65 Tryz.f25 Tryz.f67 Tryz.f105 Tryz.f36 Tryz.f38 Tryz.f109 Tryz.f106 Tryz.f116 Tryz.f117 Tryz.f115 Tryz.f114 Tryz.f128 Tryz.f129 Tryz.f126 Tryz.f131 Tryz.f119 Tryz.f121
attribute [go_sem] Tryz.f122 Tryz.f112 Tryz.f118 Tryz.f125
end Go.AX

namespace Go.AX
attribute [go_sem] BitVec.reduceAnd BitVec.reduceOfInt BitVec.reduceSub BitVec.reduceToNat Int.reduceAdd Int.reduceEq Int.reduceLE Int.reduceLT Int.reduceMul Int.reduceNeg Int.reduceSub Int.reduceToNat Nat.reduceAdd Nat.reduceDiv Nat.reduceEqDiff Nat.reduceLT Nat.reduceLeDiff Nat.reduceMod Nat.reduceMul Nat.reduceSub reduceCtorEq
open Go Go.Proofs
theorem bRf (P:Program) (t:TypeId) (a b:BitVec 8):bM P .and t (.w8 a) (.w8 b)=some (.w8 (a&&&b)):=(rfl)
theorem cCw (P:Program) (t:TypeId) (a b:BitVec 8):bM P .or t (.w8 a) (.w8 b)=some (.w8 (a|||b)):=(rfl)
theorem bQv (P:Program) (t:TypeId) (a b:BitVec 8):bM P .eql t (.w8 a) (.w8 b)=some (.b (decide (a=b))):=(rfl)
theorem bQf (P:Program) (t:TypeId) (a b:BitVec 8):bM P .neq t (.w8 a) (.w8 b)=some (.b (!decide (a=b))):=(rfl)
theorem aTq (P:Program) (t:TypeId) (a:BitVec 8) (n:Int) (h:0≤n):bM P .shr t (.w8 a) (.i n)=some (.w8 (a>>>n.toNat)):=by simp[bM,bin,shr,gAd,h]
theorem aKi (P:Program) (t:TypeId) (a:BitVec 8) (n:BitVec 64):bM P .shr t (.w8 a) (.w64 n)=some (.w8 (a>>>n.toNat)):=(rfl)
theorem cYh (a:BitVec 8):ix (.w8 a)=some (a.toNat:Int):=(rfl)
theorem bPb (a:BitVec 8):toK .u16 (.w8 a)=some (.w16 (a.setWidth 16)):=(rfl)
theorem bPa (a:BitVec 8):toK .u32 (.w8 a)=some (.w32 (a.setWidth 32)):=(rfl)
theorem cQn (n:Int):toK .u8 (.i n)=some (.w8 (BitVec.ofInt 8 n)):=(rfl)
theorem cQm (a:BitVec 8):toK .i64 (.w8 a)=some (.i (a.toNat:Int)):=(rfl)
theorem bEn (P:Program) (t:TypeId) (a b:BitVec 16):bM P .add t (.w16 a) (.w16 b)=some (.w16 (a+b)):=(rfl)
theorem bDr (P:Program) (t:TypeId) (a b:BitVec 16):bM P .mul t (.w16 a) (.w16 b)=some (.w16 (a*b)):=(rfl)
theorem bQe (P:Program) (t:TypeId) (a b:BitVec 16):bM P .or t (.w16 a) (.w16 b)=some (.w16 (a|||b)):=(rfl)
theorem bDk (P:Program) (t:TypeId) (a b:BitVec 16):bM P .quo t (.w16 a) (.w16 b)=if b=0#16 then none else some (.w16 (a/b)):=(rfl)
theorem bDh (P:Program) (t:TypeId) (a b:BitVec 16):bM P .rem t (.w16 a) (.w16 b)=if b=0#16 then none else some (.w16 (a%b)):=(rfl)
theorem bEg (P:Program) (t:TypeId) (a b:BitVec 16):bM P .eql t (.w16 a) (.w16 b)=some (.b (decide (a=b))):=(rfl)
theorem bDn (P:Program) (t:TypeId) (a b:BitVec 16):bM P .neq t (.w16 a) (.w16 b)=some (.b (!decide (a=b))):=(rfl)
theorem bDu (P:Program) (t:TypeId) (a b:BitVec 16):bM P .lss t (.w16 a) (.w16 b)=some (.b (decide (a<b))):=(rfl)
theorem aFa (P:Program) (t:TypeId) (a:BitVec 16) (n:BitVec 64):bM P .shl t (.w16 a) (.w64 n)=some (.w16 (a <<<n.toNat)):=(rfl)
theorem bPe (a:BitVec 16):toK .u8 (.w16 a)=some (.w8 (a.setWidth 8)):=(rfl)
theorem bCr (a:BitVec 16):toK .u32 (.w16 a)=some (.w32 (a.setWidth 32)):=(rfl)
theorem cBz (n:Int):toK .u16 (.i n)=some (.w16 (BitVec.ofInt 16 n)):=(rfl)
theorem cBw (a:BitVec 16):toK .i64 (.w16 a)=some (.i (a.toNat:Int)):=(rfl)
theorem bEm (P:Program) (t:TypeId) (a b:BitVec 32):bM P .add t (.w32 a) (.w32 b)=some (.w32 (a+b)):=(rfl)
theorem bEj (P:Program) (t:TypeId) (a b:BitVec 32):bM P .and t (.w32 a) (.w32 b)=some (.w32 (a&&&b)):=(rfl)
theorem bQd (P:Program) (t:TypeId) (a b:BitVec 32):bM P .or t (.w32 a) (.w32 b)=some (.w32 (a|||b)):=(rfl)
theorem bEf (P:Program) (t:TypeId) (a b:BitVec 32):bM P .eql t (.w32 a) (.w32 b)=some (.b (decide (a=b))):=(rfl)
theorem bDm (P:Program) (t:TypeId) (a b:BitVec 32):bM P .neq t (.w32 a) (.w32 b)=some (.b (!decide (a=b))):=(rfl)
theorem bEc (P:Program) (t:TypeId) (a b:BitVec 32):bM P .geq t (.w32 a) (.w32 b)=some (.b (decide (b≤a))):=(rfl)
theorem aEx (P:Program) (t:TypeId) (a:BitVec 32) (n:BitVec 64):bM P .shl t (.w32 a) (.w64 n)=some (.w32 (a <<<n.toNat)):=(rfl)
theorem aPw (P:Program) (t:TypeId) (a:BitVec 32) (n:Int) (h:0≤n):bM P .shr t (.w32 a) (.i n)=some (.w32 (a>>>n.toNat)):=by simp[bM,bin,shr,gAd,h]
theorem aEo (P:Program) (t:TypeId) (a:BitVec 32) (n:BitVec 64):bM P .shr t (.w32 a) (.w64 n)=some (.w32 (a>>>n.toNat)):=(rfl)
theorem bPd (a:BitVec 32):toK .u8 (.w32 a)=some (.w8 (a.setWidth 8)):=(rfl)
theorem bCp (a:BitVec 32):toK .u16 (.w32 a)=some (.w16 (a.setWidth 16)):=(rfl)
theorem cBy (n:Int):toK .u32 (.i n)=some (.w32 (BitVec.ofInt 32 n)):=(rfl)
theorem cBv (a:BitVec 32):toK .i64 (.w32 a)=some (.i (a.toNat:Int)):=(rfl)
theorem bDa (P:Program) (t:TypeId) (a b:BitVec 64):bM P .sub t (.w64 a) (.w64 b)=some (.w64 (a-b)):=(rfl)
theorem bEi (P:Program) (t:TypeId) (a b:BitVec 64):bM P .and t (.w64 a) (.w64 b)=some (.w64 (a&&&b)):=(rfl)
theorem bCx (P:Program) (t:TypeId) (a b:BitVec 64):bM P .xor t (.w64 a) (.w64 b)=some (.w64 (a^^^b)):=(rfl)
theorem bEb (P:Program) (t:TypeId) (a b:BitVec 64):bM P .geq t (.w64 a) (.w64 b)=some (.b (decide (b≤a))):=(rfl)
theorem aQa (P:Program) (t:TypeId) (a:BitVec 64) (n:Int) (h:0≤n):bM P .shl t (.w64 a) (.i n)=some (.w64 (a <<<n.toNat)):=by simp[bM,bin,shl,gAd,h]
theorem aEu (P:Program) (t:TypeId) (a:BitVec 64) (n:BitVec 64):bM P .shl t (.w64 a) (.w64 n)=some (.w64 (a <<<n.toNat)):=(rfl)
theorem aEl (P:Program) (t:TypeId) (a:BitVec 64) (n:BitVec 64):bM P .shr t (.w64 a) (.w64 n)=some (.w64 (a>>>n.toNat)):=(rfl)
theorem bPc (a:BitVec 64):toK .u8 (.w64 a)=some (.w8 (a.setWidth 8)):=(rfl)
theorem cBx (n:Int):toK .u64 (.i n)=some (.w64 (BitVec.ofInt 64 n)):=(rfl)
theorem cBu (a:BitVec 64):toK .i64 (.w64 a)=some (.i (W (a.toNat:Int))):=(rfl)
theorem ix_i (n:Int):ix (.i n)=some n:=(rfl)
theorem cDr (P:Program) (t:TypeId) (a b:Int):bM P .add t (.i a) (.i b)=some (.i (W (a+b))):=(rfl)
theorem cCt (P:Program) (t:TypeId) (a b:Int):bM P .sub t (.i a) (.i b)=some (.i (W (a-b))):=(rfl)
theorem cDc (P:Program) (t:TypeId) (a b:Int):bM P .mul t (.i a) (.i b)=some (.i (W (a*b))):=(rfl)
theorem cDp (P:Program) (t:TypeId) (a b:Int):bM P .and t (.i a) (.i b)=some (.i (cYz a b)):=(rfl)
theorem cRk (P:Program) (t:TypeId) (a b:Int):bM P .or t (.i a) (.i b)=some (.i (ior a b)):=(rfl)
theorem cDn (P:Program) (t:TypeId) (a b:Int):bM P .eql t (.i a) (.i b)=some (.b (decide (a=b))):=(rfl)
theorem cCz (P:Program) (t:TypeId) (a b:Int):bM P .neq t (.i a) (.i b)=some (.b (!decide (a=b))):=(rfl)
theorem cDe (P:Program) (t:TypeId) (a b:Int):bM P .lss t (.i a) (.i b)=some (.b (decide (a<b))):=(rfl)
theorem cDg (P:Program) (t:TypeId) (a b:Int):bM P .leq t (.i a) (.i b)=some (.b (decide (a≤b))):=(rfl)
theorem cDi (P:Program) (t:TypeId) (a b:Int):bM P .gtr t (.i a) (.i b)=some (.b (decide (b<a))):=(rfl)
theorem cDk (P:Program) (t:TypeId) (a b:Int):bM P .geq t (.i a) (.i b)=some (.b (decide (b≤a))):=(rfl)
theorem cCv (P:Program) (t:TypeId) (a b:Int):bM P .quo t (.i a) (.i b)=if b=0 then none else some (.i (W (a.tdiv b))):=(rfl)
theorem cCu (P:Program) (t:TypeId) (a b:Int):bM P .rem t (.i a) (.i b)=if b=0 then none else some (.i (a.tmod b)):=(rfl)
theorem aQd (P:Program) (t:TypeId) (a:Int) (n:BitVec 64):bM P .shl t (.i a) (.w64 n)=some (.i (W (a*2^(min n.toNat 64)))):=(rfl)
theorem aPy (P:Program) (t:TypeId) (a:Int) (n:BitVec 64):bM P .shr t (.i a) (.w64 n)=some (.i (a.fdiv (2^(min n.toNat 64)))):=(rfl)
theorem cDm (P:Program) (t:TypeId) (a b:List (BitVec 8)):bM P .eql t (.s a) (.s b)=some (.b (decide (a=b))):=(rfl)
theorem bSt (a:Bool):un .not (.b a)=some (.b (!a)):=(rfl)
def cLm:AV→Option AV
 | .op id off=>some (.op id off)
 | .rp xs=>some (.rp xs)
 |_=>none
def cEv:AV→AV→AV→Option AV
 | .b t,a,b=>some (if t then a else b)
 |_,_,_=>none
def aWt (P:Program) (t:TypeId) (hp:H):AV→Option AV
 | .rp ys=>ldV P t ys
 | .op id off=>aK (hp id) fun o=>match o with| .cells xs _=>ldV P t (xs.drop off)|_=>none
 |_=>none
def bLg (P:Program) (t:TypeId) (off:Nat):AO→Option AV
 | .cells xs _=>ldV P t (xs.drop off)
 |_=>none
def iaF (P:Program) (x:AV) (j:Int):Option TypeDesc→Option AV
 |some (.slice e)=>aK (eK P e) fun z=>match x with
   | .sl n xs=>aN (0≤j∧j<n) (some (.rp (xs.drop (j.toNat*z))))
   | .os id off n e' _=>aN (e'=z∧0≤j∧j<n) (some (.op id (off+j.toNat*z)))
   |_=>none
 |some (.array n e)=>aK (eK P e) fun z=>aN (0≤j∧j<n) (match x with
   | .rp xs=>some (.rp (xs.drop (j.toNat*z)))
   | .op id off=>some (.op id (off+j.toNat*z))
   |_=>none)
 |_=>none
def idF (P:Program) (x:AV) (j:Int):Option TypeDesc→Option AV
 |some (.array n e)=>aK (eK P e) fun z=>aN (0≤j∧j<n) (match x with
   | .agg cs=>ldV P e (cs.drop (j.toNat*z))
   |_=>none)
 |some .string=>match x with
   | .s l=>aN (0≤j) (aK l[j.toNat]? fun c=>some (.w8 c))
   |_=>none
 |_=>none
def faF (P:Program) (x:AV) (f:Nat):Option TypeDesc→Option AV
 |some (.struct fs)=>aK fs[f]? fun fd=>aK (eK P fd.type) fun n=>aN (0<n) (match x with
   | .op id off=>some (.op id (off+fd.offset))
   | .rp xs=>some (.rp (xs.drop fd.offset))
   |_=>none)
 |_=>none
def exF (k:Nat):AV→Option AV
 | .tup xs=>xs[k]?
 |_=>none
def ldF (P:Program) (t:TypeId) (ys:List AV):Option Bool→Option AV
 |some true=>aK (eK P t) fun n=>aN (n≤ys.length) (some (.agg (ys.take n)))
 |some false=>ys.head?
 |none=>none
def slF (P:Program) (x:AV) (lo hi:Option AV):Option TypeDesc→Option AV
 |some (.slice e)=>aK (eK P e) fun z=>match x with
  | .sl n xs=>aK (oB lo) fun l=>aK (oV hi n) fun h=>aN (0≤l∧l≤h∧h≤n) (some (.sl (h.toNat-l.toNat) ((xs.drop (l.toNat*z)).take ((h.toNat-l.toNat)*z))))
  | .os id off n e' g=>aK (oB lo) fun l=>aK (oV hi n) fun h=>aN (e'=z∧0≤l∧l≤h∧h≤n) (some (.os id (off+l.toNat*z) (h.toNat-l.toNat) z g))
  | .v (.slice none 0 0)=>aK (oB lo) fun l=>aK (oV hi 0) fun h=>aN (0≤l∧l≤h∧h≤0) (some (.v (.slice none 0 0)))
  |_=>none
 |some (.array n e)=>aK (eK P e) fun z=>aK (oB lo) fun l=>aK (oV hi n) fun h=>aN (0≤l∧l≤h∧h≤n) (match x with
  | .rp xs=>some (.sl (h.toNat-l.toNat) ((xs.drop (l.toNat*z)).take ((h.toNat-l.toNat)*z)))
  | .op id off=>some (.os id (off+l.toNat*z) (h.toNat-l.toNat) z false)
  |_=>none)
 |some .string=>match x with
  | .s c=>aK (oB lo) fun l=>aK (oV hi c.length) fun h=>aN (0≤l∧l≤h∧h≤c.length) (some (.s ((c.drop l.toNat).take (h.toNat-l.toNat))))
  |_=>none
 |_=>none
def cpO (i off n e' z m:Nat) (ys:List AV) (hp:H):AO→Option (AV×H)
 | .cells xs mt=>aN (mt=true∧e'=z∧off+n*z≤xs.length) (some (.i (min m n:Nat),upd hp i (.cells (eG xs off (ys.take (min m n*z))) true)))
 |_=>none
def cpF (P:Program) (hp:H) (x y:AV):Option TypeDesc→Option (AV×H)
 |some (.slice e)=>aK (eK P e) fun z=>aK (tX hp z y) fun my=>match x with
  | .os i off n e' _=>aK (hp i) (cpO i off n e' z my.1 my.2 hp)
  |_=>none
 |_=>none
def bsF (P:Program) (len:Nat) (ps:List (Nat×AV)):Option TypeDesc→Option (Nat×List AV)
 |some (.slice e)=>aK (eK P e) fun z=>aN (0<z∧len*z≤16777216) (aK (lA P e) fun zs=>aN (zs.length=z)
   (aK (fZh (fun k=>some (k*z,z)) (rep len zs) ps) fun cs=>some (z,cs)))
 |_=>none
def bdS (z m:Nat) (zs:List AV) (ps:List (Nat×AV)):Option (List AV)→Option AV
 |some cs=>some (.agg cs)
 |none=>aK (fZh (fun k=>some (k*z,z)) zs ps) fun cs=>aN (0<m) (some (.agg cs))
def bdF (P:Program) (n:Nat) (ps:List (Nat×AV)):Option (List AV)→Option TypeDesc→Option AV
 |some zs,some (.struct fs)=>aK (fZh (fun k=>aK fs[k]? fun fd=>aK (eK P fd.type) fun n=>some (fd.offset,n)) zs ps) fun cs=>
    aN (fs.toList.all (fun fd=>(eK P fd.type).isSome)=true) (some (.agg cs))
 |some zs,some (.array m e)=>aK (eK P e) fun z=>bdS z m zs ps (if z=1∧zs.length=n then aEa 0 ps else none)
 |_,_=>none
def stF (z:Option Nat) (hp:H) (cx:Nat):AV→Option (List AV)→Option (AV×H×Nat)
 | .op i off,some cs=>aK z fun z=>aK (hp i) fun o=>match o with
   | .cells xs mt=>aN (mt=true∧cs.length=z∧off+z≤xs.length) (some (.junk,upd hp i (.cells (dV xs off cs) true),cx))
   |_=>none
 |_,_=>none
def stO (z:Nat) (hp:H) (cx i off:Nat) (cs:List AV):AO→Option (AV×H×Nat)
 | .cells xs mt=>aN (mt=true∧cs.length=z∧off+z≤xs.length) (some (.junk,upd hp i (.cells (dV xs off cs) true),cx))
 |_=>none
def aEk (x:AV):Option TypeDesc→Option AV
 |some (.slice _)=>match x with
  | .sl n _=>some (.i n)
  | .os _ _ n _ _=>some (.i n)
  | .v (.slice none 0 0)=>some (.i 0)
  |_=>none
 |some .string=>match x with| .s l=>some (.i l.length)|_=>none
 |some (.array n _)=>some (.i n)
 |_=>none
def apO (z by_ id off n e':Nat) (g:Bool) (i:Nat) (m:Nat) (ys:List AV) (hp:H):AO→Option (AV×H)
 | .cells xs mt=>aN (mt=true∧g=true∧e'=z∧off+n*z=xs.length∧n+m≤140737488355328∧(n+m)*by_≤140737488355328)
     (some (.os id 0 (n+m) z true,upd (del hp i) id (.cells (xs.drop off++ys) true)))
 |_=>none
def apF (P:Program) (hp:H) (id:Nat) (x y:AV):Option TypeDesc→Option (AV×H)
 |some (.slice e)=>aK (eK P e) fun z=>aK (dU P e) fun by_=>aK (lA P e) fun zs=>aN (0<z∧zs.length=z) (aK (tX hp z y) fun my=>aK (uU hp my.2) fun fy=>zV z by_ x my.1 fy.1 fy.2 id)
 |_=>none
def azF (P:Program) (hp:H) (id:Nat) (x y:AV):Option TypeDesc→Option (AV×H)
 |some (.slice e)=>aK (eK P e) fun z=>aK (dU P e) fun by_=>aK (lA P e) fun zs=>aN (0<z∧zs.length=z) (aK (bCb y) fun m=>aN (m≤140737488355328∧m*by_≤140737488355328) (kF z by_ x m (rep m zs) hp id))
 |_=>none
def apU (P:Program) (hp:H) (id:Nat) (x y:AV) (t:TypeId):Option TypeDesc→Option (AV×H)
 |some (.int _)=>azF P hp id x y (P.underlying t)
 |some _=>apF P hp id x y (P.underlying t)
 |none=>none
def mkG (hp:H):AV→Option (AV×H)
 | .os i off n e' g=>aK (hp i) fun o=>match o with
   | .cells xs mt=>aN (mt=true∧0<n) (some (.os i off n e' g,upd hp i (.cells xs true)))
   |_=>none
 |_=>none
def mkF (hp:H) (x:AV):Option TypeDesc→Option (AV×H)
 |some (.int .u8)=>mkG hp x
 |_=>none
def cvF (hp hp2:H) (cx id:Nat) (x:AV) (ue:TypeId→Option TypeDesc) (sd:Bool):Option TypeDesc→Option TypeDesc→Option (AV×H×Nat)
 |some _,some (.int k)=>aK (toK k x) fun y=>some (y,hp,cx)
 |some (.slice e),some .string=>match ue e with
   |some (.int .u8)=>aK (aK (sR hp2 1 x) fun nl=>aK (fHq nl.2) fun l=>some (.s l)) fun y=>some (y,hp,cx)
   |_=>none
 |some .string,some (.slice e)=>match ue e,x with
   |some (.int .u8),.s l=>aN (l.length≤140737488355328) (some (.os id 0 l.length 1 true,upd hp id (.cells (l.map .w8) true),cx))
   |_,_=>none
 |some (.slice _),some (.slice e)=>aN (sd=true) (aK (mkF hp x (ue e)) fun p=>some (p.1,p.2,cx))
 |some _,some .string=>match x with| .s l=>some (.s l,hp,cx)|_=>none
 |_,_=>none
theorem cPk {P:Program} {Γ:Env} {ρ:Operand→AV} {m nx n id cx:Nat} {hp:H} {x:Operand}:eff P Γ (.move x) ρ m nx n hp id cx=some (ρ x,hp,cx):=(rfl)
theorem bNz {P:Program} {Γ:Env} {ρ:Operand→AV} {m nx n id cx:Nat} {hp:H} {x:Operand}:eff P Γ (.assign x) ρ m nx n hp id cx=some (ρ x,hp,cx):=(rfl)
theorem dAr {P:Program} {Γ:Env} {ρ:Operand→AV} {m nx n id cx:Nat} {hp:H} {o:BinOp} {t ty:TypeId} {x y:Operand}:eff P Γ (.binOp o t x y ty) ρ m nx n hp id cx=aK (bM P o t (ρ x) (ρ y)) fun y=>some (y,hp,cx):=(rfl)
theorem e_un {P:Program} {Γ:Env} {ρ:Operand→AV} {m nx n id cx:Nat} {hp:H} {o:UnOp} {t:TypeId} {x:Operand}:eff P Γ (.unOp o t x) ρ m nx n hp id cx=aK (un o (ρ x)) fun y=>some (y,hp,cx):=(rfl)
theorem dAm {P:Program} {Γ:Env} {ρ:Operand→AV} {m nx n id cx:Nat} {hp:H} {x:Operand}:eff P Γ (.nilCheck x) ρ m nx n hp id cx=aK (cLm (ρ x)) fun y=>some (y,hp,cx):=by simp only[eff,cls,dI];cases ρ x<;>rfl
theorem cPj {P:Program} {Γ:Env} {ρ:Operand→AV} {m nx n id cx:Nat} {hp:H} {c x y:Operand}:eff P Γ (.pick c x y) ρ m nx n hp id cx=aK (cEv (ρ c) (ρ x) (ρ y)) fun y=>some (y,hp,cx):=by simp only[eff,cls,dI];cases ρ c<;>rfl
theorem cPn {P:Program} {Γ:Env} {ρ:Operand→AV} {m nx n id cx:Nat} {hp:H} {t:TypeId} {x:Operand}:eff P Γ (.load t x) ρ m nx n hp id cx=aK (aWt P t (mY m nx n hp) (ρ x)) fun y=>some (y,hp,cx):=by simp only[eff,cls,eKi];cases ρ x<;>rfl
theorem e_ia {P:Program} {Γ:Env} {ρ:Operand→AV} {m nx n id cx:Nat} {hp:H} {t:TypeId} {x j:Operand}:eff P Γ (.indexAddr t x j) ρ m nx n hp id cx=aK (ix (ρ j)) fun j=>aK (iaF P (ρ x) j (P.underlying t)) fun y=>some (y,hp,cx):=by
 simp only[eff,cls,dI]
 cases ix (ρ j)with
 |none=>rfl
 |some j=>simp only[aX];cases P.underlying t with
  |none=>rfl
  |some d=>cases d<;>rfl
theorem dAp {P:Program} {Γ:Env} {ρ:Operand→AV} {m nx n id cx:Nat} {hp:H} {t:TypeId} {x j:Operand}:eff P Γ (.index t x j) ρ m nx n hp id cx=aK (ix (ρ j)) fun j=>aK (idF P (ρ x) j (P.underlying t)) fun y=>some (y,hp,cx):=by
 simp only[eff,cls,dI]
 cases ix (ρ j)with
 |none=>rfl
 |some j=>simp only[aX];cases P.underlying t with
  |none=>rfl
  |some d=>cases d<;>rfl
theorem e_fa {P:Program} {Γ:Env} {ρ:Operand→AV} {m nx n id cx:Nat} {hp:H} {t:TypeId} {x:Operand} {f:Nat}:eff P Γ (.fieldAddr t x f) ρ m nx n hp id cx=aK (faF P (ρ x) f (P.underlying t)) fun y=>some (y,hp,cx):=by
 simp only[eff,cls,dI];cases P.underlying t with
 |none=>rfl
 |some d=>cases d<;>rfl
theorem e_ex {P:Program} {Γ:Env} {ρ:Operand→AV} {m nx n id cx:Nat} {hp:H} {x:Operand} {k:Nat}:eff P Γ (.extract x k) ρ m nx n hp id cx=aK (exF k (ρ x)) fun y=>some (y,hp,cx):=by simp only[eff,cls,dI];cases ρ x<;>rfl
theorem cAn {P:Program} {Γ:Env} {ρ:Operand→AV} {m nx n id cx:Nat} {hp:H} {t:TypeId} {x:Operand} {lo hi:Option Operand}:eff P Γ (.slice t x lo hi none) ρ m nx n hp id cx=aK (slF P (ρ x) (lo.map ρ) (hi.map ρ) (P.underlying t)) fun y=>some (y,hp,cx):=by
 simp only[eff,cls,dI,aIe]
 cases P.underlying t with
 |none=>rfl
 |some d=>cases d<;>rfl
theorem cAq {P:Program} {Γ:Env} {ρ:Operand→AV} {m nx n id cx:Nat} {hp:H} {t:TypeId}:eff P Γ (.alloc t) ρ m nx n hp id cx=aK (lA P t) fun zs=>some (.op id 0,upd hp id (.cells zs true),cx):=by simp only[eff,cls,eEm];cases lA P t<;>rfl
theorem dAq {P:Program} {Γ:Env} {ρ:Operand→AV} {m nx n id cx:Nat} {hp:H} {t:TypeId} {x:Operand}:eff P Γ (.box t x) ρ m nx n hp id cx=aK (dC (ρ x)) fun cs=>some (.op id 0,upd hp id (.cells cs true),cx):=by simp only[eff,cls,eEm];cases dC (ρ x)<;>rfl
theorem cAm {P:Program} {Γ:Env} {ρ:Operand→AV} {m nx n id cx:Nat} {hp:H} {t:TypeId} {a x:Operand}:eff P Γ (.store t a x) ρ m nx n hp id cx=stF (eK P t) hp cx (ρ a) (dC (ρ x)):=by
 simp only[eff,cls,fR]
 cases ρ a with
 |op i off=>
  cases dC (ρ x)with
  |none=>rfl
  |some cs=>
   cases eK P t with
   |none=>rfl
   |some z=>
    simp only[stF,aX]
    cases hp i with
    |none=>rfl
    |some o=>cases o<;>first|rfl|(simp only[aX,aN];split<;>rfl)
 |_=>rfl
theorem cPo {P:Program} {Γ:Env} {ρ:Operand→AV} {m nx n id cx:Nat} {hp:H} {s d:TypeId} {x:Operand}:eff P Γ (.convert s d x) ρ m nx n hp id cx=cvF hp (mY m nx n hp) cx id (ρ x) P.underlying (decide (s=d)) (P.underlying s) (P.underlying d):=by
 simp only[eff,cls,dI,eKi,eEm,fR]
 generalize hs:P.underlying s=us
 generalize hd:P.underlying d=ud
 cases us with
 |none=>cases ud with
  |none=>rfl
  |some b=>cases b<;>rfl
 |some a=>
  cases ud with
  |none=>cases a<;>rfl
  |some b=>
   cases b with
   |int k=>cases a<;>rfl
   |string=>
    cases a with
    |slice e=>
     simp only[cvF]
     cases P.underlying e with
     |none=>rfl
     |some f=>cases f with
      |int k=>cases k<;>rfl
      |_=>rfl
    |_=>simp only[cvF,aX];cases ρ x<;>rfl
   |slice e=>
    cases a with
    |string=>
     simp only[cvF]
     cases P.underlying e with
     |none=>rfl
     |some f=>cases f with
      |int k=>
       cases k with
       |u8=>cases ρ x with
        |s l=>simp only[aN];split<;>rfl
        |_=>rfl
       |_=>rfl
      |_=>rfl
    |slice e2=>
     simp only[cvF,aN,decide_eq_true_eq]
     by_cases hsd:s=d
     ·rw[J4 hsd,J4 hsd]
      simp only[aWr,mkF]
      cases P.underlying e with
      |none=>rfl
      |some f=>cases f with
       |int k=>
        cases k with
        |u8=>cases ρ x<;>rfl
        |_=>rfl
       |_=>rfl
     rw[J3 hsd,J3 hsd];rfl
    |_=>rfl
   |_=>cases a<;>rfl
theorem cAp {P:Program} {Γ:Env} {ρ:Operand→AV} {m nx n id cx:Nat} {hp:H} {t:TypeId} {parts:Array (Nat×Operand)}:eff P Γ (.build t parts) ρ m nx n hp id cx=aK (bdF P parts.size (parts.toList.map fun p=>(p.1,ρ p.2)) (lA P t) (P.underlying t)) fun y=>some (y,hp,cx):=by
 simp only[eff,cls,dI]
 cases lA P t with
 |none=>rfl
 |some zs=>
  simp only[aX]
  cases P.underlying t with
  |none=>rfl
  |some d=>
   cases d with
   |array m e=>
    simp only[bdF]
    cases eK P e with
    |none=>rfl
    |some z=>
     simp only[aX]
     split<;>(rename_i h;simp only[h,bdS,aX])
   |_=>rfl
theorem bNy {P:Program} {Γ:Env} {ρ:Operand→AV} {m nx n id cx:Nat} {hp:H} {t:TypeId} {len:Nat} {parts:Array (Nat×Operand)}:eff P Γ (.buildSlice t len parts) ρ m nx n hp id cx=aK (bsF P len (parts.toList.map fun p=>(p.1,ρ p.2)) (P.underlying t)) fun p=>some (.os id 0 len p.1 true,upd hp id (.cells p.2 true),cx):=by
 simp only[eff,cls,eEm]
 cases P.underlying t with
 |none=>rfl
 |some d=>
  cases d with
  |slice e=>
   simp only[bsF]
   cases eK P e with
   |none=>rfl
   |some z=>
    simp only[aX,aN]
    split
    ·cases lA P e with
     |none=>rfl
     |some zs=>
      simp only[aX]
      split
      ·cases fZh (fun k=>some (k*z,z)) (rep len zs) (parts.toList.map fun p=>(p.1,ρ p.2))<;>rfl
      rfl
    rfl
  |_=>rfl
theorem cPp {P:Program} {Γ:Env} {ρ:Operand→AV} {m nx n id cx:Nat} {hp:H} {f:Operand} {args:Array Operand} {ats:Array TypeId}:eff P Γ (.call {callee:=.value f,args:=args,argTypes:=ats}) ρ m nx n hp id cx=(match ρ f with| .fn f caps=>eFj Γ f (args.toList.map ρ++caps) m nx n hp id cx|_=>none):=(rfl)
def bAv (hp:H) (x:AV):Option TypeDesc→Option AV
 |some (.map _ _)=>aK (aEi hp x) fun es=>some (.i es.length)
 |d=>aEk x d
theorem cPh {P:Program} {Γ:Env} {ρ:Operand→AV} {m nx n id cx:Nat} {hp:H} {x:Operand} {t:TypeId}:eff P Γ (.call {callee:=.builtin .len,args:= #[x],argTypes:= #[t]}) ρ m nx n hp id cx=aK (bAv (mY m nx n hp) (ρ x) (P.underlying t)) fun y=>some (y,hp,cx):=by
 simp only[eff,cls,bMn,dI,eKi,aAi,cMq,aWv,bAv,aEk]
 cases P.underlying t with
 |none=>rfl
 |some d=>cases d<;>rfl
theorem bXt (hp x e):bAv hp x (some (.slice e))=aEk x (some (.slice e)):=(rfl)
theorem cMo (hp x):bAv hp x (some .string)=aEk x (some .string):=(rfl)
def mpO:AO→Option (List (AV×AV))
 | .mapo es _=>some es
 |_=>none
theorem bXe (hp:H) (id:Nat):aEi hp (.mp id)=aK (hp id) mpO:=(rfl)
theorem cXm (es mt):mpO (.mapo es mt)=some es:=(rfl)
theorem bBv {P:Program} {Γ:Env} {ρ:Operand→AV} {m nx n id cx:Nat} {hp:H} {x y:Operand} {t t2:TypeId}:eff P Γ (.call {callee:=.builtin .append,args:= #[x,y],argTypes:= #[t,t2]}) ρ m nx n hp id cx=aK (apU P hp id (ρ x) (ρ y) t (P.underlying t2)) fun p=>some (p.1,p.2,cx):=by
 simp only[eff,cls,fR]
 congr 1
 cases h2:P.underlying t2 with
 |none=>simp[eDw,xW,h2,aN,apU]
 |some d=>
  cases d with
  |int k=>
   simp only[eDw,xW,h2,aN,apU,wX,azF]
   cases P.underlying t with
   |none=>rfl
   |some d=>cases d<;>rfl
  |_=>
   simp only[eDw,h2,apU,pK,apF,if_true]
   cases P.underlying t with
   |none=>rfl
   |some d=>cases d<;>rfl
theorem bWw (id off:Nat):cLm (.op id off)=some (.op id off):=(rfl)
theorem bVi (t:Bool) (a b:AV):cEv (.b t) a b=some (if t then a else b):=(rfl)
theorem bLh {P:Program} {hp:H} (t:TypeId) (ys:List AV):aWt P t hp (.rp ys)=ldF P t ys (fHi P t):=by simp only[aWt,ldV];cases fHi P t with|none=>rfl|some b=>cases b<;>rfl
theorem bXr {P:Program} (t:TypeId) (off:Nat) (xs:List AV) (mt:Bool):bLg P t off (.cells xs mt)=ldF P t (xs.drop off) (fHi P t):=by simp only[bLg,ldV];cases fHi P t with|none=>rfl|some b=>cases b<;>rfl
theorem bLi {P:Program} {hp:H} (t:TypeId) (id off:Nat):aWt P t hp (.op id off)=aK (hp id) (bLg P t off):=(rfl)
theorem bXz {P:Program} (t:TypeId) (ys:List AV):ldF P t ys (some true)=aK (eK P t) fun n=>aN (n≤ys.length) (some (.agg (ys.take n))):=(rfl)
theorem cMr {P:Program} (t:TypeId) (ys:List AV):ldF P t ys (some false)=ys.head?:=(rfl)
theorem cOb {P:Program} (n:Nat) (xs:List AV) (j:Int) (e:TypeId):iaF P (.sl n xs) j (some (.slice e))=aK (eK P e) fun z=>aN (0≤j∧j<n) (some (.rp (xs.drop (j.toNat*z)))):=(rfl)
theorem cOd {P:Program} (id off n e2:Nat) (g:Bool) (j:Int) (e:TypeId):iaF P (.os id off n e2 g) j (some (.slice e))=aK (eK P e) fun z=>aN (e2=z∧0≤j∧j<n) (some (.op id (off+j.toNat*z))):=(rfl)
theorem cOc {P:Program} (n:Nat) (xs:List AV) (j:Int) (e:TypeId):iaF P (.rp xs) j (some (.array n e))=aK (eK P e) fun z=>aN (0≤j∧j<n) (some (.rp (xs.drop (j.toNat*z)))):=(rfl)
theorem cOe {P:Program} (n id off:Nat) (j:Int) (e:TypeId):iaF P (.op id off) j (some (.array n e))=aK (eK P e) fun z=>aN (0≤j∧j<n) (some (.op id (off+j.toNat*z))):=(rfl)
theorem cYy {P:Program} (l:List (BitVec 8)) (j:Int):idF P (.s l) j (some .string)=aN (0≤j) (aK l[j.toNat]? fun c=>some (.w8 c)):=(rfl)
theorem cAe (k:Nat) (xs:List AV):exF k (.tup xs)=xs[k]?:=(rfl)
theorem cHc (z:Option Nat) (hp:H) (cx i off:Nat) (cs:List AV):stF z hp cx (.op i off) (some cs)=aK z fun z=>aK (hp i) (stO z hp cx i off cs):=(rfl)
theorem cTl (z:Nat) (hp:H) (cx i off:Nat) (cs xs:List AV) (mt:Bool):stO z hp cx i off cs (.cells xs mt)=aN (mt=true∧cs.length=z∧off+z≤xs.length) (some (.junk,upd hp i (.cells (dV xs off cs) true),cx)):=(rfl)
theorem bCe (x):dC (.w8 x)=some [.w8 x]:=(rfl)
theorem aTd (x):dC (.w16 x)=some [.w16 x]:=(rfl)
theorem aTc (x):dC (.w32 x)=some [.w32 x]:=(rfl)
theorem aTb (x):dC (.w64 x)=some [.w64 x]:=(rfl)
theorem bOn (x):dC (.i x)=some [.i x]:=(rfl)
theorem bOo (x):dC (.b x)=some [.b x]:=(rfl)
theorem bOm (x):dC (.s x)=some [.s x]:=(rfl)
theorem aTf (x):dC (.agg x)=some x:=(rfl)
theorem bCf (n xs):dC (.sl n xs)=some [.sl n xs]:=(rfl)
theorem bCh (i o n e g):dC (.os i o n e g)=some [.os i o n e g]:=(rfl)
theorem bFz (xs:List AV) (off:Nat) (c:AV):dV xs off [c]=xs.set off c:=(rfl)
theorem cOg (nx n:Nat) (hp:H):mY 0 nx n hp=hp:=(rfl)
theorem cOf (nx n:Nat) (hp:H):mY 1 nx n hp=fun _=>none:=(rfl)
theorem bZs (m nx n id:Nat) (hp:H) (hm:2≤m) (h:id<nx):mY m nx n hp id=hp id:=by unfold mY;split<;>first|omega|exact J3 (by omega)
theorem bXu (n xs e):aEk (.sl n xs) (some (.slice e))=some (.i n):=(rfl)
theorem bXv (id off n e2 g e):aEk (.os id off n e2 g) (some (.slice e))=some (.i n):=(rfl)
theorem bLq (e):aEk (.v (.slice none 0 0)) (some (.slice e))=some (.i 0):=(rfl)
theorem cMp (l):aEk (.s l) (some .string)=some (.i l.length):=(rfl)
theorem cBd (hp hp2 cx id x ue sd a k):cvF hp hp2 cx id x ue sd (some a) (some (.int k))=aK (toK k x) fun y=>some (y,hp,cx):=by cases a<;>rfl
theorem aXn (hp hp2 cx id x ue sd e) (h:ue e=some (.int .u8)):cvF hp hp2 cx id x ue sd (some (.slice e)) (some .string)=aK (sR hp2 1 x) fun nl=>aK (fHq nl.2) fun l=>some (.s l,hp,cx):=by simp only[cvF,h];cases sR hp2 1 x with|none=>rfl|some y=>simp only[aX];cases fHq y.2<;>rfl
def uI (_:FuncId) (args:List AV) (m nx n:Nat) (hp:H) (id cx:Nat):Option bFb→Option (AV×H×Nat)
 |some (.pure true g)=>aK (gR (mY m nx n hp) args) fun as_=>aK (g as_) fun r=>aN (r.noMem=true) (some (r,hp,cx))
 |some (.pure false g)=>if m=0 then aK (fV hp args) fun ah=>aK (g ah.1) fun r=>some (r,ah.2,cx)
   else aK (fW (fun _=>none) args) fun as_=>aK (g as_) fun r=>some (r,hp,cx)
 |some (.fresh true g)=>aK (gR (mY m nx n hp) args) fun as_=>aK (g as_) fun r=>aN (AV.noMem.noMemL r.2.2=true) (some (.os id 0 r.1 r.2.1 true,upd hp id (.cells r.2.2 true),cx))
 |some (.fresh false g)=>if m=0 then aK (fV hp args) fun ah=>aK (g ah.1) fun r=>some (.os id 0 r.1 r.2.1 true,upd ah.2 id (.cells r.2.2 true),cx)
   else aK (fW (fun _=>none) args) fun as_=>aK (g as_) fun r=>some (.os id 0 r.1 r.2.1 true,upd hp id (.cells r.2.2 true),cx)
 |some (.heap g)=>aN (m=0) (g args hp cx)
 |none=>none
def bC:List (Nat×bFb)→Env
 |[],_=>none
 |(k,s)::r,f=>if f=k then some s else bC r f
structure LOp where
 d:Option Tmp
 op:Op
 g:Option (Option Tmp×Bool)
def light (ops:Array Oper) (o:Oper):LOp:=⟨o.dst,o.op,o.guard.map fun p=>((ops[p.1]?).bind (·.dst),p.2)⟩
def gdS (fr:List (Nat×AV)):Option (Option Tmp×Bool)→Option Bool
 |none=>some true
 |some (some t,want)=>qZ want (dG fr t)
 |some (none,_)=>none
def eEj (P:Program) (Γ:Env) (GL:Nat→Option (List AV)) (m n k:Nat) (o:LOp) (s:S):Option S:=
 aK (gdS s.fr o.g) fun b=>match b with
  |true=>aK (eff P Γ o.op (ev GL s.fr) m s.nx n s.hp (s.nx+k) s.cx) fun r=>some {fr:=eM o.d r.1 s.fr,hp:=r.2.1,nx:=s.nx,cx:=r.2.2}
  |false=>some {s with fr:=eM o.d (.tup []) s.fr}
def aEc (P:Program) (Γ:Env) (GL:Nat→Option (List AV)) (md:Nat→Nat) (n:Nat):Nat→List LOp→S→Option S
 |_,[],s=>some s
 |k,o::r,s=>aK (eEj P Γ GL (md k) n k o s) fun s'=>aEc P Γ GL md n (k+1) r s'
theorem vJ (P:Program) (Γ:Env) (GL:Nat→Option (List AV)) (md:Nat→Nat) (ops:Array Oper) (k:Nat) (o:Oper) (s:S):kA P Γ GL md ops k o s=eEj P Γ GL (md k) ops.size k (light ops o) s:=by
 have:gdO ops s.fr o=gdS s.fr (light ops o).g:=by
  unfold gdO light
  cases o.guard with
  |none=>rfl
  |some p=>
   simp only[Option.map_some]
   cases (ops[p.1]?).bind (·.dst)<;>rfl
 unfold kA eEj
 rw[this];rfl
theorem aBn (P:Program) (Γ:Env) (GL:Nat→Option (List AV)) (md:Nat→Nat) (ops:Array Oper): ∀(l:List Oper) (k:Nat) (s:S),oT P Γ GL md ops k l s=aEc P Γ GL md ops.size k (l.map (light ops)) s
 |[],_,_=>rfl
 |o::r,k,s=>by
  simp only[oT,List.map_cons,aEc,vJ]
  congr 1
  funext s'
  exact aBn P Γ GL md ops r (k+1) s'
def aRf (P:Program) (Γ:Env) (GL:Nat→Option (List AV)) (md:Nat→Nat) (n:Nat) (l:List LOp) (s:S):Option S:=aEc P Γ GL md n 0 l s
def aF (c:Code):List LOp:=(aM c).toList.map (light (aM c))
def rN (c:Code):Nat:=(aM c).size
@[congr] theorem cIb {P : Program} {Γ : Env} {GL : Nat → Option (List AV)} {md : Nat → Nat} {n k k' : Nat} {l : List LOp} {s s' : S} (hk : k = k') (h : s = s') : aEc P Γ GL md n k l s = aEc P Γ GL md n k' l s' := by rw [h, hk]
theorem aC {P:Program} {GL:Nat→Option (List AV)} {nt:Nat} {Q:Exit→S→Prop} {s:S} {code:Code} {Γ:Env} (ks:List Nat) (hΓ:eT P GL Γ) (hc:eEs code=true) (hd:lZ code=false) (ho:fK nt (aM code).toList=true)
  (h: ∀K:S→Prop,(∀t,Q .normal t→K t)→nH (aRf P Γ GL (fun _=>0) (rN code) (aF code) (cX (rN code) s)) fun t=>K {t with fr:=gL ks t.fr}):Awp P GL nt code s Q:=by
 refine bRj ks hΓ hc hd ho fun K hK=>?_
 rw[aBn];exact h K hK
theorem aW {P:Program} {GL:Nat→Option (List AV)} {nt:Nat} {Q:Exit→S→Prop} {s:S} {code:Code} (ks:List Nat) (hc:eEs code=true) (hd:lZ code=false) (ho:fK nt (aM code).toList=true)
  (h: ∀K:S→Prop,(∀t,Q .normal t→K t)→nH (aRf P aL GL (fun _=>0) (rN code) (aF code) (cX (rN code) s)) fun t=>K {t with fr:=gL ks t.fr}):Awp P GL nt code s Q:=aC ks (aD _ _) hc hd ho h
theorem bB {P:Program} {GL:Nat→Option (List AV)} {nt:Nat} {Q:Exit→S→Prop} {s:S} {code:Code} {Γ:Env} (md:Nat→Nat) (ks:List Nat) (hm:P.follows .mixedOrders=true) (hΓ:eT P GL Γ) (hc:eEs code=true) (hd:lZ code=true) (ho:fK nt (aM code).toList=true) (hk:sF P Γ md (aM code)=true)
  (h: ∀K:S→Prop,(∀t,Q .normal t→K t)→nH (aRf P Γ GL md (rN code) (aF code) (cX (rN code) s)) fun t=>K {t with fr:=gL ks t.fr}):Awp P GL nt code s Q:=by
 refine bRm md ks hm hΓ hc hd ho hk fun K hK=>?_
 rw[aBn];exact h K hK
def bGe (P:Program) (Γ:Env) (GL:Nat→Option (List AV)) (m n k:Nat) (d:Option Tmp) (op:Op) (fr:List (Nat×AV)) (hp:H) (nx cx:Nat):Bool→Option S
 |true=>aK (eff P Γ op (ev GL fr) m nx n hp (nx+k) cx) fun r=>some {fr:=eM d r.1 fr,hp:=r.2.1,nx:=nx,cx:=r.2.2}
 |false=>some {fr:=eM d (.tup []) fr,hp:=hp,nx:=nx,cx:=cx}
theorem cLh (x):AV.noMem (.w16 x)=true:=(rfl)
theorem cLg (x):AV.noMem (.w32 x)=true:=(rfl)
theorem cLf (x):AV.noMem (.w64 x)=true:=(rfl)
theorem nm_i (x):AV.noMem (.i x)=true:=(rfl)
theorem nm_b (x):AV.noMem (.b x)=true:=(rfl)
theorem cHm (P n xs lo hi e):slF P (.sl n xs) lo hi (some (.slice e))=aK (eK P e) fun z=>aK (oB lo) fun l=>aK (oV hi n) fun h=>aN (0≤l∧l≤h∧h≤n) (some (.sl (h.toNat-l.toNat) ((xs.drop (l.toNat*z)).take ((h.toNat-l.toNat)*z)))):=(rfl)
theorem cHo (P id off n e2 g lo hi e):slF P (.os id off n e2 g) lo hi (some (.slice e))=aK (eK P e) fun z=>aK (oB lo) fun l=>aK (oV hi n) fun h=>aN (e2=z∧0≤l∧l≤h∧h≤n) (some (.os id (off+l.toNat*z) (h.toNat-l.toNat) z g)):=(rfl)
theorem cHp (P id off n lo hi e):slF P (.op id off) lo hi (some (.array n e))=aK (eK P e) fun z=>aK (oB lo) fun l=>aK (oV hi n) fun h=>aN (0≤l∧l≤h∧h≤n) (some (.os id (off+l.toNat*z) (h.toNat-l.toNat) z false)):=(rfl)
theorem bAt:oB none=some 0:=(rfl)
theorem bAs (v):oB (some v)=ix v:=(rfl)
theorem bBe (n:Nat):oV none n=some (n:Int):=(rfl)
theorem bBd (v n):oV (some v) n=ix v:=(rfl)
theorem cQy (P len ps e):bsF P len ps (some (.slice e))=aK (eK P e) fun z=>aN (0<z∧len*z≤16777216) (aK (lA P e) fun zs=>aN (zs.length=z) (aK (fZh (fun k=>some (k*z,z)) (rep len zs) ps) fun cs=>some (z,cs))):=(rfl)
theorem bBp (pl cells):fZh pl cells []=some cells:=(rfl)
theorem aSs (pl cells i v r):fZh pl cells ((i,v)::r)=aK (pl i) fun os=>aK (dC v) fun vc=>aN (vc.length=os.2∧os.1+os.2≤cells.length) (fZh pl (eG cells os.1 vc) r):=(rfl)
theorem cBs (Γ:Env) (f:FuncId) (args:List AV) (m nx n:Nat) (hp:H) (id cx:Nat):eFj Γ f args m nx n hp id cx=uI f args m nx n hp id cx (Γ f):=by unfold eFj uI;rfl
theorem cBp (f args m nx n hp id cx g):uI f args m nx n hp id cx (some (.pure true g))=aK (gR (mY m nx n hp) args) fun as_=>aK (g as_) fun r=>aN (r.noMem=true) (some (r,hp,cx)):=(rfl)
theorem bOw (f args nx n hp id cx g):uI f args 0 nx n hp id cx (some (.pure false g))=aK (fV hp args) fun ah=>aK (g ah.1) fun r=>some (r,ah.2,cx):=(rfl)
theorem cBr (f args m nx n hp id cx g):uI f args m nx n hp id cx (some (.fresh true g))=aK (gR (mY m nx n hp) args) fun as_=>aK (g as_) fun r=>aN (AV.noMem.noMemL r.2.2=true) (some (.os id 0 r.1 r.2.1 true,upd hp id (.cells r.2.2 true),cx)):=(rfl)
theorem bOy (f args nx n hp id cx g):uI f args 0 nx n hp id cx (some (.fresh false g))=aK (fV hp args) fun ah=>aK (g ah.1) fun r=>some (.os id 0 r.1 r.2.1 true,upd ah.2 id (.cells r.2.2 true),cx):=(rfl)
theorem cBq (f args nx n hp id cx g):uI f args 0 nx n hp id cx (some (.heap g))=g args hp cx:=by simp[uI,aN]
theorem aHk (k s r f):bC ((k,s)::r) f=if f=k then some s else bC r f:=(rfl)
theorem bTu (P Γ GL m n k d op) (fr hp nx cx):eEj P Γ GL m n k {d:=some d,op:=op,g:=none} {fr:=fr,hp:=hp,nx:=nx,cx:=cx}=aK (eff P Γ op (ev GL fr) m nx n hp (nx+k) cx) fun r=>some {fr:=(d,r.1)::fr,hp:=r.2.1,nx:=nx,cx:=r.2.2}:=(rfl)
theorem bGk (P Γ GL m n k op) (fr hp nx cx):eEj P Γ GL m n k {d:=none,op:=op,g:=none} {fr:=fr,hp:=hp,nx:=nx,cx:=cx}=aK (eff P Γ op (ev GL fr) m nx n hp (nx+k) cx) fun r=>some {fr:=fr,hp:=r.2.1,nx:=nx,cx:=r.2.2}:=(rfl)
theorem bTt (P Γ GL m n k d op t want) (fr hp nx cx):eEj P Γ GL m n k {d:=d,op:=op,g:=some (some t,want)} {fr:=fr,hp:=hp,nx:=nx,cx:=cx}=aK (qZ want (dG fr t)) fun g=>bGe P Γ GL m n k d op fr hp nx cx g:=by simp only[eEj,gdS];cases qZ want (dG fr t)with|none=>rfl|some g=>cases g<;>rfl
theorem eW (k x r t):dG ((k,x)::r) t=if k=t then x else dG r t:=(rfl)
theorem aWe {α β:Type} (x:α) (f:α→Option β):aK (some x) f=f x:=(rfl)
theorem bTv (t:S) (Q:S→Prop):nH (some t) Q=Q t:=(rfl)
theorem iB (fr:List (Nat×AV)):gL [] fr=[]:=(rfl)
theorem fU (k:Nat) (ks:List Nat) (fr:List (Nat×AV)):gL (k::ks) fr=(k,dG fr k)::gL ks fr:=(rfl)
theorem en_R (n:Nat) (fr hp nx cx):cX n {fr:=fr,hp:=hp,nx:=nx,cx:=cx}= {fr:=fr,hp:=hp,nx:=cx,cx:=cx+n}:=(rfl)
theorem bVf (d x fr):eM (some d) x fr=(d,x)::fr:=(rfl)
theorem aV (h:H) (id o k):upd h id o k=if k=id then some o else h k:=(rfl)
theorem kE (h:H) (id k):del h id k=if k=id then none else h k:=(rfl)
theorem cKs (n:Int):ofV (.int .u8 n)=if 0≤n∧n<256 then .w8 (BitVec.ofInt 8 n)else .v (.int .u8 n):=(rfl)
theorem bWd (n:Int):ofV (.int .u16 n)=if 0≤n∧n<65536 then .w16 (BitVec.ofInt 16 n)else .v (.int .u16 n):=(rfl)
theorem bWc (n:Int):ofV (.int .u32 n)=if 0≤n∧n<4294967296 then .w32 (BitVec.ofInt 32 n)else .v (.int .u32 n):=(rfl)
theorem bWb (n:Int):ofV (.int .u64 n)=if 0≤n∧n<18446744073709551616 then .w64 (BitVec.ofInt 64 n)else .v (.int .u64 n):=(rfl)
theorem bWg (n:Int):ofV (.int .i64 n)=.i n:=(rfl)
theorem bJi (x:Bool):ofV (.bool x)=.b x:=(rfl)
theorem aZy:ofV (.slice none 0 0)=.v (.slice none 0 0):=(rfl)
theorem cOo {α β:Type} (a:α) (b:β):(a,b).1=a:=(rfl)
theorem cHl {α β:Type} (a:α) (b:β):(a,b).2=b:=(rfl)
theorem cZf (want x:Bool):qZ want (.b x)=some (x==want):=(rfl)
theorem cIa (P Γ GL md n l s):aRf P Γ GL md n l s=aEc P Γ GL md n 0 l s:=(rfl)
theorem bHh (P Γ GL md n k s):aEc P Γ GL md n k [] s=some s:=(rfl)
theorem aZj (P Γ GL md n k o r s):aEc P Γ GL md n k (o::r) s=aK (eEj P Γ GL (md k) n k o s) fun s2=>aEc P Γ GL md n (k+1) r s2:=(rfl)
theorem cPd (GL fr t):ev GL fr (.tmp t)=dG fr t:=(rfl)
theorem bNl (GL fr v):ev GL fr (.const v)=ofV v:=(rfl)
theorem cAg (GL fr f):ev GL fr (.func f)=.fn f []:=(rfl)
theorem aPp (hp:H):fW hp []=some []:=(rfl)
theorem aKe (hp:H) (x r):fW hp (x::r)=aK (dD hp x) fun y=>aK (fW hp r) fun l=>some (y::l):=(rfl)
def scO (z off n e:Nat):AO→Option (Nat×List AV)
 | .cells xs _=>aN (e=z∧off+n*z≤xs.length) (some (n,(xs.drop off).take (n*z)))
 |_=>none
theorem cQu (hp:H) (x):dD hp (.w32 x)=some (.w32 x):=(rfl)
theorem bw_i (hp:H) (x):dD hp (.i x)=some (.i x):=(rfl)
theorem cOn (hp:H) (x):dW hp (.agg x)=some (.agg x,hp):=(rfl)
theorem cZi (hp:H) (x):dW hp (.rp x)=some (.rp x,hp):=(rfl)
theorem cZh (hp:H) (n xs):dW hp (.sl n xs)=some (.sl n xs,hp):=(rfl)
theorem cQw (hp:H):dD hp (.v (.slice none 0 0))=some (.v (.slice none 0 0)):=(rfl)
theorem aOn (hp:H):fV hp []=some ([],hp):=(rfl)
theorem aJr (hp:H) (x r):fV hp (x::r)=aK (dW hp x) fun y=>aK (fV y.2 r) fun l=>some (y.1::l.1,l.2):=(rfl)
theorem aQz (hp:H) (z n xs):sR hp z (.sl n xs)=aN (xs.length=n*z) (some (n,xs)):=(rfl)
theorem aRa (hp:H) (z id off n e g):sR hp z (.os id off n e g)=aK (hp id) (scO z off n e):=(rfl)
theorem cUd (z off n e xs mt):scO z off n e (.cells xs mt)=aN (e=z∧off+n*z≤xs.length) (some (n,(xs.drop off).take (n*z))):=(rfl)
theorem cHf (hp:H) (z l):tX hp z (.s l)=aN (z=1) (some (l.length,l.map .w8)):=(rfl)
theorem bTq (hp:H) (z n xs):tX hp z (.sl n xs)=aN (xs.length=n*z) (some (n,xs)):=(rfl)
theorem bGi (hp:H) (z):tX hp z (.v (.slice none 0 0))=some (0,[]):=(rfl)
theorem bTr (hp:H) (z id off n e g):tX hp z (.os id off n e g)=aK (hp id) (scO z off n e):=(rfl)
theorem cRr (P:Program) (hp:H) (id x y e):apF P hp id x y (some (.slice e))=aK (eK P e) fun z=>aK (dU P e) fun by_=>aK (lA P e) fun zs=>aN (0<z∧zs.length=z) (aK (tX hp z y) fun my=>aK (uU hp my.2) fun fy=>zV z by_ x my.1 fy.1 fy.2 id):=(rfl)
theorem cRo (P hp id x y t e):apU P hp id x y t (some (.slice e))=apF P hp id x y (P.underlying t):=(rfl)
theorem dCw (P hp id x y t):apU P hp id x y t (some .string)=apF P hp id x y (P.underlying t):=(rfl)
theorem aHs (z by_ m ys hp id i off n e2 g):kF z by_ (.os i off n e2 g) m ys hp id=aK (hp i) (apO z by_ id off n e2 g i m ys hp):=by unfold kF apO;rfl
theorem dCy (z by_ id off n e2 g i m ys hp xs mt):apO z by_ id off n e2 g i m ys hp (.cells xs mt)=aN (mt=true∧g=true∧e2=z∧off+n*z=xs.length∧n+m≤140737488355328∧(n+m)*by_≤140737488355328) (some (.os id 0 (n+m) z true,upd (del hp i) id (.cells (xs.drop off++ys) true))):=(rfl)
theorem sb_t (P Γ GL m n k d op fr hp nx cx):bGe P Γ GL m n k d op fr hp nx cx true=aK (eff P Γ op (ev GL fr) m nx n hp (nx+k) cx) fun r=>some {fr:=eM d r.1 fr,hp:=r.2.1,nx:=nx,cx:=r.2.2}:=(rfl)
theorem sb_f (P Γ GL m n k d op fr hp nx cx):bGe P Γ GL m n k d op fr hp nx cx false=some {fr:=eM d (.tup []) fr,hp:=hp,nx:=nx,cx:=cx}:=(rfl)
theorem dBy:(true==true)=true:=(rfl)
theorem dBz:(true==false)=false:=(rfl)
theorem dCa:(false==true)=false:=(rfl)
theorem dCb:(false==false)=true:=(rfl)
theorem aPq (hp:H):gR hp []=some []:=(rfl)
theorem aKf (hp:H) (x r):gR hp (x::r)=aK (zB 4 hp x) fun y=>aK (gR hp r) fun l=>some (y::l):=(rfl)
theorem bMs (f):gAb f []=some []:=(rfl)
theorem bBa (f x r):gAb f (x::r)=aK (f x) fun y=>aK (gAb f r) fun l=>some (y::l):=(rfl)
def imO (n:Nat) (hp:H) (off m e:Nat):AO→Option AV
 | .cells xs _=>aN (off+m*e≤xs.length) (aK (lE (zB n hp) ((xs.drop off).take (m*e))) fun l=>some (.sl m l))
 |_=>none
def imX (f:AV→Option AV) (xs:List AV):Bool→Option (List AV)|true=>some xs|false=>gAb f xs
theorem cYo (n hp off m e xs mt):imO n hp off m e (.cells xs mt)=aN (off+m*e≤xs.length) (aK (lE (zB n hp) ((xs.drop off).take (m*e))) fun l=>some (.sl m l)):=(rfl)
theorem cNi (f xs):lE f xs=imX f xs (dB xs):=by unfold lE imX;cases dB xs<;>rfl
theorem bMu (f xs):imX f xs true=some xs:=(rfl)
theorem cFv (f xs):imX f xs false=gAb f xs:=(rfl)
theorem bAf:dB []=true:=(rfl)
theorem bJt (x r):dB (.w8 x::r)=dB r:=(rfl)
theorem bAe (x r):dB (.w16 x::r)=dB r:=(rfl)
theorem bAd (x r):dB (.w32 x::r)=dB r:=(rfl)
theorem bWq (x r):dB (.i x::r)=dB r:=(rfl)
theorem bWr (x r):dB (.b x::r)=dB r:=(rfl)
theorem bWp (x r):dB (.s x::r)=dB r:=(rfl)
theorem bJu (n x r):dB (.sl n x::r)=dB r:=(rfl)
theorem bJw (a b c d e r):dB (.os a b c d e::r)=false:=(rfl)
theorem aRv (r):dB (.v (.slice none 0 0)::r)=false:=(rfl)
theorem bZa (hp:H) (x):zB 4 hp (.w16 x)=some (.w16 x):=(rfl)
theorem bYz (hp:H) (x):zB 4 hp (.w32 x)=some (.w32 x):=(rfl)
theorem bYy (hp:H) (x):zB 4 hp (.w64 x)=some (.w64 x):=(rfl)
theorem cYq (hp:H) (x):zB 4 hp (.i x)=some (.i x):=(rfl)
theorem cYr (hp:H) (x):zB 4 hp (.b x)=some (.b x):=(rfl)
theorem cNk (hp:H) (n x):zB 4 hp (.sl n x)=some (.sl n x):=(rfl)
theorem bZc (hp:H):zB 4 hp (.v (.slice none 0 0))=some (.sl 0 []):=(rfl)
theorem cNm (hp:H) (id off m e g):zB 4 hp (.os id off m e g)=aK (hp id) (imO 3 hp off m e):=(rfl)
theorem bZd (hp:H) (xs):zB 4 hp (.agg xs)=aK (lE (zB 3 hp) xs) fun l=>some (.agg l):=(rfl)
theorem bZb (hp:H) (xs):zB 4 hp (.tup xs)=aK (lE (zB 3 hp) xs) fun l=>some (.tup l):=(rfl)
theorem bZg (hp:H) (x):zB 3 hp (.w16 x)=some (.w16 x):=(rfl)
theorem bZf (hp:H) (x):zB 3 hp (.w32 x)=some (.w32 x):=(rfl)
theorem cYt (hp:H) (x):zB 3 hp (.i x)=some (.i x):=(rfl)
theorem cYu (hp:H) (x):zB 3 hp (.b x)=some (.b x):=(rfl)
theorem cNq (hp:H) (n x):zB 3 hp (.sl n x)=some (.sl n x):=(rfl)
theorem bZi (hp:H):zB 3 hp (.v (.slice none 0 0))=some (.sl 0 []):=(rfl)
theorem cNs (hp:H) (id off m e g):zB 3 hp (.os id off m e g)=aK (hp id) (imO 2 hp off m e):=(rfl)
theorem bZj (hp:H) (xs):zB 3 hp (.agg xs)=aK (lE (zB 2 hp) xs) fun l=>some (.agg l):=(rfl)
theorem cNv (hp:H) (x):zB 2 hp (.w8 x)=some (.w8 x):=(rfl)
theorem bZm (hp:H) (x):zB 2 hp (.w16 x)=some (.w16 x):=(rfl)
theorem bZl (hp:H) (x):zB 2 hp (.w32 x)=some (.w32 x):=(rfl)
theorem cYw (hp:H) (x):zB 2 hp (.i x)=some (.i x):=(rfl)
theorem cYx (hp:H) (x):zB 2 hp (.b x)=some (.b x):=(rfl)
theorem cNw (hp:H) (n x):zB 2 hp (.sl n x)=some (.sl n x):=(rfl)
theorem bZo (hp:H):zB 2 hp (.v (.slice none 0 0))=some (.sl 0 []):=(rfl)
theorem cNy (hp:H) (id off m e g):zB 2 hp (.os id off m e g)=aK (hp id) (imO 1 hp off m e):=(rfl)
theorem cLi (xs):AV.noMem (.tup xs)=AV.noMem.noMemL xs:=(rfl)
theorem bWu:AV.noMem.noMemL []=true:=(rfl)
theorem bKd (x r):AV.noMem.noMemL (x::r)=(AV.noMem x&&AV.noMem.noMemL r):=(rfl)
attribute [go_sem] sN aOo List.length_replicate List.size_toArray zI eE List.map_cons List.map_nil List.length_cons List.length_nil List.append_nil List.cons_append List.nil_append Option.map_some Option.map_none Nat.add_zero Nat.zero_add Nat.mul_one Nat.one_mul Nat.zero_mul and_true true_and and_self and_false false_and if_true if_false Bool.not_true Bool.not_false decide_true decide_false List.drop_zero eq_self bRf cCw
attribute [go_sem] bQv bQf aTq aKi cYh bPb bPa cQn cQm bEn bDr bQe bDk bDh bEg bDn bDu
attribute [go_sem] aFa bPe bCr cBz cBw bEm bEj bQd bEf bDm bEc
attribute [go_sem] aEx aPw aEo bPd bCp cBy cBv bDa bEi bCx bEb aQa aEu aEl
attribute [go_sem] bPc cBx cBu ix_i cDr cCt cDc cDp cRk cDn cCz cDe cDg cDi cDk cCv cCu aQd aPy cDm bSt
attribute [go_sem] cPk bNz dAr e_un dAm cPj cPn e_ia dAp e_fa e_ex cAn cAq dAq cAm cPo cAp bNy cPp cPh bXt cMo bXe cXm bBv bWw bVi bLh bXr bLi bXz cMr cOb cOd cOc
attribute [go_sem] cOe cYy cAe cHc cTl bCe aTd aTc aTb bOn bOo bOm aTf bCf bCh bFz cOg cOf bZs bXu bXv bLq cMp cBd aXn
attribute [go_sem] cLh cLg cLf nm_i nm_b cHm cHo cHp bAt bAs bBe bBd cQy bBp aSs cBs cBp bOw cBr bOy cBq aHk bTu bGk
def cRq (z by_ id off n e':Nat) (g:Bool) (i:Nat) (m:Nat) (ys:List AV) (hp:H):AO→Option (AV×H)
 | .cells xs mt=>eqO (off+n*z) xs.length (apO z by_ id off n e' g i m ys hp (.cells xs mt)) (aDp z by_ i off n e' g m ys hp id xs mt)
 |_=>none
theorem bRt (z by_ m ys hp id):zV z by_ (.v (.slice none 0 0)) m ys hp id=aN (m≤140737488355328∧m*by_≤140737488355328) (some (.os id 0 m z true,upd hp id (.cells ys true))):=(rfl)
theorem cEb (z by_ m ys hp id i off n e2 g):zV z by_ (.os i off n e2 g) m ys hp id=aK (hp i) (cRq z by_ id off n e2 g i m ys hp):=by
 unfold zV cRq
 simp only
 cases h:hp i with
 |none=>rfl
 |some o=>cases o<;>first|rfl|simp only[aX,aHs,h]
theorem cRp (z by_ id off n e2 g i m ys hp xs mt):cRq z by_ id off n e2 g i m ys hp (.cells xs mt)=eqO (off+n*z) xs.length (apO z by_ id off n e2 g i m ys hp (.cells xs mt)) (aDp z by_ i off n e2 g m ys hp id xs mt):=(rfl)
theorem dAg {α:Type} (a b:Nat) (x y:Option α) (h:a=b):eqO a b x y=x:=J4 h
theorem dAh {α:Type} (a:Nat) (x y:Option α):eqO a a x y=x:=J4 rfl
attribute [go_sem] bTt eW aWe bTv iB fU en_R bVf aV kE cKs bWd bWc bWb bWg bJi aZy cOo cHl cZf cIa bHh aZj cPd bNl cAg aPp aKe cQu bw_i
attribute [go_sem] cOn cZi cZh cQw aOn aJr aQz aRa cUd cHf bTq bGi bTr cRr cRo dCw aHs
attribute [go_sem] dCy sb_t sb_f dBy dBz dCa dCb aPq aKf bMs bBa cYo cNi bMu cFv bAf bJt bAe bAd bWq bWr bWp bJu bJw aRv bZa bYz bYy cYq cYr
attribute [go_sem] cNk bZc cNm bZd bZb bZg bZf cYt cYu cNq bZi cNs bZj cNv bZm bZl cYw cYx cNw bZo cNy
attribute [go_sem] cLi bWu bKd
attribute [go_sem] bRt cEb cRp dAh dAg
attribute [go_sem] Option.getD_some aE cl cr aM aF light rN List.getElem?_toArray List.getElem?_cons_zero List.getElem?_cons_succ Option.bind_some
end Go.AX

namespace Go.AX
open Go Go.Proofs
section
variable {P : Program} {GL : Nat → Option (List AV)} {nt : Nat} {b : Code} {Q : Exit → S → Prop} {t : S}
theorem aB (h:Awp P GL nt b t Q):oS P GL nt b Q .normal t:=h
theorem bU {id:Nat} (h:Q .normal t):fP id Q .normal t:=h
theorem aY {i:Nat} (h:Q (.exit i) t):oS P GL nt b Q (.exit i) t:=h
theorem aZ {ι:Type} {st:ι→S} {inv:ι→Prop} {μ:ι→Nat} {j:ι} {i:Nat} (h:Q (.exit i) t):aNw st inv μ j Q (.exit i) t:=h
theorem bE {i:Nat} (h:Q .normal t):fP i Q (.exit i) t:=by simp only[fP];exact h
theorem mW {i j:Nat} (h:Q (.exit i) t) (hn:(i==j)=false):fP j Q (.exit i) t:=by simp only[fP];rw[J3 (by simpa using hn)];exact h
theorem bT {ι:Type} {st:ι→S} {inv:ι→Prop} {μ:ι→Nat} {i:ι} (h: ∃j,inv j∧μ j<μ i∧Sub (st j) t):aNw st inv μ i Q .normal t:=h
theorem bI (h:Q .ret t):oS P GL nt b Q .ret t:=h
theorem bN {id:Nat} (h:Q .ret t):fP id Q .ret t:=h
theorem dF {ι:Type} {st:ι→S} {inv:ι→Prop} {μ:ι→Nat} {j:ι} (h:Q .ret t):aNw st inv μ j Q .ret t:=h
theorem bF {s:S} {code:Code} (i:Nat) (hc:bMo code=true) (hi:bId code=i) (h:Q (.exit i) s):Awp P GL nt code s Q:=bEq hc (hi▸h)
theorem aR {s:S} {code:Code} (i:Nat) (hc:aXc code=true) (hi:bId code=i) (h:Awp P GL nt (cl code) s (fP i Q)):Awp P GL nt code s Q:=aTv hc (hi▸h)
theorem bA {s:S} {code:Code} {p:Prop} [Decidable p] (o:Operand) (hc:aCu code=true) (ho:cOp code=o) (hb:ev GL s.fr o=.b (decide p)) (ht:p→Awp P GL nt (cl code) s Q) (hf: ¬p→Awp P GL nt (cr code) s Q):Awp P GL nt code s Q:=
 aKx hc (by rw[ho];exact hb) (fun h=>ht (of_decide_eq_true h)) (fun h=>hf (of_decide_eq_false h))
theorem eGn {s:S} {code:Code} {p:Prop} [Decidable p] (o:Operand) (hc:aCu code=true) (ho:cOp code=o) (hb:ev GL s.fr o=.b (!decide p)) (ht: ¬p→Awp P GL nt (cl code) s Q) (hf:p→Awp P GL nt (cr code) s Q):Awp P GL nt code s Q:=
 aKx hc (by rw[ho];exact hb) (fun h=>ht (of_decide_eq_false (by simpa using h))) (fun h=>hf (of_decide_eq_true (by simpa using h)))
theorem cV {s:S} {code:Code} {x:Bool} (o:Operand) (hc:aCu code=true) (ho:cOp code=o) (hb:ev GL s.fr o=.b x) (ht:x=true→Awp P GL nt (cl code) s Q) (hf:x=false→Awp P GL nt (cr code) s Q):Awp P GL nt code s Q:=
 aKx hc (by rw[ho];exact hb) ht hf
theorem aI {n:Nat} {z:AV} {l:List (Nat×AV)} {hp:H} {nx cx:Nat} {code:Code} (hn:dG l n=.junk) (h:Awp P GL nt code {fr:=l,hp:=hp,nx:=nx,cx:=cx} Q):Awp P GL nt code {fr:=(n,z)::l,hp:=hp,nx:=nx,cx:=cx} Q:=
 tU h ⟨fun k=>by
  by_cases e:n=k
  ·subst e;exact .inl hn
  right;show dG l k=if n=k then z else dG l k;rw[J3 e],fun _ _ h=>h,U3 _⟩ rfl
theorem iF {s:S} {code:Code} (hf:Awp P GL nt (cr code) s Q) (hc:aCu code=true:=by exact rfl) (hb:ev GL s.fr (cOp code)=.b false:=by exact rfl):Awp P GL nt code s Q:=
 aKx hc hb (fun h=>nomatch h) fun _=>hf
theorem iT {s:S} {code:Code} (ht:Awp P GL nt (cl code) s Q) (hc:aCu code=true:=by exact rfl) (hb:ev GL s.fr (cOp code)=.b true:=by exact rfl):Awp P GL nt code s Q:=
 aKx hc hb (fun _=>ht) fun h=>nomatch h
theorem iFd {n:Nat} {z:AV} {l:List (Nat×AV)} {hp:H} {nx cx:Nat} {code:Code} (hf:Awp P GL nt (cr code) {fr:=l,hp:=hp,nx:=nx,cx:=cx} Q) (hc:aCu code=true:=by exact rfl) (hb:ev GL ((n,z)::l) (cOp code)=.b false:=by exact rfl) (hn:dG l n=.junk:=by exact rfl):Awp P GL nt code {fr:=(n,z)::l,hp:=hp,nx:=nx,cx:=cx} Q:=
 aKx hc hb (fun h=>nomatch h) fun _=>aI hn hf
theorem iTd {n:Nat} {z:AV} {l:List (Nat×AV)} {hp:H} {nx cx:Nat} {code:Code} (ht:Awp P GL nt (cl code) {fr:=l,hp:=hp,nx:=nx,cx:=cx} Q) (hc:aCu code=true:=by exact rfl) (hb:ev GL ((n,z)::l) (cOp code)=.b true:=by exact rfl) (hn:dG l n=.junk:=by exact rfl):Awp P GL nt code {fr:=(n,z)::l,hp:=hp,nx:=nx,cx:=cx} Q:=
 aKx hc hb (fun _=>aI hn ht) fun h=>nomatch h
theorem yDr {n:Nat} {z:AV} {l:List (Nat×AV)} {hp:H} {nx cx:Nat} {code:Code} (h:Awp P GL nt code {fr:=l,hp:=hp,nx:=nx,cx:=cx} Q) (hn:dG l n=.junk:=by exact rfl):Awp P GL nt code {fr:=(n,z)::l,hp:=hp,nx:=nx,cx:=cx} Q:=aI hn h
theorem ySq {s:S} {code:Code} (h:Awp P GL nt (cl code) s (oS P GL nt (cr code) Q)) (hc:cYj code=true:=by exact rfl):Awp P GL nt code s Q:=aA hc h
theorem ySk {s:S} {code:Code} (h:Q .normal s) (hc:cNf code=true:=by exact rfl):Awp P GL nt code s Q:=aQ hc h
theorem gLb {s:S} {code:Code} {p:Prop} [Decidable p] (hb:ev GL s.fr (cOp code)=.b (decide p)) (ht:p→Awp P GL nt (cl code) s Q) (hf: ¬p→Awp P GL nt (cr code) s Q) (hc:aCu code=true:=by exact rfl):Awp P GL nt code s Q:=bA _ hc rfl hb ht hf
theorem gLc {s:S} {code:Code} {x:Bool} (hb:ev GL s.fr (cOp code)=.b x) (ht:x=true→Awp P GL nt (cl code) s Q) (hf:x=false→Awp P GL nt (cr code) s Q) (hc:aCu code=true:=by exact rfl):Awp P GL nt code s Q:=cV _ hc rfl hb ht hf
theorem yBl {s:S} {code:Code} (i:Nat) (h:Awp P GL nt (cl code) s (fP i Q)) (hc:aXc code=true:=by exact rfl) (hi:bId code=i:=by exact rfl):Awp P GL nt code s Q:=aR i hc hi h
theorem yEx {s:S} {code:Code} (i:Nat) (h:Q (.exit i) s) (hc:bMo code=true:=by exact rfl) (hi:bId code=i:=by exact rfl):Awp P GL nt code s Q:=bF i hc hi h
theorem yRn {s:S} {code:Code} (ks:List Nat) (h: ∀K:S→Prop,(∀t,Q .normal t→K t)→nH (aRf P aL GL (fun _=>0) (rN code) (aF code) (cX (rN code) s)) fun t=>K {t with fr:=gL ks t.fr}) (hc:eEs code=true:=by exact rfl) (hd:lZ code=false:=by exact rfl) (ho:fK nt (aM code).toList=true:=by exact rfl):Awp P GL nt code s Q:=aC ks (aD _ _) hc hd ho h
theorem yRg {s:S} {code:Code} {Γ:Env} (ks:List Nat) (hΓ:eT P GL Γ) (h: ∀K:S→Prop,(∀t,Q .normal t→K t)→nH (aRf P Γ GL (fun _=>0) (rN code) (aF code) (cX (rN code) s)) fun t=>K {t with fr:=gL ks t.fr}) (hc:eEs code=true:=by exact rfl) (hd:lZ code=false:=by exact rfl) (ho:fK nt (aM code).toList=true:=by exact rfl):Awp P GL nt code s Q:=aC ks hΓ hc hd ho h
def bX (P:Program) (GL:Nat→Option (List AV)) (f:Nat) (s:bFb):Prop:=
 fHm P f∧match s with
  | .pure _ g=>fHn P GL f g
  | .fresh _ g=>dH P GL f g
  | .heap g=>fHs P GL f g
theorem aO:eT P GL (bC []):=fun f s h=>by cases h
theorem aH {f:Nat} {s:bFb} {l:List (Nat×bFb)} (h:bX P GL f s) (hl:eT P GL (bC l)):eT P GL (bC ((f,s)::l)):=by
 intro f' s' h'
 rw[aHk]at h'
 split at h'
 ·rename_i e;subst e
  obtain rfl:=J0 h'
  exact h
 exact hl f' s' h'
end
theorem bD {s t:S} (h1:s.fr=t.fr) (h2:s.hp=t.hp) (h3:t.cx≤s.cx):Sub s t:=⟨fun _=> .inr (by rw[h1]),fun _ _ h=>by rw[←h2];exact h,h3⟩
theorem lN (h:H) (i:Nat) (a b:AO):upd (upd h i a) i b=upd h i b:=by funext k;unfold upd;split<;>rfl
def c8 (l:List (BitVec 8)):List AV:=l.map .w8
theorem iM (l:List (BitVec 8)):(c8 l).length=l.length:=List.length_map ..
theorem oC (l:List (BitVec 8)) (k:Nat) (h:k<l.length):((c8 l).drop k).head? =some (.w8 (l.getD k 0#8)):=by
 rw[List.head?_drop];simp[c8,List.getElem?_map,List.getElem?_eq_getElem h]
theorem aPm (l:List (BitVec 8)) (h:0<l.length):(c8 l).head? =some (.w8 (l.getD 0 0#8)):=oC l 0 h
theorem eXf (l:List (BitVec 8)) (k:Nat) (x:BitVec 8):(c8 l).set k (.w8 x)=c8 (l.set k x):=by simp[c8,List.map_set]
theorem tP (l:List (BitVec 8)) (k:Nat):(c8 l).drop k=c8 (l.drop k):=by simp[c8,List.map_drop]
theorem eEg (l:List (BitVec 8)) (k:Nat):(c8 l).take k=c8 (l.take k):=by simp[c8,List.map_take]
theorem aDj (l m:List (BitVec 8)):c8 l++c8 m=c8 (l++m):=by simp[c8]
theorem eQz (n:Nat) (x:BitVec 8):List.replicate n (AV.w8 x)=c8 (List.replicate n x):=by simp[c8]
theorem wS (l:List (BitVec 8)):fVs (c8 l)=true:=by
 simp only[fVs,c8,Bool.not_eq_true',List.any_eq_false,List.mem_map]
 rintro _ ⟨x,_,rfl⟩;simp[wG]
theorem fQ (l:List (BitVec 8)):dB (c8 l)=true:=by
 simp only[dB,c8,List.all_eq_true,List.mem_map]
 rintro _ ⟨x,_,rfl⟩;rfl
end Go.AX

namespace Go.AX
open Go Go.Proofs
def dP (g:List AV→List AV→Option (AV×List AV)):List AV→H→Nat→Option (AV×H×Nat)
 | .os id off n e gg::rest,hp,nx=>aK (hp id) fun o=>match o with
  | .cells xs mt=>aN (mt=true) (aK (g (.os id off n e gg::rest) xs) fun p=>some (p.1,upd hp id (.cells p.2 true),nx))
  |_=>none
 |_,_,_=>none
def cLp (g:List AV→List AV→Option (AV×List AV)) (args:List AV) (id:Nat) (hp:H) (nx:Nat):AO→Option (AV×H×Nat)
 | .cells xs mt=>aN (mt=true) (aK (g args xs) fun p=>some (p.1,upd hp id (.cells p.2 true),nx))
 |_=>none
theorem aWn (g:List AV→List AV→Option (AV×List AV)) (id off n e:Nat) (gg:Bool) (rest:List AV) (hp:H) (nx:Nat):dP g (.os id off n e gg::rest) hp nx=aK (hp id) (cLp g (.os id off n e gg::rest) id hp nx):=by
 unfold dP cLp;rfl
theorem bKi (g:List AV→List AV→Option (AV×List AV)) (args:List AV) (id:Nat) (hp:H) (nx:Nat) (xs:List AV) (mt:Bool):cLp g args id hp nx (.cells xs mt)=aN (mt=true) (aK (g args xs) fun p=>some (p.1,upd hp id (.cells p.2 true),nx)):=(rfl)
attribute [go_sem] aWn bKi
structure aLl (P:Program) (rs:List ResultVar) (r:AV) (id:Nat) (ys:List AV) (t:S):Prop where
 res:bV P rs t=some r
 row:t.hp id=some (.cells ys true)
 nm:r.noMem=true
 nms:AV.noMem.noMemL ys=true
def cXh (P:Program) (rs:List ResultVar) (r:AV) (id:Nat) (ys:List AV):Exit→S→Prop
 | .ret,t=>aLl P rs r id ys t
 | .normal,t=>aLl P rs r id ys t
 |_,_=>False
section
variable {P : Program} {GL : Nat → Option (List AV)}
theorem eS {f:FuncId} {fn:Func} {code:Code} {g:List AV→List AV→Option (AV×List AV)} (hf:P.funcs[f]? =some fn) (hb:fn.body=some code)
  (h: ∀id off n e gg rest nx xs r ys,g (.os id off n e gg::rest) xs=some (r,ys)→rest.length+1≤fn.ntmps∧(id<nx→Awp P GL fn.ntmps code (sN (.os id off n e gg::rest) (upd (fun _=>none) id (.cells xs true)) nx) (cXh P fn.results.toList r id ys))):fHs P GL f (dP g):=by
 intro c σ I w hp nx args vals r hp' nx' hGL hi hs hr hg
 unfold dP at hg
 split at hg
 case h_2=>cases hg
 rename_i id off n e gg rest
 replace hg:=aJ hg;obtain⟨o,ho,hg⟩:=hg
 obtain⟨xs,mt,rfl⟩: ∃a b,o=AO.cells a b:=by cases o<;>first|exact⟨_,_,rfl⟩|(simp at hg)
 simp only at hg
 replace hg:=aP hg;obtain⟨hmt,hg⟩:=hg
 subst hmt
 replace hg:=aJ hg;obtain⟨⟨r0,ys⟩,hgg,hg⟩:=hg
 simp only[Option.some.injEq,Prod.mk.injEq]at hg
 obtain⟨rfl,rfl,rfl⟩:=hg
 obtain⟨hlen,haw⟩:=h id off n e gg rest nx xs r0 ys hgg
 refine⟨U3 _,?_⟩
 have hset:σ id≠.unset:=by
  intro hu
  have:=hi.own id _ ho
  simp[eD,hu]at this
 have hid:id<nx:=by
  apply Classical.byContradiction
  intro hc
  exact hset (hi.un id (by omega))
 have get1: ∀k o,upd (fun _=>none:H) id (.cells xs true) k=some o→k=id∧o=.cells xs true:=by
  intro k o hk
  rw[bJ]at hk
  split at hk
  ·rename_i e;exact⟨e,(J0 hk).symm⟩
  cases hk
 have hnI: ∀blk base sz,σ id=.at_ blk base sz→¬I blk:=by
  intro blk base sz e1
  have:=hi.own id _ ho
  simp only[eD,e1]at this
  exact this.2.1 trivial
 have hi':Inv {w0:=w,σ0:=σ,I0:=I,O:=fun k=> ∃base sz,σ id=.at_ k base sz,GL:=GL,nt:=fn.ntmps,u0:=fun k=>k<nx∧σ k=.unset} σ I w (upd (fun _=>none) id (.cells xs true)) (fun k=>nx≤k∨(k<nx∧σ k=.unset)):=by
  refine⟨fun _ _=>rfl,fun _ h=>h,fun _ _=>rfl,rfl,rfl,rfl,U3 _,fun _ _ _=>rfl,hi.ilt,fun k o hk=>?_,fun k k' zs o' blk base sz base' sz' h1 hm h2 hne e1=>?_,fun k zs blk base sz h1 hm e1=>?_,fun k hk=>hk.elim (hi.un k) (fun h=>h.2),fun g xs hg=>hi.glob g xs (by rw[hGL];exact hg),fun _ h=> .inl h⟩
  ·obtain⟨rfl,rfl⟩:=get1 k o hk;exact hi.own _ _ ho
  ·obtain⟨rfl,_⟩:=get1 k _ h1
   obtain⟨rfl,_⟩:=get1 k' _ h2
   exact absurd rfl hne
  obtain⟨rfl,_⟩:=get1 k _ h1
  exact .inr ⟨base,sz,e1⟩
 have hQ: ∀e t,cXh P fn.results.toList r0 id ys e t→(e=.ret∨e=.normal)∧aLl P fn.results.toList r0 id ys t:=by
  intro e t hq;cases e<;>first|exact⟨.inl rfl,hq⟩|exact⟨.inr rfl,hq⟩|exact hq.elim
 refine aBm hf hb _ rfl rfl rfl (by simpa using hlen) (fun e t hq=>(hQ e t hq).1) (haw hid) hi' (fun _ h=>h.1) hs hr ?_
 intro e t a w' hq hR
 obtain⟨⟨σ',I',a1,a2,a3⟩,_⟩:=hR
 obtain⟨q1,q2,q3,q4⟩:=(hQ e t hq).2
 obtain⟨v,hv,hrel⟩:=eZ (P:=P) a1 a3 q1
 have hold: ∀k,k<w.heap.size→(∀base sz,σ id≠.at_ k base sz)→w'.heap[k]? =w.heap[k]?:=fun k hk hn=>a1.old k hk (fun⟨base,sz,e⟩=>hn base sz e)
 have hIs: ∀k,I k→w'.heap[k]? =w.heap[k]?:=fun k hk=>hold k (hi.ilt k hk) (fun base sz e=>hnI k base sz e hk)
 have get: ∀k o,upd hp id (.cells ys true) k=some o→(k=id∧o=.cells ys true)∨(k≠id∧hp k=some o):=by
  intro k o hk
  rw[bJ]at hk
  split at hk
  ·rename_i e;exact .inl ⟨e,(J0 hk).symm⟩
  rename_i e;exact .inr ⟨e,hk⟩
 refine⟨v,hv,v,σ,I,rfl,?_,hrel.noMem q3,⟨fun _ _=>rfl,fun _ h=>h,hIs⟩,fun _ _ h=>h⟩
 refine⟨hi.ext,hi.imm,fun k hk=>by rw[hIs k (hi.imm k hk)];exact hi.iw k hk,by rw[a1.os];exact hi.os,by rw[a1.tape];exact hi.tape,by rw[a1.output];exact hi.output,Nat.le_trans hi.size a1.size,fun k hk hO=>?_,fun k hk=>Nat.lt_of_lt_of_le (hi.ilt k hk) a1.size,fun k o hk=>?_,(hi.updIL ho (.cells ys true) fun _=>rfl).1,(hi.updIL ho (.cells ys true) fun _=>rfl).2,hi.un,fun g zs hg=>(hi.glob g zs hg).mono (fun _ _=>rfl) (fun _ h=>h) hIs,hi.inew⟩
 ·rw[hold k (Nat.lt_of_lt_of_le hk hi.size) (fun base sz e=>?_)]
  ·exact hi.old k hk hO
  rcases hi.lim id _ k base sz ho rfl e with h5|h5
  ·omega
  exact hO h5
 rcases get k o hk with⟨rfl,rfl⟩|⟨hne,h2⟩
 ·have h3:=a1.own k _ q2
  have h4:σ' k=σ k:=a2.loc k hset
  have h6:=hi.own k _ ho
  simp only[eD,h4]at h3 h6⊢
  cases e5:σ k with
  |unset=>exact absurd e5 hset
  |nil=>simp only[e5]at h3⊢;exact h3
  |at_ blk base sz=>
   simp only[e5]at h3 h6⊢
   obtain⟨⟨⟨cs,T,lo,hi2,b1,b2,b3,b4,b5⟩,b6⟩,b7⟩:=h3
   exact⟨⟨⟨cs,T,lo,hi2,b1,b2,b3,b4,fun i hi3=>(b5 i hi3).noMem (AV.noMem_get ys q4 i hi3)⟩,b6⟩,h6.2⟩
 have h3:=hi.own k o h2
 refine h3.mono (fun _ _=>rfl) (fun _ h=>h) hIs fun blk base sz e1=>⟨hold blk (h3.lt e1) (fun base' sz' e2=>?_),fun _ h=>h⟩
 exact hi.inj id k _ o blk base' sz' base sz ho rfl h2 (fun e=>hne e.symm) e2 e1
end
end Go.AX
