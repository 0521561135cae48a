/-
  Types, part A: bitmaps of types, sorted and clean lists of types, in plain Lean: what is written is read again, and nothing else is. Sort, part H: the sort itself, at numbers of sixteen bits. Sort, part I: what a slice's iterator gives, collected, at numbers of sixteen bits (the kit's own walk, for ranges over a function). Sort, part J: sorted, out of an iterator, at numbers of sixteen bits. Sort, part K: doubles struck, at numbers of sixteen bits. Types, part B: types as texts, in plain Lean: what is written is read again. Types, part L: bytes held against each other. Types, part M: rows of types; rising rows, as the program and the document make them. Data, part U2: names, types and structures as the arguments of a statement. Types, part N: bitmaps, as the program writes them. Types, part O: bitmaps, as the document writes them. Types, part P: bitmaps, read by the program. Data, part yF: a NSEC3's data read. Data, part yG: Sig, Chain, Check of every type. Data, part yH: the canonical form of data of any type. Data, part zA: in plain words: names, numbers and texts read off their bytes, and put together again. Data, part zB: in plain words: keys, SOAs and RRSIGs read off their bytes, and put together again. Data, part yP: in plain words: names that are whole in data, and what stands behind them. Data, part yI: names that may stand in data; names held against each other. Data, part zK: known, over Check and Canon of every type. AX, more, part M: maps: evaluation. AX, more, part N: a region that draws its order, where operations are apart by the own objects that they touch. AX, more, part Q: a region that draws its order, where operations are apart by the own objects that they touch: the rule. AX, more, part R: a part of a function that runs on lent objects: whatever it makes of them, they are there again behind it. Data, part yQ: the law DataNames.
-/
import Derived.Test.YtndohkbppgmbjaaBD
import Derived.RangeFuncBox
import Derived.RangeFuncLeaves
import Derived.Shelf.Abstract
import Derived.WalkKit
import Derived.OwnWalkIn
import Derived.TacticsInMore
import Derived.LoopNIn
import Derived.LoopIn
import Derived.Maps.AppendAt
import Derived.Test.YtndohkbppgmbjaaProg
import Derived.KernelRfl
import Derived.Test.YtndohkbppgmbjaaBB
import Derived.Test.YtndohkbppgmbjaaBC
namespace Go.AX
open Go Go.Proofs
def win (t:T16):Nat:=t.toNat/256
def pos (t:T16):Nat:=t.toNat%256
def rE (k:Nat):B8:=0x80#8>>>k
theorem eLt (x:B8) (k:Nat) (hk:k<8):(x&&&rE k≠0#8)↔x.getLsbD (7-k)=true:=by
 have e:rE k=BitVec.twoPow 8 (7-k):=by
  have: ∀k:Fin 8,rE k.1=BitVec.twoPow 8 (7-k.1):=by decide
  exact this ⟨k,hk⟩
 rw[e,BitVec.and_twoPow]
 split
 ·rename_i h
  simp only[h,iff_true]
  have: ∀k:Fin 8,BitVec.twoPow 8 (7-k.1)≠0#8:=by decide
  exact this ⟨k,hk⟩
 rename_i h
 simp[h]
theorem eXj (x y:B8) (h: ∀k,k<8→(x&&&rE k≠0#8↔y&&&rE k≠0#8)):x=y:=by
 apply BitVec.eq_of_getLsbD_eq
 intro i hi
 have:=h (7-i) (by omega)
 rw[eLt x _ (by omega),eLt y _ (by omega),show 7-(7-i)=i by omega]at this
 rw[Bool.eq_iff_iff];exact this
theorem fAx (x:B8) (j k:Nat) (hj:j<8) (hk:k<8):(x|||rE j)&&&rE k≠0#8↔(x&&&rE k≠0#8∨j=k):=by
 rw[eLt _ k hk,eLt _ k hk,BitVec.getLsbD_or,Bool.or_eq_true]
 have:(rE j).getLsbD (7-k)=true↔j=k:=by
  have e: ∀j k:Fin 8,(rE j.1).getLsbD (7-k.1)=true↔j.1=k.1:=by decide
  exact e ⟨j,hj⟩ ⟨k,hk⟩
 rw[this]
def eQn (b:List B8) (t:T16):List B8:=b.set (pos t/8) (b.getD (pos t/8) 0#8|||rE (pos t%8))
def dR (p:List T16):List B8:=p.foldl eQn (List.replicate 32 0#8)
theorem ePl (b:List B8) (t:T16):(eQn b t).length=b.length:=List.length_set
theorem eTf (p:List T16): ∀b:List B8,(p.foldl eQn b).length=b.length:=by
 induction p with
 |nil=>intro b;rfl
 |cons t p ih=>intro b;rw[List.foldl_cons,ih,ePl]
theorem eKl (p:List T16):(dR p).length=32:=by rw[dR,eTf,List.length_replicate]
theorem eNf (t:T16):pos t<256:=Nat.mod_lt _ (by omega)
theorem eTg (p:List T16) (i k:Nat) (hi:i<32) (hk:k<8): ∀b:List B8,b.length=32→((p.foldl eQn b).getD i 0#8&&&rE k≠0#8↔(b.getD i 0#8&&&rE k≠0#8∨∃t∈p,pos t=8*i+k)):=by
 induction p with
 |nil=>intro b _;simp
 |cons t p ih=>
  intro b hb
  have hp:=eNf t
  rw[List.foldl_cons,ih _ (by rw[ePl];exact hb)]
  have hst:(eQn b t).getD i 0#8&&&rE k≠0#8↔(b.getD i 0#8&&&rE k≠0#8∨pos t=8*i+k):=by
   rw[eQn]
   by_cases e:pos t/8=i
   ·subst e
    rw[List.getD_eq_getElem?_getD,List.getElem?_set_self (by omega),Option.getD_some,fAx _ _ _ (by omega) hk]
    constructor
    ·rintro(h|h)
     ·exact .inl h
     exact .inr (by omega)
    rintro(h|h)
    ·exact .inl h
    exact .inr (by omega)
   rw[List.getD_eq_getElem?_getD,List.getElem?_set_ne e,←List.getD_eq_getElem?_getD]
   constructor
   ·exact .inl
   rintro(h|h)
   ·exact h
   omega
  rw[hst]
  simp only[List.mem_cons,exists_eq_or_imp,or_assoc]
theorem eLa (p:List T16) (i k:Nat) (hi:i<32) (hk:k<8):(dR p).getD i 0#8&&&rE k≠0#8↔∃t∈p,pos t=8*i+k:=by
 rw[dR,eTg p i k hi hk _ (by simp)]
 have:(List.replicate 32 0#8:List B8).getD i 0#8=0#8:=by
  rw[List.getD_eq_getElem?_getD,List.getElem?_replicate];split<;>rfl
 rw[this]
 simp
def szL (p:List T16):Nat:=match p.getLast? with|some t=>pos t/8+1|none=>0
theorem eOq (p:List T16):szL p≤32:=by
 unfold szL;split
 ·have:=eNf ‹_›;omega
 omega
def rR (w:Nat) (bs:List B8):List T16:=(List.range (8*bs.length)).filterMap fun i=>if bs.getD (i/8) 0#8&&&rE (i%8)≠0#8 then some (BitVec.ofNat 16 (w*256+i))else none
def Inc (p:List T16):Prop:=p.Pairwise fun a b=>a.toNat<b.toNat
theorem eOz: ∀ {p q:List T16},Inc p→Inc q→(∀t,t∈p↔t∈q)→p=q
 |[],[],_,_,_=>rfl
 |[],b::q,_,_,h=>absurd ((h b).2 (by simp)) (by simp)
 |a::p,[],_,_,h=>absurd ((h a).1 (by simp)) (by simp)
 |a::p,b::q,hp,hq,h=>by
  rw[Inc,List.pairwise_cons]at hp hq
  have hab:a=b:=by
   have h1:=(h a).1 (by simp)
   have h2:=(h b).2 (by simp)
   rw[List.mem_cons]at h1 h2
   rcases h1 with h1|h1
   ·exact h1
   rcases h2 with h2|h2
   ·exact h2.symm
   have:=hq.1 a h1;have:=hp.1 b h2;omega
  subst hab
  congr 1
  refine eOz hp.2 hq.2 fun t=>?_
  have ht:=h t
  rw[List.mem_cons,List.mem_cons]at ht
  constructor
  ·intro hm
   rcases ht.1 (.inr hm)with e|e
   ·subst e;have:=hp.1 t hm;omega
   exact e
  intro hm
  rcases ht.2 (.inr hm)with e|e
  ·subst e;have:=hq.1 t hm;omega
  exact e
theorem eKk (w:Nat) (bs:List B8) (hw:w<256) (hb:bs.length≤32) (x:T16):x∈rR w bs↔win x=w∧pos x<8*bs.length∧bs.getD (pos x/8) 0#8&&&rE (pos x%8)≠0#8:=by
 unfold rR
 simp only[List.mem_filterMap,List.mem_range]
 constructor
 ·rintro⟨i,hi,he⟩
  split at he
  ·rename_i hbit
   obtain rfl:=J0 he
   have e1:(BitVec.ofNat 16 (w*256+i)).toNat=w*256+i:=by rw[BitVec.toNat_ofNat];omega
   have e2:win (BitVec.ofNat 16 (w*256+i))=w:=by unfold win;rw[e1];omega
   have e3:pos (BitVec.ofNat 16 (w*256+i))=i:=by unfold pos;rw[e1];omega
   rw[e2,e3];exact⟨rfl,hi,hbit⟩
  cases he
 rintro⟨h1,h2,h3⟩
 refine⟨pos x,h2,?_⟩
 rw[J4 h3]
 congr 1
 apply BitVec.eq_of_toNat_eq
 rw[BitVec.toNat_ofNat,←h1]
 unfold win pos
 have:=x.isLt
 omega
theorem eNn (w:Nat) (bs:List B8) (_:w<256) (hb:bs.length≤32):Inc (rR w bs):=by
 unfold Inc rR
 rw[List.pairwise_filterMap]
 refine List.Pairwise.imp_of_mem ?_ (List.pairwise_lt_range (n:=8*bs.length))
 intro a b ha hb2 hab x hx y hy
 rw[List.mem_range]at ha hb2
 split at hx
 ·split at hy
  ·obtain rfl:=J0 hx
   obtain rfl:=J0 hy
   rw[BitVec.toNat_ofNat,BitVec.toNat_ofNat];omega
  cases hy
 cases hx
def InW (w:Nat) (p:List T16):Prop:= ∀t∈p,win t=w
theorem t_eq (x y:T16) (h1:win x=win y) (h2:pos x=pos y):x=y:=by
 apply BitVec.eq_of_toNat_eq
 unfold win at h1;unfold pos at h2
 omega
theorem ePx {p:List T16} (hp:Inc p) {t:T16} (ht:t∈p) {m:T16} (hm:p.getLast? =some m):t=m∨t.toNat<m.toNat:=by
 induction p with
 |nil=>simp at ht
 |cons a p ih=>
  rw[Inc,List.pairwise_cons]at hp
  cases p with
  |nil=>simp at hm ht;exact .inl (by rw[ht,hm])
  |cons b q=>
   rw[List.getLast?_cons_cons]at hm
   rcases List.mem_cons.1 ht with e|e
   ·subst e
    right
    exact hp.1 m (List.mem_of_getLast? hm)
   exact ih hp.2 e hm
theorem eWm (w:Nat) (p:List T16) (hw:w<256) (hp:Inc p) (hin:InW w p):rR w ((dR p).take (szL p))=p:=by
 have hle:=eOq p
 have hlen:((dR p).take (szL p)).length=szL p:=by rw[List.length_take,eKl];omega
 refine eOz (eNn w _ hw (by omega)) hp fun x=>?_
 rw[eKk w _ hw (by omega),hlen]
 have hx:=eNf x
 have hg:pos x/8<szL p→((dR p).take (szL p)).getD (pos x/8) 0#8=(dR p).getD (pos x/8) 0#8:=fun h=>by
  rw[List.getD_eq_getElem?_getD,List.getElem?_take_of_lt h,List.getD_eq_getElem?_getD]
 constructor
 ·rintro⟨h1,h2,h3⟩
  rw[hg (by omega),eLa p _ _ (by omega) (by omega)]at h3
  obtain⟨t,ht,he⟩:=h3
  have:x=t:=t_eq x t (by rw[h1,hin t ht]) (by omega)
  rw[this];exact ht
 intro hxp
 have hsz:pos x<8*szL p:=by
  cases hm:p.getLast? with
  |none=>rw[List.getLast?_eq_none_iff]at hm;subst hm;simp at hxp
  |some m=>
   have hmp:m∈p:=List.mem_of_getLast? hm
   have hs:szL p=pos m/8+1:=by unfold szL;rw[hm]
   have h1:=hin x hxp
   have h2:=hin m hmp
   rcases ePx hp hxp hm with e|e
   ·subst e;omega
   unfold win at h1 h2;unfold pos at hs⊢;omega
 refine⟨hin x hxp,hsz,?_⟩
 rw[hg (by omega),eLa p _ _ (by omega) (by omega)]
 exact⟨x,hxp,by omega⟩
theorem ePu (x:B8) (h:x≠0#8): ∃k,k<8∧x&&&rE k≠0#8:=by
 apply Classical.byContradiction
 intro hn
 apply h
 apply eXj
 intro k hk
 constructor
 ·intro h2;exact absurd ⟨k,hk,h2⟩ hn
 intro h2;simp at h2
theorem eXi (w:Nat) (bs:List B8) (hw:w<256) (h1:1≤bs.length) (h32:bs.length≤32) (hl:bs.getD (bs.length-1) 0#8≠0#8):szL (rR w bs)=bs.length∧(dR (rR w bs)).take bs.length=bs∧InW w (rR w bs):=by
 have hinc:=eNn w bs hw h32
 have hin:InW w (rR w bs):=fun t ht=>((eKk w bs hw h32 t).1 ht).1
 obtain⟨k,hk,hb⟩:=ePu _ hl
 have hmk: ∀i j,i<bs.length→j<8→∃x:T16,win x=w∧pos x=8*i+j:=by
  intro i j hi hj
  have e:(BitVec.ofNat 16 (w*256+(8*i+j))).toNat=w*256+(8*i+j):=by rw[BitVec.toNat_ofNat];omega
  exact⟨BitVec.ofNat 16 (w*256+(8*i+j)),by unfold win;rw[e];omega,by unfold pos;rw[e];omega⟩
 obtain⟨y,hy1,hy2⟩:=hmk (bs.length-1) k (by omega) hk
 have hy:y∈rR w bs:=by
  rw[eKk w bs hw h32]
  refine⟨hy1,by omega,?_⟩
  rw[hy2,show(8*(bs.length-1)+k)/8=bs.length-1 by omega,show(8*(bs.length-1)+k)%8=k by omega]
  exact hb
 refine⟨?_,?_,hin⟩
 ·cases hm:(rR w bs).getLast? with
  |none=>rw[List.getLast?_eq_none_iff]at hm;rw[hm]at hy;simp at hy
  |some m=>
   have hmp:m∈rR w bs:=List.mem_of_getLast? hm
   have hs:szL (rR w bs)=pos m/8+1:=by unfold szL;rw[hm]
   have h2:=((eKk w bs hw h32 m).1 hmp)
   rw[hs]
   rcases ePx hinc hy hm with e|e
   ·rw[←e];omega
   have:=h2.1;unfold win at this hy1;unfold pos at hy2 h2⊢;omega
 apply List.ext_getElem
 ·rw[List.length_take,eKl];omega
 intro i h2 h3
 have e1:((dR (rR w bs)).take bs.length)[i]=(dR (rR w bs)).getD i 0#8:=by
  rw[List.getElem_take,List.getD_eq_getElem?_getD,List.getElem?_eq_getElem (by rw[eKl];omega)];rfl
 have e2:bs[i]=bs.getD i 0#8:=by rw[List.getD_eq_getElem?_getD,List.getElem?_eq_getElem h3];rfl
 rw[e1,e2]
 apply eXj
 intro j hj
 rw[eLa _ i j (by omega) hj]
 constructor
 ·rintro⟨t,ht,he⟩
  have:=((eKk w bs hw h32 t).1 ht).2.2
  rw[he,show(8*i+j)/8=i by omega,show(8*i+j)%8=j by omega]at this
  exact this
 intro hb2
 obtain⟨x,hx1,hx2⟩:=hmk i j h3 hj
 refine⟨x,(eKk w bs hw h32 x).2 ⟨hx1,by omega,?_⟩,hx2⟩
 rw[hx2,show(8*i+j)/8=i by omega,show(8*i+j)%8=j by omega]
 exact hb2
def eLm (w:Nat) (p:List T16):List B8:=BitVec.ofNat 8 w::BitVec.ofNat 8 (szL p)::(dR p).take (szL p)
def grp (t:T16) (r:List T16):List T16:=t::r.takeWhile fun x=>decide (win x=win t)
def rst (t:T16) (r:List T16):List T16:=r.dropWhile fun x=>decide (win x=win t)
theorem eYe (t:T16) (r:List T16):(rst t r).length≤r.length:=by
 unfold rst
 exact(List.dropWhile_sublist _).length_le
def bmL:List T16→List B8
 |[]=>[]
 |t::r=>eLm (win t) (grp t r)++bmL (rst t r)
termination_by l=>l.length
decreasing_by simp only[List.length_cons];have:=eYe t r;omega
theorem eTu (t:T16):win t<256:=by unfold win;have:=t.isLt;omega
theorem eLc {p:T16→Bool}: ∀ {l:List T16} {x:T16},x∈l.takeWhile p→p x=true
 |[],x,h=>by simp at h
 |a::l,x,h=>by
  rw[List.takeWhile_cons]at h
  split at h
  ·rename_i ha
   rcases List.mem_cons.1 h with rfl|h
   ·exact ha
   exact eLc h
  simp at h
theorem fCx (t:T16) (r:List T16):InW (win t) (grp t r):=by
 intro x hx
 rcases List.mem_cons.1 hx with rfl|hx
 ·rfl
 exact of_decide_eq_true (eLc hx)
theorem eRu (t:T16) (r:List T16):t::r=grp t r++rst t r:=by
 rw[grp,rst,List.cons_append,List.takeWhile_append_dropWhile]
theorem eZa {p q:List T16} (h:Inc (p++q)):Inc p∧Inc q∧∀x∈p,∀y∈q,x.toNat<y.toNat:=by
 rw[Inc,List.pairwise_append]at h;exact h
theorem fBo (t:T16) (r:List T16):1≤szL (grp t r):=by
 unfold szL grp
 cases h:(t::r.takeWhile fun x=>decide (win x=win t)).getLast? with
 |none=>simp at h
 |some m=>simp
def opP:Nat→List B8→Option (List T16)
 |0,_=>none
 |_+1,[]=>some []
 |_+1,[_]=>none
 |f+1,w::n::r=>if n.toNat≤r.length then(match opP f (r.drop n.toNat)with|some l=>some (rR w.toNat (r.take (min n.toNat 32))++l)|none=>none)else none
def opR:Nat→Int→List B8→Option (List T16)
 |0,_,_=>none
 |_+1,_,[]=>some []
 |_+1,_,[_]=>none
 |f+1,last,w::n::r=>if last<(w.toNat:Int)∧1≤n.toNat∧n.toNat≤32∧n.toNat≤r.length∧r.getD (n.toNat-1) 0#8≠0#8 then(match opR f w.toNat (r.drop n.toNat)with|some l=>some (rR w.toNat (r.take n.toNat)++l)|none=>none)else none
theorem eUy (w:Nat) (p:List T16) (x:List B8):eLm w p++x=BitVec.ofNat 8 w::BitVec.ofNat 8 (szL p)::((dR p).take (szL p)++x):=rfl
theorem eRy (p:List T16):((dR p).take (szL p)).length=szL p:=by have:=eOq p;rw[List.length_take,eKl];omega
theorem eWa (p:List T16) (hp:p≠[]):(dR p).getD (szL p-1) 0#8≠0#8:=by
 cases hm:p.getLast? with
 |none=>rw[List.getLast?_eq_none_iff]at hm;exact absurd hm hp
 |some m=>
  have hs:szL p=pos m/8+1:=by unfold szL;rw[hm]
  have hpm:=eNf m
  intro h0
  have:=(eLa p (pos m/8) (pos m%8) (by omega) (by omega)).2 ⟨m,List.mem_of_getLast? hm,by omega⟩
  rw[hs,show pos m/8+1-1=pos m/8 by omega]at h0
  rw[h0]at this
  simp at this
theorem eVg: ∀(f:Nat) (c:List T16) (last:Int),Inc c→(∀t∈c,last<(win t:Int))→(bmL c).length<f→opR f last (bmL c)=some c
 |0,_,_,_,_,h=>by omega
 |f+1,[],_,_,_,_=>by rw[bmL];rfl
 |f+1,t::r,last,hi,hl,hf=>by
  rw[bmL,eUy]at hf⊢
  have hsz:=fBo t r
  have hle:=eOq (grp t r)
  have hb:=eRy (grp t r)
  have hn:(BitVec.ofNat 8 (szL (grp t r))).toNat=szL (grp t r):=by rw[BitVec.toNat_ofNat];omega
  have hw:(BitVec.ofNat 8 (win t)).toNat=win t:=by have:=eTu t;rw[BitVec.toNat_ofNat];omega
  have hi0:=hi
  rw[eRu t r]at hi
  obtain⟨h1,h2,h3⟩:=eZa hi
  simp only[opR,hn,hw]
  have hlb:=eWa (grp t r) (by simp[grp])
  have hgd:((dR (grp t r)).take (szL (grp t r))++bmL (rst t r)).getD (szL (grp t r)-1) 0#8=(dR (grp t r)).getD (szL (grp t r)-1) 0#8:=by
   rw[List.getD_eq_getElem?_getD,List.getElem?_append_left (by omega),List.getElem?_take_of_lt (by omega),List.getD_eq_getElem?_getD]
  rw[J4 ⟨hl t (by simp),hsz,hle,by rw[List.length_append,hb];omega,by rw[hgd];exact hlb⟩]
  rw[List.drop_append,List.drop_of_length_le (by omega),hb,Nat.sub_self,J9,List.nil_append,List.take_append_of_le_length (by omega),List.take_of_length_le (by omega)]
  have hnext: ∀x∈rst t r,((win t:Nat):Int)<(win x:Int):=by
   intro x hx
   have hlt:t.toNat<x.toNat:=h3 t (by simp[grp]) x hx
   have hle2:win t≤win x:=by unfold win;omega
   have hne:win x≠win t:=by
    -- the first of the rest has another window, and all behind it are greater
    intro e
    cases hr:rst t r with
    |nil=>rw[hr]at hx;simp at hx
    |cons y ys=>
     have hy:win y≠win t:=by
      have:=List.head_dropWhile_not (fun x=>decide (win x=win t)) (show List.dropWhile (fun x=>decide (win x=win t)) r≠[]by show rst t r≠[];rw[hr];simp)
      have e2:(List.dropWhile (fun x=>decide (win x=win t)) r).head (by show rst t r≠[];rw[hr];simp)=y:=by
       have:rst t r=y::ys:=hr
       unfold rst at this
       simp[this]
      rw[e2]at this
      simpa using this
     have hty:t.toNat<y.toNat:=h3 t (by simp[grp]) y (by rw[hr];simp)
     have hyx:y.toNat≤x.toNat:=by
      rw[hr]at hx h2
      rcases List.mem_cons.1 hx with rfl|hx2
      ·omega
      rw[Inc,List.pairwise_cons]at h2
      have:=h2.1 x hx2;omega
     unfold win at e hy hle2;omega
   omega
  rw[eVg f (rst t r) (win t) h2 hnext (by simp only[List.length_cons,List.length_append]at hf;omega)]
  simp only
  rw[eWm (win t) (grp t r) (eTu t) h1 (fCx t r),←eRu]
theorem eMn: ∀(f:Nat) (last:Int) (b:List B8) (l:List T16),opR f last b=some l→Inc l∧(∀t∈l,last<(win t:Int))∧bmL l=b∧opP f b=some l
 |0,_,_,_,h=>by simp[opR]at h
 |f+1,last,[],l,h=>by
  simp only[opR,Option.some.injEq]at h;subst h
  exact⟨.nil,by simp,by rw[bmL],rfl⟩
 |f+1,last,[_],l,h=>by simp[opR]at h
 |f+1,last,w::n::r,l,h=>by
  simp only[opR]at h
  split at h
  ·rename_i hc
   obtain⟨c1,c2,c3,c4,c5⟩:=hc
   split at h
   ·rename_i l2 hl2
    obtain rfl:=J0 h
    obtain⟨i1,i2,i3,i4⟩:=eMn f _ _ _ hl2
    have hw:=w.isLt
    have hlen:(r.take n.toNat).length=n.toNat:=by rw[List.length_take];omega
    have hgd:(r.take n.toNat).getD ((r.take n.toNat).length-1) 0#8≠0#8:=by
     rw[hlen,List.getD_eq_getElem?_getD,List.getElem?_take_of_lt (by omega),←List.getD_eq_getElem?_getD];exact c5
    obtain⟨d1,d2,d3⟩:=eXi w.toNat (r.take n.toNat) (by omega) (by omega) (by omega) hgd
    have dinc:=eNn w.toNat (r.take n.toNat) (by omega) (by omega)
    have hcross: ∀x∈rR w.toNat (r.take n.toNat),∀y∈l2,x.toNat<y.toNat:=by
     intro x hx y hy
     have h1:=d3 x hx
     have h2:=i2 y hy
     unfold win at h1 h2;omega
    refine⟨List.pairwise_append.2 ⟨dinc,i1,hcross⟩,?_,?_,?_⟩
    ·intro t ht
     rcases List.mem_append.1 ht with h1|h1
     ·rw[d3 t h1];exact c1
     have:=i2 t h1;omega
    ·cases hd:rR w.toNat (r.take n.toNat)with
     |nil=>rw[hd]at d1;simp[szL]at d1;omega
     |cons t q=>
      have hwt:win t=w.toNat:=d3 t (by rw[hd];simp)
      have hg:grp t (q++l2)=t::q∧rst t (q++l2)=l2:=by
       have hq: ∀x∈q,decide (win x=win t)=true:=fun x hx=>J5 (by rw[d3 x (by rw[hd];simp[hx]),hwt])
       have hl: ∀x∈l2,decide (win x=win t)=false:=fun x hx=>J6 (by have:=i2 x hx;omega)
       constructor
       ·unfold grp;rw[List.takeWhile_append_of_pos (by simpa using hq)]
        cases l2 with
        |nil=>simp
        |cons y ys=>rw[List.takeWhile_cons,J3 (by rw[hl y (by simp)];simp)];simp
       unfold rst;rw[List.dropWhile_append_of_pos (by simpa using hq)]
       cases l2 with
       |nil=>rfl
       |cons y ys=>rw[List.dropWhile_cons,J3 (by rw[hl y (by simp)];simp)]
      rw[List.cons_append,bmL,hg.1,hg.2,i3]
      rw[hd]at d1 d2
      rw[eLm,d1,hlen]
      rw[hlen]at d2
      rw[d2,hwt]
      have e1:BitVec.ofNat 8 w.toNat=w:=by rw[BitVec.ofNat_toNat,BitVec.setWidth_eq]
      have e2:BitVec.ofNat 8 n.toNat=n:=by rw[BitVec.ofNat_toNat,BitVec.setWidth_eq]
      rw[e1,e2,List.cons_append,List.cons_append,List.take_append_drop]
    simp only[opP]
    rw[J4 c4,i4,Nat.min_eq_left c3]
   cases h
  cases h
theorem qW:Sort.SWO ltN where
 irrefl x:=by simp[ltN]
 trans x y z h1 h2:=by simp only[ltN,decide_eq_true_eq]at*;omega
 ntrans x y z h1 h2:=by simp only[ltN,decide_eq_false_iff_not]at*;omega
def iU (l:List T16):List T16:=(Sort.sort ltN l.toArray).toList
theorem kC (l:List T16):(iU l).Perm l:=by
 have h:=(Sort.sort_sorts ltN qW l.toArray).1
 obtain⟨h1,_,h3⟩:=h
 unfold iU
 have e1:(Sort.sort ltN l.toArray).extract 0 l.toArray.size=Sort.sort ltN l.toArray:=by rw[←h1];exact Array.extract_size
 rw[e1,Array.extract_size]at h3
 exact h3
theorem aFo (l:List T16):(iU l).length=l.length:=(kC l).length_eq
theorem nY (l:List T16):(iU l).Pairwise fun a b=>a.toNat≤b.toNat:=by
 have h:=(Sort.sort_sorts ltN qW l.toArray)
 obtain⟨⟨h1,_,_⟩,h2⟩:=h
 rw[List.pairwise_iff_getElem]
 intro i j hi hj hij
 have hs:(iU l).length=l.toArray.size:=by rw[aFo];simp
 have:=h2 i j (Nat.zero_le _) hij (by omega)
 have e: ∀k (hk:k<(iU l).length),(Sort.sort ltN l.toArray)[k]! =(iU l)[k]:=by
  intro k hk
  rw[getElem!_pos _ k (by rw[h1];omega)];rfl
 rw[e j hj,e i hi]at this
 simp only[ltN,decide_eq_false_iff_not]at this
 omega
def dL:List T16→List T16
 |[]=>[]
 |[x]=>[x]
 |x::y::r=>if x=y then dL (y::r)else x::dL (y::r)
theorem eKz: ∀(l:List T16) (t:T16),t∈dL l↔t∈l
 |[],t=>by simp[dL]
 |[x],t=>by simp[dL]
 |x::y::r,t=>by
  rw[dL]
  split
  ·rename_i e;subst e
   rw[eKz (x::r) t];simp
  rw[List.mem_cons,eKz (y::r) t,List.mem_cons (a:=t) (b:=x)]
theorem eOl: ∀(l:List T16),l.Pairwise (fun a b=>a.toNat≤b.toNat)→Inc (dL l)
 |[],_=> .nil
 |[x],_=>by simp[dL,Inc]
 |x::y::r,h=>by
  rw[List.pairwise_cons]at h
  have ih:=eOl (y::r) h.2
  rw[dL]
  split
  ·exact ih
  rename_i hne
  rw[Inc,List.pairwise_cons]
  refine⟨fun t ht=>?_,ih⟩
  have ht2:=(eKz (y::r) t).1 ht
  have h1:=h.1 t ht2
  have h2:=h.1 y (by simp)
  have h3:x.toNat≠y.toNat:=fun e=>hne (BitVec.eq_of_toNat_eq e)
  rcases List.mem_cons.1 ht2 with rfl|h4
  ·omega
  have h5:=h.2
  rw[List.pairwise_cons]at h5
  have:=h5.1 t h4;omega
def eA (l:List T16):List T16:=dL (iU l)
theorem eQw (l:List T16) (t:T16):t∈eA l↔t∈l:=by
 rw[eA,eKz];exact(kC l).mem_iff
theorem eNp (l:List T16):Inc (eA l):=eOl _ (nY l)
theorem eTm {l:List T16} (h:Inc l):eA l=l:=eOz (eNp l) h (eQw l)
end Go.AX

namespace Go.AX
open Go Go.Proofs
noncomputable def aJp {α:Type} (p:Prop) (x:Option α):Option α:=@aN _ p (Classical.propDecidable p) x
theorem aSo {α:Type} {p:Prop} {x:Option α} {y:α} (h:aJp p x=some y):p∧x=some y:=@aP _ p (Classical.propDecidable p) x y h
theorem bMz {α:Type} (x:Option α):aJp True x=x:=@cU _ True (Classical.propDecidable True) x trivial
attribute [go_sem] bMz
noncomputable def zR (N:Nat):List AV→List AV→Option (AV×List AV)
 |[.os _ 0 n 1 _,.i a,.i b,.i k],xs=>aK (unA xs) fun l=>aN (l.length=n∧0≤a∧a≤b∧b≤n∧0≤k∧k≤1000∧n≤1000000∧b-a<N) (aJp (Sort.Below ltN a.toNat b.toNat l.toArray) (some (.tup [],cA (Sort.pdq ltN l.toArray a.toNat b.toNat k.toNat true true))))
 |_,_=>none
theorem bVl (N id n:Nat) (gg:Bool) (a b k:Int) (xs:List AV):zR N [.os id 0 n 1 gg,.i a,.i b,.i k] xs=aK (unA xs) fun l=>aN (l.length=n∧0≤a∧a≤b∧b≤n∧0≤k∧k≤1000∧n≤1000000∧b-a<N) (aJp (Sort.Below ltN a.toNat b.toNat l.toArray) (some (.tup [],cA (Sort.pdq ltN l.toArray a.toNat b.toNat k.toNat true true)))):=(rfl)
attribute [go_sem] bVl
structure SPQ where
 a:Nat
 b:Nat
 l:Nat
 wb:Bool
 wp:Bool
 d:Array T16
 c:Nat
theorem bVk:cQ Try.prog GLh 91 (dP (zR 0)):=by
 refine dN Try.func91 (aT rfl) ?_
 intro id off n e gg rest nx xs r ys hg
 exfalso
 unfold zR at hg
 split at hg
 ·replace hg:=aJ hg;obtain⟨l,hl,hg⟩:=hg
  replace hg:=aP hg;obtain⟨⟨hn,ha,hab,hbn,hk,hk2,hbig,hN⟩,hg⟩:=hg
  omega
 cases hg
theorem aVs {a b:Nat} {d x:Array T16} (c:Prop) [Decidable c] (h:Sort.PermIn a b d x):Sort.PermIn a b d (if c then x else d):=by
 split
 ·exact h
 exact Sort.permIn_refl _ _ _
set_option maxHeartbeats 1000000 in
theorem cJr {id n a b k L nx0 cx0:Nat} {gg wb wp:Bool} {d:Array T16} {Q:Exit→S→Prop} {k1:Nat} {d1:Array T16} (hd1:(if(!wb)=true then Sort.breakPatterns d a b else d)=d1) (hk1:(if(!wb)=true then k-1 else k)=k1) (hk:0<k) (hk2:k≤1000) (hds:d.size=n) (hab:a<b) (hbn:b≤n) (hbig:n≤1000000) (hid:id<cx0)
  (hQ: ∀n1 c1,id<c1→Q .normal {fr:=[(0,.os id 0 n 1 gg),(1,.i (a:Int)),(2,.i (b:Int)),(3,.i (k1:Int)),(8,.b wb),(9,.b wp),(10,.i (L:Int))],hp:=upd (fun _=>none) id (.cells (cA d1) true),nx:=n1,cx:=c1}):
  Awp Try.prog GLh Try.f91.ntmps (cl (cr (cr (cr (cl (cl (cl (cr (cr (aE Try.f91)))))))))) {fr:=[(0,.os id 0 n 1 gg),(1,.i (a:Int)),(2,.i (b:Int)),(3,.i (k:Int)),(8,.b wb),(9,.b wp),(10,.i (L:Int))],hp:=upd (fun _=>none) id (.cells (cA d) true),nx:=nx0,cx:=cx0} Q:=by
  cases wb
  ·simp only[Bool.not_false,if_true]at hd1 hk1
   have ek:(k:Int)-1=(k1:Int):=by omega
   refine aA rfl (aW [35,0,1,2,3,8,9,10] rfl rfl rfl fun K hK=>?_)
   simp(disch:=omega) only[Try.f91,go_sem,↓reduceIte]
   refine hK _ ?_
   refine aB (eC (.tmp 35) rfl rfl rfl (fun h=>?_) (fun h=>?_))
   ·refine aI rfl (aA rfl (aC (Γ:=bC [(95,.heap (dP bPn))]) [0,1,2,3,8,9,10] (aH ok95 aO) rfl rfl rfl (fun K hK=>?_)))
    simp(disch:=omega) only[Try.f91,go_sem,↓reduceIte,hds,hd1,U2]
    refine hK _ ?_
    refine aB (aW [0,1,2,3,8,9,10] rfl rfl rfl fun K hK=>?_)
    simp(disch:=omega) only[Try.f91,go_sem,↓reduceIte,ek]
    refine hK _ ?_
    exact hQ _ _ (by omega)
   refine aI rfl ?_
   cases h
  simp only[Bool.not_true,Bool.false_eq_true,if_false]at hd1 hk1
  subst hd1;subst hk1
  refine aA rfl (aW [35,0,1,2,3,8,9,10] rfl rfl rfl fun K hK=>?_)
  simp(disch:=omega) only[Try.f91,go_sem,↓reduceIte]
  refine hK _ ?_
  refine aB (eC (.tmp 35) rfl rfl rfl (fun h=>?_) (fun h=>?_))
  ·refine aI rfl ?_
   cases h
  exact aI rfl (aQ rfl (hQ _ _ (by omega)))
set_option maxHeartbeats 1000000 in
theorem cJo {id n a b k L nx0 cx0:Nat} {gg wb wp:Bool} {d:Array T16} {Q:Exit→S→Prop} {pv pv2:Nat} {ht ht2:Sort.Hint} {d2:Array T16} (hd2:(if ht=Sort.Hint.decreasing then Sort.reverseRange d a b else d)=d2) (hpv2:(if ht=Sort.Hint.decreasing then(b-1)-(pv-a)else pv)=pv2) (hht2:(if ht=Sort.Hint.decreasing then Sort.Hint.increasing else ht)=ht2) (hpa:a≤pv) (hpb:pv<b) (hds:d.size=n) (hab:a<b) (hbn:b≤n) (hbig:n≤1000000) (hid:id<cx0)
  (hQ: ∀n1 c1,id<c1→Q .normal {fr:=[(0,.os id 0 n 1 gg),(1,.i (a:Int)),(2,.i (b:Int)),(3,.i (k:Int)),(8,.b wb),(9,.b wp),(10,.i (L:Int)),(11,.i (pv2:Int)),(12,.i (gM ht2))],hp:=upd (fun _=>none) id (.cells (cA d2) true),nx:=n1,cx:=c1}):
  Awp Try.prog GLh Try.f91.ntmps (cl (cr (cr (cr (cr (cr (cl (cl (cl (cr (cr (aE Try.f91)))))))))))) {fr:=[(0,.os id 0 n 1 gg),(1,.i (a:Int)),(2,.i (b:Int)),(3,.i (k:Int)),(8,.b wb),(9,.b wp),(10,.i (L:Int)),(11,.i (pv:Int)),(12,.i (gM ht))],hp:=upd (fun _=>none) id (.cells (cA d) true),nx:=nx0,cx:=cx0} Q:=by
  cases ht
  ·simp only[reduceCtorEq,if_false]at hd2 hpv2 hht2
   subst hd2;subst hpv2;subst hht2
   refine aA rfl (aW [50,0,1,2,3,8,9,10,11,12] rfl rfl rfl fun K hK=>?_)
   simp(disch:=omega) only[Try.f91,go_sem,↓reduceIte,gM,decide_false]
   refine hK _ ?_
   refine aB (eC (.tmp 50) rfl rfl rfl (fun h=>?_) (fun h=>?_))
   ·refine aI rfl ?_
    cases h
   exact aI rfl (aQ rfl (hQ _ _ (by omega)))
  ·simp only[reduceCtorEq,if_false]at hd2 hpv2 hht2
   subst hd2;subst hpv2;subst hht2
   refine aA rfl (aW [50,0,1,2,3,8,9,10,11,12] rfl rfl rfl fun K hK=>?_)
   simp(disch:=omega) only[Try.f91,go_sem,↓reduceIte,gM,decide_false]
   refine hK _ ?_
   refine aB (eC (.tmp 50) rfl rfl rfl (fun h=>?_) (fun h=>?_))
   ·refine aI rfl ?_
    cases h
   exact aI rfl (aQ rfl (hQ _ _ (by omega)))
  simp only[if_true]at hd2 hpv2 hht2
  subst hht2
  have ep:(b:Int)-1-((pv:Int)-(a:Int))=(pv2:Int):=by omega
  refine aA rfl (aW [50,0,1,2,3,8,9,10,11,12] rfl rfl rfl fun K hK=>?_)
  simp(disch:=omega) only[Try.f91,go_sem,↓reduceIte,gM,decide_true]
  refine hK _ ?_
  refine aB (eC (.tmp 50) rfl rfl rfl (fun h=>?_) (fun h=>?_))
  ·refine aI rfl (aA rfl (aC (Γ:=bC [(97,.heap (dP bHw))]) [0,1,2,3,8,9,10,11] (aH ok97 aO) rfl rfl rfl (fun K hK=>?_)))
   simp(disch:=omega) only[Try.f91,go_sem,↓reduceIte,hds,hd2,U2]
   refine hK _ ?_
   refine aB (aA rfl (aW [0,1,2,3,8,9,10,11] rfl rfl rfl fun K hK=>?_))
   simp(disch:=omega) only[Try.f91,go_sem,↓reduceIte,ep]
   refine hK _ ?_
   refine aB (aW [0,1,2,3,8,9,10,11,12] rfl rfl rfl fun K hK=>?_)
   simp(disch:=omega) only[Try.f91,go_sem,↓reduceIte]
   refine hK _ ?_
   exact hQ _ _ (by omega)
  refine aI rfl ?_
  cases h
set_option maxHeartbeats 1000000 in
theorem cJp {id n a b k L nx0 cx0:Nat} {gg wb wp:Bool} {d:Array T16} {Q:Exit→S→Prop} {pv:Nat} {ht:Sort.Hint} {d3:Array T16} {ok:Bool} (hpi:(if(wb&&wp&&decide (ht=Sort.Hint.increasing))=true then Sort.partialInsertionSort ltN d a b else(d,false))=(d3,ok)) (hds:d.size=n) (hab:a<b) (hbn:b≤n) (hbig:n≤1000000) (hid:id<cx0)
  (hQ: ∀n1 c1,id<c1→ok=false→Q .normal {fr:=[(0,.os id 0 n 1 gg),(1,.i (a:Int)),(2,.i (b:Int)),(3,.i (k:Int)),(8,.b wb),(9,.b wp),(10,.i (L:Int)),(11,.i (pv:Int))],hp:=upd (fun _=>none) id (.cells (cA d3) true),nx:=n1,cx:=c1})
  (hQr: ∀fr n1 c1,id<c1→ok=true→Q .ret {fr:=fr,hp:=upd (fun _=>none) id (.cells (cA d3) true),nx:=n1,cx:=c1}):
  Awp Try.prog GLh Try.f91.ntmps (cl (cr (cr (cr (cr (cr (cr (cl (cl (cl (cr (cr (aE Try.f91))))))))))))) {fr:=[(0,.os id 0 n 1 gg),(1,.i (a:Int)),(2,.i (b:Int)),(3,.i (k:Int)),(8,.b wb),(9,.b wp),(10,.i (L:Int)),(11,.i (pv:Int)),(12,.i (gM ht))],hp:=upd (fun _=>none) id (.cells (cA d) true),nx:=nx0,cx:=cx0} Q:=by
  cases wb
  ·simp only[Bool.false_and,Bool.false_eq_true,if_false,Prod.mk.injEq]at hpi
   obtain⟨rfl,rfl⟩:=hpi
   refine aA rfl (aW [68,0,1,2,3,8,9,10,11] rfl rfl rfl fun K hK=>?_)
   simp(disch:=omega) only[Try.f91,go_sem,↓reduceIte,gM]
   refine hK _ ?_
   refine aB (eC (.tmp 68) rfl rfl rfl (fun h=>?_) (fun h=>?_))
   ·refine aI rfl ?_
    cases h
   exact aI rfl (aQ rfl (hQ _ _ (by omega) rfl))
  cases wp
  ·simp only[Bool.and_false,Bool.false_and,Bool.false_eq_true,if_false,Prod.mk.injEq]at hpi
   obtain⟨rfl,rfl⟩:=hpi
   refine aA rfl (aW [68,0,1,2,3,8,9,10,11] rfl rfl rfl fun K hK=>?_)
   simp(disch:=omega) only[Try.f91,go_sem,↓reduceIte,gM]
   refine hK _ ?_
   refine aB (eC (.tmp 68) rfl rfl rfl (fun h=>?_) (fun h=>?_))
   ·refine aI rfl ?_
    cases h
   exact aI rfl (aQ rfl (hQ _ _ (by omega) rfl))
  cases ht
  ·simp only[Bool.and_true,Bool.and_false,reduceCtorEq,decide_false,Bool.false_eq_true,if_false,Prod.mk.injEq]at hpi
   obtain⟨rfl,rfl⟩:=hpi
   refine aA rfl (aW [68,0,1,2,3,8,9,10,11] rfl rfl rfl fun K hK=>?_)
   simp(disch:=omega) only[Try.f91,go_sem,↓reduceIte,gM,decide_false]
   refine hK _ ?_
   refine aB (eC (.tmp 68) rfl rfl rfl (fun h=>?_) (fun h=>?_))
   ·refine aI rfl ?_
    cases h
   exact aI rfl (aQ rfl (hQ _ _ (by omega) rfl))
  ·simp only[Bool.and_true,decide_true,if_true]at hpi
   refine aA rfl (aW [68,0,1,2,3,8,9,10,11] rfl rfl rfl fun K hK=>?_)
   simp(disch:=omega) only[Try.f91,go_sem,↓reduceIte,gM,decide_true]
   refine hK _ ?_
   refine aB (eC (.tmp 68) rfl rfl rfl (fun h=>?_) (fun h=>?_))
   ·refine aI rfl (aA rfl (aC (Γ:=bC [(98,.heap (dP piG))]) [72,0,1,2,3,8,9,10,11] (aH ok98 aO) rfl rfl rfl (fun K hK=>?_)))
    simp(disch:=omega) only[Try.f91,go_sem,↓reduceIte,hds,hpi,U2]
    refine hK _ ?_
    refine aB (eC (.tmp 72) rfl rfl rfl (fun h=>?_) (fun h=>?_))
    ·exact aI rfl (aS rfl (hQr _ _ _ (by omega) h))
    exact aI rfl (aQ rfl (hQ _ _ (by omega) (by simpa using h)))
   refine aI rfl ?_
   cases h
  simp only[Bool.and_true,Bool.and_false,reduceCtorEq,decide_false,Bool.false_eq_true,if_false,Prod.mk.injEq]at hpi
  obtain⟨rfl,rfl⟩:=hpi
  refine aA rfl (aW [68,0,1,2,3,8,9,10,11] rfl rfl rfl fun K hK=>?_)
  simp(disch:=omega) only[Try.f91,go_sem,↓reduceIte,gM,decide_false]
  refine hK _ ?_
  refine aB (eC (.tmp 68) rfl rfl rfl (fun h=>?_) (fun h=>?_))
  ·refine aI rfl ?_
   cases h
  exact aI rfl (aQ rfl (hQ _ _ (by omega) rfl))
set_option maxHeartbeats 1000000 in
theorem cJq {id n a b k L nx0 cx0:Nat} {gg wb wp:Bool} {d:Array T16} {Q:Exit→S→Prop} {pv:Nat} {u:Bool} (hu:(decide (a>0)&& !ltN d[a-1]! d[pv]!)=u) (hpb:pv<b) (hds:d.size=n) (hab:a<b) (hbn:b≤n) (hbig:n≤1000000) (hid:id<cx0)
  (hQ: ∀n1 c1,id<c1→Q .normal {fr:=[(87,.b u),(0,.os id 0 n 1 gg),(1,.i (a:Int)),(2,.i (b:Int)),(3,.i (k:Int)),(8,.b wb),(9,.b wp),(10,.i (L:Int)),(11,.i (pv:Int))],hp:=upd (fun _=>none) id (.cells (cA d) true),nx:=n1,cx:=c1}):
  Awp Try.prog GLh Try.f91.ntmps (cl (cl (cr (cr (cr (cr (cr (cr (cr (cl (cl (cl (cr (cr (aE Try.f91))))))))))))))) {fr:=[(0,.os id 0 n 1 gg),(1,.i (a:Int)),(2,.i (b:Int)),(3,.i (k:Int)),(8,.b wb),(9,.b wp),(10,.i (L:Int)),(11,.i (pv:Int))],hp:=upd (fun _=>none) id (.cells (cA d) true),nx:=nx0,cx:=cx0} Q:=by
  by_cases ha:a>0
  ·have hd1:decide (0<(a:Int))=true:=J5 (by omega)
   have ea:(a:Int)-1=((a-1:Nat):Int):=by omega
   have han:a<n:=by omega
   have hpn:pv<n:=by omega
   obtain⟨v,hv⟩: ∃v,ltN d[a-1]! d[pv]! =v:=⟨_,rfl⟩
   rw[J5 ha,hv,Bool.true_and]at hu
   subst hu
   refine bB (Γ:=bC [(99,.pure true dY)]) (fun k=>if k=12 then 0 else 2) [87,0,1,2,3,8,9,10,11] bZ (aH rC aO) rfl rfl rfl (by kernel_rfl) (fun K hK=>?_)
   simp(disch:=omega) only[Try.f91,go_sem,↓reduceIte,hd1,ea,hv,U2]
   refine hK _ ?_
   exact hQ _ _ (by omega)
  have hd1:decide (0<(a:Int))=false:=J6 (by omega)
  rw[J6 ha,Bool.false_and]at hu
  subst hu
  refine bB (Γ:=bC [(99,.pure true dY)]) (fun k=>if k=12 then 0 else 2) [87,0,1,2,3,8,9,10,11] bZ (aH rC aO) rfl rfl rfl (by kernel_rfl) (fun K hK=>?_)
  simp(disch:=omega) only[Try.f91,go_sem,↓reduceIte,hd1]
  refine hK _ ?_
  exact hQ _ _ (by omega)
set_option maxHeartbeats 4000000 in
theorem bVj (N:Nat) (ih:cQ Try.prog GLh 91 (dP (zR N))):cQ Try.prog GLh 91 (dP (zR (N+1))):=by
 have ok91:bX Try.prog GLh 91 (.heap (dP (zR N))):=⟨⟨_,Try.func91,rfl,rfl⟩,ih⟩
 refine dN Try.func91 (aT rfl) ?_
 intro id off n e gg rest nx xs r ys hg
 unfold zR at hg
 split at hg
 ·rename_i id2 n2 gg2 a0 b0 k0 heq
  simp only[List.cons.injEq,AV.os.injEq]at heq
  obtain⟨⟨rfl,rfl,rfl,rfl,rfl⟩,rfl⟩:=heq
  replace hg:=aJ hg;obtain⟨l,hl,hg⟩:=hg
  replace hg:=aP hg;obtain⟨⟨hn,ha,hab,hbn,hk0,hk1,hbig,hN⟩,hg⟩:=hg
  replace hg:=aSo hg;obtain⟨hB,hg⟩:=hg
  simp only[Option.some.injEq,Prod.mk.injEq]at hg;obtain⟨rfl,rfl⟩:=hg
  have:=dO hl;subst this
  obtain⟨a,rfl⟩:=Int.eq_ofNat_of_zero_le ha
  obtain⟨b,rfl⟩:=Int.eq_ofNat_of_zero_le (show 0≤b0 by omega)
  obtain⟨k,rfl⟩:=Int.eq_ofNat_of_zero_le hk0
  simp only[U2]at*
  obtain⟨d,hd⟩: ∃d,l.toArray=d:=⟨_,rfl⟩
  have hds:d.size=n:=by rw[←hd];simpa using hn
  have hab2:a≤b:=by omega
  have hbn2:b≤n:=by omega
  have hk2:k≤1000:=by omega
  have hN2:b-a<N+1:=by omega
  rw[hd]at hB⊢
  refine⟨J1 rfl,fun hid=>?_⟩
  obtain⟨R,hR⟩: ∃R,Sort.pdq ltN d a b k true true=R:=⟨_,rfl⟩
  rw[hR]
  clear hl hn ha hab hbn hk0 hk1 hN
  refine aA rfl (aW [0,1,2,3,8] rfl rfl rfl fun K hK=>?_)
  simp(disch:=omega) only[Try.f91,go_sem,↓reduceIte]
  refine hK _ ?_
  refine aB (aA rfl (aW [0,1,2,3,8,9] rfl rfl rfl fun K hK=>?_))
  simp(disch:=omega) only[Try.f91,go_sem,↓reduceIte]
  refine hK _ ?_
  refine aB (aR 0 rfl rfl ?_)
  refine bR (fun p:SPQ=> {fr:=[(0,.os id 0 n 1 gg),(1,.i p.a),(2,.i p.b),(3,.i p.l),(8,.b p.wb),(9,.b p.wp)],hp:=upd (fun _=>none) id (.cells (cA p.d) true),nx:=0,cx:=p.c}) (fun p=>Sort.pdq ltN p.d p.a p.b p.l p.wb p.wp=R∧p.d.size=n∧p.a≤p.b∧p.b≤n∧p.l≤1000∧p.b-p.a<N+1∧Sort.Below ltN p.a p.b p.d∧id<p.c) (fun p=>p.b-p.a) rfl ⟨⟨a,b,k,true,true,d,_⟩,⟨hR,hds,hab2,hbn2,hk2,hN2,hB,by simp only;omega⟩,bD rfl rfl (U3 _)⟩ ?_
  rintro⟨a,b,k,wb,wp,d,c⟩ ⟨hr,hds,hab,hbn,hk,hN,hB,hc⟩ n0
  simp only at hr hds hab hbn hk hN hB hc⊢
  have ebL:(b:Int)-(a:Int)=((b-a:Nat):Int):=by omega
  refine aR 1 rfl rfl (aA rfl (aW [0,1,2,3,8,9,10] rfl rfl rfl fun K hK=>?_))
  simp(disch:=omega) only[Try.f91,go_sem,↓reduceIte,ebL]
  refine hK _ ?_
  refine aB (aA rfl (aA rfl (aW [23,0,1,2,3,8,9,10] rfl rfl rfl fun K hK=>?_)))
  simp(disch:=omega) only[Try.f91,go_sem,↓reduceIte]
  refine hK _ ?_
  refine aB (bA (.tmp 23) rfl rfl rfl (fun h=>?_) (fun h=>?_))
  ·refine aI rfl ?_
   have h12:b-a≤12:=by omega
   rw[Sort.pdq,J4 h12]at hr
   refine aA rfl (aC (Γ:=bC [(93,.heap (dP bMq))]) [] (aH ok93 aO) rfl rfl rfl (fun K hK=>?_))
   simp(disch:=omega) only[Try.f91,go_sem,↓reduceIte,hds,U2]
   refine hK _ ?_
   exact aB (aS rfl (bI (bN (dF (bN (⟨rfl,by simp only[aV,if_true,hr],rfl,dZ _⟩))))))
  refine aI rfl ?_
  have h12: ¬b-a≤12:=by omega
  rw[Sort.pdq,J3 h12]at hr
  refine aQ rfl (aB (aA rfl (aA rfl (aW [29,0,1,2,3,8,9,10] rfl rfl rfl fun K hK=>?_))))
  simp(disch:=omega) only[Try.f91,go_sem,↓reduceIte]
  refine hK _ ?_
  refine aB (bA (.tmp 29) rfl rfl rfl (fun h=>?_) (fun h=>?_))
  ·refine aI rfl ?_
   have hk0:k=0:=by omega
   rw[J4 hk0]at hr
   refine aA rfl (aC (Γ:=bC [(94,.heap (dP bMx))]) [] (aH ok94 aO) rfl rfl rfl (fun K hK=>?_))
   simp(disch:=omega) only[Try.f91,go_sem,↓reduceIte,hds,U2]
   refine hK _ ?_
   exact aB (aS rfl (bI (bN (dF (bN (⟨rfl,by simp only[aV,if_true,hr],rfl,dZ _⟩))))))
  refine aI rfl ?_
  have hk0: ¬k=0:=by omega
  rw[J3 hk0]at hr
  obtain⟨d1,hd1⟩: ∃x,(if(!wb)=true then Sort.breakPatterns d a b else d)=x:=⟨_,rfl⟩
  obtain⟨k1,hk1⟩: ∃x,(if(!wb)=true then k-1 else k)=x:=⟨_,rfl⟩
  obtain⟨⟨pv,ht⟩,hch⟩: ∃x,Sort.choosePivot ltN d1 a b=x:=⟨_,rfl⟩
  obtain⟨d2,hd2⟩: ∃x,(if ht=Sort.Hint.decreasing then Sort.reverseRange d1 a b else d1)=x:=⟨_,rfl⟩
  obtain⟨pv2,hpv2⟩: ∃x,(if ht=Sort.Hint.decreasing then(b-1)-(pv-a)else pv)=x:=⟨_,rfl⟩
  obtain⟨ht2,hht2⟩: ∃x,(if ht=Sort.Hint.decreasing then Sort.Hint.increasing else ht)=x:=⟨_,rfl⟩
  obtain⟨⟨d3,ok⟩,hpi⟩: ∃x,(if(wb&&wp&&decide (ht2=Sort.Hint.increasing))=true then Sort.partialInsertionSort ltN d2 a b else(d2,false))=x:=⟨_,rfl⟩
  simp only[hd1,hk1,hch,hd2,hpv2,hht2,hpi]at hr
  have hk1b:k1≤1000:=by rw[←hk1];split<;>omega
  have hab3:a<b:=by omega
  have p1:Sort.PermIn a b d d1:=by rw[←hd1];exact aVs _ (Sort.breakPatterns_holds d a b hab (by omega))
  have s1:d1.size=n:=by rw[p1.1];exact hds
  refine aQ rfl (aB (aA rfl (cJr hd1 hk1 (by omega) hk hds hab3 hbn hbig (by omega) (fun n1 c1 hc1=>?_))))
  refine aB (aA rfl (aC (Γ:=bC [(96,.heap (dP chG))]) [0,1,2,3,8,9,10,11,12] (aH ok96 aO) rfl rfl rfl (fun K hK=>?_)))
  simp(disch:=omega) only[Try.f91,go_sem,↓reduceIte,s1,hch,U2]
  refine hK _ ?_
  refine aB ?_
  have hcr:=Sort.choosePivot_holds ltN d1 a b hab3
  rw[hch]at hcr
  simp only at hcr
  have p2:Sort.PermIn a b d1 d2:=by rw[←hd2];exact aVs _ (Sort.reverseRange_holds d1 a b hab (by omega))
  have s2:d2.size=n:=by rw[p2.1];exact s1
  refine aA rfl (cJo hd2 hpv2 hht2 hcr.1 hcr.2 s1 hab3 hbn hbig (by omega) (fun n2 c2 hc2=>?_))
  refine aB ?_
  have hb2:Sort.Below ltN a b d2:=(hB.perm (by omega) p1).perm (by omega) p2
  have hps:=Sort.step_partial Sort.partialInsertionSort_holds qW d2 hab3 (by omega) hb2 ((wb&&wp&&decide (ht2=Sort.Hint.increasing))=true)
  have hpi2:(if _h:(wb&&wp&&decide (ht2=Sort.Hint.increasing))=true then Sort.partialInsertionSort ltN d2 a b else(d2,false))=(d3,ok):=by rw[←hpi];split<;>simp_all
  rw[hpi2]at hps
  have p3:Sort.PermIn a b d2 d3:=hps.1
  have s3:d3.size=n:=by rw[p3.1];exact s2
  have hb3:Sort.Below ltN a b d3:=hb2.perm (by omega) p3
  have hpv:a≤pv2∧pv2<b:=by rw[←hpv2];split<;>omega
  refine aA rfl ?_
  refine cJp hpi s2 hab3 hbn hbig hc2 (fun n3 c3 hc3 hok=>?_) (fun fr n3 c3 hc3 hok=>by subst hok;rw[J4 rfl]at hr;subst hr;exact(show aLl Try.prog Try.f91.results.toList (.tup []) id (cA d3) _ from⟨rfl,by simp only[aV,if_true],rfl,dZ _⟩))
  refine aB ?_
  subst hok
  simp only[Bool.false_eq_true,if_false]at hr
  obtain⟨u,hu⟩: ∃u,(decide (a>0)&& !ltN d3[a-1]! d3[pv2]!)=u:=⟨_,rfl⟩
  rw[hu]at hr
  refine aA rfl (aA rfl (cJq hu hpv.2 s3 hab3 hbn hbig hc3 (fun n4 c4 hc4=>?_)))
  refine aB ?_
  cases u
  ·obtain⟨⟨mid,ap,d4⟩,hx⟩: ∃x,Sort.partition ltN d3 a b pv2=x:=⟨_,rfl⟩
   obtain⟨g1,g2,hs4,hBa,hBr,hleft,hright⟩:=Sort.round_part qW (Sort.partition_holds ltN) hpv.1 hpv.2 (by omega) hb3 hx
   have s4:d4.size=n:=by rw[hs4];exact s3
   have hpn:pv2<n:=by omega
   simp only[Bool.false_eq_true,if_false,hx,dif_pos (And.intro g1 g2)]at hr
   have eL:(mid:Int)-(a:Int)=((mid-a:Nat):Int):=by omega
   have eR:(b:Int)-(mid:Int)=((b-mid:Nat):Int):=by omega
   have e8:((b-a:Nat):Int).tdiv 8=(((b-a)/8:Nat):Int):=by rw[Int.tdiv_eq_ediv_of_nonneg (by omega)];omega
   have em:(mid:Int)+1=((mid+1:Nat):Int):=by omega
   have hd1:decide ((((b-a)/8:Nat):Int)≤((mid-a:Nat):Int))=decide (mid-a≥(b-a)/8):=decide_eq_decide.2 (by omega)
   have hd2:decide ((((b-a)/8:Nat):Int)≤((b-mid:Nat):Int))=decide (b-mid≥(b-a)/8):=decide_eq_decide.2 (by omega)
   refine eC (.tmp 87) rfl rfl rfl (fun h=>?_) (fun h=>?_)
   ·cases h
   refine aQ rfl (aB (aA rfl (aC (Γ:=bC [(101,.heap (dP ptG))]) [0,1,2,3,10,14,15] (aH fFv aO) rfl rfl rfl (fun K hK=>?_))))
   simp(disch:=omega) only[Try.f91,go_sem,↓reduceIte,s3,hx,U2]
   refine hK _ ?_
   refine aB (aA rfl (aW [0,1,2,3,9,10,14] rfl rfl rfl fun K hK=>?_))
   simp(disch:=omega) only[Try.f91,go_sem,↓reduceIte]
   refine hK _ ?_
   refine aB (aA rfl (aW [0,1,2,3,9,10,14,16,17] rfl rfl rfl fun K hK=>?_))
   simp(disch:=omega) only[Try.f91,go_sem,↓reduceIte,eL,eR]
   refine hK _ ?_
   refine aB (aA rfl (aW [0,1,2,3,9,14,16,17,18] rfl rfl rfl fun K hK=>?_))
   simp(disch:=omega) only[Try.f91,go_sem,↓reduceIte,e8]
   refine hK _ ?_
   refine aB (aA rfl (aW [113,0,1,2,3,9,14,16,17,18] rfl rfl rfl fun K hK=>?_))
   simp(disch:=omega) only[Try.f91,go_sem,↓reduceIte]
   refine hK _ ?_
   refine aB (bA (.tmp 113) rfl rfl rfl (fun h=>?_) (fun h=>?_))
   ·refine aI rfl ?_
    have hlr:mid-a<b-mid:=by omega
    rw[J4 hlr]at hr
    obtain⟨q1,q2⟩:=Sort.pdq_sorts ltN qW d4 a mid k1 true true g1 (by omega) hBa
    obtain⟨d5,hd5⟩: ∃x,Sort.pdq ltN d4 a mid k1 true true=x:=⟨_,rfl⟩
    rw[hd5]at hr q1 q2
    have s5:d5.size=n:=by rw[q1.1];exact s4
    have hB5:=(hleft d5 q1 q2).1
    refine aA rfl (aW [0,1,2,3,8,9,14] rfl rfl rfl fun K hK=>?_)
    simp(disch:=omega) only[Try.f91,go_sem,↓reduceIte,hd1]
    refine hK _ ?_
    refine aB (aA rfl (aC (Γ:=bC [(91,.heap (dP (zR N)))]) [0,2,3,8,9,14] (aH ok91 aO) rfl rfl rfl (fun K hK=>?_)))
    simp(disch:=omega) only[Try.f91,go_sem,↓reduceIte,s4,hBa,hd5,U2]
    refine hK _ ?_
    refine aB (aW [0,1,2,3,8,9] rfl rfl rfl fun K hK=>?_)
    simp(disch:=omega) only[Try.f91,go_sem,↓reduceIte,em]
    refine hK _ ?_
    refine bU (bT ?_)
    refine⟨⟨mid+1,b,k1,decide (mid-a≥(b-a)/8),ap,d5,_⟩,⟨hr,s5,by simp only;omega,by simp only;omega,by simp only;omega,by simp only;omega,hB5,by simp only;omega⟩,by simp only;omega,⟨fun _=> .inr rfl,bS (by simp(disch:=omega) only[aV,↓reduceIte,eq_self]) cB,U3 _⟩⟩
   refine aI rfl ?_
   have hlr: ¬mid-a<b-mid:=by omega
   rw[J3 hlr]at hr
   obtain⟨q1,q2⟩:=Sort.pdq_sorts ltN qW d4 (mid+1) b k1 true true (by omega) (by omega) hBr
   obtain⟨d5,hd5⟩: ∃x,Sort.pdq ltN d4 (mid+1) b k1 true true=x:=⟨_,rfl⟩
   rw[hd5]at hr q1 q2
   have s5:d5.size=n:=by rw[q1.1];exact s4
   have hB5:=(hright d5 q1 q2).1
   refine aA rfl (aW [0,1,2,3,8,9,14] rfl rfl rfl fun K hK=>?_)
   simp(disch:=omega) only[Try.f91,go_sem,↓reduceIte,hd2]
   refine hK _ ?_
   refine aB (aA rfl (aC (Γ:=bC [(91,.heap (dP (zR N)))]) [0,1,3,8,9,14] (aH ok91 aO) rfl rfl rfl (fun K hK=>?_)))
   simp(disch:=omega) only[Try.f91,go_sem,↓reduceIte,em,s4,hBr,hd5,U2]
   refine hK _ ?_
   refine aB (aW [0,1,2,3,8,9] rfl rfl rfl fun K hK=>?_)
   simp(disch:=omega) only[Try.f91,go_sem,↓reduceIte]
   refine hK _ ?_
   refine bU (bT ?_)
   refine⟨⟨a,mid,k1,decide (b-mid≥(b-a)/8),ap,d5,_⟩,⟨hr,s5,by simp only;omega,by simp only;omega,by simp only;omega,by simp only;omega,hB5,by simp only;omega⟩,by simp only;omega,⟨fun _=> .inr rfl,bS (by simp(disch:=omega) only[aV,↓reduceIte,eq_self]) cB,U3 _⟩⟩
  obtain⟨⟨mid,d4⟩,hx⟩: ∃x,Sort.partitionEqual ltN d3 a b pv2=x:=⟨_,rfl⟩
  simp only[Bool.and_eq_true,decide_eq_true_eq,Bool.not_eq_true']at hu
  obtain⟨g1,g2,hs4,hB4,_⟩:=Sort.round_eq qW (Sort.partitionEqual_holds ltN) hu.1 hpv.1 hpv.2 (by omega) hb3 hu.2 hx
  have s4:d4.size=n:=by rw[hs4];exact s3
  have hpn:pv2<n:=by omega
  simp only[if_true,hx,dif_pos (And.intro g1 g2)]at hr
  refine eC (.tmp 87) rfl rfl rfl (fun h=>?_) (fun h=>?_)
  ·refine aA rfl (aC (Γ:=bC [(100,.heap (dP peG))]) [0,2,3,8,9,13] (aH fFw aO) rfl rfl rfl (fun K hK=>?_))
   simp(disch:=omega) only[Try.f91,go_sem,↓reduceIte,s3,hx,U2]
   refine hK _ ?_
   refine aB (aA rfl (aW [0,1,2,3,8,9] rfl rfl rfl fun K hK=>?_))
   simp(disch:=omega) only[Try.f91,go_sem,↓reduceIte]
   refine hK _ ?_
   refine aB (bF 1 rfl rfl (aY (bE (bT ?_))))
   refine⟨⟨mid,b,k1,wb,wp,d4,_⟩,⟨hr,s4,by simp only;omega,by simp only;omega,by simp only;omega,by simp only;omega,hB4,by simp only;omega⟩,by simp only;omega,⟨fun _=> .inr rfl,bS (by simp(disch:=omega) only[aV,↓reduceIte,eq_self]) cB,U3 _⟩⟩
  cases h
 cases hg
end Go.AX

namespace Go.AX
open Go Go.Proofs Go.RowKit Go.Shelf
attribute [local go_sem] Oper.semAt_some
def rI {α:Type} (f:Nat→α) (k:Nat):List α:=(List.range k).map f
theorem eNe {α:Type} (f:Nat→α) (k:Nat):rI f (k+1)=rI f k++[f k]:=by simp[rI,List.range_succ]
theorem eOr {α:Type} (f:Nat→α) (k:Nat):(rI f k).length=k:=by simp[rI]
theorem eSt (zs:List Int):rI (fun j=>zs[j]?.getD 0) zs.length=zs:=by
 apply List.ext_getElem
 ·simp[rI]
 intro i h1 h2
 simp[rI,h2]
theorem eQq (zs:List Int) {k:Nat} (hk:k≤zs.length):rI (fun j=>zs[j]?.getD 0) k=zs.take k:=by
 apply List.ext_getElem
 ·simp[rI,hk]
 intro i h1 h2
 have:i<zs.length:=by simp[rI]at h1;omega
 simp[rI,this]
set_option maxRecDepth 100000 in
set_option maxHeartbeats 2000000 in
theorem eXr (F:Fence) (n:Nat) (h7:F.fn 89) (hro:F.round=none) (hn:1≤n) (l Bs ob n₀ b off len cap:Nat) (zs:List Int) (hreach:len*8≤140737488351232) (hb:b<n₀) (J Jx:List Int→World→Prop)
  (hY: ∀pre x W,J pre W→pre.length<len→YieldAt F (n-1) Try.prog l #[.int .u16 x] W fun e W'=>
   (e=.returned (.bool true)∧J (pre++[x]) W'∧Below n₀ W W')∨(e=.returned (.bool false)∧Jx (pre++[x]) W'))
  (W:World) (hBs:W.cell? ⟨Bs,ob,none⟩=some (.slice (some ⟨b,off,none⟩) len cap)) (hc: ∀j,j<len→W.cell? ⟨b,off+j,none⟩=some (.int .u16 (zs[j]?.getD 0))) (h0:J [] W):
  CallsIn F n Try.prog 89 #[.func (.yield l) #[] #[],.pointer (some ⟨Bs,ob,none⟩)] W fun e W'=>(∃v,e=.returned v)∧
   ((∃ys,ys=rI (fun j=>zs[j]?.getD 0) len∧J ys W')∨(∃pre,(∃k,k≤len∧pre=rI (fun j=>zs[j]?.getD 0) k)∧Jx pre W')):=by
 refine callsIn_of_wp Try.func89 rfl h7 ?_ hro
 simp only[Try.ntmps89,List.size_toArray,List.length_cons,List.length_nil,Nat.reduceAdd,Nat.reduceSub,Array.replicate_succ,Array.replicate_zero,List.push_toArray,List.append_toArray,List.nil_append,List.cons_append]
 gi_wp2
 gi_loopw [7] (fun i wr=> ∃k:Nat,k≤len∧i=.int .i64 k∧J (rI (fun j=>zs[j]?.getD 0) k) wr∧Below n₀ W wr)
  (fun i _=>len-(intOf i).toNat)
 case atStart=>exact⟨0,Nat.zero_le _,rfl,h0,Below.refl _ _⟩
 case round=>
  obtain⟨k,hk,rfl,hJs,hnx⟩:=hrel
  have hcx:k<len→wr.cell? ⟨b,off+k,none⟩=some (.int .u16 (zs[k]?.getD 0)):=fun h=>(hnx.cell (p:=⟨b,off+k,none⟩) hb).trans (hc k h)
  by_cases hlt:k<len
  ·obtain⟨fn,tmps,assign,body,hy,hR⟩:=hY _ (zs[k]?.getD 0) wr hJs (by rw[eOr];exact hlt)
   have hcx':=hcx hlt
   gi_wp2
   refine hR.mono ?_
   rintro e W3 (⟨rfl,hJ3,hk3⟩|⟨rfl,hJx3⟩)
   ·gi_wp2
    go_roundw
    case rel=>exact⟨k+1,by omega,by simp,by rw[eNe];exact hJ3,hnx.trans hk3⟩
    case measure=>simp[intOf];omega
   ·gi_wp2
    refine bodyPost_ret (results_none rfl _ _ _) rfl ?_
    exact⟨⟨_,rfl⟩,.inr ⟨_,⟨k+1,by omega,(eNe _ _).symm⟩,hJx3⟩⟩
  ·obtain rfl:k=len:=by omega
   gi_wp2
   go_end0
   exact⟨⟨_,rfl⟩,.inl ⟨_,rfl,hJs⟩⟩
def eQh (n₀:Nat) (W:World) (sv:Value) (zs:List Int):Prop:=
 ((sv=.slice none 0 0∨∃a cap,sv=.slice (some a) 0 cap)∧zs=[])∨∃b off cap,sv=.slice (some ⟨b,off,none⟩) zs.length cap∧b<n₀∧∀j,j<zs.length→W.cell? ⟨b,off+j,none⟩=some (.int .u16 (zs[j]?.getD 0))
theorem eQh.below {n₀:Nat} {A B:World} (h:Below n₀ A B) {sv:Value} {zs:List Int}:eQh n₀ A sv zs→eQh n₀ B sv zs
 | .inl e=> .inl e
 | .inr ⟨b,off,cap,e,hb,hc⟩=> .inr ⟨b,off,cap,e,hb,fun j hj=>(h.cell (p:=⟨b,off+j,none⟩) hb).trans (hc j hj)⟩
set_option maxRecDepth 100000 in
set_option maxHeartbeats 1000000 in
theorem eLx (F:Fence) (n:Nat) (h7:F.fn 89) (hro:F.round=none) (l Bs ob:Nat) (a:Option Addr) (cap:Nat) (J:List Int→World→Prop) (W:World) (hBs:W.cell? ⟨Bs,ob,none⟩=some (.slice a 0 cap)) (h0:J [] W):
  CallsIn F n Try.prog 89 #[.func (.yield l) #[] #[],.pointer (some ⟨Bs,ob,none⟩)] W fun e W'=>(∃v,e=.returned v)∧J [] W':=by
 refine callsIn_of_wp Try.func89 rfl h7 ?_ hro
 simp only[Try.ntmps89,List.size_toArray,List.length_cons,List.length_nil,Nat.reduceAdd,Nat.reduceSub,Array.replicate_succ,Array.replicate_zero,List.push_toArray,List.append_toArray,List.nil_append,List.cons_append]
 gi_wp2
 gi_loopw [7] (fun i wr=>i=.int .i64 0∧J [] wr) (fun _ _=>0)
 case atStart=>exact⟨rfl,h0⟩
 case round=>
  obtain⟨rfl,hJs⟩:=hrel
  gi_wp2
  go_end0
  exact⟨⟨_,rfl⟩,hJs⟩
theorem eSa (F:Fence) (n:Nat) (h7:F.fn 89) (hro:F.round=none) (hn:1≤n) (Bs ob n₀:Nat) (sv:Value) (zs:List Int) (hreach:zs.length*8≤140737488351232) (w:World) (hBs:Bs<w.heap.size) (hn₀:n₀≤w.heap.size)
  (hc:w.cell? ⟨Bs,ob,none⟩=some sv) (hI:eQh n₀ w sv zs):
  SeqStopsK F n Try.prog 89 #[.pointer (some ⟨Bs,ob,none⟩)] (fun x:Int=> #[Value.int .u16 x]) (Below n₀) (fun ys=>ys=zs) (fun pre=>pre <+:zs) zs.length w:=fun l J Jx W hW _ _ hY h0=>by
 have hc':=(hW.cell (p:=⟨Bs,ob,none⟩) hBs).trans hc
 rcases hI.below (hW.mono hn₀)with⟨rfl|⟨a,cap,rfl⟩,rfl⟩|⟨b,off,cap,rfl,hb,hcs⟩
 ·exact(eLx F n h7 hro l Bs ob _ _ J W hc' h0).mono fun e W' ⟨he,hj⟩=>⟨he,.inl ⟨_,rfl,hj⟩⟩
 ·exact(eLx F n h7 hro l Bs ob _ _ J W hc' h0).mono fun e W' ⟨he,hj⟩=>⟨he,.inl ⟨_,rfl,hj⟩⟩
 ·refine(eXr F n h7 hro hn l Bs ob n₀ b off zs.length cap zs hreach hb J Jx hY W hc' hcs h0).mono ?_
  rintro e W' ⟨he,⟨ys,rfl,hj⟩|⟨pre,⟨k,hk,rfl⟩,hj⟩⟩
  ·exact⟨he,.inl ⟨_,eSt zs,hj⟩⟩
  ·exact⟨he,.inr ⟨_,by rw[eQq zs hk];exact List.take_prefix _ _,hj⟩⟩
theorem fCh:(Try.prog.info? 22).map (fun i=>(i.zero,i.size,i.bytes))=some (some (.int .u16 0),1,2):=by kernel_rfl
set_option maxRecDepth 100000 in
set_option maxHeartbeats 2000000 in
theorem fEe (F:Fence) (n:Nat) (h3:F.fn 90) (h5:F.fn 89) (hro:F.round=none) (hn:3≤n) (Bs ob:Nat) (sv:Value) (zs:List Int) (hlen:zs.length≤1000000) (w:World) (hBs:Bs<w.heap.size)
  (hc:w.cell? ⟨Bs,ob,none⟩=some sv) (hI:eQh w.heap.size w sv zs):
  CallsIn F n Try.prog 90 #[.slice none 0 0,.func (.func 89) #[] #[.pointer (some ⟨Bs,ob,none⟩)]] w fun e W'=> ∃v,e=.returned v∧W'.ownsRow w.heap.size 22 1 v zs.length (zs.map (Value.int .u16))∧(v=.slice none 0 0↔zs=[])∧Below w.heap.size w W':=by
 have h1:1≤n:=by omega
 obtain⟨i0,hi,hz0,hz1,hz2⟩:=info_parts fCh
 refine callsIn_of_wp_marks Try.func90 rfl h3 ?_ hro
 simp only[Try.ntmps90,List.size_toArray,List.length_cons,List.length_nil,Nat.reduceAdd,Nat.reduceSub,Array.replicate_succ,Array.replicate_zero,List.push_toArray,List.append_toArray,List.nil_append,List.cons_append]
 gi_wp2
 have bO:=Boxed.new w 60 (.slice none 0 0)
 have hB0:Below w.heap.size w (w.alloc (.cells #[.slice none 0 0] 60)):=(Below.refl _ w).alloc (Nat.le_refl _) _
 refine wpIn_rangeFunc_ownG hro h1 (gf:=89) (lb:= #[.pointer (some ⟨Bs,ob,none⟩)]) rfl h5 (enters_of Try.func89 (by kernel_rfl) rfl)
  (eSa F (n-1) h5 hro (by omega) Bs ob w.heap.size sv zs (by omega) _ (by simp;omega) (by simp) ((hB0.cell (p:=⟨Bs,ob,none⟩) hBs).trans hc) (hI.below hB0)) belowK_t (belowK_b (by simp)) (Below.refl _ _) (fun _=>rfl)
  (fun pre W=>(∃v,Boxed W w.heap.size 60 v∧W.ownsRow w.heap.size 22 1 v pre.length (pre.map (Value.int .u16))∧(v=.slice none 0 0↔pre=[]))∧Below w.heap.size w W)
  (fun _ _ _=>False)
  (OwnFrom.and (Own.from (holdsRow_own w.heap.size w.heap.size 60 22 1 (fun pre=>pre.length) (fun pre=>pre.map (Value.int .u16)) (fun pre v=>v=.slice none 0 0↔pre=[])) _) (ownFrom_below (Nat.le_refl _) (by simp)))
  (fun _ _ _ _ _ hs _ _=>hs)
  ⟨⟨_,bO,World.ownsRow_nil _ _ _ _,by simp⟩,hB0⟩
  (fun x=> {tmps:= #[.slice none 0 0,.func (.func 89) #[] #[.pointer (some ⟨Bs,ob,none⟩)],.pointer (some ⟨w.heap.size,0,none⟩),undef,.slice none 0 0,.int .u16 x,.func (.func 89) #[] #[.pointer (some ⟨Bs,ob,none⟩)],.int .u16 x,undef,undef,undef,undef,undef],defers:=[]}) ?assign ?body ?done ?stop
 case assign=>
  intro l x W K hK
  gi_wp2
  exact hK
 case body=>
  rintro l pre x W ⟨⟨v,hv,hrow,hnil⟩,hB⟩ hlt
  have hc:=hv.cell
  gi_wp2_with (gi_at_builtin;refine wpListIn_append_own _ rfl _ _ 60 rfl w.heap.size 22 i0 (.int .u16 0) 1 2 Try.underlying60 hi hz0 hz1 hz2 rfl (by decide) _ _ _ rfl (hrow.alloc _) ⟨W.heap.size,0,none⟩ 1 1 [.int .u16 x] rfl rfl (cell_one_new _ _ _) (by simp[Value.oneCell']) (by simp[maxLen];omega) (by omega) (by have:=hB.size;simp;omega) ?_;intro v' w1 hown' hgrow _;obtain⟨g',cap',rfl⟩:=ownsRow_succ hown';obtain⟨hv1,hv2,hr2,hk2,hb2⟩:=hv.appended (by decide) hrow hB.size (Nat.le_refl _) hown' hgrow;have hc1:=hv1.cell;have hf1:=hv1.frozen)
  exact⟨hk2.from _,hb2,⟨_,hv2,by simpa using hr2,by simp⟩,hB.trans hb2⟩
 case done=>
  rintro D ys W hD rfl ⟨⟨v,hv,hrow,hnil⟩,hB⟩ hK
  have hc:=hv.cell
  gi_wp2
  refine⟨by simp,.inl ⟨_,_,rfl,run_takeDeferred hK,?_⟩⟩
  exact⟨_,results_tmp rfl _ _ _,v,rfl,ownsRow_putObj hrow _ hK rfl,hnil,hB.trans (belowK_b (w:=w) (Nat.le_refl _) W D _ _ (by simp at hD;omega) hK rfl rfl)⟩
 case stop=>
  rintro D c pre W _ _ h _
  exact h.elim
set_option maxHeartbeats 1000000 in
theorem eZi (F:Fence) (n:Nat) (h8:F.fn 87) (h3:F.fn 90) (h5:F.fn 89) (hro:F.round=none) (hn:4≤n) (Bs ob:Nat) (sv:Value) (zs:List Int) (hlen:zs.length≤1000000) (w:World) (hBs:Bs<w.heap.size)
  (hc:w.cell? ⟨Bs,ob,none⟩=some sv) (hI:eQh w.heap.size w sv zs):
  CallsIn F n Try.prog 87 #[.func (.func 89) #[] #[.pointer (some ⟨Bs,ob,none⟩)]] w fun e W'=> ∃v,e=.returned v∧W'.ownsRow w.heap.size 22 1 v zs.length (zs.map (Value.int .u16))∧(v=.slice none 0 0↔zs=[])∧Below w.heap.size w W':=by
 have h1:1≤n:=by omega
 refine callsIn_of_wp Try.func87 rfl h8 ?_ hro
 simp only[Try.ntmps87,List.size_toArray,List.length_cons,List.length_nil,Nat.reduceAdd,Nat.reduceSub,Array.replicate_succ,Array.replicate_zero,List.push_toArray,List.append_toArray,List.nil_append,List.cons_append]
 gi_wp2_with (gi_at_call 90;refine(fEe F (n-1) h3 h5 hro (by omega) Bs ob sv zs hlen _ hBs hc hI).mono ?_;rintro e w' ⟨v,rfl,hrow,hnil,hb⟩)
 go_ret
 exact⟨v,rfl,hrow,hnil,hb⟩
theorem eQu (Bs ob:Nat) (sv:Value) (zs:List Int) (hlen:zs.length≤1000000) (w:World) (hBs:Bs<w.heap.size) (hc:w.cell? ⟨Bs,ob,none⟩=some sv) (hI:eQh w.heap.size w sv zs):
  Calls Try.prog 87 #[.func (.func 89) #[] #[.pointer (some ⟨Bs,ob,none⟩)]] w fun e W'=> ∃v,e=.returned v∧W'.ownsRow w.heap.size 22 1 v zs.length (zs.map (Value.int .u16))∧(v=.slice none 0 0↔zs=[])∧Below w.heap.size w W':=
 callsIn_wide.1 (eZi Fence.wide 4 trivial trivial trivial rfl (Nat.le_refl _) Bs ob sv zs hlen w hBs hc hI)
set_option maxHeartbeats 1000000 in
theorem eXp (F:Fence) (n:Nat) (h5:F.fn 84) (hro:F.round=none) (a:Option Addr) (len cap:Nat) (w:World):
  CallsIn F n Try.prog 84 #[.slice a len cap] w fun e w'=>e=.returned (.func (.func 89) #[] #[.pointer (some ⟨w.heap.size,0,none⟩)])∧w'=w.alloc (.cells #[.slice a len cap] 60):=by
 refine callsIn_of_wp Try.func84 rfl h5 ?_ hro
 simp only[Try.ntmps84,List.size_toArray,List.length_cons,List.length_nil,Nat.reduceAdd,Nat.reduceSub,Array.replicate_succ,Array.replicate_zero,List.push_toArray,List.append_toArray,List.nil_append,List.cons_append]
 gi_wp2
 go_ret
 exact⟨rfl,rfl⟩
theorem eQk (a:Option Addr) (len cap:Nat) (w:World):
  Calls Try.prog 84 #[.slice a len cap] w fun e w'=>e=.returned (.func (.func 89) #[] #[.pointer (some ⟨w.heap.size,0,none⟩)])∧w'=w.alloc (.cells #[.slice a len cap] 60):=
 callsIn_wide.1 (eXp Fence.wide 1 trivial rfl a len cap w)
end Go.AX

namespace Go.AX
open Go Go.Proofs
def eTv:List AV→Option AV
 |[.sl n xs]=>some (.fn 89 [.rp [.sl n xs]])
 |_=>none
theorem eXq (n:Nat) (xs:List AV):eTv [.sl n xs]=some (.fn 89 [.rp [.sl n xs]]):=(rfl)
theorem fBs {σ:Nat→Loc} {I:Nat→Prop} {w:World} {n:Nat} {xs:List AV} {v:Value} (h:Rel σ I w (.sl n xs) v): ∃a cap,v=.slice a n cap:=by
 cases h with
 |sl _ _ blk o cap f=>exact⟨_,_,rfl⟩
 |slnil=>exact⟨_,_,rfl⟩
 |slzero a=>exact⟨_,_,rfl⟩
theorem eXo:cL Try.prog GLh 84 eTv:=by
 intro σ I w nx args vals r h1 h2 h3 hs hr hg
 unfold eTv at hg
 split at hg
 ·rename_i n xs
  obtain rfl:=J0 hg
  have hr0:=hr 0 (by simp)
  obtain⟨a,cap,hv⟩:=fBs hr0
  have hvals:vals= #[.slice a n cap]:=by
   apply Array.ext
   ·rw[hs];rfl
   intro i h1 h2
   obtain rfl:i=0:=by simp at h2;omega
   have:vals.getD 0 undef=vals[0]:=by simp[Array.getD,h1]
   rw[←this];simpa using hv
  rw[hvals]
  refine(eQk a n cap w).mono ?_
  rintro e w' ⟨rfl,rfl⟩
  have hold: ∀k,k<w.heap.size→(w.alloc (.cells #[.slice a n cap] 60)).heap[k]? =w.heap[k]?:=fun k hk=>RowKit.Below.heap_alloc _ _ k hk
  refine⟨_,σ,fun k=>I k∨k=w.heap.size,rfl,rfl,rfl,rfl,by simp,hold,fun _ _=>rfl,fun k hk=>hk.imp id (fun e=>by omega),fun k hk=>?_,?_⟩
  ·rcases hk with hk|rfl
   ·have:=h2 k hk;simp;omega
   simp
  refine .fn 89 [.rp [.sl n xs]] _ rfl fun i hi=>?_
  obtain rfl:i=0:=by simp at hi;omega
  refine .rp [.sl n xs] w.heap.size 0 (fun _=> .slice a n cap) (.inr rfl) (fun j hj=>?_) (fun j hj=>?_) (fun j hj=>?_)
  ·obtain rfl:j=0:=by simp at hj;omega
   exact(Boxed.new w 60 (.slice a n cap)).cell
  ·obtain rfl:j=0:=by simp at hj;omega
   rfl
  obtain rfl:j=0:=by simp at hj;omega
  have h5:Rel σ I w (.sl n xs) (.slice a n cap):=by have:=hr0;rw[hv]at this;exact this
  exact h5.mono (fun _ _=>rfl) (fun _ h=> .inl h) (fun k hk=>hold k (h2 k hk))
 cases hg
theorem ok84:bX Try.prog GLh 84 (.pure false eTv):=⟨⟨_,Try.func84,rfl,rfl⟩,eXo⟩
def eWs:List AV→Option (Nat×Nat×List AV)
 |[.fn 89 [.rp [.sl n xs]]]=>aK (unA xs) fun l=>aN (l.length=n∧n≤1000000) (some (n,1,cA l.toArray))
 |_=>none
theorem eZj (n:Nat) (xs:List AV):eWs [.fn 89 [.rp [.sl n xs]]]=aK (unA xs) fun l=>aN (l.length=n∧n≤1000000) (some (n,1,cA l.toArray)):=(rfl)
theorem fDd:dH Try.prog GLh 87 eWs:=by
 intro σ I w nx args vals n e xs h1 h2 h3 hs hr hg
 unfold eWs at hg
 split at hg
 ·rename_i n0 ys
  replace hg:=aJ hg;obtain⟨l,hl,hg⟩:=hg
  replace hg:=aP hg;obtain⟨⟨hn,hbig⟩,hg⟩:=hg
  simp only[Option.some.injEq,Prod.mk.injEq]at hg;obtain⟨rfl,rfl,rfl⟩:=hg
  have:=dO hl;subst this
  have hr0:=hr 0 (by simp)
  simp only[List.getElem_cons_zero]at hr0
  generalize hv0:vals.getD 0 undef=v0 at hr0
  cases hr0 with
  |fn f xs vs hvs hrel=>
   have hrp:=hrel 0 (by simp)
   simp only[List.getElem_cons_zero]at hrp
   generalize hp0:vs.getD 0 undef=p0 at hrp
   cases hrp with
   |rp _ blk o f hI hc hcell hrl=>
    have hvs1:vs= #[.pointer (some ⟨blk,o,none⟩)]:=by
     apply Array.ext
     ·rw[hvs];rfl
     intro i h1 h2
     obtain rfl:i=0:=by simp at h2;omega
     have:vs.getD 0 undef=vs[0]:=by simp[Array.getD,h1]
     rw[←this];simpa using hp0
    have hvals:vals= #[.func (.func 89) #[] #[.pointer (some ⟨blk,o,none⟩)]]:=by
     apply Array.ext
     ·rw[hs];rfl
     intro i h1 h2
     obtain rfl:i=0:=by simp at h2;omega
     have:vals.getD 0 undef=vals[0]:=by simp[Array.getD,h1]
     rw[←this,hv0,hvs1];rfl
    have hc0:=hc 0 (by simp)
    have hs0:=hrl 0 (by simp)
    simp only[List.getElem_cons_zero,Nat.add_zero]at hc0 hs0
    have hU:eQh w.heap.size w (f 0) (l.map fun t:T16=>(t.toNat:Int)):=by
     generalize hf0:f 0=v1 at hs0
     generalize hzs:cA l.toArray=zs at hs0
     cases hs0 with
     |slnil=>exact .inl ⟨.inl rfl,by rw[List.eq_nil_of_length_eq_zero hn];rfl⟩
     |slzero a=>exact .inl ⟨.inr ⟨a,_,rfl⟩,by rw[List.eq_nil_of_length_eq_zero hn];rfl⟩
     |sl _ _ blk2 o2 cap f2 hI2 hcap hc2 hcell2 hrl2=>
      refine .inr ⟨blk2,o2,cap,by rw[List.length_map,hn],h2 _ hI2,fun j hj=>?_⟩
      rw[List.length_map]at hj
      subst hzs
      have hj2:j<(cA l.toArray).length:=by rw[cQr];simpa using hj
      rw[hc2 j hj2]
      have h5:=hrl2 j hj2
      have e5:(cA l.toArray)[j]=.w16 l[j]:=by simp[cA]
      rw[e5]at h5
      generalize f2 j=u at h5⊢
      cases h5
      simp[hj]
    rw[hvals]
    refine(eQu blk o (f 0) _ (by rw[List.length_map];omega) w (h2 _ hI) hc0 hU).mono ?_
    rintro e w' ⟨v,rfl,hrow,hnil,hb⟩
    refine⟨v,σ,I,rfl,hb.os,hb.tape,hb.output,hb.size,fun k hk=>hb.block k hk,fun _ _=>rfl,fun _ h=> .inl h,fun k hk=>Nat.lt_of_lt_of_le (h2 k hk) hb.size,?_⟩
    rcases hrow.2 with⟨rfl,h0⟩|⟨g,cap,cur,rfl,hbg,hgb,hcap,hmax,hsz,htake⟩
    ·left
     rw[List.length_map]at h0
     exact⟨.inl rfl,by omega,by rw[List.eq_nil_of_length_eq_zero h0];rfl⟩
    right
    rw[List.length_map]at hcap htake
    refine⟨g,0,cap,cap,by rw[List.length_map,hn],by omega,by omega,hbg,fun hI5=>absurd (h2 _ hI5) (by omega),⟨cur,22,0,0,hgb,by omega,by rw[cQr];simp;omega,⟨U3 _,fun _ _=>by omega⟩,fun i hi=>?_⟩,fun i hi=>?_⟩
    ·rw[cQr]at hi
     have hil:i<l.length:=by simpa using hi
     have e5:(cA l.toArray)[i]'(by rw[cQr];exact hi)=.w16 l[i]:=by simp[cA]
     rw[e5]
     have h6:(cur.toList.take (l.length*1))[i]? =some (.int .u16 (l[i].toNat:Int)):=by rw[htake];simp[hil]
     rw[List.getElem?_take_of_lt (by omega)]at h6
     have e6:cur.getD (0+i) undef=.int .u16 (l[i].toNat:Int):=by
      rw[Nat.zero_add,Array.getD_eq_getD_getElem?,←Array.getElem?_toList,h6];rfl
     rw[e6];exact .w16 _
    have hil:i<l.length:=by rw[cQr]at hi;simpa using hi
    have e5:(cA l.toArray)[i]'hi=.w16 l[i]:=by simp[cA]
    rw[e5];rfl
 cases hg
theorem ok87:bX Try.prog GLh 87 (.fresh false eWs):=⟨⟨_,Try.func87,rfl,rfl⟩,fDd⟩
theorem aVt: ∀N:Nat,cQ Try.prog GLh 91 (dP (zR N))
 |0=>bVk
 |N+1=>bVj N (aVt N)
theorem ok91:bX Try.prog GLh 91 (.heap (dP (zR 1000001))):=⟨⟨_,Try.func91,rfl,rfl⟩,aVt 1000001⟩
def bGg:List AV→List AV→Option (AV×List AV)
 |[.os _ 0 n 1 _],xs=>aK (unA xs) fun l=>aN (l.length=n∧n≤1000000) (some (.tup [],cA (iU l).toArray))
 |_,_=>none
theorem aUw (id n:Nat) (gg:Bool) (xs:List AV):bGg [.os id 0 n 1 gg] xs=aK (unA xs) fun l=>aN (l.length=n∧n≤1000000) (some (.tup [],cA (iU l).toArray)):=(rfl)
attribute [go_sem] aUw eXq eZj
set_option maxHeartbeats 1000000 in
theorem bGf:cQ Try.prog GLh 88 (dP bGg):=by
 refine dN Try.func88 (aT rfl) ?_
 intro id off n e gg rest nx xs r ys hg
 unfold bGg at hg
 split at hg
 ·rename_i id2 n2 gg2 heq
  simp only[List.cons.injEq,AV.os.injEq]at heq
  obtain⟨⟨rfl,rfl,rfl,rfl,rfl⟩,rfl⟩:=heq
  replace hg:=aJ hg;obtain⟨l,hl,hg⟩:=hg
  replace hg:=aP hg;obtain⟨⟨hn,hbig⟩,hg⟩:=hg
  simp only[Option.some.injEq,Prod.mk.injEq]at hg;obtain⟨rfl,rfl⟩:=hg
  have:=dO hl;subst this
  obtain⟨R,hR⟩: ∃R,(iU l).toArray=R:=⟨_,rfl⟩
  obtain⟨d,hd⟩: ∃d,l.toArray=d:=⟨_,rfl⟩
  have hds:d.size=n:=by rw[←hd];simpa using hn
  have hR2:Sort.pdq ltN d 0 n (Sort.bitsLen n) true true=R:=by
   rw[←hR,←hd];unfold iU Sort.sort;simp[←hds,←hd]
  rw[hR,hd]
  have h20:=aTm hbig
  have e1:=aWd hbig
  have hB:Sort.Below ltN 0 n d:=.inl rfl
  refine⟨J1 rfl,fun hid=>?_⟩
  clear hl hn
  refine aA rfl (aW [0,2] rfl rfl rfl fun K hK=>?_)
  simp(disch:=omega) only[Try.f88,go_sem,↓reduceIte]
  refine hK _ ?_
  refine aB (aC (Γ:=bC [(92,.pure true uJ),(91,.heap (dP (zR 1000001)))]) [] (aH fFf (aH ok91 aO)) rfl rfl rfl (fun K hK=>?_))
  simp(disch:=omega) only[Try.f88,go_sem,↓reduceIte,e1,hds,hB,hR2,U2,Int.toNat_zero]
  refine hK _ ?_
  exact⟨rfl,by simp only[aV,if_true],rfl,dZ _⟩
 cases hg
theorem ok88:bX Try.prog GLh 88 (.heap (dP bGg)):=⟨⟨_,Try.func88,rfl,rfl⟩,bGf⟩
def eUk:List AV→Option (Nat×Nat×List AV)
 |[.fn 89 [.rp [.sl n xs]]]=>aK (unA xs) fun l=>aN (l.length=n∧n≤1000000) (some (n,1,cA (iU l).toArray))
 |_=>none
theorem eXz (n:Nat) (xs:List AV):eUk [.fn 89 [.rp [.sl n xs]]]=aK (unA xs) fun l=>aN (l.length=n∧n≤1000000) (some (n,1,cA (iU l).toArray)):=(rfl)
attribute [go_sem] eXz
set_option maxHeartbeats 1000000 in
theorem fBp:dH Try.prog GLh 83 eUk:=by
 refine cT Try.func83 (aT rfl) ?_
 intro args r hg
 unfold eUk at hg
 split at hg
 ·rename_i n xs
  replace hg:=aJ hg;obtain⟨l,hl,hg⟩:=hg
  replace hg:=aP hg;obtain⟨⟨hn,hbig⟩,hg⟩:=hg
  obtain rfl:=J0 hg
  have:=dO hl;subst this
  have hsl:(iU l).length=n:=by rw[aFo];exact hn
  refine⟨J1 rfl,fun nx=>?_⟩
  clear hl hg
  refine aA rfl (aW [0] rfl rfl rfl fun K hK=>?_)
  simp(disch:=omega) only[Try.f83,go_sem,↓reduceIte]
  refine hK _ ?_
  refine aB (aA rfl (aC (Γ:=bC [(87,.fresh false eWs)]) [3] (aH ok87 aO) rfl rfl rfl (fun K hK=>?_)))
  simp(disch:=omega) only[Try.f83,go_sem,↓reduceIte,hn]
  refine hK _ ?_
  refine aB (aA rfl (aC (Γ:=bC [(88,.heap (dP bGg))]) [3] (aH ok88 aO) rfl rfl rfl (fun K hK=>?_)))
  simp(disch:=omega) only[Try.f83,go_sem,↓reduceIte,hn]
  refine hK _ ?_
  refine aB (aA rfl (aW [2] rfl rfl rfl fun K hK=>?_))
  simp(disch:=omega) only[Try.f83,go_sem,↓reduceIte]
  refine hK _ ?_
  refine aB (aS rfl ?_)
  simp(disch:=omega) only[fE,eO,bV,bK,bQ,Try.f83,go_sem,↓reduceIte,hsl]
 cases hg
theorem ok83:bX Try.prog GLh 83 (.fresh false eUk):=⟨⟨_,Try.func83,rfl,rfl⟩,fBp⟩
end Go.AX

namespace Go.AX
open Go Go.Proofs
theorem eLh: ∀(p:List T16) (a x:T16),dL (p++[a]++[x])=if a=x then dL (p++[a])else dL (p++[a])++[x]
 |[],a,x=>by show dL [a,x]=_;rw[dL];split<;>simp_all [dL]
 |[b],a,x=>by
  have h:=eLh [] a x
  simp only[List.nil_append,List.cons_append]at h⊢
  rw[dL,h]
  conv=>rhs;rw[dL]
  split<;>split<;>simp
 |b::c::p,a,x=>by
  have h:=eLh (c::p) a x
  simp only[List.cons_append]at h⊢
  rw[dL,h]
  conv=>rhs;rw[dL]
  split<;>split<;>simp
theorem xF (d:Array T16) (j:Nat) (h:j<d.size):d.toList.take (j+1)=d.toList.take j++[d[j]!]:=by
 rw[List.take_add_one,getElem!_pos d j h]
 simp[h]
theorem eNo (d:Array T16) (j:Nat) (h0:0<j) (h:j<d.size):dL (d.toList.take (j+1))=if d[j-1]! =d[j]! then dL (d.toList.take j)else dL (d.toList.take j)++[d[j]!]:=by
 obtain⟨i,rfl⟩: ∃i,j=i+1:=⟨j-1,by omega⟩
 rw[xF d (i+1) h,xF d i (by omega),eLh,Nat.add_sub_cancel]
theorem eQp (d:Array T16) (k:Nat) (x:T16) (h:k<d.size):(d.setIfInBounds k x).toList.take (k+1)=d.toList.take k++[x]:=by
 have h1:=xF (d.setIfInBounds k x) k (by simpa using h)
 rw[h1]
 congr 1
 ·simp[List.take_set_of_le]
 rw[getElem!_pos _ k (by simpa using h)];simp
theorem eSj (d:Array T16) (k i:Nat) (x:T16) (h:k≠i):(d.setIfInBounds k x)[i]! =d[i]!:=by
 by_cases hi:i<d.size
 ·rw[getElem!_pos _ i (by simpa using hi),getElem!_pos _ i hi]
  rw[Array.getElem_setIfInBounds]
  rw[J3 h]
 rw[getElem!_neg _ i (by simpa using hi),getElem!_neg _ i hi]
theorem fAa (d:Array T16) (k:Nat):(cA d).take k=cA (d.toList.take k).toArray:=by simp[cA,List.map_take]
structure SCP where
 k:Nat
 j:Nat
 d:Array T16
 c:Nat
def eWt:List AV→List AV→Option (AV×List AV)
 |[.os id 0 n 1 gg],xs=>aK (unA xs) fun l=>aN (l.length=n∧n≤1000000) (some (.os id 0 (dL l).length 1 gg,cA (dL l).toArray))
 |_,_=>none
theorem eZk (id n:Nat) (gg:Bool) (xs:List AV):eWt [.os id 0 n 1 gg] xs=aK (unA xs) fun l=>aN (l.length=n∧n≤1000000) (some (.os id 0 (dL l).length 1 gg,cA (dL l).toArray)):=(rfl)
attribute [go_sem] eZk
set_option maxHeartbeats 2000000 in
theorem fDe:cQ Try.prog GLh 82 (dP eWt):=by
 refine cFq Try.func82 (aT rfl) ?_
 intro id off n e gg rest nx xs r ys hg
 unfold eWt at hg
 split at hg
 ·rename_i id2 n2 gg2 heq
  simp only[List.cons.injEq,AV.os.injEq]at heq
  obtain⟨⟨rfl,rfl,rfl,rfl,rfl⟩,rfl⟩:=heq
  replace hg:=aJ hg;obtain⟨l,hl,hg⟩:=hg
  replace hg:=aP hg;obtain⟨⟨hn,hbig⟩,hg⟩:=hg
  simp only[Option.some.injEq,Prod.mk.injEq]at hg;obtain⟨rfl,rfl⟩:=hg
  have:=dO hl;subst this
  obtain⟨d,hd⟩: ∃d,l.toArray=d:=⟨_,rfl⟩
  have hds:d.size=n:=by rw[←hd];simpa using hn
  obtain rfl:l=d.toList:=by rw[←hd]
  have hdl:d.toList.take n=d.toList:=List.take_of_length_le (by rw[Array.length_toList];omega)
  obtain⟨C,hC⟩: ∃C,dL d.toList=C:=⟨_,rfl⟩
  rw[Array.toArray_toList,hC]
  refine⟨J1 rfl,fun hid=>?_⟩
  clear hl hn hd
  refine aA rfl (aW [0] rfl rfl rfl fun K hK=>?_)
  simp(disch:=omega) only[Try.f82,go_sem,↓reduceIte]
  refine hK _ ?_
  refine aB (aA rfl (aA rfl (aW [8,0] rfl rfl rfl fun K hK=>?_)))
  simp(disch:=omega) only[Try.f82,go_sem,↓reduceIte]
  refine hK _ ?_
  refine aB (bA (.tmp 8) rfl rfl rfl (fun h=>?_) (fun h=>?_))
  ·refine aI rfl ?_
   have hn1:n<2:=by omega
   have hCd:C=d.toList:=by
    rw[←hC]
    generalize hdd:d.toList=q at*
    have hq:q.length=n:=by rw[←hdd,Array.length_toList];exact hds
    match q,hq with
    |[],_=>rfl
    |[x],_=>rfl
    |x::y::r,hq=>simp at hq;omega
   refine aA rfl (aW [2] rfl rfl rfl fun K hK=>?_)
   simp(disch:=omega) only[Try.f82,go_sem,↓reduceIte]
   refine hK _ ?_
   refine aB (aS rfl (bI (⟨?_,?_,.inr ⟨_,_,_,_,rfl⟩,dZ _⟩)))
   ·rw[hCd,Array.length_toList,hds];rfl
   simp only[aV,if_true,hCd,Array.toArray_toList]
  refine aI rfl ?_
  have hn2:2≤n:=by omega
  have hc1:dL (d.toList.take 1)=d.toList.take 1:=by
   generalize d.toList=q
   match q with
   |[]=>rfl
   |x::r=>rfl
  refine aQ rfl (aB (aA rfl (aA rfl (aW [0,3] rfl rfl rfl fun K hK=>?_))))
  simp(disch:=omega) only[Try.f82,go_sem,↓reduceIte]
  refine hK _ ?_
  refine aB (aR 0 rfl rfl ?_)
  refine bR (fun p:SKC=> {fr:=[(0,.os id 0 n 1 gg),(3,.i p.k)],hp:=upd (fun _=>none) id (.cells (cA d) true),nx:=0,cx:=p.c}) (fun p=>dL (d.toList.take p.k)=d.toList.take p.k∧0<p.k∧p.k≤n∧id<p.c) (fun p=>n-p.k) rfl ⟨⟨1,_⟩,⟨hc1,by simp only;omega,by simp only;omega,by simp only;omega⟩,bD rfl rfl (U3 _)⟩ ?_
  rintro⟨k,c⟩ ⟨hr,hk0,hkn,hc⟩ n0
  simp only at hr hk0 hkn hc⊢
  refine aA rfl (aA rfl (aW [13,0,3] rfl rfl rfl fun K hK=>?_))
  simp(disch:=omega) only[Try.f82,go_sem,↓reduceIte]
  refine hK _ ?_
  refine aB (bA (.tmp 13) rfl rfl rfl (fun h=>?_) (fun h=>?_))
  ·refine aI rfl ?_
   have hkn2:k<n:=by omega
   have ek:(k:Int)-1=((k-1:Nat):Int):=by omega
   have hst:=eNo d k hk0 (by omega)
   refine aQ rfl (aB (aA rfl (aR 1 rfl rfl (aA rfl (bB (Γ:=aL) (fun _=>2) [25,0,3] bZ (aD _ _) rfl rfl rfl (by kernel_rfl) (fun K hK=>?_))))))
   simp(disch:=omega) only[Try.f82,go_sem,↓reduceIte,ek,U2]
   refine hK _ ?_
   refine aB (bA (.tmp 25) rfl rfl rfl (fun h=>?_) (fun h=>?_))
   ·refine aI rfl ?_
    rw[J4 h.symm]at hst
    refine aA rfl (aW [0,3,4] rfl rfl rfl fun K hK=>?_)
    simp(disch:=omega) only[Try.f82,go_sem,↓reduceIte]
    refine hK _ ?_
    refine aB (aA rfl (aA rfl (aW [0,3,4,5] rfl rfl rfl fun K hK=>?_)))
    simp(disch:=omega) only[Try.f82,go_sem,↓reduceIte]
    refine hK _ ?_
    refine aB (aR 2 rfl rfl ?_)
    refine bR (fun p:SCP=> {fr:=[(0,.os id 0 n 1 gg),(3,.i p.k),(4,.os id k (n-k) 1 gg),(5,.i p.j)],hp:=upd (fun _=>none) id (.cells (cA p.d) true),nx:=0,cx:=p.c}) (fun p=>dL (d.toList.take (k+p.j))=p.d.toList.take p.k∧(∀i,p.k≤i→p.d[i]! =d[i]!)∧p.d.size=n∧p.k+1≤k+p.j∧1≤p.j∧k+p.j≤n∧id<p.c) (fun p=>n-p.j) rfl ⟨⟨k,1,d,_⟩,⟨by simp only;rw[hst,hr],fun _ _=>rfl,hds,by simp only;omega,by simp only;omega,by simp only;omega,by simp only;omega⟩,bD (by simp only[Int.cast_ofNat_Int]) rfl (U3 _)⟩ ?_
    rintro⟨m,j,d1,c1⟩ ⟨hq1,hq2,hs1,hm,hj0,hjn,hc1⟩ n0
    simp only at hq1 hq2 hs1 hm hj0 hjn hc1⊢
    refine aA rfl (aA rfl (aW [32,0,3,4,5] rfl rfl rfl fun K hK=>?_))
    simp(disch:=omega) only[Try.f82,go_sem,↓reduceIte]
    refine hK _ ?_
    refine aB (bA (.tmp 32) rfl rfl rfl (fun h=>?_) (fun h=>?_))
    ·refine aI rfl ?_
     have hjn2:k+j<n:=by omega
     have ej:(j:Int)-1=((j-1:Nat):Int):=by omega
     have ej2:k+(j-1)=k+j-1:=by omega
     have hst2:=eNo d (k+j) (by omega) (by omega)
     have g1:=hq2 (k+j) (by omega)
     have g2:=hq2 (k+j-1) (by omega)
     refine aQ rfl (aB (aA rfl (aR 3 rfl rfl (aA rfl (bB (Γ:=aL) (fun _=>2) [44,0,3,4,5] bZ (aD _ _) rfl rfl rfl (by kernel_rfl) (fun K hK=>?_))))))
     simp(disch:=omega) only[Try.f82,go_sem,↓reduceIte,ej,ej2,g1,g2,U2]
     refine hK _ ?_
     refine aB (eGn (.tmp 44) rfl rfl rfl (fun h=>?_) (fun h=>?_))
     ·refine aI rfl ?_
      have hmn:m<n:=by omega
      rw[J3 (fun e=>h e.symm)]at hst2
      refine aA rfl (aW [0,3,4,5] rfl rfl rfl fun K hK=>?_)
      simp(disch:=omega) only[Try.f82,go_sem,↓reduceIte,hs1,g1,U2]
      refine hK _ ?_
      refine aB (aW [0,3,4,5] rfl rfl rfl fun K hK=>?_)
      simp(disch:=omega) only[Try.f82,go_sem,↓reduceIte]
      refine hK _ ?_
      refine bU (aB (aW [0,3,4,5] rfl rfl rfl fun K hK=>?_))
      simp(disch:=omega) only[Try.f82,go_sem,↓reduceIte]
      refine hK _ ?_
      refine bT ?_
      refine⟨⟨m+1,j+1,d1.setIfInBounds m d[k+j]!,_⟩,⟨by simp only;rw[show k+(j+1)=k+j+1 by omega,hst2,hq1,eQp _ _ _ (by omega)],fun i hi=>?_,by simp only[Array.size_setIfInBounds];exact hs1,by simp only;omega,by simp only;omega,by simp only;omega,by simp only;omega⟩,by simp only;omega,⟨fun _=> .inr (by simp only[Int.natCast_add,Int.natCast_one]),bS (by simp(disch:=omega) only[aV,↓reduceIte,eq_self]) cB,U3 _⟩⟩
      simp only at hi⊢
      rw[eSj _ _ _ _ (by omega)];exact hq2 i (by omega)
     refine aI rfl ?_
     rw[J4 h.symm]at hst2
     refine aQ rfl (bU (aB (aW [0,3,4,5] rfl rfl rfl fun K hK=>?_)))
     simp(disch:=omega) only[Try.f82,go_sem,↓reduceIte]
     refine hK _ ?_
     refine bT ?_
     refine⟨⟨m,j+1,d1,_⟩,⟨by simp only;rw[show k+(j+1)=k+j+1 by omega,hst2,hq1],hq2,hs1,by simp only;omega,by simp only;omega,by simp only;omega,by simp only;omega⟩,by simp only;omega,bD (by simp only[Int.natCast_add,Int.natCast_one]) rfl (U3 _)⟩
    refine aI rfl ?_
    have hjn3:k+j=n:=by omega
    rw[hjn3,hdl,hC]at hq1
    have hmn:m≤n:=by omega
    have hCl:C.length=m:=by rw[hq1,List.length_take,Array.length_toList];omega
    refine bF 2 rfl rfl (aY (aZ (bE (aB (aA rfl (aW [0,3] rfl rfl rfl fun K hK=>?_))))))
    simp(disch:=omega) only[Try.f82,go_sem,↓reduceIte,hs1,U2]
    refine hK _ ?_
    refine aB (aA rfl (aW [2] rfl rfl rfl fun K hK=>?_))
    simp(disch:=omega) only[Try.f82,go_sem,↓reduceIte]
    refine hK _ ?_
    refine aB (cSp id m _ (by simp only[aV,if_true];rfl) ?_)
    refine aS rfl (bN (bI (dF (bN (bI (⟨?_,?_,.inr ⟨_,_,_,_,rfl⟩,dZ _⟩))))))
    ·rw[hCl];rfl
    simp only[aV,if_true]
    rw[hq1,←fAa]
    simp[cK,cQr,hs1,hmn]
   refine aI rfl ?_
   rw[J3 (fun e=>h e.symm),hr]at hst
   rw[←xF d k (by omega)]at hst
   refine aQ rfl (bU (aB (aW [0,3] rfl rfl rfl fun K hK=>?_)))
   simp(disch:=omega) only[Try.f82,go_sem,↓reduceIte]
   refine hK _ ?_
   refine bT ?_
   refine⟨⟨k+1,_⟩,⟨hst,by simp only;omega,by simp only;omega,by simp only;omega⟩,by simp only;omega,bD (by simp only[Int.natCast_add,Int.natCast_one]) rfl (U3 _)⟩
  refine aI rfl ?_
  have hkn3:k=n:=by omega
  rw[hkn3,hdl,hC]at hr
  refine bF 0 rfl rfl (aY (aZ (bE (aB (aA rfl (aW [2] rfl rfl rfl fun K hK=>?_))))))
  simp(disch:=omega) only[Try.f82,go_sem,↓reduceIte]
  refine hK _ ?_
  refine aB (aS rfl (⟨?_,?_,.inr ⟨_,_,_,_,rfl⟩,dZ _⟩))
  ·rw[hr,Array.length_toList,hds];rfl
  simp only[aV,if_true,hr,Array.toArray_toList]
 cases hg
theorem ok82:bX Try.prog GLh 82 (.heap (dP eWt)):=⟨⟨_,Try.func82,rfl,rfl⟩,fDe⟩
end Go.AX

namespace Go.AX
open Go Go.Proofs
def gQ (n:Nat):List B8:=if n<10 then[BitVec.ofNat 8 (48+n)]else gQ (n/10)++[BitVec.ofNat 8 (48+n%10)]
termination_by n
decreasing_by omega
def eTw (n:Nat) (l:List B8):Nat:=l.foldl (fun n c=>10*n+(c.toNat-48)) n
def isD (c:B8):Prop:=48≤c.toNat∧c.toNat≤57
instance (c:B8):Decidable (isD c):=by unfold isD;infer_instance
theorem eLr (k:Nat) (h:k<10):(BitVec.ofNat 8 (48+k)).toNat=48+k:=by rw[BitVec.toNat_ofNat];omega
theorem eWq (n:Nat):eTw 0 (gQ n)=n:=by
 induction n using gQ.induct with
 |case1 n h=>
  rw[gQ,J4 h]
  simp only[eTw,List.foldl_cons,List.foldl_nil,eLr n h];omega
 |case2 n h ih=>
  rw[gQ,J3 h]
  simp only[eTw,List.foldl_append,List.foldl_cons,List.foldl_nil]at ih⊢
  rw[ih,eLr _ (by omega)];omega
theorem eWr (n:Nat): ∀c∈gQ n,isD c:=by
 induction n using gQ.induct with
 |case1 n h=>
  rw[gQ,J4 h]
  intro c hc
  rw[List.mem_singleton]at hc;subst hc
  unfold isD;rw[eLr n h];omega
 |case2 n h ih=>
  rw[gQ,J3 h]
  intro c hc
  rcases List.mem_append.1 hc with h1|h1
  ·exact ih c h1
  rw[List.mem_singleton]at h1;subst h1
  unfold isD;rw[eLr _ (by omega)];omega
theorem eQc (n:Nat) (k:Nat) (h:n<10^k) (hk:1≤k):1≤(gQ n).length∧(gQ n).length≤k:=by
 induction n using gQ.induct generalizing k with
 |case1 n h1=>rw[gQ,J4 h1];simp;omega
 |case2 n h1 ih=>
  rw[gQ,J3 h1,List.length_append,List.length_singleton]
  have hk2:2≤k:=by
   apply Classical.byContradiction;intro hc
   have:k=1:=by omega
   subst this;simp at h;omega
  have:=ih (k-1) (by
   rw[Nat.div_lt_iff_lt_mul (by omega)]
   rw[←Nat.pow_succ,show(k-1).succ=k by omega];exact h) (by omega)
  omega
theorem eTi (n:Nat) (h:10≤n): ∀c,(gQ n).head? =some c→c≠48#8:=by
 induction n using gQ.induct with
 |case1 n h1=>omega
 |case2 n h1 ih=>
  intro c hc
  rw[gQ,J3 h1]at hc
  have hne:1≤(gQ (n/10)).length:=by
   have:=eQc (n/10) (n/10+1) (Nat.lt_of_lt_of_le (Nat.lt_pow_self (by omega:1<10)) (Nat.pow_le_pow_right (by omega) (by omega))) (by omega)
   exact this.1
  have hh:(gQ (n/10)++[BitVec.ofNat 8 (48+n%10)]).head? =(gQ (n/10)).head?:=by
   cases hq:gQ (n/10)with
   |nil=>rw[hq]at hne;simp at hne
   |cons a l=>rfl
  rw[hh]at hc
  by_cases h2:10≤n/10
  ·exact ih h2 c hc
  rw[gQ,J4 (by omega)]at hc
  simp only[J8,Option.some.injEq]at hc
  subst hc
  intro e
  have:=congrArg BitVec.toNat e
  rw[eLr _ (by omega)]at this
  have e2:(48#8:B8).toNat=48:=rfl
  omega
def eQm:List (T16×List B8):=[(1#16,[65#8]),(2#16,[78#8,83#8]),(5#16,[67#8,78#8,65#8,77#8,69#8]),(6#16,[83#8,79#8,65#8]),(15#16,[77#8,88#8]),(16#16,[84#8,88#8,84#8]),(28#16,[65#8,65#8,65#8,65#8]),(41#16,[79#8,80#8,84#8]),(43#16,[68#8,83#8]),(46#16,[82#8,82#8,83#8,73#8,71#8]),(48#16,[68#8,78#8,83#8,75#8,69#8,89#8]),(50#16,[78#8,83#8,69#8,67#8,51#8]),(51#16,[78#8,83#8,69#8,67#8,51#8,80#8,65#8,82#8,65#8,77#8]),(255#16,[65#8,78#8,89#8])]
def eMs:List B8:=[84#8,89#8,80#8,69#8]
def fBd (t:T16):List B8:=match eQm.find? fun p=>decide (p.1=t)with|some p=>p.2|none=>eMs++gQ t.toNat
def fGb (d:List B8):Option T16:=if d.length=0∨5<d.length∨(1<d.length∧d.getD 0 0#8=48#8)then none else if(∀c∈d,isD c)∧eTw 0 d≤65535 then some (BitVec.ofNat 16 (eTw 0 d))else none
def eOu (s:List B8):Option T16:=match eQm.find? fun p=>decide (p.2=s)with|some p=>some p.1|none=>if s.take 4=eMs then fGb (s.drop 4)else none
theorem eWk (t:T16) (p:T16×List B8) (h:eQm.find? (fun p=>decide (p.1=t))=some p):eOu p.2=some t:=by
 have h1:=List.mem_of_find?_eq_some h
 have h2:=List.find?_some h
 simp only[decide_eq_true_eq]at h2
 subst h2
 have: ∀q∈eQm,eOu q.2=some q.1:=by decide
 exact this p h1
theorem back (t:T16):eOu (fBd t)=some t:=by
 unfold fBd
 cases h:eQm.find? fun p=>decide (p.1=t)with
 |some p=>exact eWk t p h
 |none=>
  simp only
  have ht:=t.isLt
  have hl:=eQc t.toNat 5 (by omega) (by omega)
  have hd:=eWr t.toNat
  have hv:=eWq t.toNat
  have hno:eQm.find? (fun p=>decide (p.2=eMs++gQ t.toNat))=none:=by
   rw[List.find?_eq_none]
   intro q hq
   have hq4: ∀q∈eQm,q.2.take 4≠eMs:=by decide
   intro e
   simp only[decide_eq_true_eq]at e
   have:=hq4 q hq
   rw[e]at this
   exact this rfl
  unfold eOu
  rw[hno]
  simp only
  have e4:(eMs++gQ t.toNat).take 4=eMs:=rfl
  have e5:(eMs++gQ t.toNat).drop 4=gQ t.toNat:=rfl
  rw[J4 e4,e5]
  unfold fGb
  rw[J3 (by
   rintro(h1|h1|⟨h1,h2⟩)
   ·omega
   ·omega
   have h10:10≤t.toNat:=by
    apply Classical.byContradiction;intro hc
    rw[gQ,J4 (by omega)]at h1;simp at h1
   cases hdd:gQ t.toNat with
   |nil=>rw[hdd]at hl;simp at hl
   |cons c r=>
    have:=eTi t.toNat h10 c (by rw[hdd];rfl)
    rw[hdd]at h2
    exact this h2),J4 ⟨hd,by omega⟩,hv]
  congr 1
  rw[BitVec.ofNat_toNat,BitVec.setWidth_eq]
end Go.AX

namespace Go.AX
open Go Go.Proofs
set_option maxHeartbeats 2000000 in
theorem fEd:cL Try.prog GLh 76 eNv:=by
 refine cC Try.func76 (aT rfl) ?_
 intro args r hg
 unfold eNv at hg
 split at hg
 ·rename_i n xs m ys
  replace hg:=aJ hg;obtain⟨a,ha,hg⟩:=hg
  replace hg:=aJ hg;obtain⟨b,hb,hg⟩:=hg
  replace hg:=aP hg;obtain⟨⟨hn,hm⟩,hg⟩:=hg
  obtain rfl:=J0 hg
  have:=bW ha;subst this
  have:=bW hb;subst this
  subst hn;subst hm
  refine⟨J1 rfl,fun nx=>?_⟩
  clear hg ha hb
  refine aA rfl (aW [0,1] rfl rfl rfl fun K hK=>?_)
  simp(disch:=omega) only[Try.f76,go_sem,↓reduceIte]
  refine hK _ ?_
  refine aB (aA rfl (aW [4] rfl rfl rfl fun K hK=>?_))
  simp(disch:=omega) only[Try.f76,go_sem,↓reduceIte,iA]
  refine hK _ ?_
  refine aB (aS rfl ?_)
  simp(disch:=omega) only[cN,bV,bK,bQ,Try.f76,go_sem,↓reduceIte]
 cases hg
theorem fFh:bX Try.prog GLh 76 (.pure true eNv):=⟨⟨_,Try.func76,rfl,rfl⟩,fEd⟩
end Go.AX

namespace Go.AX
open Go Go.Proofs
def c16 (l:List T16):List AV:=l.map .w16
theorem eLk (l:List T16):cA l.toArray=c16 l:=(rfl)
theorem fAw (l:List T16):(c16 l).length=l.length:=List.length_map ..
theorem eQe (l:List T16) (k:Nat) (h:k<l.length):((c16 l).drop k).head? =some (.w16 (l.getD k 0#16)):=by
 rw[List.head?_drop];simp[c16,List.getElem?_map,List.getElem?_eq_getElem h]
theorem eQf (l:List T16) (k:Nat):(c16 l).drop k=c16 (l.drop k):=by simp[c16,List.map_drop]
theorem eXh (l:List T16) (k:Nat):(c16 l).take k=c16 (l.take k):=by simp[c16,List.map_take]
theorem eTq (l:List T16) (k:Nat) (h:k<l.length):(c16 (l.drop k)).head? =some (.w16 (l.getD k 0#16)):=by rw[←eQf];exact eQe l k h
theorem eTp (l:List T16):dB (c16 l)=true:=by
 simp only[dB,c16,List.all_eq_true,List.mem_map]
 rintro _ ⟨x,_,rfl⟩;rfl
theorem fEb (l:List T16):AV.noMem.noMemL (c16 l)=true:=by
 induction l with
 |nil=>rfl
 |cons x l ih=>show(AV.noMem (.w16 x)&&AV.noMem.noMemL (c16 l))=true;rw[ih];rfl
theorem eQg (l:List T16) (x:T16):c16 l++[AV.w16 x]=c16 (l++[x]):=by simp[c16]
theorem eXs (l:List T16):unA (c16 l)=some l:=by have:=bFk l.toArray;rwa [eLk]at this
theorem gU {xs:List AV} {l:List T16} (h:unA xs=some l):xs=c16 l:=by rw[dO h,eLk]
attribute [go_sem] eLk fAw eQe eTq eQf eXh eTp fEb eQg eXs
def typG:List AV→Option AV
 |[.sl n xs,.sl m ys]=>aK (unA xs) fun a=>aK (unA ys) fun b=>aN (a.length=n∧b.length=m∧n≤9223372036854775807∧m≤9223372036854775807) (some (.b (decide (a=b))))
 |_=>none
theorem eOk: ∀l:List T16,(dL l).length≤l.length
 |[]=>U3 _
 |[x]=>U3 _
 |x::y::r=>by
  have h:=eOk (y::r)
  rw[dL]
  split
  ·simp only[List.length_cons]at h⊢;omega
  simp only[List.length_cons]at h⊢;omega
theorem eQx (l:List T16):(eA l).length≤l.length:=by
 have:=eOk (iU l);rw[aFo]at this;exact this
def eWu:List AV→Option (Nat×Nat×List AV)
 |[.sl n xs]=>aK (unA xs) fun l=>aN (l.length=n∧n≤1000000) (some ((eA l).length,1,c16 (eA l)))
 |_=>none
theorem eZl (n:Nat) (xs:List AV):eWu [.sl n xs]=aK (unA xs) fun l=>aN (l.length=n∧n≤1000000) (some ((eA l).length,1,c16 (eA l))):=(rfl)
attribute [go_sem] eZl
set_option maxHeartbeats 1000000 in
theorem fDf:dH Try.prog GLh 77 eWu:=by
 refine cT Try.func77 (aT rfl) ?_
 intro args r hg
 unfold eWu at hg
 split at hg
 ·rename_i n xs
  replace hg:=aJ hg;obtain⟨l,hl,hg⟩:=hg
  replace hg:=aP hg;obtain⟨⟨hn,hbig⟩,hg⟩:=hg
  obtain rfl:=J0 hg
  have:=gU hl;subst this
  refine⟨J1 rfl,fun nx=>?_⟩
  have hsl:(iU l).length=n:=by rw[aFo];exact hn
  have hcl:dL (iU l)=eA l:=rfl
  clear hl hg
  refine aA rfl (aW [0] rfl rfl rfl fun K hK=>?_)
  simp(disch:=omega) only[Try.f77,go_sem,↓reduceIte]
  refine hK _ ?_
  refine aB (aA rfl (aC (Γ:=bC [(84,.pure false eTv),(83,.fresh false eUk),(82,.heap (dP eWt))]) [2] (aH ok84 (aH ok83 (aH ok82 aO))) rfl rfl rfl (fun K hK=>?_)))
  simp(disch:=omega) only[Try.f77,go_sem,↓reduceIte,hn,hsl,hcl]
  refine hK _ ?_
  refine aB (aS rfl ?_)
  simp(disch:=omega) only[fE,eO,bV,bK,bQ,Try.f77,go_sem,↓reduceIte]
 cases hg
theorem ok77:bX Try.prog GLh 77 (.fresh true eWu):=⟨⟨_,Try.func77,rfl,rfl⟩,fDf⟩
theorem ePj {α:Type} (p:α→Bool) (d:α): ∀(l:List α) (k:Nat),k≤l.length→(∀j,j<k→p (l.getD j d)=true)→(k=l.length∨p (l.getD k d)=false)→l.takeWhile p=l.take k∧l.dropWhile p=l.drop k
 |[],k,hk,_,_=>by simp
 |x::l,0,_,_,h=>by
  rcases h with h|h
  ·simp at h
  simp only[List.getD_cons_zero]at h
  simp[h]
 |x::l,k+1,hk,ha,h=>by
  have h0:=ha 0 (by omega)
  simp only[List.getD_cons_zero]at h0
  obtain⟨h1,h2⟩:=ePj p d l k (by simpa using hk) (fun j hj=>by have:=ha (j+1) (by omega);simpa using this) (by
   rcases h with h|h
   ·left;simpa using h
   right;simpa using h)
  simp[h0,h1,h2]
end Go.AX

namespace Go.AX
open Go Go.Proofs Go.RowKit Go.WideShapes Go.ChangeShapes
section
variable {H : Type} {enc : TypeId × Value → H} {P : Program} {W : World} {σ : Nat → Loc}
theorem fBi: ∀ {xs:List AV},(∀z∈xs,∃l:List B8,z=.s l∧l.length≤9223372036854775807)→∃ps:List (List B8),xs=cS ps∧∀l∈ps,l.length≤9223372036854775807
 |[],_=>⟨[],rfl,fun l h=>by cases h⟩
 |x::r,h=>by
  obtain⟨b,rfl,hb⟩:=h x (by simp)
  obtain⟨l,hl,hr⟩:=fBi (xs:=r) (fun z hz=>h z (by simp[hz]))
  refine⟨b::l,by rw[hl];rfl,fun y hy=>?_⟩
  rcases List.mem_cons.1 hy with rfl|hy
  ·exact hb
  exact hr y hy
theorem eMg {t e:TypeId} (ht:P.underlying t=some (.slice e)) (hc:P.cellsOf e=1) (he:P.underlying e=some .string):
  nQ enc P W σ t (fun y=> ∃ps:List (List B8),y=.sl ps.length (cS ps)∧ps.length≤9223372036854775807∧∀l∈ps,l.length≤9223372036854775807):=by
 intro m cs x h
 obtain⟨v,y,e1,⟨xs,rfl,hq,hlen⟩,h2,h3⟩:=ePq ht hc (bVs he) m cs x h
 obtain⟨ps,rfl,hb⟩:=fBi hq
 rw[cQo]at hlen h3
 exact⟨v,_,e1,⟨ps,rfl,hlen,hb⟩,rfl,h3⟩
end
end Go.AX

namespace Go.AX
open Go Go.Proofs
theorem fBl:(256#16=0#16)=False:=by decide
theorem i8z:((8:Int)=0)=False:=by decide
theorem eOs (x:T16):(x/256#16).toNat=win x:=by rw[BitVec.toNat_udiv];rfl
theorem eYf (x:T16):(x%256#16).toNat=pos x:=by rw[BitVec.toNat_umod];rfl
theorem eVf (x y:T16):x/256#16=y/256#16↔win x=win y:=by
 rw[←eOs,←eOs];exact⟨fun h=>by rw[h],fun h=>BitVec.eq_of_toNat_eq h⟩
theorem eUc (n:Nat):((n:Int)).tdiv 8=((n/8:Nat):Int):=rfl
theorem fBc (n:Nat):((n:Int)).tmod 8=((n%8:Nat):Int):=rfl
theorem fFd (n:Nat):(BitVec.ofInt 64 ((n%8:Nat):Int)).toNat=n%8:=by
 rw[BitVec.toNat_ofInt];omega
theorem eRz (k:Nat):128#8>>>k=rE k:=rfl
theorem fEf (x:T16):(x/256#16).setWidth 8=BitVec.ofNat 8 (win x):=by
 apply BitVec.eq_of_toNat_eq
 rw[BitVec.toNat_setWidth,eOs,BitVec.toNat_ofNat]
theorem fFy (n:Nat):BitVec.ofInt 8 (n:Int)=BitVec.ofNat 8 n:=BitVec.ofInt_natCast ..
theorem eUi (p:List T16) (x:T16):szL (p++[x])=pos x/8+1:=by unfold szL;simp
theorem eRa (p:List T16) (x:T16):dR (p++[x])=eQn (dR p) x:=by unfold dR;rw[List.foldl_append];rfl
theorem eUd (c:List T16) (j i:Nat) (hj:j≤i) (hi:i<c.length):(c.drop j).take (i+1-j)=(c.drop j).take (i-j)++[c.getD i 0#16]:=by
 have e:i+1-j=(i-j)+1:=by omega
 have hl:i-j<(c.drop j).length:=by rw[List.length_drop];omega
 rw[e,List.take_succ_eq_append_getElem hl,List.getElem_drop,List.getD_eq_getElem?_getD,List.getElem?_eq_getElem hi]
 simp only[Option.getD_some]
 congr 3
 omega
theorem eRx (c:List T16) (j i:Nat) (hj:j<c.length) (hji:j≤i) (hi:i≤c.length) (hw: ∀k,j≤k→k<i→win (c.getD k 0#16)=win (c.getD j 0#16)) (he:i=c.length∨¬win (c.getD i 0#16)=win (c.getD j 0#16)):
  j<i∧bmL (c.drop j)=eLm (win (c.getD j 0#16)) ((c.drop j).take (i-j))++bmL (c.drop i):=by
 have hne:j≠i:=by
  rintro rfl
  rcases he with he|he
  ·omega
  ·exact he rfl
 refine⟨by omega,?_⟩
 have e:c.drop j=c.getD j 0#16::c.drop (j+1):=by
  rw[List.drop_eq_getElem_cons hj,List.getD_eq_getElem?_getD,List.getElem?_eq_getElem hj];rfl
 have hg: ∀k,(c.drop j).getD k 0#16=c.getD (j+k) 0#16:=fun k=>by
  rw[List.getD_eq_getElem?_getD,List.getElem?_drop,←List.getD_eq_getElem?_getD]
 obtain⟨h1,h2⟩:=ePj (fun x=>decide (win x=win (c.getD j 0#16))) 0#16 (c.drop j) (i-j) (by rw[List.length_drop];omega)
  (fun k hk=>by rw[hg];exact J5 (hw _ (by omega) (by omega)))
  (by
   rcases he with he|he
   ·left;rw[List.length_drop];omega
   ·right;rw[hg,show j+(i-j)=i by omega];exact J6 he)
 have h3:grp (c.getD j 0#16) (c.drop (j+1))=(c.drop j).take (i-j):=by
  rw[←h1,e,List.takeWhile_cons,J4 (by simp)];rfl
 have h4:rst (c.getD j 0#16) (c.drop (j+1))=c.drop i:=by
  have:(c.drop j).drop (i-j)=c.drop i:=by rw[List.drop_drop];congr 1;omega
  rw[←this,←h2,e,List.dropWhile_cons,J4 (by simp)];rfl
 rw[←h3,←h4]
 conv=>lhs;rw[e]
 rw[bmL]
theorem ePp (w:Nat) (p:List T16):(eLm w p).length=szL p+2:=by
 unfold eLm;simp only[List.length_cons,eRy]
theorem eRh (w:Nat) (p:List T16) (out:List B8):out++[BitVec.ofNat 8 w,BitVec.ofNat 8 (szL p)]++(dR p).take (szL p)=out++eLm w p:=by
 unfold eLm;simp
def bmG:List AV→Option (Nat×Nat×List AV)
 |[.sl n xs]=>aK (unA xs) fun l=>aN (l.length=n∧n≤1000000) (some ((bmL (eA l)).length,1,c8 (bmL (eA l))))
 |_=>none
theorem fEc (n:Nat) (xs:List AV):bmG [.sl n xs]=aK (unA xs) fun l=>aN (l.length=n∧n≤1000000) (some ((bmL (eA l)).length,1,c8 (bmL (eA l)))):=(rfl)
attribute [go_sem] fEc
structure SBO where
 j:Nat
 id:Nat
 out:List B8
 c:Nat
set_option maxHeartbeats 4000000 in
theorem fHf:dH Try.prog GLh 64 bmG:=by
 refine cT Try.func64 (aT rfl) ?_
 intro args r hg
 unfold bmG at hg
 split at hg
 ·rename_i n xs
  replace hg:=aJ hg;obtain⟨l,hl,hg⟩:=hg
  replace hg:=aP hg;obtain⟨⟨hn,hbig⟩,hg⟩:=hg
  obtain rfl:=J0 hg
  have:=gU hl;subst this
  refine⟨J1 rfl,fun nx=>?_⟩
  clear hl hg
  subst hn
  have hcl:=eQx l
  obtain⟨c,hc⟩: ∃c,eA l=c:=⟨_,rfl⟩
  rw[hc]at hcl⊢
  refine aA rfl (aW [0] rfl rfl rfl fun K hK=>?_)
  simp(disch:=omega) only[Try.f64,go_sem,↓reduceIte]
  refine hK _ ?_
  refine aB (aA rfl (aW [0,3] rfl rfl rfl fun K hK=>?_))
  simp(disch:=omega) only[Try.f64,go_sem,↓reduceIte]
  refine hK _ ?_
  refine aB (aA rfl (aC (Γ:=bC [(77,.fresh true eWu)]) [0,3] (aH ok77 aO) rfl rfl rfl (fun K hK=>?_)))
  simp(disch:=omega) only[Try.f64,go_sem,↓reduceIte,hc]
  refine hK _ ?_
  refine aB (iE 3 1 rfl (fF [0,3] ?_))
  simp only[iB,fU,eW,↓reduceIte,Nat.reduceEqDiff]
  refine aA rfl (aR 0 rfl rfl ?_)
  refine bR (fun p:SBO=> {fr:=[(0,.os (nx+2+1) p.j (c.length-p.j) 1 true),(3,.os p.id 0 p.out.length 1 true)],hp:=upd (upd (fun _=>none) (nx+2+1) (.cells (c16 c) true)) p.id (.cells (c8 p.out) true),nx:=0,cx:=p.c}) (fun p=>p.j≤c.length∧p.out++bmL (c.drop p.j)=bmL c∧p.out.length≤34*p.j∧p.id<p.c∧nx+2+1<p.id) (fun p=>c.length-p.j) rfl ⟨⟨0,_,[],_⟩,⟨Nat.zero_le _,rfl,Nat.zero_le _,by simp only;omega,by simp only;omega⟩,bD rfl rfl (U3 _)⟩ ?_
  rintro⟨j,id,out,cx⟩ ⟨hj,hout,hol,hid,hid2⟩ n0
  simp only at hj hout hol hid hid2⊢
  refine aA rfl (aA rfl (aW [12,0,3] rfl rfl rfl fun K hK=>?_))
  simp(disch:=omega) only[Try.f64,go_sem,↓reduceIte]
  refine hK _ ?_
  refine aB (bA (.tmp 12) rfl rfl rfl (fun h=>?_) (fun h=>?_))
  ·refine aI rfl ?_
   have hjl:j<c.length:=by omega
   refine aQ rfl (aB (aR 1 rfl rfl (aA rfl (aW [0,3,4] rfl rfl rfl fun K hK=>?_))))
   simp(disch:=omega) only[Try.f64,go_sem,↓reduceIte,fBl,Nat.add_zero]
   refine hK _ ?_
   refine aB (aA rfl (aW [0,3,4,5] rfl rfl rfl fun K hK=>?_))
   simp(disch:=omega) only[Try.f64,go_sem,↓reduceIte,eQz]
   refine hK _ ?_
   refine aB (aA rfl (aW [0,3,4,5,6] rfl rfl rfl fun K hK=>?_))
   simp(disch:=omega) only[Try.f64,go_sem,↓reduceIte]
   refine hK _ ?_
   refine aB ?_
   obtain⟨t,ht⟩: ∃t,c.getD j 0#16=t:=⟨_,rfl⟩
   rw[ht]
   refine aA rfl (aR 2 rfl rfl ?_)
   refine bR (fun p:KC=> {fr:=[(0,.os (nx+2+1) p.k (c.length-p.k) 1 true),(3,.os id 0 out.length 1 true),(4,.w16 (t/256#16)),(5,.op (cx+8) 0),(6,.i (szL ((c.drop j).take (p.k-j))))],hp:=upd (upd (upd (fun _=>none) (nx+2+1) (.cells (c16 c) true)) id (.cells (c8 out) true)) (cx+8) (.cells (c8 (dR ((c.drop j).take (p.k-j)))) true),nx:=0,cx:=p.c}) (fun p=>j≤p.k∧p.k≤c.length∧(∀k,j≤k→k<p.k→win (c.getD k 0#16)=win t)∧cx+8<p.c) (fun p=>c.length-p.k) rfl ⟨⟨j,_⟩,⟨U3 _,by simp only;omega,fun k h1 h2=>by simp only at h2;omega,by simp only;omega⟩,⟨fun _=> .inr (by simp only[Nat.sub_self,U1];rfl),fun a b h=>by simp only[Nat.sub_self,U1]at h;exact h,U3 _⟩⟩ ?_
   rintro⟨i,cx2⟩ ⟨hji,hic,hwin,hcx2⟩ n0
   simp only at hji hic hwin hcx2⊢
   obtain⟨p,hp⟩: ∃p,(c.drop j).take (i-j)=p:=⟨_,rfl⟩
   have hsz:=eOq p
   have hbl:=eKl p
   rw[hp]
   by_cases h1:i<c.length
   ·have hd:decide (0<((c.length-i:Nat):Int))=true:=J5 (by omega)
    obtain⟨x,hx⟩: ∃x,c.getD i 0#16=x:=⟨_,rfl⟩
    refine aA rfl (aA rfl (aW [27,0,3,4,5,6] rfl rfl rfl fun K hK=>?_))
    simp(disch:=omega) only[Try.f64,go_sem,↓reduceIte,hd,fBl,Nat.add_zero,hx]
    refine hK _ ?_
    refine aB (bA (.tmp 27) rfl rfl rfl (fun h=>?_) (fun h=>?_))
    ·refine aI rfl ?_
     rw[eVf]at h
     have hsub:=eUd c j i hji h1
     rw[hp,hx]at hsub
     have hpl:=eNf x
     refine aQ rfl (aB (aR 3 rfl rfl (aA rfl (aW [0,3,4,5,7] rfl rfl rfl fun K hK=>?_))))
     simp(disch:=omega) only[Try.f64,go_sem,↓reduceIte,fBl,Nat.add_zero,hx,eYf]
     refine hK _ ?_
     refine aB (aA rfl (aW [0,3,4,5,7] rfl rfl rfl fun K hK=>?_))
     simp(disch:=omega) only[Try.f64,go_sem,↓reduceIte,i8z,eUc,fBc,fFd,eRz,U2]
     refine hK _ ?_
     refine aB (bB (Γ:=aL) (fun _=>2) [0,3,4,5,6] bZ (aD _ _) rfl rfl rfl (by kernel_rfl) (fun K hK=>?_))
     simp(disch:=omega) only[Try.f64,go_sem,↓reduceIte,i8z,eUc]
     refine hK _ ?_
     refine bU (bT ?_)
     have esn:=eUi p x
     have ebn:(dR p).set (pos x/8) ((dR p).getD (pos x/8) 0#8|||rE (pos x%8))=dR (p++[x]):=(eRa p x).symm
     have el:c.length-i-1=c.length-(i+1):=by omega
     refine⟨⟨i+1,_⟩,⟨by simp only;omega,by simp only;omega,fun k h1 h2=>?_,by simp only;omega⟩,by simp only;omega,⟨fun _=> .inr ?_,fun j o h=>?_,U3 _⟩⟩
     ·by_cases e:k=i
      ·subst e;rw[hx];exact h
      exact hwin k h1 (by simp only at h2;omega)
     ·simp only[hsub,esn,el,Int.natCast_add,Int.natCast_one]
     simp only at h
     exact bS (by simp(disch:=omega) only[aV,↓reduceIte,eq_self,hsub,ebn]) (bS (by simp(disch:=omega) only[aV,bY,↓reduceIte,eq_self,ebn]) (bS (by simp(disch:=omega) only[aV,bY,↓reduceIte,eq_self,ebn]) (cB))) j o h
    refine aI rfl ?_
    rw[eVf]at h
    refine bF 2 rfl rfl (aY (aZ (bE (aB ?_))))
    obtain⟨hlt,hbm⟩:=eRx c j i hjl hji hic (by rw[ht];exact hwin) (.inr (by rw[hx,ht];exact h))
    rw[hp,ht]at hbm
    have hrl:=ePp (win t) p
    have hrq:=eRh (win t) p out
    refine bB (Γ:=aL) (fun k=>if k=6 then 66 else if k=9 then 194 else 2) [0,3] bZ (aD _ _) rfl rfl rfl (by kernel_rfl) (fun K hK=>?_)
    simp(disch:=omega) only[Try.f64,go_sem,↓reduceIte,fEf,fFy,U2,Nat.sub_zero,J9]
    refine hK _ ?_
    refine bU (bT ?_)
    have hbm2:out++eLm (win t) p++bmL (c.drop i)=bmL c:=by rw[List.append_assoc,←hbm];exact hout
    have hlen:(out++eLm (win t) p).length=out.length+2+szL p:=by rw[List.length_append,hrl];omega
    refine⟨⟨i,cx2+11+9,out++eLm (win t) p,_⟩,⟨hic,hbm2,by simp only[hlen];omega,by simp only;omega,by simp only;omega⟩,by simp only;omega,⟨fun _=> .inr ?_,fun j o h=>?_,U3 _⟩⟩
    ·simp only[hlen]
    simp only at h
    exact bS (by simp(disch:=omega) only[aV,↓reduceIte,eq_self,hrq]) (bS (by simp(disch:=omega) only[aV,kE,bY,↓reduceIte,eq_self,hrq]) (cB)) j o h
   have hd:decide (0<((c.length-i:Nat):Int))=false:=J6 (by omega)
   refine aA rfl (aA rfl (aW [27,0,3,4,5,6] rfl rfl rfl fun K hK=>?_))
   simp(disch:=omega) only[Try.f64,go_sem,↓reduceIte,hd]
   refine hK _ ?_
   refine aB (eC (.tmp 27) rfl rfl rfl (fun h=>?_) (fun h=>?_))
   ·refine aI rfl ?_
    cases h
   refine aI rfl ?_
   clear h
   refine bF 2 rfl rfl (aY (aZ (bE (aB ?_))))
   obtain⟨hlt,hbm⟩:=eRx c j i hjl hji hic (by rw[ht];exact hwin) (.inl (by omega))
   rw[hp,ht]at hbm
   have hrl:=ePp (win t) p
   have hrq:=eRh (win t) p out
   refine bB (Γ:=aL) (fun k=>if k=6 then 66 else if k=9 then 194 else 2) [0,3] bZ (aD _ _) rfl rfl rfl (by kernel_rfl) (fun K hK=>?_)
   simp(disch:=omega) only[Try.f64,go_sem,↓reduceIte,fEf,fFy,U2,Nat.sub_zero,J9]
   refine hK _ ?_
   refine bU (bT ?_)
   have hbm2:out++eLm (win t) p++bmL (c.drop i)=bmL c:=by rw[List.append_assoc,←hbm];exact hout
   have hlen:(out++eLm (win t) p).length=out.length+2+szL p:=by rw[List.length_append,hrl];omega
   refine⟨⟨i,cx2+11+9,out++eLm (win t) p,_⟩,⟨hic,hbm2,by simp only[hlen];omega,by simp only;omega,by simp only;omega⟩,by simp only;omega,⟨fun _=> .inr ?_,fun j o h=>?_,U3 _⟩⟩
   ·simp only[hlen]
   simp only at h
   exact bS (by simp(disch:=omega) only[aV,↓reduceIte,eq_self,hrq]) (bS (by simp(disch:=omega) only[aV,kE,bY,↓reduceIte,eq_self,hrq]) (cB)) j o h
  refine aI rfl (bF 0 rfl rfl (aY (aZ (bE (aB (aA rfl ?_))))))
  obtain rfl:j=c.length:=by omega
  have e1:out=bmL c:=by rw[List.drop_length,show bmL []=[]from by rw[bmL],List.append_nil]at hout;exact hout
  refine aW [2] rfl rfl rfl fun K hK=>?_
  simp(disch:=omega) only[Try.f64,go_sem,↓reduceIte,e1]
  refine hK _ ?_
  refine aB (aS rfl ?_)
  simp(disch:=omega) only[fE,eO,bV,bK,bQ,Try.f64,go_sem,↓reduceIte]
 cases hg
theorem cWm:bX Try.prog GLh 64 (.fresh true bmG):=⟨⟨_,Try.func64,rfl,rfl⟩,fHf⟩
end Go.AX

namespace Go.AX
open Go Go.Proofs
end Go.AX

namespace Go.AX
open Go Go.Proofs
def eLg (w:Nat) (bs:List B8) (k:Nat):List T16:=(List.range k).filterMap fun i=>if bs.getD (i/8) 0#8&&&rE (i%8)≠0#8 then some (BitVec.ofNat 16 (w*256+i))else none
theorem eOj (w:Nat) (bs:List B8):eLg w bs 0=[]:=rfl
theorem eWp (w:Nat) (bs:List B8) (k:Nat) (h:k=8*bs.length):eLg w bs k=rR w bs:=by rw[h];rfl
theorem eWn (w:Nat) (bs:List B8) (k:Nat) (h:bs.getD (k/8) 0#8&&&rE (k%8)≠0#8):eLg w bs (k+1)=eLg w bs k++[BitVec.ofNat 16 (w*256+k)]:=by
 unfold eLg;rw[List.range_succ,List.filterMap_append,List.filterMap_cons,J4 h];rfl
theorem eZh (w:Nat) (bs:List B8) (k:Nat) (h:bs.getD (k/8) 0#8&&&rE (k%8)=0#8):eLg w bs (k+1)=eLg w bs k:=by
 unfold eLg;rw[List.range_succ,List.filterMap_append,List.filterMap_cons,J3 (fun hh=>hh h)];simp
theorem eWo (w:Nat) (bs:List B8) (k:Nat):(eLg w bs k).length≤k:=by
 have:=List.length_filterMap_le (fun i=>if bs.getD (i/8) 0#8&&&rE (i%8)≠0#8 then some (BitVec.ofNat 16 (w*256+i))else none) (List.range k)
 rw[List.length_range]at this
 exact this
theorem eSb (r:List B8) (m k:Nat) (h:k<m):(r.take m).getD k 0#8=r.getD k 0#8:=by
 rw[List.getD_eq_getElem?_getD,List.getD_eq_getElem?_getD,List.getElem?_take_of_lt h]
theorem eTh (r:List B8) (m k:Nat):(r.drop m).getD k 0#8=r.getD (m+k) 0#8:=by
 rw[List.getD_eq_getElem?_getD,List.getD_eq_getElem?_getD,List.getElem?_drop]
theorem eXt (w:B8) (k:Nat) (_:k<256):w.setWidth 16*256#16+BitVec.ofInt 16 (k:Int)=BitVec.ofNat 16 (w.toNat*256+k):=by
 apply BitVec.eq_of_toNat_eq
 rw[BitVec.ofInt_natCast,BitVec.toNat_add,BitVec.toNat_mul,BitVec.toNat_setWidth,BitVec.toNat_ofNat,BitVec.toNat_ofNat,BitVec.toNat_ofNat]
 have:=w.isLt
 omega
theorem eTz (R:List B8) (h:2≤R.length):R=R.getD 0 0#8::R.getD 1 0#8::R.drop 2:=by
 match R,h with
 |a::b::r,_=>rfl
theorem eYn (f:Nat) (R:List B8) (h:2≤R.length):opP (f+1) R=if(R.getD 1 0#8).toNat≤R.length-2 then(opP f (R.drop (2+(R.getD 1 0#8).toNat))).map (rR (R.getD 0 0#8).toNat ((R.drop 2).take (min (R.getD 1 0#8).toNat 32))++ ·)else none:=by
 conv=>lhs;rw[eTz R h]
 simp only[opP,List.length_drop,List.drop_drop]
 split
 ·cases opP f (R.drop (2+(R.getD 1 0#8).toNat))<;>rfl
 rfl
theorem eSv (f:Nat) (R:List B8) (h:0<R.length) (h2:R.length<2):opP (f+1) R=none:=by
 match R,h,h2 with
 |[a],_,_=>rfl
def eYl:Option (List T16)→AV
 |some l=> .tup [.sl l.length (c16 l),.i 0]
 |none=> .tup [.sl 0 [],.i 40]
def dFi:List AV→Option AV
 |[.sl n xs]=>aK (un8 xs) fun b=>aN (b.length=n∧n≤100000) (some (eYl (opR (b.length+1) (-1) b)))
 |_=>none
theorem eYm (n:Nat) (xs:List AV):dFi [.sl n xs]=aK (un8 xs) fun b=>aN (b.length=n∧n≤100000) (some (eYl (opR (b.length+1) (-1) b))):=(rfl)
theorem fCa (l:List T16):eYl (some l)=.tup [.sl l.length (c16 l),.i 0]:=(rfl)
theorem fCb:eYl none=.tup [.sl 0 [],.i 40]:=(rfl)
attribute [go_sem] eYm fCa fCb
theorem ePr {F:Nat} {last:Int} {b:List B8} (h:opP F b=none):opR F last b=none:=by
 cases e:opR F last b with
 |none=>rfl
 |some l=>have:=(eMn F last b l e).2.2.2;rw[h]at this;cases this
theorem fCc {F:Nat} {last:Int} {b:List B8} {out:List T16} (h:opP F b=some out) (hne:bmL (eA out)≠b):opR F last b=none:=by
 cases e:opR F last b with
 |none=>rfl
 |some l=>
  obtain⟨h1,h2,h3,h4⟩:=eMn F last b l e
  rw[h]at h4
  obtain rfl:=J0 h4
  rw[eTm h1]at hne
  exact absurd h3 hne
theorem fCd {b:List B8} {out:List T16} (h:opP (b.length+1) b=some out) (he:bmL (eA out)=b):opR (b.length+1) (-1) b=some out:=by
 have h1:=eVg (b.length+1) (eA out) (-1) (eNp out) (fun t _=>by omega) (by rw[he];omega)
 rw[he]at h1
 have h2:=(eMn _ _ _ _ h1).2.2.2
 rw[h]at h2
 obtain h3:=J0 h2
 rw[h1,←h3]
theorem fGe (n:Nat):(if(32:Int)<(n:Int)then(32:Int)else(n:Int))=((min n 32:Nat):Int):=by split<;>omega
structure SOF where
 i:Nat
 f:Nat
 id:Nat
 out:List T16
 c:Nat
structure KOC where
 k:Nat
 id:Nat
 c:Nat
set_option maxHeartbeats 4000000 in
theorem dOd:cL Try.prog GLh 61 dFi:=by
 refine cC Try.func61 (aT rfl) ?_
 intro args r hg
 unfold dFi at hg
 split at hg
 ·rename_i n xs
  replace hg:=aJ hg;obtain⟨b,hb,hg⟩:=hg
  replace hg:=aP hg;obtain⟨⟨hn,hbig⟩,hg⟩:=hg
  obtain rfl:=J0 hg
  have:=iX _ hb;subst this
  refine⟨J1 rfl,fun nx=>?_⟩
  clear hb hg
  subst hn
  obtain⟨ans,hans⟩: ∃a,opR (b.length+1) (-1) b=a:=⟨_,rfl⟩
  rw[hans]
  refine aA rfl (aW [0] rfl rfl rfl fun K hK=>?_)
  simp(disch:=omega) only[Try.f61,go_sem,↓reduceIte]
  refine hK _ ?_
  refine aB (aA rfl (aW [0,4] rfl rfl rfl fun K hK=>?_))
  simp(disch:=omega) only[Try.f61,go_sem,↓reduceIte]
  refine hK _ ?_
  refine aB (aA rfl (aA rfl (aW [0,4,5] rfl rfl rfl fun K hK=>?_)))
  simp(disch:=omega) only[Try.f61,go_sem,↓reduceIte]
  refine hK _ ?_
  refine aB (iE 4 1 rfl (fF [0,4,5] ?_))
  simp only[iB,fU,eW,↓reduceIte,Nat.reduceEqDiff]
  refine aR 0 rfl rfl ?_
  refine bR (fun p:SOF=> {fr:=[(0,.sl b.length (c8 b)),(4,.os p.id 0 p.out.length 1 true),(5,.sl (b.length-p.i) (c8 (b.drop p.i)))],hp:=upd (fun _=>none) p.id (.cells (c16 p.out) true),nx:=0,cx:=p.c}) (fun p=>p.i≤b.length∧b.length-p.i<p.f∧opP (b.length+1) b=(opP p.f (b.drop p.i)).map (p.out++ ·)∧p.out.length≤8*p.i∧p.id<p.c) (fun p=>b.length-p.i) rfl ⟨⟨0,b.length+1,_,[],_⟩,⟨Nat.zero_le _,by simp only;omega,by simp,Nat.zero_le _,by simp only;omega⟩,bD rfl rfl (U3 _)⟩ ?_
  rintro⟨i,f,id,out,c⟩ ⟨hi,hf,hop,hol,hid⟩ n0
  simp only at hi hf hop hol hid⊢
  refine aA rfl (aA rfl (aW [11,0,4,5] rfl rfl rfl fun K hK=>?_))
  simp(disch:=omega) only[Try.f61,go_sem,↓reduceIte]
  refine hK _ ?_
  refine aB (bA (.tmp 11) rfl rfl rfl (fun h=>?_) (fun h=>?_))
  ·refine aI rfl ?_
   have hib:i<b.length:=by omega
   obtain⟨R,hR⟩: ∃R,b.drop i=R:=⟨_,rfl⟩
   have hRl:R.length=b.length-i:=by rw[←hR,List.length_drop]
   obtain⟨g,rfl⟩: ∃g,f=g+1:=⟨f-1,by omega⟩
   rw[hR]at hop
   by_cases h2:b.length-i<2
   ·have hd:decide (((b.length-i:Nat):Int)<2)=true:=J5 (by omega)
    rw[eSv g R (by omega) (by omega)]at hop
    have hno:=ePr (last:= -1) hop
    rw[hans]at hno
    refine aQ rfl (aB (aR 1 rfl rfl (aA rfl (aA rfl (aW [24,0,4,5] rfl rfl rfl fun K hK=>?_)))))
    simp(disch:=omega) only[Try.f61,go_sem,↓reduceIte,hd]
    refine hK _ ?_
    refine aB (eC (.tmp 24) rfl rfl rfl (fun h=>?_) (fun h=>?_))
    ·refine aI rfl (aA rfl (aW [2,3] rfl rfl rfl fun K hK=>?_))
     simp(disch:=omega) only[Try.f61,go_sem,↓reduceIte]
     refine hK _ ?_
     refine aB (aS rfl (bI (bN (dF (bN (bI ?_))))))
     simp(disch:=omega) only[cN,bV,bK,bQ,Try.f61,go_sem,↓reduceIte,hno]
    refine aI rfl ?_
    cases h
   have hd:decide (((b.length-i:Nat):Int)<2)=false:=J6 (by omega)
   rw[eYn g R (by omega)]at hop
   obtain⟨w,hw⟩: ∃w,R.getD 0 0#8=w:=⟨_,rfl⟩
   obtain⟨z,hz⟩: ∃z,R.getD 1 0#8=z:=⟨_,rfl⟩
   rw[hw,hz]at hop
   refine aQ rfl (aB (aR 1 rfl rfl (aA rfl (aA rfl (aW [24,0,4,5] rfl rfl rfl fun K hK=>?_)))))
   simp(disch:=omega) only[Try.f61,go_sem,↓reduceIte,hd,hR,hz]
   refine hK _ ?_
   refine aB (bA (.tmp 24) rfl rfl rfl (fun h=>?_) (fun h=>?_))
   ·refine aI rfl ?_
    rw[J3 (by omega)]at hop
    have hno:=ePr (last:= -1) hop
    rw[hans]at hno
    refine aA rfl (aW [2,3] rfl rfl rfl fun K hK=>?_)
    simp(disch:=omega) only[Try.f61,go_sem,↓reduceIte]
    refine hK _ ?_
    refine aB (aS rfl (bI (bN (dF (bN (bI ?_))))))
    simp(disch:=omega) only[cN,bV,bK,bQ,Try.f61,go_sem,↓reduceIte,hno]
   refine aI rfl ?_
   have hzl:z.toNat≤R.length-2:=by omega
   rw[J4 hzl]at hop
   refine aQ rfl (aB (aA rfl (aW [0,4,5,6] rfl rfl rfl fun K hK=>?_)))
   simp(disch:=omega) only[Try.f61,go_sem,↓reduceIte,hz]
   refine hK _ ?_
   refine aB (aA rfl (aA rfl (aW [0,4,5,6,31,32] rfl rfl rfl fun K hK=>?_)))
   simp(disch:=omega) only[Try.f61,go_sem,↓reduceIte,fGe]
   refine hK _ ?_
   refine aB (aR 2 rfl rfl ?_)
   refine bR (fun p:KOC=> {fr:=[(0,.sl b.length (c8 b)),(4,.os p.id 0 (out++eLg w.toNat ((R.drop 2).take (min z.toNat 32)) p.k).length 1 true),(5,.sl (b.length-i) (c8 R)),(6,.i z.toNat),(31,.i ((8*min z.toNat 32:Nat):Int)),(32,.i p.k)],hp:=upd (fun _=>none) p.id (.cells (c16 (out++eLg w.toNat ((R.drop 2).take (min z.toNat 32)) p.k)) true),nx:=0,cx:=p.c}) (fun p=>p.k≤8*min z.toNat 32∧p.id<p.c) (fun p=>8*min z.toNat 32-p.k) rfl ⟨⟨0,id,_⟩,⟨Nat.zero_le _,by simp only;omega⟩,⟨fun _=> .inr (by simp only[eOj,List.append_nil,Int.natCast_mul];rfl),fun a b h=>by simp only[eOj,List.append_nil]at h;exact h,U3 _⟩⟩ ?_
   rintro⟨k,id2,c2⟩ ⟨hk,hid2⟩ n0
   simp only at hk hid2⊢
   have hdl:=eWo w.toNat ((R.drop 2).take (min z.toNat 32)) k
   refine aA rfl (aW [33,0,4,5,6,31,32] rfl rfl rfl fun K hK=>?_)
   simp(disch:=omega) only[Try.f61,go_sem,↓reduceIte]
   refine hK _ ?_
   refine aB (aA rfl (bA (.tmp 33) rfl rfl rfl (fun h=>?_) (fun h=>?_)))
   ·refine aI rfl ?_
    have hkl:k<8*min z.toNat 32:=by omega
    have hgd:((R.drop 2).take (min z.toNat 32)).getD (k/8) 0#8=R.getD (2+k/8) 0#8:=by rw[eSb _ _ _ (by omega),eTh]
    refine aQ rfl (aB (aA rfl (aR 3 rfl rfl (aA rfl (aW [0,4,5,6,7,31,32] rfl rfl rfl fun K hK=>?_)))))
    simp(disch:=omega) only[Try.f61,go_sem,↓reduceIte]
    refine hK _ ?_
    refine aB ?_
    have e2k:(2+((k/8:Nat):Int)).toNat=2+k/8:=by omega
    refine aA rfl (aW [46,0,4,5,6,7,31,32] rfl rfl rfl fun K hK=>?_)
    simp(disch:=omega) only[Try.f61,go_sem,↓reduceIte,i8z,eUc,fBc,fFd,eRz,e2k]
    refine hK _ ?_
    refine aB (eGn (.tmp 46) rfl rfl rfl (fun h=>?_) (fun h=>?_))
    ·refine aI rfl ?_
     rw[←hgd]at h
     have hst:=eWn w.toNat ((R.drop 2).take (min z.toNat 32)) k h
     refine aW [0,4,5,6,31,32] rfl rfl rfl fun K hK=>?_
     simp(disch:=omega) only[Try.f61,go_sem,↓reduceIte,hw,eXt,eQg]
     refine hK _ ?_
     refine bU (aB (aW [0,4,5,6,31,32] rfl rfl rfl fun K hK=>?_))
     simp(disch:=omega) only[Try.f61,go_sem,↓reduceIte]
     refine hK _ ?_
     refine bT ?_
     have hl2:(out++eLg w.toNat ((R.drop 2).take (min z.toNat 32)) (k+1)).length=out.length+(eLg w.toNat ((R.drop 2).take (min z.toNat 32)) k).length+1:=by rw[hst];simp only[List.length_append,List.length_cons,List.length_nil];omega
     have hr2:out++eLg w.toNat ((R.drop 2).take (min z.toNat 32)) k++[BitVec.ofNat 16 (w.toNat*256+k)]=out++eLg w.toNat ((R.drop 2).take (min z.toNat 32)) (k+1):=by rw[hst,List.append_assoc]
     refine⟨⟨k+1,c2+1+2+12+10,_⟩,⟨by simp only;omega,by simp only;omega⟩,by simp only;omega,⟨fun _=> .inr ?_,fun j o h=>?_,U3 _⟩⟩
     ·simp only[hl2,Int.natCast_add,Int.natCast_one]
     simp only at h
     exact bS (by simp(disch:=omega) only[aV,↓reduceIte,eq_self,hr2]) (cB) j o h
    refine aI rfl ?_
    rw[←hgd]at h
    have hst:=eZh w.toNat ((R.drop 2).take (min z.toNat 32)) k h
    refine aQ rfl (bU (aB (aW [0,4,5,6,31,32] rfl rfl rfl fun K hK=>?_)))
    simp(disch:=omega) only[Try.f61,go_sem,↓reduceIte]
    refine hK _ ?_
    refine bT ?_
    refine⟨⟨k+1,id2,_⟩,⟨by simp only;omega,by simp only;omega⟩,by simp only;omega,⟨fun _=> .inr ?_,fun j o h=>?_,U3 _⟩⟩
    ·simp only[hst,List.length_append,Int.natCast_add,Int.natCast_one]
    simp only at h
    exact bS (by simp(disch:=omega) only[aV,↓reduceIte,eq_self,hst]) (cB) j o h
   refine aI rfl ?_
   obtain rfl:k=8*min z.toNat 32:=by omega
   have hall:=eWp w.toNat ((R.drop 2).take (min z.toNat 32)) (8*min z.toNat 32) (by rw[List.length_take,List.length_drop];omega)
   have hrd:R.drop (2+z.toNat)=b.drop (i+(2+z.toNat)):=by rw[←hR,List.drop_drop]
   have htk:(R.drop (2+z.toNat)).take (b.length-i-(2+z.toNat))=R.drop (2+z.toNat):=List.take_of_length_le (by rw[List.length_drop];omega)
   have e2z:(2+(z.toNat:Int)).toNat=2+z.toNat:=by omega
   have hln:b.length-i-(2+z.toNat)=b.length-(i+(2+z.toNat)):=by omega
   rw[hall]at hdl
   refine bF 2 rfl rfl (aY (aZ (bE (aB (aW [0,4,5] rfl rfl rfl fun K hK=>?_)))))
   simp(disch:=omega) only[Try.f61,go_sem,↓reduceIte,e2z,htk,hall]
   refine hK _ ?_
   refine bU (bT ?_)
   refine⟨⟨i+(2+z.toNat),g,id2,out++rR w.toNat ((R.drop 2).take (min z.toNat 32)),_⟩,⟨by simp only;omega,by simp only;omega,?_,by simp only[List.length_append];omega,by simp only;omega⟩,by simp only;omega,⟨fun _=> .inr ?_,fun j o h=>?_,U3 _⟩⟩
   ·rw[hop,hrd]
    cases opP g (b.drop (i+(2+z.toNat)))with
    |none=>rfl
    |some l=>simp
   ·simp only[hln,hrd,List.length_append]
   simp only at h
   exact bS (by simp(disch:=omega) only[aV,↓reduceIte,eq_self]) (cB) j o h
  refine aI rfl ?_
  obtain rfl:i=b.length:=by omega
  rw[List.drop_length]at hop
  obtain⟨g,rfl⟩: ∃g,f=g+1:=⟨f-1,by omega⟩
  have hop2:opP (b.length+1) b=some out:=by rw[hop];simp[opP]
  refine bF 0 rfl rfl (aY (aZ (bE (aB (aA rfl (aA rfl ?_))))))
  by_cases he:bmL (eA out)=b
  ·have hq:=fCd hop2 he
   rw[hans]at hq
   have hd:decide (b=b)=true:=J5 rfl
   refine aC (Γ:=bC [(64,.fresh true bmG),(76,.pure true eNv)]) [67,4] (aH cWm (aH fFh aO)) rfl rfl rfl (fun K hK=>?_)
   simp(disch:=omega) only[Try.f61,go_sem,↓reduceIte,he]
   refine hK _ ?_
   refine aB (eC (.tmp 67) rfl rfl rfl (fun h=>?_) (fun h=>?_))
   ·refine aI rfl ?_
    cases h
   refine aI rfl (aQ rfl (aB (aA rfl (aW [2,3] rfl rfl rfl fun K hK=>?_))))
   simp(disch:=omega) only[Try.f61,go_sem,↓reduceIte]
   refine hK _ ?_
   refine aB (aS rfl ?_)
   simp(disch:=omega) only[cN,bV,bK,bQ,Try.f61,go_sem,↓reduceIte,hq]
  have hq:=fCc (last:= -1) hop2 he
  rw[hans]at hq
  have hd:decide (bmL (eA out)=b)=false:=J6 he
  refine aC (Γ:=bC [(64,.fresh true bmG),(76,.pure true eNv)]) [67,4] (aH cWm (aH fFh aO)) rfl rfl rfl (fun K hK=>?_)
  simp(disch:=omega) only[Try.f61,go_sem,↓reduceIte,hd]
  refine hK _ ?_
  refine aB (eC (.tmp 67) rfl rfl rfl (fun h=>?_) (fun h=>?_))
  ·refine aI rfl (aA rfl (aW [2,3] rfl rfl rfl fun K hK=>?_))
   simp(disch:=omega) only[Try.f61,go_sem,↓reduceIte]
   refine hK _ ?_
   refine aB (aS rfl (bI ?_))
   simp(disch:=omega) only[cN,bV,bK,bQ,Try.f61,go_sem,↓reduceIte,hq]
  refine aI rfl ?_
  cases h
 cases hg
theorem fFj:bX Try.prog GLh 61 (.pure false dFi):=⟨⟨_,Try.func61,rfl,rfl⟩,dOd⟩
end Go.AX

namespace Go.AX
open Go Go.Proofs
set_option maxRecDepth 20000
theorem st6 (a0 a1 a2 a3 a4 a5 b0 b1 b2 b3 b4 b5:AV):dV [a0,a1,a2,a3,a4,a5] 0 [b0,b1,b2,b3,b4,b5]=[b0,b1,b2,b3,b4,b5]:=(rfl)
theorem fEx (a0 a1 a2 a3 a4 a5 x:AV):[a0,a1,a2,a3,a4,a5].set 5 x=[a0,a1,a2,a3,a4,x]:=(rfl)
theorem fCp (a0 a1 a2 a3 a4 a5:AV):AV.ids (.agg [a0,a1,a2,a3,a4,a5])=max a0.ids (max a1.ids (max a2.ids (max a3.ids (max a4.ids (max a5.ids 0))))):=(rfl)
attribute [go_sem] st6 fEx
def is6:Option AO→Bool
 |some (.cells [_,_,_,_,_,_] true)=>true
 |_=>false
theorem eYy {o:Option AO} (h:is6 o=true): ∃x0 x1 x2 x3 x4 x5,o=some (.cells [x0,x1,x2,x3,x4,x5] true):=by
 unfold is6 at h
 split at h
 ·exact⟨_,_,_,_,_,_,rfl⟩
 cases h
theorem fGk (x0 x1 x2 x3 x4 x5:AV):is6 (some (.cells [x0,x1,x2,x3,x4,x5] true))=true:=(rfl)
attribute [go_sem] fGk
theorem eZd (l:List T16):AV.ids.idsL (c16 l)=0:=by
 induction l with
 |nil=>rfl
 |cons x l ih=>show max (AV.ids (.w16 x)) (AV.ids.idsL (c16 l))=0;rw[ih];rfl
theorem eWf (n:Nat) (l:List T16):AV.ids (.sl n (c16 l))=0:=eZd l
def txD (l:List B8) (a:Nat):List B8:=(l.drop (a+1)).take (l.getD a 0#8).toNat
theorem eRe {l:List B8} {a p:Nat} (h:txE l a=some p):a<p∧p≤l.length∧p=a+1+(txD l a).length∧rS l a=some (.sl (txD l a).length (c8 (txD l a)),[.sl l.length (c8 l),.i (p:Int)]):=by
 unfold txE at h
 split at h
 ·rename_i hc
  obtain rfl:=J0 h
  have hl:(txD l a).length=(l.getD a 0#8).toNat:=by unfold txD;rw[List.length_take,List.length_drop];omega
  refine⟨by omega,by omega,by omega,?_⟩
  unfold rS
  rw[J4 hc,hl];rfl
 cases h
theorem eRf {l:List B8} {a:Nat} (h:txE l a=none):rS l a=none:=by
 rcases eMm l a with⟨_,h2⟩|⟨p,d,h2,_⟩
 ·exact h2
 rw[h]at h2;cases h2
def fGu (l:List B8) (p1:Nat) (ty:List T16):AV:=.agg [.w8 (l.getD 0 0#8),.w8 (l.getD 1 0#8),.w16 ((eK ((l.drop 2).take 2)).setWidth 16),.sl (txD l 4).length (c8 (txD l 4)),.sl (txD l p1).length (c8 (txD l p1)),.sl ty.length (c16 ty)]
def bmO (b:List B8):Option (List T16):=opR (b.length+1) (-1) b
def fGv (l:List B8) (p1:Nat):Option (List T16)→Option (AV×List AV)
 |none=>none
 |some ty=>some (fGu l p1 ty,[.sl l.length (c8 l),.i (l.length:Int)])
def fDh (l:List B8) (p1:Nat):Option Nat→Option (AV×List AV)
 |none=>none
 |some p2=>if 0<(txD l p1).length then fGv l p1 (bmO (l.drop p2))else none
def fDi (l:List B8):Option Nat→Option (AV×List AV)
 |none=>none
 |some p1=>fDh l p1 (txE l p1)
def gW (l:List B8):Option (AV×List AV):=if 4≤l.length then fDi l (txE l 4)else none
def eMi:List AV→List AV→Option (Option (AV×List AV))
 |[.op _ 0],[.sl n xs,.i 0]=>aK (cI xs) fun l=>aN (l.length=n∧n≤100000) (some (gW l))
 |_,_=>none
theorem eWx (id n:Nat) (xs:List AV):eMi [.op id 0] [.sl n xs,.i 0]=aK (cI xs) fun l=>aN (l.length=n∧n≤100000) (some (gW l)):=(rfl)
attribute [go_sem] eWx
theorem eMf (l:List B8):gW l=none∨∃(v1 v2:B8) (v3:BitVec 16) (v4 v5:List B8) (v6:List T16) (p:Nat),gW l=some (.agg [.w8 v1,.w8 v2,.w16 v3,.sl v4.length (c8 v4),.sl v5.length (c8 v5),.sl v6.length (c16 v6)],[.sl l.length (c8 l),.i (p:Int)]):=by
 unfold gW
 split
 ·rcases txE l 4 with _|p1
  ·exact .inl rfl
  simp only[fDi]
  rcases txE l p1 with _|p2
  ·exact .inl rfl
  simp only[fDh]
  split
  ·rcases bmO (l.drop p2)with _|ty
   ·exact .inl rfl
   exact .inr ⟨_,_,_,_,_,_,_,rfl⟩
  exact .inl rfl
 exact .inl rfl
set_option maxHeartbeats 8000000 in
theorem eOm:cQ Try.prog GLh 58 (rdH eMi)∧dE Try.prog GLh 58 chM (rdP eMi):=by
 refine dT Try.func58 (aT rfl) ?_
 intro id off rest nx xs o hg
 unfold eMi at hg
 split at hg
 ·rename_i id2 n xs2 heq
  simp only[List.cons.injEq,AV.op.injEq]at heq
  obtain⟨⟨rfl,rfl⟩,rfl⟩:=heq
  replace hg:=aJ hg;obtain⟨l,hl,hg⟩:=hg
  replace hg:=aP hg;obtain⟨⟨rfl,hnb⟩,hg⟩:=hg
  obtain rfl:=J0 hg
  have:=bW hl;subst this
  refine⟨J1 rfl,fun hid=>?_⟩
  clear hl hg
  obtain⟨ans,hans⟩: ∃a,gW l=a:=⟨_,rfl⟩
  rw[hans]
  unfold gW at hans
  refine aA rfl (aW [0,2] rfl rfl rfl fun K hK=>?_)
  simp(disch:=omega) only[Try.f58,go_sem,↓reduceIte]
  refine hK _ ?_
  refine aB ?_
  by_cases q1:1≤l.length
  ·have n0:rL l 1 0=some (.w32 ((l.getD 0 0#8).setWidth 32),[.sl l.length (c8 l),.i 1]):=eSx (by omega)
   by_cases q2:2≤l.length
   ·have n1:rL l 1 1=some (.w32 ((l.getD 1 0#8).setWidth 32),[.sl l.length (c8 l),.i 2]):=eSx (by omega)
    by_cases q4:4≤l.length
    ·have n2:rL l 2 2=some (.w32 (eK ((l.drop 2).take 2)),[.sl l.length (c8 l),.i 4]):=eKs (by omega)
     rw[J4 q4]at hans
     rcases t1:txE l 4 with _|p1
     ·rw[t1]at hans;subst hans
      refine aA rfl (dCn (Γ:=bC [(49,.heap (rdH eN)),(59,.heap (rdH hS))]) 10 (eKq) eNr (aH fL (aH eMk aO)) rfl rfl rfl (fun Z hZ=>?_))
      simp(disch:=omega) only[Try.f58,go_sem,↓reduceIte,bG,eq_self,true_and,bP,List.map_cons,List.map_nil,List.append_nil,n0,n1,n2,sw8,eRf t1,U0,U1]
      refine hZ _ ?_;clear hZ Z
      exact rfl
     obtain⟨a1,a2,a3,a4⟩:=eRe t1
     rw[t1]at hans
     simp only[fDi]at hans
     rcases t2:txE l p1 with _|p2
     ·rw[t2]at hans;subst hans
      refine aA rfl (dCn (Γ:=bC [(49,.heap (rdH eN)),(59,.heap (rdH hS))]) 12 (eKq) eNr (aH fL (aH eMk aO)) rfl rfl rfl (fun Z hZ=>?_))
      simp(disch:=omega) only[Try.f58,go_sem,↓reduceIte,bG,eq_self,true_and,bP,List.map_cons,List.map_nil,List.append_nil,n0,n1,n2,sw8,a4,U2,eRf t2,U0,U1]
      refine hZ _ ?_;clear hZ Z
      exact rfl
     obtain⟨b1,b2',b3,b4⟩:=eRe t2
     rw[t2]at hans
     simp only[fDh]at hans
     refine aA rfl (aC (Γ:=bC [(49,.heap (rdH eN)),(59,.heap (rdH hS))]) [0,2,3] (aH fL (aH eMk aO)) rfl rfl rfl (fun K hK=>?_))
     simp(disch:=omega) only[Try.f58,go_sem,↓reduceIte,n0,n1,n2,sw8,a4,U2,b4]
     refine hK _ ?_
     refine aB ?_
     by_cases q0:0<(txD l p1).length
     ·rw[J4 q0]at hans
      have hd:decide ((0:Int)<((txD l p1).length:Int))=true:=J5 (by omega)
      refine aA rfl (aC (Γ:=bC [(60,.pure true eM)]) [0,2,3] (aH rP aO) rfl rfl rfl (fun K hK=>?_))
      simp(disch:=omega) only[Try.f58,go_sem,↓reduceIte,hd]
      refine hK _ ?_
      refine aB ?_
      have hdl:(l.drop p2).length=l.length-p2:=List.length_drop ..
      obtain⟨D,hD⟩: ∃D,l.drop p2=D:=⟨_,rfl⟩
      rw[hD]at hdl hans
      have hun:un8 (c8 D)=some D:=kK D
      rcases ho:bmO D with _|ty
      ·rw[ho]at hans;subst hans
       have ho2:opR (l.length-p2+1) (-1) D=none:=by rw[←hdl];exact ho
       refine aA rfl (aC (Γ:=bC [(56,.heap (rdH rB)),(61,.pure false dFi)]) [2,3,4,5] (aH eMl (aH fFj aO)) rfl rfl rfl (fun K hK=>?_))
       simp(disch:=omega) only[Try.f58,go_sem,↓reduceIte,U2,rA,hD,hdl,ho2]
       refine hK _ ?_
       refine aB ?_
       have h40:decide ((40:Int)=0)=false:=rfl
       refine aA rfl (dCn (Γ:=bC [(60,.pure true eM)]) 2 (fC) rD (aH rP aO) rfl rfl rfl (fun Z hZ=>?_))
       simp(disch:=omega) only[Try.f58,go_sem,↓reduceIte,bG,eq_self,true_and,bP,List.map_cons,List.map_nil,List.append_nil,U0,U1]
       refine hZ _ ?_;clear hZ Z
       exact rfl
      rw[ho]at hans;subst hans
      have ho2:opR (l.length-p2+1) (-1) D=some ty:=by rw[←hdl];exact ho
      refine aA rfl (aC (Γ:=bC [(56,.heap (rdH rB)),(61,.pure false dFi)]) [2,3,4,5] (aH eMl (aH fFj aO)) rfl rfl rfl (fun K hK=>?_))
      simp(disch:=omega) only[Try.f58,go_sem,↓reduceIte,U2,rA,hD,hdl,ho2]
      refine hK _ ?_
      refine aB (aA rfl (aC (Γ:=bC [(60,.pure true eM)]) [2,3,4] (aH rP aO) rfl rfl rfl (fun K hK=>?_)))
      simp(disch:=omega) only[Try.f58,go_sem,↓reduceIte]
      refine hK _ ?_
      refine aB (aA rfl (aW [2,3] rfl rfl rfl fun K hK=>?_))
      simp(disch:=omega) only[Try.f58,go_sem,↓reduceIte]
      refine hK _ ?_
      refine aB ?_
      unfold fGv fGu
      refine aA rfl (aW [2] rfl rfl rfl fun K hK=>?_)
      simp(disch:=omega) only[Try.f58,go_sem,↓reduceIte]
      refine hK _ ?_
      refine aB (aS rfl (⟨by simp(disch:=omega) only[bV,bK,bQ,Try.f58,go_sem,aV,eq_self,↓reduceIte],by simp(disch:=omega) only[aV,bY,↓reduceIte,eq_self],?_,?_⟩))
      ·simp only[fCp,eWf,eLf];rfl
      exact eD _ _ _
     rw[J3 q0]at hans;subst hans
     have hd:decide ((0:Int)<((txD l p1).length:Int))=false:=J6 (by omega)
     refine aA rfl (dCn (Γ:=bC [(60,.pure true eM)]) 4 (fC) rD (aH rP aO) rfl rfl rfl (fun Z hZ=>?_))
     simp(disch:=omega) only[Try.f58,go_sem,↓reduceIte,bG,eq_self,true_and,bP,List.map_cons,List.map_nil,List.append_nil,hd,U0,U1]
     refine hZ _ ?_;clear hZ Z
     exact rfl
    rw[J3 q4]at hans;subst hans
    refine aA rfl (dCn (Γ:=bC [(49,.heap (rdH eN)),(59,.heap (rdH hS))]) 7 (dK) eI (aH fL (aH eMk aO)) rfl rfl rfl (fun Z hZ=>?_))
    simp(disch:=omega) only[Try.f58,go_sem,↓reduceIte,bG,eq_self,true_and,bP,List.map_cons,List.map_nil,List.append_nil,n0,n1,sw8,fB (l:=l) (k:=2) (a:=2) (by omega),U0,U1]
    refine hZ _ ?_;clear hZ Z
    exact rfl
   rw[J3 (by omega)]at hans;subst hans
   refine aA rfl (dCn (Γ:=bC [(49,.heap (rdH eN)),(59,.heap (rdH hS))]) 4 (dK) eI (aH fL (aH eMk aO)) rfl rfl rfl (fun Z hZ=>?_))
   simp(disch:=omega) only[Try.f58,go_sem,↓reduceIte,bG,eq_self,true_and,bP,List.map_cons,List.map_nil,List.append_nil,n0,sw8,fB (l:=l) (k:=1) (a:=1) (by omega),U0,U1]
   refine hZ _ ?_;clear hZ Z
   exact rfl
  rw[J3 (by omega)]at hans;subst hans
  refine aA rfl (dCn (Γ:=bC [(49,.heap (rdH eN)),(59,.heap (rdH hS))]) 1 (dK) eI (aH fL (aH eMk aO)) rfl rfl rfl (fun Z hZ=>?_))
  simp(disch:=omega) only[Try.f58,go_sem,↓reduceIte,bG,eq_self,true_and,bP,List.map_cons,List.map_nil,List.append_nil,fB (l:=l) (k:=1) (a:=0) (by omega),U0,U1]
  refine hZ _ ?_;clear hZ Z
  exact rfl
 cases hg
theorem eWw:dE Try.prog GLh 58 chM (rdP eMi):=eOm.2
theorem fDw:cJ Try.prog 58:=⟨_,Try.func58,rfl,rfl⟩
theorem eJv:bX Try.prog GLh 58 (.heap (rdH eMi)):=⟨⟨_,Try.func58,rfl,rfl⟩,eOm.1⟩
theorem fCs (vals:Array Value) (w:World) (hs:vals.size=2):CallsD Try.prog 75 vals .returning w fun e u1 w'=>e=.returned (.tuple #[])∧u1=.returning∧w'=w:=by
 obtain⟨l⟩:=vals
 match l,hs with
 |[a,b],_=>
  refine callsD_of_wpS Try.func75 rfl fun c₀ cs hu=>?_
  apply wpS_seq
  apply wpS_region
  simp[wpOpsS,go_sem,recoverD,hu,Try.ntmps75,Exit.thenS]
  apply wpS_seq
  apply wpS_region
  simp[wpOpsS,go_sem,Exit.thenS]
  refine wpS_cond (t:=false) (by simp[Act.eval,Array.replicate]) ?_
  simp only[Bool.false_eq_true,if_false]
  refine wpS_of_wp (wp_skip ?_)
  cases c₀
  simp_all [bodyPostS,results,Try.results75]
theorem fHa:bSj Try.prog GLh 75 .returning .returning (fD 2):=dPj fCs
theorem fDp:cJ Try.prog 75:=⟨_,Try.func75,rfl,rfl⟩
def fAj:List AV→H→Nat→Option (H×Nat)
 |[.op i1 0,.op i2 0],hp,nx=>aN ((is6 (hp i1)=true∧eS (hp i2)=true)∧i1≠i2∧i1<nx∧i2<nx) (some (upd (upd hp i1 (.cells [.w8 0#8,.w8 0#8,.w16 0#16,.v (.slice none 0 0),.v (.slice none 0 0),.v (.slice none 0 0)] true)) i2 (.cells [.i 50] true),nx+30))
 |_,_,_=>none
theorem fAi (i1 i2 nx:Nat) (hp:H):fAj [.op i1 0,.op i2 0] hp nx=aN ((is6 (hp i1)=true∧eS (hp i2)=true)∧i1≠i2∧i1<nx∧i2<nx) (some (upd (upd hp i1 (.cells [.w8 0#8,.w8 0#8,.w16 0#16,.v (.slice none 0 0),.v (.slice none 0 0),.v (.slice none 0 0)] true)) i2 (.cells [.i 50] true),nx+30)):=(rfl)
attribute [go_sem] fAi
set_option maxHeartbeats 4000000 in
theorem fAh:bSj Try.prog GLh 75 (.panicking chM) (.panicking [{v:=.iface 117 (.agg #[]),recovered:=true}]) fAj:=by
 refine fZ (rest:=(cr (aE Try.f75))) (rv:=.iface 117 (.agg #[])) (a:=6) (b:=2) Try.func75 rfl (.inl rfl) ⟨J1 rfl,J1 rfl⟩ ?_
 intro args hp nx hp' nx' hg
 unfold fAj at hg
 split at hg
 ·rename_i i1 i2
  replace hg:=aP hg;obtain⟨⟨⟨o1,o2⟩,n12,l1,l2⟩,hg⟩:=hg
  simp only[Option.some.injEq,Prod.mk.injEq]at hg;obtain⟨rfl,rfl⟩:=hg
  obtain⟨x0,x1,x2,x3,x4,x5,h1⟩:=eYy o1
  obtain⟨y,h2⟩:=eG o2
  refine⟨J1 rfl,Nat.le_add_right _ _,fun hno=>?_⟩
  simp only[aOo]
  refine aA rfl (aW [8,0,1,2] rfl rfl rfl fun K hK=>?_)
  simp(disch:=omega) only[Try.f75,go_sem,↓reduceIte]
  refine hK _ ?_
  refine aB (eC (.tmp 8) rfl rfl rfl (fun h=>?_) (fun h=>?_))
  ·refine aI rfl (aA rfl (aA rfl (aW [0,1,2,4] rfl rfl rfl fun K hK=>?_)))
   simp(disch:=omega) only[Try.f75,go_sem,↓reduceIte]
   refine hK _ ?_
   refine aB (aA rfl (aW [15,0,1,2] rfl rfl rfl fun K hK=>?_))
   simp(disch:=omega) only[Try.f75,go_sem,↓reduceIte]
   refine hK _ ?_
   refine aB (eC (.tmp 15) rfl rfl rfl (fun h=>?_) (fun h=>?_))
   ·refine aI rfl ?_
    cases h
   refine aI rfl ?_
   clear h
   refine aQ rfl (aB (aA rfl (aW [0,1,5] rfl rfl rfl fun K hK=>?_)))
   simp(disch:=omega) only[Try.f75,go_sem,↓reduceIte]
   refine hK _ ?_
   refine aB (aW [] rfl rfl rfl fun K hK=>?_)
   simp(disch:=omega) only[Try.f75,go_sem,↓reduceIte,h1,h2]
   refine hK _ ?_
   exact⟨rfl,eKv hno (by omega) (by omega),by simp only;omega⟩
  refine aI rfl ?_
  cases h
 cases hg
def eNc:List AV→Option AV
 |[.sl n xs,.fn 58 []]=>aK (cI xs) fun l=>aN (l.length=n∧n≤100000) (some (rdT (.agg [.w8 0#8,.w8 0#8,.w16 0#16,.sl 0 [],.sl 0 [],.sl 0 []]) l.length (gW l)))
 |_=>none
theorem eSs (n:Nat) (xs:List AV):eNc [.sl n xs,.fn 58 []]=aK (cI xs) fun l=>aN (l.length=n∧n≤100000) (some (rdT (.agg [.w8 0#8,.w8 0#8,.w16 0#16,.sl 0 [],.sl 0 [],.sl 0 []]) l.length (gW l))):=(rfl)
attribute [go_sem] eSs
set_option maxHeartbeats 4000000 in
theorem eVe:cL Try.prog GLh 57 eNc:=by
 refine cUy (r0:=(cl (aE Try.f57))) (C:=(cr (cr (aE Try.f57)))) (k:=7) (d:=75) (caps:= #[.tmp 4,.tmp 5]) Try.func57 rfl (J1 rfl) fDp fHa fAh rfl ?_
 intro args r hg
 unfold eNc at hg
 split at hg
 ·rename_i n xs
  replace hg:=aJ hg;obtain⟨l,hl,hg⟩:=hg
  replace hg:=aP hg;obtain⟨⟨rfl,hnb⟩,hg⟩:=hg
  obtain rfl:=J0 hg
  have:=bW hl;subst this
  refine⟨J1 rfl,fun nx=>⟨[.op nx 0,.op (nx+1) 0],?_⟩⟩
  clear hl hg
  have hcs:=eMf l
  refine aW [0,1,4,5] rfl rfl rfl fun K hK=>?_
  simp(disch:=omega) only[Try.f57,go_sem,↓reduceIte]
  refine hK _ ?_
  refine⟨rfl,?_⟩
  simp only[dBa]
  refine aA rfl (aW [0,1,4,5,6] rfl rfl rfl fun K hK=>?_)
  simp(disch:=omega) only[Try.f57,go_sem,↓reduceIte]
  refine hK _ ?_
  refine aB ?_
  rcases hcs with e2|⟨v1,v2,v3,v4,v5,v6,p,e2⟩
  ·refine aA rfl (dCn (Γ:=aL) 2 (eWw) fDw (aD _ _) rfl rfl rfl (fun Z hZ=>?_))
   simp(disch:=omega) only[Try.f57,go_sem,↓reduceIte,bG,eq_self,true_and,bP,List.map_cons,List.map_nil,List.append_nil,e2,U0,U1]
   refine hZ _ ?_;clear hZ Z
   refine hX (gI:=fD 2) (p:=_) (by simp(disch:=omega) only[go_sem,aV,kE,bY,↓reduceIte];rfl) ?_
   rw[e2,eOd]
   simp(disch:=omega) only[bV,bK,bQ,Try.f57,go_sem,aV,bY,↓reduceIte]
  refine aA rfl (aC (Γ:=bC [(58,.heap (rdH eMi))]) [0,4,5,6] (aH eJv aO) rfl rfl rfl (fun K hK=>?_))
  simp(disch:=omega) only[Try.f57,go_sem,↓reduceIte,e2]
  refine hK _ ?_
  refine aB ?_
  by_cases hp:(p:Int)=(l.length:Int)
  ·have hd:decide ((p:Int)=(l.length:Int))=true:=J5 hp
   refine aA rfl (aC (Γ:=bC [(60,.pure true eM)]) [4,5] (aH rP aO) rfl rfl rfl (fun K hK=>?_))
   simp(disch:=omega) only[Try.f57,go_sem,↓reduceIte,hd]
   refine hK _ ?_
   refine aB (aA rfl (aW [4,5] rfl rfl rfl fun K hK=>?_))
   simp(disch:=omega) only[Try.f57,go_sem,↓reduceIte]
   refine hK _ ?_
   refine aB (aS rfl (rO (gP:=fAj) (ch:=chM) (p:=_) (eKm _ _ _ _) ?_))
   rw[e2,fO _ _ _ hp]
   simp(disch:=omega) only[bV,bK,bQ,Try.f57,go_sem,aV,bY,↓reduceIte]
  have hd:decide ((p:Int)=(l.length:Int))=false:=J6 hp
  refine aA rfl (dCn (Γ:=bC [(60,.pure true eM)]) 7 (fC) rD (aH rP aO) rfl rfl rfl (fun Z hZ=>?_))
  simp(disch:=omega) only[Try.f57,go_sem,↓reduceIte,bG,eq_self,true_and,bP,List.map_cons,List.map_nil,List.append_nil,hd,U0,U1]
  refine hZ _ ?_;clear hZ Z
  refine hX (gI:=fD 2) (p:=_) (by simp(disch:=omega) only[go_sem,aV,bY,↓reduceIte];rfl) ?_
  rw[e2,iD _ _ _ hp]
  simp(disch:=omega) only[bV,bK,bQ,Try.f57,go_sem,aV,bY,↓reduceIte]
 cases hg
theorem ok57:bX Try.prog GLh 57 (.pure false eNc):=⟨⟨_,Try.func57,rfl,rfl⟩,eVe⟩
end Go.AX

namespace Go.AX
open Go Go.Proofs
set_option maxRecDepth 20000
theorem eRj (l:List B8): ∃(v1:BitVec 16) (v2 v3:B8) (v4 v5 v6:BitVec 32) (v7:BitVec 16) (v8:Nm) (v9:List B8),rdT (.agg [.w16 0#16,.w8 0#8,.w8 0#8,.w32 0#32,.w32 0#32,.w32 0#32,.w16 0#16,.sl 0 [],.sl 0 []]) l.length (eY l)=.tup [.agg [.w16 v1,.w8 v2,.w8 v3,.w32 v4,.w32 v5,.w32 v6,.w16 v7,.sl v8.length (cS v8),.sl v9.length (c8 v9)],.i (rdE l.length (eY l))]:=by
 rcases eMb l with e|⟨v1,v2,v3,v4,v5,v6,v7,v8,v9,p,e⟩
 ·exact⟨0,0,0,0,0,0,0,[],[],by rw[e];rfl⟩
 rw[e]
 by_cases hp:(p:Int)=(l.length:Int)
 ·exact⟨v1,v2,v3,v4,v5,v6,v7,v8,v9,by rw[fO _ _ _ hp,eNd _ _ hp]⟩
 exact⟨0,0,0,0,0,0,0,[],[],by rw[iD _ _ _ hp,eLn _ _ hp];rfl⟩
def eSe (l:List B8):AV:=rdT (.agg [.w16 0#16,.w8 0#8,.w8 0#8,.w32 0#32,.w32 0#32,.w32 0#32,.w16 0#16,.sl 0 [],.sl 0 []]) l.length (eY l)
def eSf:List AV→Option AV
 |[.sl n xs]=>aK (cI xs) fun l=>aN (l.length=n∧n≤100000) (some (eSe l))
 |_=>none
theorem eYc (n:Nat) (xs:List AV):eSf [.sl n xs]=aK (cI xs) fun l=>aN (l.length=n∧n≤100000) (some (eSe l)):=(rfl)
attribute [go_sem] eYc
set_option maxHeartbeats 4000000 in
theorem fBt:cL Try.prog GLh 23 eSf:=by
 refine cC Try.func23 (aT rfl) ?_
 intro args r hg
 unfold eSf at hg
 split at hg
 ·rename_i n xs
  replace hg:=aJ hg;obtain⟨l,hl,hg⟩:=hg
  replace hg:=aP hg;obtain⟨⟨rfl,hn⟩,hg⟩:=hg
  obtain rfl:=J0 hg
  have:=bW hl;subst this
  refine⟨J1 rfl,fun nx=>?_⟩
  clear hl hg
  obtain⟨v1,v2,v3,v4,v5,v6,v7,v8,v9,hv⟩:=eRj l
  unfold eSe
  obtain⟨e,he⟩: ∃e,rdE l.length (eY l)=e:=⟨_,rfl⟩
  rw[he]at hv
  rw[hv]
  refine aA rfl (aW [0,2] rfl rfl rfl fun K hK=>?_)
  simp(disch:=omega) only[Try.f23,go_sem,↓reduceIte]
  refine hK _ ?_
  refine aB (aA rfl (aC (Γ:=bC [(54,.pure false eMz),(55,.heap (rdH eLz))]) [2,3] (aH ok54 (aH fFk aO)) rfl rfl rfl (fun K hK=>?_)))
  simp(disch:=omega) only[Try.f23,go_sem,↓reduceIte,hv]
  refine hK _ ?_
  refine aB (aS rfl ?_)
  simp(disch:=omega) only[cN,bV,bK,bQ,Try.f23,go_sem,↓reduceIte]
 cases hg
theorem cWr:bX Try.prog GLh 23 (.pure false eSf):=⟨⟨_,Try.func23,rfl,rfl⟩,fBt⟩
theorem eRl (l:List B8): ∃(v1 v2:B8) (v3:BitVec 16) (v4 v5:List B8) (v6:List T16),rdT (.agg [.w8 0#8,.w8 0#8,.w16 0#16,.sl 0 [],.sl 0 [],.sl 0 []]) l.length (gW l)=.tup [.agg [.w8 v1,.w8 v2,.w16 v3,.sl v4.length (c8 v4),.sl v5.length (c8 v5),.sl v6.length (c16 v6)],.i (rdE l.length (gW l))]:=by
 rcases eMf l with e|⟨v1,v2,v3,v4,v5,v6,p,e⟩
 ·exact⟨0,0,0,[],[],[],by rw[e];rfl⟩
 rw[e]
 by_cases hp:(p:Int)=(l.length:Int)
 ·exact⟨v1,v2,v3,v4,v5,v6,by rw[fO _ _ _ hp,eNd _ _ hp]⟩
 exact⟨0,0,0,[],[],[],by rw[iD _ _ _ hp,eLn _ _ hp];rfl⟩
def eZm (l:List B8):AV:=rdT (.agg [.w8 0#8,.w8 0#8,.w16 0#16,.sl 0 [],.sl 0 [],.sl 0 []]) l.length (gW l)
def eWv:List AV→Option AV
 |[.sl n xs]=>aK (cI xs) fun l=>aN (l.length=n∧n≤100000) (some (eZm l))
 |_=>none
theorem eZn (n:Nat) (xs:List AV):eWv [.sl n xs]=aK (cI xs) fun l=>aN (l.length=n∧n≤100000) (some (eZm l)):=(rfl)
attribute [go_sem] eZn
set_option maxHeartbeats 4000000 in
theorem fDg:cL Try.prog GLh 27 eWv:=by
 refine cC Try.func27 (aT rfl) ?_
 intro args r hg
 unfold eWv at hg
 split at hg
 ·rename_i n xs
  replace hg:=aJ hg;obtain⟨l,hl,hg⟩:=hg
  replace hg:=aP hg;obtain⟨⟨rfl,hn⟩,hg⟩:=hg
  obtain rfl:=J0 hg
  have:=bW hl;subst this
  refine⟨J1 rfl,fun nx=>?_⟩
  clear hl hg
  obtain⟨v1,v2,v3,v4,v5,v6,hv⟩:=eRl l
  unfold eZm
  obtain⟨e,he⟩: ∃e,rdE l.length (gW l)=e:=⟨_,rfl⟩
  rw[he]at hv
  rw[hv]
  refine aA rfl (aW [0,2] rfl rfl rfl fun K hK=>?_)
  simp(disch:=omega) only[Try.f27,go_sem,↓reduceIte]
  refine hK _ ?_
  refine aB (aA rfl (aC (Γ:=bC [(57,.pure false eNc),(58,.heap (rdH eMi))]) [2,3] (aH ok57 (aH eJv aO)) rfl rfl rfl (fun K hK=>?_)))
  simp(disch:=omega) only[Try.f27,go_sem,↓reduceIte,hv]
  refine hK _ ?_
  refine aB (aS rfl ?_)
  simp(disch:=omega) only[cN,bV,bK,bQ,Try.f27,go_sem,↓reduceIte]
 cases hg
theorem ok27:bX Try.prog GLh 27 (.pure false eWv):=⟨⟨_,Try.func27,rfl,rfl⟩,fDg⟩
def gJ (t:BitVec 16) (l:List B8):Int:=if 8192<l.length then 50 else if t=6#16 then rdE l.length (eX l)else if t=46#16 then rdE l.length (eY l)else if t=50#16 then rdE l.length (gW l)else if t=48#16 then rdE l.length (gE l)else rdE l.length (eKo l (shp t l))
def eNq:List AV→Option AV
 |[.w16 t,.sl n xs]=>aK (cI xs) fun l=>aN (l.length=n∧n≤100000) (some (.i (gJ t l)))
 |_=>none
theorem eWy (t:BitVec 16) (n:Nat) (xs:List AV):eNq [.w16 t,.sl n xs]=aK (cI xs) fun l=>aN (l.length=n∧n≤100000) (some (.i (gJ t l))):=(rfl)
attribute [go_sem] eWy
set_option maxHeartbeats 4000000 in
theorem eZr:cL Try.prog GLh 13 eNq:=by
 refine cC Try.func13 (aT rfl) ?_
 intro args r hg
 unfold eNq at hg
 split at hg
 ·rename_i t n xs
  replace hg:=aJ hg;obtain⟨l,hl,hg⟩:=hg
  replace hg:=aP hg;obtain⟨⟨rfl,hn⟩,hg⟩:=hg
  obtain rfl:=J0 hg
  have:=bW hl;subst this
  refine⟨J1 rfl,fun nx=>?_⟩
  clear hl hg
  unfold gJ
  refine aA rfl (aW [1,2] rfl rfl rfl fun K hK=>?_)
  simp(disch:=omega) only[Try.f13,go_sem,↓reduceIte]
  refine hK _ ?_
  refine aB (aA rfl (aA rfl (aW [8,1,2] rfl rfl rfl fun K hK=>?_)))
  simp(disch:=omega) only[Try.f13,go_sem,↓reduceIte]
  refine hK _ ?_
  refine aB (bA (.tmp 8) rfl rfl rfl (fun h=>?_) (fun h=>?_))
  ·refine aI rfl ?_
   rw[J4 (by omega)]
   refine aA rfl (aW [4] rfl rfl rfl fun K hK=>?_)
   simp(disch:=omega) only[Try.f13,go_sem,↓reduceIte]
   refine hK _ ?_
   refine aB (aS rfl (bI ?_))
   simp(disch:=omega) only[cN,bV,bK,bQ,Try.f13,go_sem,↓reduceIte]
  refine aI rfl ?_
  rw[J3 (by omega)]
  refine aQ rfl (aB (aA rfl (aW [1,2] rfl rfl rfl fun K hK=>?_)))
  simp(disch:=omega) only[Try.f13,go_sem,↓reduceIte]
  refine hK _ ?_
  refine aB (aA rfl (aA rfl (aW [1,2,9] rfl rfl rfl fun K hK=>?_)))
  simp(disch:=omega) only[Try.f13,go_sem,↓reduceIte]
  refine hK _ ?_
  refine aB (aR 0 rfl rfl (aA rfl (aW [16,1,2,9] rfl rfl rfl fun K hK=>?_)))
  simp(disch:=omega) only[Try.f13,go_sem,↓reduceIte]
  refine hK _ ?_
  refine aB (bA (.tmp 16) rfl rfl rfl (fun h=>?_) (fun h=>?_))
  ·refine aI rfl ?_
   rw[J4 h]
   obtain⟨v1,v2,v3,v4,v5,v6,v7,hv⟩:=eRi l
   obtain⟨e,he⟩: ∃e,rdE l.length (eX l)=e:=⟨_,rfl⟩
   rw[he]at hv⊢
   refine aC (Γ:=bC [(18,.pure false eQo)]) [5] (aH eBs aO) rfl rfl rfl (fun K hK=>?_)
   simp(disch:=omega) only[Try.f13,go_sem,↓reduceIte,ePm,hv]
   refine hK _ ?_
   refine bU (aB (aA rfl (aW [4] rfl rfl rfl fun K hK=>?_)))
   simp(disch:=omega) only[Try.f13,go_sem,↓reduceIte]
   refine hK _ ?_
   refine aB (aS rfl ?_)
   simp(disch:=omega) only[cN,bV,bK,bQ,Try.f13,go_sem,↓reduceIte]
  refine aI rfl ?_
  rw[J3 h]
  refine aA rfl (aW [23,1,2,9] rfl rfl rfl fun K hK=>?_)
  simp(disch:=omega) only[Try.f13,go_sem,↓reduceIte]
  refine hK _ ?_
  refine aB (bA (.tmp 23) rfl rfl rfl (fun h=>?_) (fun h=>?_))
  ·refine aI rfl ?_
   rw[J4 h]
   obtain⟨v1,v2,v3,v4,v5,v6,v7,v8,v9,hv⟩:=eRj l
   obtain⟨e,he⟩: ∃e,rdE l.length (eY l)=e:=⟨_,rfl⟩
   rw[he]at hv⊢
   refine aC (Γ:=bC [(23,.pure false eSf)]) [5] (aH cWr aO) rfl rfl rfl (fun K hK=>?_)
   simp(disch:=omega) only[Try.f13,go_sem,↓reduceIte,eSe,hv]
   refine hK _ ?_
   refine bU (aB (aA rfl (aW [4] rfl rfl rfl fun K hK=>?_)))
   simp(disch:=omega) only[Try.f13,go_sem,↓reduceIte]
   refine hK _ ?_
   refine aB (aS rfl ?_)
   simp(disch:=omega) only[cN,bV,bK,bQ,Try.f13,go_sem,↓reduceIte]
  refine aI rfl ?_
  rw[J3 h]
  refine aA rfl (aW [30,1,2,9] rfl rfl rfl fun K hK=>?_)
  simp(disch:=omega) only[Try.f13,go_sem,↓reduceIte]
  refine hK _ ?_
  refine aB (bA (.tmp 30) rfl rfl rfl (fun h=>?_) (fun h=>?_))
  ·refine aI rfl ?_
   rw[J4 h]
   obtain⟨v1,v2,v3,v4,v5,v6,hv⟩:=eRl l
   obtain⟨e,he⟩: ∃e,rdE l.length (gW l)=e:=⟨_,rfl⟩
   rw[he]at hv⊢
   refine aC (Γ:=bC [(27,.pure false eWv)]) [5] (aH ok27 aO) rfl rfl rfl (fun K hK=>?_)
   simp(disch:=omega) only[Try.f13,go_sem,↓reduceIte,eZm,hv]
   refine hK _ ?_
   refine bU (aB (aA rfl (aW [4] rfl rfl rfl fun K hK=>?_)))
   simp(disch:=omega) only[Try.f13,go_sem,↓reduceIte]
   refine hK _ ?_
   refine aB (aS rfl ?_)
   simp(disch:=omega) only[cN,bV,bK,bQ,Try.f13,go_sem,↓reduceIte]
  refine aI rfl ?_
  rw[J3 h]
  refine aA rfl (aW [37,1,2] rfl rfl rfl fun K hK=>?_)
  simp(disch:=omega) only[Try.f13,go_sem,↓reduceIte]
  refine hK _ ?_
  refine aB (bA (.tmp 37) rfl rfl rfl (fun h=>?_) (fun h=>?_))
  ·refine aI rfl ?_
   rw[J4 h]
   obtain⟨v1,v2,v3,v4,hv⟩:=eRk l
   obtain⟨e,he⟩: ∃e,rdE l.length (gE l)=e:=⟨_,rfl⟩
   rw[he]at hv⊢
   refine aC (Γ:=bC [(31,.pure false dJl)]) [5] (aH fFp aO) rfl rfl rfl (fun K hK=>?_)
   simp(disch:=omega) only[Try.f13,go_sem,↓reduceIte,eWc,hv]
   refine hK _ ?_
   refine bU (aB (aA rfl (aW [4] rfl rfl rfl fun K hK=>?_)))
   simp(disch:=omega) only[Try.f13,go_sem,↓reduceIte]
   refine hK _ ?_
   refine aB (aS rfl ?_)
   simp(disch:=omega) only[cN,bV,bK,bQ,Try.f13,go_sem,↓reduceIte]
  refine aI rfl ?_
  rw[J3 h]
  have hv:=eYh t l
  obtain⟨e,he⟩: ∃e,rdE l.length (eKo l (shp t l))=e:=⟨_,rfl⟩
  rw[he]at hv⊢
  refine aC (Γ:=bC [(41,.heap (rdH eMj)),(40,.heap (bOt 41 eNb))]) [5] (aH fFo (aH ok40 aO)) rfl rfl rfl (fun K hK=>?_)
  simp(disch:=omega) only[Try.f13,go_sem,↓reduceIte,hv]
  refine hK _ ?_
  refine bU (aB (aA rfl (aW [4] rfl rfl rfl fun K hK=>?_)))
  simp(disch:=omega) only[Try.f13,go_sem,↓reduceIte]
  refine hK _ ?_
  refine aB (aS rfl ?_)
  simp(disch:=omega) only[cN,bV,bK,bQ,Try.f13,go_sem,↓reduceIte]
 cases hg
theorem eVm:bX Try.prog GLh 13 (.pure true eNq):=⟨⟨_,Try.func13,rfl,rfl⟩,eZr⟩
end Go.AX

namespace Go.AX
open Go Go.Proofs
theorem eQj (n:Nm):wl (dJ n)=wl n:=by rw[←fS,←fS,eLl]
theorem fDl {t:BitVec 16} (h:tgT t) (l:List B8):gJ t l=eZs t l:=by
 obtain⟨a1,a2,_,_,a5,a6⟩:=eUa h
 unfold gJ eZs
 rw[J3 a5,J3 a6]
theorem dQi {len:Nat} {o:Option (AV×List AV)} (h:rdE len o=0): ∃v s,o=some (v,[s,.i (len:Int)]):=by
 unfold rdE at h
 split at h
 ·split at h
  ·rename_i v s p e;subst e;exact⟨v,s,rfl⟩
  cases h
 cases h
theorem eZo {l:List B8} (h0:gJ 6#16 l=0): ∃n m p,nm2 l=some (n,m,p)∧p+4+4+4+4+4=l.length∧wl n≤255∧wl m≤255∧ePm l=.tup [eUm l n m p,.i 0]:=by
 unfold gJ at h0
 split at h0
 ·cases h0
 rw[J4 rfl]at h0
 obtain⟨v,s,e⟩:=dQi h0
 unfold ePm
 rw[e,fO _ _ _ rfl]
 unfold eX at e
 rcases hn:nm2 l with _|⟨n,m,p⟩
 ·rw[hn]at e;cases e
 rw[hn]at e
 simp only[eOb]at e
 split at e
 ·rename_i hle
  simp only[Option.some.injEq,Prod.mk.injEq,List.cons.injEq,AV.i.injEq,and_true]at e
  obtain⟨e1,_,e2⟩:=e
  have hw:wl n≤255∧wl m≤255:=by
   unfold nm2 at hn
   rcases h1:nmO l with _|⟨n',s'⟩
   ·rw[h1]at hn;cases hn
   rw[h1]at hn
   simp only at hn
   rcases h2:nmO (l.drop s')with _|⟨m',s2'⟩
   ·rw[h2]at hn;cases hn
   rw[h2]at hn
   simp only[Option.some.injEq,Prod.mk.injEq]at hn
   obtain⟨rfl,rfl,rfl⟩:=hn
   exact⟨(eLv h1).2.1,(eLv h2).2.1⟩
  exact⟨n,m,p,rfl,by omega,hw.1,hw.2,by rw[e1]⟩
 cases e
theorem eZp {l:List B8} (h0:gJ 46#16 l=0): ∃n s,nmO (l.drop 18)=some (n,s)∧18+s≤l.length∧wl n≤255∧eSe l=.tup [eUr l n (18+s),.i 0]:=by
 unfold gJ at h0
 split at h0
 ·cases h0
 rw[J3 (by decide),J4 rfl]at h0
 obtain⟨v,s,e⟩:=dQi h0
 unfold eSe
 rw[e,fO _ _ _ rfl]
 unfold eY at e
 split at e
 ·rename_i h18
  rcases hn:nmO (l.drop 18)with _|⟨n,s⟩
  ·rw[hn]at e;cases e
  rw[hn]at e
  simp only[eRg,Option.some.injEq,Prod.mk.injEq]at e
  have:=eOw hn
  rw[List.length_drop]at this
  exact⟨n,s,rfl,by omega,(eLv hn).2.1,by rw[e.1]⟩
 cases e
def fFa (l:List B8):List B8:=match nm2 l with
 |some (n,m,p)=>rF (dJ n) (dJ m) [dX l p,dX l (p+4),dX l (p+4+4),dX l (p+4+4+4),dX l (p+4+4+4+4)]
 |none=>[]
def fFc (l:List B8):List B8:=match nmO (l.drop 18)with
 |some (n,s)=>eSg ((eK (l.take 2)).setWidth 16) (l.getD 2 0#8) (l.getD 3 0#8) [dX l 4,dX l 8,dX l 12] ((eK ((l.drop 16).take 2)).setWidth 16) (dJ n) (l.drop (18+s))
 |none=>[]
def gA (t:BitVec 16) (l:List B8):List B8:=if tgT t then l.take (ahd t)++cM (dJ (nmN t l))else if t=6#16 then fFa l else if t=46#16 then fFc l else l
def eRw (t:BitVec 16) (l:List B8):AV:=if gJ t l=0 then .tup [.sl (gA t l).length (c8 (gA t l)),.i 0]else .tup [.sl 0 [],.i (gJ t l)]
def eQd:List AV→Option AV
 |[.w16 t,.sl n xs]=>aK (cI xs) fun l=>aN (l.length=n∧n≤100000) (some (eRw t l))
 |_=>none
theorem eXe (t:BitVec 16) (n:Nat) (xs:List AV):eQd [.w16 t,.sl n xs]=aK (cI xs) fun l=>aN (l.length=n∧n≤100000) (some (eRw t l)):=(rfl)
attribute [go_sem] eXe
set_option maxHeartbeats 8000000 in
theorem eZy:cL Try.prog GLh 10 eQd:=by
 refine cC Try.func10 (aT rfl) ?_
 intro args r hg
 unfold eQd at hg
 split at hg
 ·rename_i t n xs
  replace hg:=aJ hg;obtain⟨l,hl,hg⟩:=hg
  replace hg:=aP hg;obtain⟨⟨rfl,hn⟩,hg⟩:=hg
  obtain rfl:=J0 hg
  have:=bW hl;subst this
  clear hg hl
  refine⟨J1 rfl,fun nx=>?_⟩
  unfold eRw
  have hct:tgT t→gJ t l=0→∃n s,nmO (l.drop (ahd t))=some (n,s)∧ahd t+s=l.length∧eMt t l=.tup [.sl n.length (cS n),.i 0]:=fun h h0=>fDj h (by rw[←fDl h];exact h0)
  have hlt:(l.take (ahd t)).length=min (ahd t) l.length:=List.length_take
  unfold gA nmN
  obtain⟨e,he⟩: ∃e,gJ t l=e:=⟨_,rfl⟩
  rw[he]at hct⊢
  refine aA rfl (aW [0,1] rfl rfl rfl fun K hK=>?_)
  simp(disch:=omega) only[Try.f10,go_sem,↓reduceIte]
  refine hK _ ?_
  refine aB (aA rfl (aA rfl (aC (Γ:=bC [(13,.pure true eNq)]) [0,1,6] (aH eVm aO) rfl rfl rfl (fun K hK=>?_))))
  simp(disch:=omega) only[Try.f10,go_sem,↓reduceIte,he]
  refine hK _ ?_
  refine aB (aA rfl (aW [17,0,1,6] rfl rfl rfl fun K hK=>?_))
  simp(disch:=omega) only[Try.f10,go_sem,↓reduceIte]
  refine hK _ ?_
  refine aB ?_
  by_cases h0:e=0
  ·subst h0
   rw[J4 rfl]
   refine eC (.tmp 17) rfl rfl rfl (fun h=>?_) (fun h=>?_)
   ·exact aI rfl (absurd h (by decide))
   refine aI rfl ?_
   clear h
   refine aQ rfl (aB (aA rfl (aA rfl (aW [0,1,19] rfl rfl rfl fun K hK=>?_))))
   simp(disch:=omega) only[Try.f10,go_sem,↓reduceIte]
   refine hK _ ?_
   refine aB (aR 0 rfl rfl (aA rfl (aA rfl (aW [0,1,19,20] rfl rfl rfl fun K hK=>?_))))
   simp(disch:=omega) only[Try.f10,go_sem,↓reduceIte]
   refine hK _ ?_
   refine aB (bA (.tmp 20) rfl rfl rfl (fun h=>?_) (fun h=>?_))
   ·have h2:=h
    refine aQ rfl (aB (bA (.tmp 20) rfl rfl rfl (fun h=>?_) (fun h=>?_)))
    ·have htg:tgT t:=.inl h2
     obtain⟨n,s,q1,q2,q3⟩:=hct htg rfl
     obtain⟨w1,w2,w3⟩:=eLv q1
     have w4:=fS n
     have w5:=eLl n
     have ha:=ePd t
     rw[J4 htg,q1]
     have hta:(l.take (ahd t)).length=ahd t:=by rw[hlt];omega
     have hall:(cM (dJ n)).length=(eF (dJ n)).length+1:=by simp[cM]
     refine aA rfl (aC (Γ:=bC [(17,.pure false tgG)]) [0,1,7] (aH eSw aO) rfl rfl rfl (fun K hK=>?_))
     simp(disch:=omega) only[Try.f10,go_sem,↓reduceIte,q3]
     refine hK _ ?_
     refine aB (aA rfl (aC (Γ:=bC [(37,.pure true eKn),(36,.fresh true dDv),(39,.fresh true iF),(38,.fresh true rG)]) [4,5] (aH eVl (aH cWp (aH eVj (aH eVk aO)))) rfl rfl rfl (fun K hK=>?_)))
     simp(disch:=omega) only[Try.f10,go_sem,↓reduceIte,U2,Nat.sub_zero,hta,hall]
     refine hK _ ?_
     refine aB (aS rfl (bN (bI ?_)))
     simp(disch:=omega) only[cN,bV,bK,bQ,Try.f10,go_sem,↓reduceIte]
     rw[hta,hall,List.take_of_length_le (by rw[List.length_append,hta,hall];exact U3 _)]
    exact absurd h2 h
   have h2:=h
   refine aA rfl (aW [0,1,19,20] rfl rfl rfl fun K hK=>?_)
   simp(disch:=omega) only[Try.f10,go_sem,↓reduceIte]
   refine hK _ ?_
   refine aB (bA (.tmp 20) rfl rfl rfl (fun h=>?_) (fun h=>?_))
   ·have h5:=h
    refine aQ rfl (aB (bA (.tmp 20) rfl rfl rfl (fun h=>?_) (fun h=>?_)))
    ·have htg:tgT t:=.inr (.inl h5)
     obtain⟨n,s,q1,q2,q3⟩:=hct htg rfl
     obtain⟨w1,w2,w3⟩:=eLv q1
     have w4:=fS n
     have w5:=eLl n
     have ha:=ePd t
     rw[J4 htg,q1]
     have hta:(l.take (ahd t)).length=ahd t:=by rw[hlt];omega
     have hall:(cM (dJ n)).length=(eF (dJ n)).length+1:=by simp[cM]
     refine aA rfl (aC (Γ:=bC [(17,.pure false tgG)]) [0,1,7] (aH eSw aO) rfl rfl rfl (fun K hK=>?_))
     simp(disch:=omega) only[Try.f10,go_sem,↓reduceIte,q3]
     refine hK _ ?_
     refine aB (aA rfl (aC (Γ:=bC [(37,.pure true eKn),(36,.fresh true dDv),(39,.fresh true iF),(38,.fresh true rG)]) [4,5] (aH eVl (aH cWp (aH eVj (aH eVk aO)))) rfl rfl rfl (fun K hK=>?_)))
     simp(disch:=omega) only[Try.f10,go_sem,↓reduceIte,U2,Nat.sub_zero,hta,hall]
     refine hK _ ?_
     refine aB (aS rfl (bN (bI ?_)))
     simp(disch:=omega) only[cN,bV,bK,bQ,Try.f10,go_sem,↓reduceIte]
     rw[hta,hall,List.take_of_length_le (by rw[List.length_append,hta,hall];exact U3 _)]
    exact absurd h5 h
   have h5:=h
   refine aW [20,0,1,19] rfl rfl rfl fun K hK=>?_
   simp(disch:=omega) only[Try.f10,go_sem,↓reduceIte]
   refine hK _ ?_
   refine aB (bA (.tmp 20) rfl rfl rfl (fun h=>?_) (fun h=>?_))
   ·refine aI rfl ?_
    have htg:tgT t:=.inr (.inr h)
    obtain⟨n,s,q1,q2,q3⟩:=hct htg rfl
    obtain⟨w1,w2,w3⟩:=eLv q1
    have w4:=fS n
    have w5:=eLl n
    have ha:=ePd t
    rw[J4 htg,q1]
    have hta:(l.take (ahd t)).length=ahd t:=by rw[hlt];omega
    have hall:(cM (dJ n)).length=(eF (dJ n)).length+1:=by simp[cM]
    refine aA rfl (aC (Γ:=bC [(17,.pure false tgG)]) [0,1,7] (aH eSw aO) rfl rfl rfl (fun K hK=>?_))
    simp(disch:=omega) only[Try.f10,go_sem,↓reduceIte,q3]
    refine hK _ ?_
    refine aB (aA rfl (aC (Γ:=bC [(37,.pure true eKn),(36,.fresh true dDv),(39,.fresh true iF),(38,.fresh true rG)]) [4,5] (aH eVl (aH cWp (aH eVj (aH eVk aO)))) rfl rfl rfl (fun K hK=>?_)))
    simp(disch:=omega) only[Try.f10,go_sem,↓reduceIte,U2,Nat.sub_zero,hta,hall]
    refine hK _ ?_
    refine aB (aS rfl (bN (bI ?_)))
    simp(disch:=omega) only[cN,bV,bK,bQ,Try.f10,go_sem,↓reduceIte]
    rw[hta,hall,List.take_of_length_le (by rw[List.length_append,hta,hall];exact U3 _)]
   refine aI rfl ?_
   rw[J3 (show¬tgT t from fun q=>q.elim h2 fun q=>q.elim h5 h)]
   refine aA rfl (aW [39,1,19] rfl rfl rfl fun K hK=>?_)
   simp(disch:=omega) only[Try.f10,go_sem,↓reduceIte]
   refine hK _ ?_
   refine aB (bA (.tmp 39) rfl rfl rfl (fun h=>?_) (fun h=>?_))
   ·refine aI rfl ?_
    have h6:=h
    subst h6
    obtain⟨n,m,p,q1,q2,q3,q4,q5⟩:=eZo he
    have l1:=eQj n
    have l2:=eQj m
    have l3:=fS n
    have l4:=fS m
    rw[J4 rfl]
    unfold fFa
    rw[q1]
    refine aA rfl (aC (Γ:=bC [(18,.pure false eQo)]) [9] (aH eBs aO) rfl rfl rfl (fun K hK=>?_))
    simp(disch:=omega) only[Try.f10,go_sem,↓reduceIte,q5,eUm]
    refine hK _ ?_
    refine aB (aA rfl (bB (Γ:=bC [(39,.fresh true iF)]) (fun k=>if k=5 then 0 else 2) [9] bZ (aH eVj aO) rfl rfl rfl (by kernel_rfl) (fun K hK=>?_)))
    simp(disch:=omega) only[Try.f10,go_sem,↓reduceIte]
    refine hK _ ?_
    refine aB (aA rfl (aC (Γ:=bC [(22,.fresh true ePn)]) [4,5] (aH cWs aO) rfl rfl rfl (fun K hK=>?_)))
    simp(disch:=omega) only[Try.f10,go_sem,↓reduceIte]
    refine hK _ ?_
    refine aB (aS rfl (bN (bI ?_)))
    simp(disch:=omega) only[cN,bV,bK,bQ,Try.f10,go_sem,↓reduceIte]
   refine aI rfl ?_
   rw[J3 h]
   refine aA rfl (aW [56,1] rfl rfl rfl fun K hK=>?_)
   simp(disch:=omega) only[Try.f10,go_sem,↓reduceIte]
   refine hK _ ?_
   refine aB (bA (.tmp 56) rfl rfl rfl (fun h=>?_) (fun h=>?_))
   ·refine aI rfl ?_
    have h46:=h
    subst h46
    obtain⟨n,s,q1,q2,q3,q5⟩:=eZp he
    have l1:=eQj n
    have l3:=fS n
    have hdl:(l.drop (18+s)).length=l.length-(18+s):=List.length_drop ..
    rw[J4 rfl]
    unfold fFc
    rw[q1]
    refine aA rfl (aC (Γ:=bC [(23,.pure false eSf)]) [11] (aH cWr aO) rfl rfl rfl (fun K hK=>?_))
    simp(disch:=omega) only[Try.f10,go_sem,↓reduceIte,q5,eUr]
    refine hK _ ?_
    refine aB (aA rfl (aC (Γ:=bC [(39,.fresh true iF)]) [11] (aH eVj aO) rfl rfl rfl (fun K hK=>?_)))
    simp(disch:=omega) only[Try.f10,go_sem,↓reduceIte]
    refine hK _ ?_
    refine aB (aA rfl (aC (Γ:=bC [(26,.fresh true ePo)]) [4,5] (aH ok26 aO) rfl rfl rfl (fun K hK=>?_)))
    simp(disch:=omega) only[Try.f10,go_sem,↓reduceIte,hdl]
    refine hK _ ?_
    refine aB (aS rfl (bN (bI ?_)))
    simp(disch:=omega) only[cN,bV,bK,bQ,Try.f10,go_sem,↓reduceIte]
   refine aI rfl ?_
   rw[J3 h]
   refine aQ rfl (bU (aB (aA rfl (aC (Γ:=bC [(36,.fresh true dDv)]) [4,5] (aH cWp aO) rfl rfl rfl (fun K hK=>?_)))))
   simp(disch:=omega) only[Try.f10,go_sem,↓reduceIte]
   refine hK _ ?_
   refine aB (aS rfl ?_)
   simp(disch:=omega) only[cN,bV,bK,bQ,Try.f10,go_sem,↓reduceIte]
  rw[J3 h0]
  refine eGn (.tmp 17) rfl rfl rfl (fun h=>?_) (fun h=>?_)
  ·refine aI rfl (aA rfl (aW [4,5] rfl rfl rfl fun K hK=>?_))
   simp(disch:=omega) only[Try.f10,go_sem,↓reduceIte]
   refine hK _ ?_
   refine aB (aS rfl (bI ?_))
   simp(disch:=omega) only[cN,bV,bK,bQ,Try.f10,go_sem,↓reduceIte]
  exact aI rfl (absurd h h0)
 cases hg
theorem fFq:bX Try.prog GLh 10 (.pure false eQd):=⟨⟨_,Try.func10,rfl,rfl⟩,eZy⟩
end Go.AX

namespace Go.AX
open Go Go.Proofs
theorem eOg (l:List B8):ePy l=BitVec.ofInt 8 (l.length:Int)::l:=rfl
theorem eMq (l:List B8) (n:Nm):cM (l::n)=ePy l++cM n:=by unfold cM;rw[eNx,List.append_assoc]
theorem aCo {l:List B8} (h:l.length≤255):(BitVec.ofInt 8 (l.length:Int)).toNat=l.length:=by rw[BitVec.toNat_ofInt];omega
def okN (n:Nm):Prop:=(∀l∈n,gZ l)∧wl n≤255
theorem ePs: ∀(n:Nm) (f:Nat) (r:List B8),(∀l∈n,gZ l)→n.length<f→opN f (cM n++r)=some (n,wl n)
 |[],f,r,_,hf=>by
  obtain⟨g,rfl⟩: ∃g,f=g+1:=⟨f-1,by omega⟩
  rfl
 |l::n,f,r,h,hf=>by
  obtain⟨g,rfl⟩: ∃g,f=g+1:=⟨f-1,by omega⟩
  obtain⟨h1,h2⟩:=h l (by simp)
  rw[List.length_cons]at hf
  have hk:=aCo (l:=l) (by omega)
  have ih:=ePs n g r (fun x hx=>h x (by simp[hx])) (by omega)
  rw[eMq,eOg,List.cons_append,List.cons_append,opN,hk,J3 (by omega),J3 (by simp only[List.length_append];omega),List.append_assoc,List.drop_left,ih,List.take_left,eKu]
  simp only[Option.some.injEq,Prod.mk.injEq,true_and];omega
theorem eLq (n:Nm) (r:List B8) (h:okN n):nmO (cM n++r)=some (n,wl n):=by
 unfold nmO
 rw[ePs n _ r h.1 (by rw[List.length_append,dS];have:=eVx n;omega)]
 exact J3 (by have:=h.2;omega)
theorem or8 (n:W32) (x:B8):((n <<<8)|||x.setWidth 32).toNat=n.toNat%16777216*256+x.toNat:=by
 have hx:=x.isLt
 have e1:(n <<<8).toNat=(n.toNat%16777216) <<<8:=by
  rw[BitVec.toNat_shiftLeft,Nat.shiftLeft_eq,Nat.shiftLeft_eq];omega
 rw[BitVec.toNat_or,e1,fBe,←Nat.shiftLeft_add_eq_or_of_lt hx,Nat.shiftLeft_eq]
theorem cFw (a b c d:B8):(eK [a,b,c,d]).toNat=a.toNat*16777216+b.toNat*65536+c.toNat*256+d.toNat:=by
 show((((((0#32 <<<8|||a.setWidth 32) <<<8)|||b.setWidth 32) <<<8)|||c.setWidth 32) <<<8|||d.setWidth 32).toNat=_
 have:=a.isLt;have:=b.isLt;have:=c.isLt;have:=d.isLt
 rw[or8,or8,or8,or8]
 simp only[BitVec.toNat_ofNat,Nat.zero_mod,Nat.zero_mul,Nat.zero_add]
 omega
theorem beL4 (x:W32):beL x 4 4=[(x>>>24).setWidth 8,(x>>>16).setWidth 8,(x>>>8).setWidth 8,(x>>>0).setWidth 8]:=rfl
theorem sh8 (x:W32) (k:Nat):((x>>>k).setWidth 8).toNat=x.toNat/2^k%256:=by rw[BitVec.toNat_setWidth,BitVec.toNat_ushiftRight,Nat.shiftRight_eq_div_pow]
theorem fCy (x:W32):eK (beL x 4 4)=x:=by
 apply BitVec.eq_of_toNat_eq
 rw[beL4,cFw,sh8,sh8,sh8,sh8]
 have:=x.isLt
 omega
theorem eQb (a b:List B8) (p:Nat) (h:a.length=p):(a++b).drop p=b:=by rw[←h,List.drop_left]
theorem eUe (a b:List B8) (p:Nat) (h:a.length=p):(a++b).take p=a:=by rw[←h,List.take_left]
theorem eLp (a r:List B8) (x:W32) (p:Nat) (h:a.length=p):dX (a++(beL x 4 4++r)) p=x:=by
 unfold dX
 rw[eQb _ _ _ h,eUe _ _ _ (cZ x 4 4),fCy]
theorem part (l:List B8) (p k:Nat):l.drop p=(l.drop p).take k++l.drop (p+k):=by
 rw[←List.drop_drop,List.take_append_drop]
end Go.AX

namespace Go.AX
open Go Go.Proofs
theorem eMv (n m:Nm) (vs:List W32):(rF n m vs).length=wl n+wl m+4*vs.length:=by
 unfold rF;rw[List.length_append,List.length_append,dS,dS,eNg]
theorem eYk (x:W32) (r:List W32):pn (x::r)=beL x 4 4++pn r:=by unfold pn;rw[List.flatMap_cons]
theorem fBz:pn []=[]:=rfl
theorem eVq (n m:Nm) (r:List B8) (h1:okN n) (h2:okN m):nm2 (cM n++(cM m++r))=some (n,m,wl n+wl m):=by
 unfold nm2
 rw[eLq n _ h1]
 simp only
 rw[eQb _ _ _ (dS n),eLq m _ h2]
theorem fBr (n m:Nm) (a b c d e:W32) (h1:okN n) (h2:okN m):eX (rF n m [a,b,c,d,e])=some (.agg [.sl n.length (cS n),.sl m.length (cS m),.w32 a,.w32 b,.w32 c,.w32 d,.w32 e],[.sl (rF n m [a,b,c,d,e]).length (c8 (rF n m [a,b,c,d,e])),.i ((rF n m [a,b,c,d,e]).length:Int)]):=by
 have hl:=eMv n m [a,b,c,d,e]
 simp only[List.length_cons,List.length_nil]at hl
 obtain⟨L,hL⟩: ∃L,rF n m [a,b,c,d,e]=L:=⟨_,rfl⟩
 rw[hL]at hl⊢
 obtain⟨p,hp⟩: ∃p,wl n+wl m=p:=⟨_,rfl⟩
 have w0:(cM n++cM m).length=p:=by rw[List.length_append,dS,dS,hp]
 have hL2:L=(cM n++cM m)++(beL a 4 4++(beL b 4 4++(beL c 4 4++(beL d 4 4++(beL e 4 4++[]))))):=by
  rw[←hL];simp only[rF,eYk,fBz]
 have q0:dX L p=a:=by rw[hL2];exact eLp _ _ _ _ w0
 have q1:dX L (p+4)=b:=by
  rw[hL2,←List.append_assoc];exact eLp _ _ _ _ (by rw[List.length_append,w0,cZ])
 have q2:dX L (p+4+4)=c:=by
  rw[hL2,←List.append_assoc,←List.append_assoc];exact eLp _ _ _ _ (by rw[List.length_append,List.length_append,w0,cZ,cZ])
 have q3:dX L (p+4+4+4)=d:=by
  rw[hL2,←List.append_assoc,←List.append_assoc,←List.append_assoc];exact eLp _ _ _ _ (by rw[List.length_append,List.length_append,List.length_append,w0,cZ,cZ,cZ])
 have q4:dX L (p+4+4+4+4)=e:=by
  rw[hL2,←List.append_assoc,←List.append_assoc,←List.append_assoc,←List.append_assoc];exact eLp _ _ _ _ (by rw[List.length_append,List.length_append,List.length_append,List.length_append,w0,cZ,cZ,cZ,cZ])
 have hn:nm2 L=some (n,m,p):=by rw[hL2,List.append_assoc,eVq n m _ h1 h2,hp]
 unfold eX
 rw[hn]
 simp only[eOb]
 rw[J4 (by omega),show p+4+4+4+4+4=L.length by omega]
 unfold eUm
 rw[q0,q1,q2,q3,q4]
end Go.AX

namespace Go.AX
open Go Go.Proofs
theorem eQi (n:Nm):1≤wl n:=by unfold wl;omega
theorem eRp: ∀(n:Nm) (f:Nat),(∀l∈n,gZ l)→opN f ((cM n).take ((cM n).length-1))=none
 |_,0,_=>rfl
 |[],_+1,_=>rfl
 |l::n,f+1,h=>by
  obtain⟨h1,h2⟩:=h l (by simp)
  have hk:=aCo (l:=l) (by omega)
  have hp:=eQi n
  have hw:=dS n
  have e:(cM (l::n)).take ((cM (l::n)).length-1)=BitVec.ofInt 8 (l.length:Int)::(l++(cM n).take ((cM n).length-1)):=by
   rw[eMq,eOg,List.cons_append,List.length_cons,List.length_append,show l.length+(cM n).length+1-1=(l.length+((cM n).length-1))+1 by omega,U0,List.take_append,List.take_of_length_le (by omega),Nat.add_sub_cancel_left]
  rw[e,opN,hk,J3 (by omega),J3 (by simp only[List.length_append];omega),List.drop_left,eRp n f (fun x hx=>h x (by simp[hx]))]
theorem eYv (n:Nm) (h:okN n):nmO ((cM n).take ((cM n).length-1))=none:=by
 unfold nmO
 rw[eRp n _ h.1]
theorem fBg (n:Nm) (h:okN n):nmO (cM n)=some (n,wl n):=by have:=eLq n [] h;rwa [List.append_nil]at this
theorem fBh (n:Nm) (h:okN n) (a r:List B8):nmE (a++(cM n++r)) a.length=some (a.length+wl n):=by
 unfold nmE;rw[List.drop_left,eLq n r h];rfl
theorem fEj (n:Nm) (h:okN n):eMt 2#16 (cM n)=.tup [.sl n.length (cS n),.i 0]:=by
 have e:eKp 2#16 (cM n)=some (.sl n.length (cS n),[.sl (cM n).length (c8 (cM n)),.i ((0+wl n:Nat):Int)]):=by
  unfold eKp
  rw[show ahd 2#16=0 from rfl,J4 (Nat.zero_le _),eKh,J9,fBg n h]
 unfold eMt
 rw[J4 (.inl rfl),e,fO]
 rw[dS,Nat.zero_add]
theorem fEk (n:Nm) (h:okN n) (a b:B8):eMt 15#16 (a::b::cM n)=.tup [.sl n.length (cS n),.i 0]:=by
 have e:eKp 15#16 (a::b::cM n)=some (.sl n.length (cS n),[.sl (a::b::cM n).length (c8 (a::b::cM n)),.i ((2+wl n:Nat):Int)]):=by
  unfold eKp
  rw[show ahd 15#16=2 from rfl,J4 (by simp),eKh,show List.drop 2 (a::b::cM n)=cM n from rfl,fBg n h]
 unfold eMt
 rw[J4 (.inr (.inr rfl)),e,fO]
 rw[List.length_cons,List.length_cons,dS];omega
def z20:List W32:=[0#32,0#32,0#32,0#32,0#32]
theorem fBy:pn z20=List.replicate 20 0#8:=rfl
theorem fFb (n m:Nm) (h1:okN n) (h2:okN m):ePm (rF n m z20)=.tup [.agg [.sl n.length (cS n),.sl m.length (cS m),.w32 0#32,.w32 0#32,.w32 0#32,.w32 0#32,.w32 0#32],.i 0]:=by
 unfold ePm
 rw[show eX (rF n m z20)=_ from fBr n m 0#32 0#32 0#32 0#32 0#32 h1 h2,fO]
 rfl
theorem fGr (n:Nm) (h:okN n) (x:B8):gJ 2#16 (cM n++[x])=50:=by
 have hl:=dS n
 have h2:=h.2
 have e:shp 2#16 (cM n++[x])=some (wl n):=by
  unfold shp
  rw[J3 (by decide),J3 (by decide),J4 (by decide)]
  have:=fBh n h [] [x]
  rw[List.nil_append,List.length_nil,Nat.zero_add]at this
  exact this
 unfold gJ
 rw[J3 (by rw[List.length_append,hl,List.length_singleton];omega),J3 (by decide),J3 (by decide),J3 (by decide),J3 (by decide),e]
 refine eLn _ _ ?_
 rw[List.length_append,hl,List.length_singleton];omega
theorem fGt (n:Nm) (h:okN n):gJ 5#16 (cM n)=0:=by
 have hl:=dS n
 have h2:=h.2
 have e:shp 5#16 (cM n)=some (wl n):=by
  unfold shp
  rw[J3 (by decide),J3 (by decide),J4 (by decide)]
  have:=fBh n h [] []
  rw[List.nil_append,List.length_nil,Nat.zero_add,List.append_nil]at this
  exact this
 unfold gJ
 rw[J3 (by omega),J3 (by decide),J3 (by decide),J3 (by decide),J3 (by decide),e]
 refine eNd _ _ ?_
 rw[hl]
theorem fGs (n:Nm) (h:okN n) (a b:B8):gJ 15#16 (a::b::(cM n).take ((cM n).length-1))=50:=by
 have hl:=dS n
 have h2:=h.2
 have e:shp 15#16 (a::b::(cM n).take ((cM n).length-1))=none:=by
  unfold shp
  rw[J3 (by decide),J3 (by decide),J3 (by decide),J4 rfl,J4 (by simp)]
  unfold nmE
  rw[show List.drop 2 (a::b::(cM n).take ((cM n).length-1))=(cM n).take ((cM n).length-1)from rfl,eYv n h]
  rfl
 unfold gJ
 rw[J3 (by rw[List.length_cons,List.length_cons,List.length_take];omega),J3 (by decide),J3 (by decide),J3 (by decide),J3 (by decide),e]
 rfl
theorem fGq (n m:Nm) (h1:okN n) (h2:okN m) (x:B8):gJ 6#16 (rF n m z20++[x])=50:=by
 have hl:=eMv n m z20
 have b1:=h1.2
 have b2:=h2.2
 have hz:4*z20.length=20:=rfl
 have hn:nm2 (rF n m z20++[x])=some (n,m,wl n+wl m):=by
  rw[rF,List.append_assoc,List.append_assoc,eVq n m _ h1 h2]
 unfold gJ
 rw[J3 (by rw[List.length_append,hl,List.length_singleton];omega),J4 rfl]
 unfold eX
 rw[hn]
 simp only[eOb]
 rw[J4 (by rw[List.length_append,hl,List.length_singleton];omega)]
 refine eLn _ _ ?_
 rw[List.length_append,hl,List.length_singleton];omega
end Go.AX

namespace Go.AX
open Go Go.Proofs
instance (n:Nm):Decidable (okN n):=by unfold okN;infer_instance
theorem eRs: ∀(n:Nm),(∀l∈n,gZ l)→2*n.length+1≤wl n
 |[],_=>U3 _
 |l::r,h=>by
  rw[eKu,List.length_cons]
  have:=eRs r fun x hx=>h x (by simp[hx])
  have:=(h l (by simp)).1
  omega
theorem eYr {n:Nm} (h:okN n):n.length≤127:=by
 have:=eRs n h.1
 have:=h.2
 omega
theorem fCe {n:Nm} {k:Nat} (hk:k<n.length) (h: ¬gZ (n.getD k [])): ¬okN n:=fun q=>h (eWb q.1 hk)
def gY:List AV→Option AV
 |[.sl n xs]=>aK (unS xs) fun p=>aN (p.length=n∧n≤9223372036854775807∧∀l∈p,l.length≤9223372036854775807) (some (.b (decide (okN p))))
 |_=>none
theorem eGq (n:Nat) (xs:List AV):gY [.sl n xs]=aK (unS xs) fun p=>aN (p.length=n∧n≤9223372036854775807∧∀l∈p,l.length≤9223372036854775807) (some (.b (decide (okN p)))):=(rfl)
attribute [go_sem] eGq
set_option maxHeartbeats 4000000 in
theorem eGz:cL Try.prog GLh 14 gY:=by
 refine cC Try.func14 (aT rfl) ?_
 intro args r hg
 unfold gY at hg
 split at hg
 ·rename_i n xs
  replace hg:=aJ hg;obtain⟨ps,hl,hg⟩:=hg
  replace hg:=aP hg;obtain⟨⟨rfl,hn,hbig⟩,hg⟩:=hg
  obtain rfl:=J0 hg
  have:=gT hl;subst this
  refine⟨J1 rfl,fun nx=>?_⟩
  clear hl hg
  refine aA rfl (aW [0] rfl rfl rfl fun K hK=>?_)
  simp(disch:=omega) only[Try.f14,go_sem,↓reduceIte]
  refine hK _ ?_
  refine aB (aA rfl (aA rfl (aW [7,0] rfl rfl rfl fun K hK=>?_)))
  simp(disch:=omega) only[Try.f14,go_sem,↓reduceIte]
  refine hK _ ?_
  refine aB (bA (.tmp 7) rfl rfl rfl (fun h=>?_) (fun h=>?_))
  ·refine aI rfl ?_
   rw[J6 (fun q=>by have:=eYr q;omega)]
   refine aA rfl (aW [2] rfl rfl rfl fun K hK=>?_)
   simp(disch:=omega) only[Try.f14,go_sem,↓reduceIte]
   refine hK _ ?_
   refine aB (aS rfl (bI ?_))
   simp(disch:=omega) only[cN,bV,bK,bQ,Try.f14,go_sem,↓reduceIte]
  refine aI rfl ?_
  have hn127:ps.length≤127:=by omega
  refine aQ rfl (aB (aA rfl (aW [0,3] rfl rfl rfl fun K hK=>?_)))
  simp(disch:=omega) only[Try.f14,go_sem,↓reduceIte]
  refine hK _ ?_
  refine aB (aA rfl (aA rfl (aW [0,3,4] rfl rfl rfl fun K hK=>?_)))
  simp(disch:=omega) only[Try.f14,go_sem,↓reduceIte]
  refine hK _ ?_
  refine aB (aR 0 rfl rfl (bR (fun p:KC5=> {fr:=[(0,.sl ps.length (cS ps)),(3,.i (wl (ps.take p.k):Int)),(4,.i (p.k:Int))],hp:=fun _=>none,nx:=0,cx:=p.c}) (fun p=>p.k≤ps.length∧(∀l∈ps.take p.k,gZ l)∧wl (ps.take p.k)≤1+64*p.k) (fun p=>ps.length-p.k) rfl ⟨⟨0,_⟩,⟨Nat.zero_le _,fun l hl=>(by cases hl),U3 _⟩,bD rfl rfl (U3 _)⟩ ?_))
  rintro⟨k,c⟩ ⟨hk,hlab,hwl⟩ n0
  simp only at hk hlab hwl⊢
  refine aA rfl (aA rfl (aW [11,0,3,4] rfl rfl rfl fun K hK=>?_))
  simp(disch:=omega) only[Try.f14,go_sem,↓reduceIte]
  refine hK _ ?_
  refine aB (bA (.tmp 11) rfl rfl rfl (fun h=>?_) (fun h=>?_))
  ·refine aI rfl ?_
   have hkl:k<ps.length:=by omega
   have hw:=eRc ps k hkl
   have hll:(ps.getD k []).length≤9223372036854775807:=by rw[List.getD_eq_getElem?_getD,List.getElem?_eq_getElem hkl];exact hbig _ (List.getElem_mem hkl)
   have hno:=fCe (n:=ps) hkl
   obtain⟨x,hx⟩: ∃x,ps.getD k []=x:=⟨_,rfl⟩
   rw[hx]at hw hll hno
   by_cases h0:x=[]
   ·have d0:decide (x=[])=true:=J5 h0
    refine aQ rfl (aB (aA rfl (aR 1 rfl rfl (aA rfl (aA rfl (aW [26,0,3,4] rfl rfl rfl fun K hK=>?_))))))
    simp(disch:=omega) only[Try.f14,go_sem,↓reduceIte,hx,eKw,d0]
    refine hK _ ?_
    refine aB (eC (.tmp 26) rfl rfl rfl (fun h=>?_) (fun h=>?_))
    ·refine aI rfl ?_
     rw[J6 (hno (by rw[h0];unfold gZ;decide))]
     refine aA rfl (aW [2] rfl rfl rfl fun K hK=>?_)
     simp(disch:=omega) only[Try.f14,go_sem,↓reduceIte]
     refine hK _ ?_
     refine aB (aS rfl (bI (bN (bI (dF (bN (bI ?_)))))))
     simp(disch:=omega) only[cN,bV,bK,bQ,Try.f14,go_sem,↓reduceIte]
    refine aI rfl ?_
    cases h
   have d0:decide (x=[])=false:=J6 h0
   have hx1:1≤x.length:=by cases x with
    |nil=>exact absurd rfl h0
    |cons a r=>simp
   by_cases h63:63<x.length
   ·have d1:decide ((63:Int)<(x.length:Int))=true:=J5 (by omega)
    refine aQ rfl (aB (aA rfl (aR 1 rfl rfl (aA rfl (aA rfl (aW [26,0,3,4] rfl rfl rfl fun K hK=>?_))))))
    simp(disch:=omega) only[Try.f14,go_sem,↓reduceIte,hx,eKw,d0,d1]
    refine hK _ ?_
    refine aB (eC (.tmp 26) rfl rfl rfl (fun h=>?_) (fun h=>?_))
    ·refine aI rfl ?_
     rw[J6 (hno (by unfold gZ;omega))]
     refine aA rfl (aW [2] rfl rfl rfl fun K hK=>?_)
     simp(disch:=omega) only[Try.f14,go_sem,↓reduceIte]
     refine hK _ ?_
     refine aB (aS rfl (bI (bN (bI (dF (bN (bI ?_)))))))
     simp(disch:=omega) only[cN,bV,bK,bQ,Try.f14,go_sem,↓reduceIte]
    refine aI rfl ?_
    cases h
   have d1:decide ((63:Int)<(x.length:Int))=false:=J6 (by omega)
   refine aQ rfl (aB (aA rfl (aR 1 rfl rfl (aA rfl (aA rfl (aW [26,0,3,4] rfl rfl rfl fun K hK=>?_))))))
   simp(disch:=omega) only[Try.f14,go_sem,↓reduceIte,hx,eKw,d0,d1]
   refine hK _ ?_
   refine aB (eC (.tmp 26) rfl rfl rfl (fun h=>?_) (fun h=>?_))
   ·refine aI rfl ?_
    cases h
   refine aI rfl ?_
   clear h
   refine aQ rfl (aB (aW [0,3,4] rfl rfl rfl fun K hK=>?_))
   simp(disch:=omega) only[Try.f14,go_sem,↓reduceIte,hx]
   refine hK _ ?_
   refine bU (aB (aW [0,3,4] rfl rfl rfl fun K hK=>?_))
   simp(disch:=omega) only[Try.f14,go_sem,↓reduceIte]
   refine hK _ ?_
   refine bT ?_
   refine⟨⟨k+1,_⟩,⟨by simp only;omega,fun l hl=>?_,by simp only;omega⟩,by simp only;omega,bD ?_ rfl (U3 _)⟩
   ·simp only at hl
    have e0:ps.take (k+1)=ps.take k++[x]:=by rw[List.take_succ_eq_append_getElem hkl,←hx,List.getD_eq_getElem?_getD,List.getElem?_eq_getElem hkl];rfl
    rw[e0]at hl
    rcases List.mem_append.1 hl with hl|hl
    ·exact hlab l hl
    obtain rfl:l=x:=by simpa using hl
    exact⟨hx1,by omega⟩
   simp only[hw,Int.natCast_add,Int.natCast_one]
  refine aI rfl (bF 0 rfl rfl (aY (aZ (bE (aB (aA rfl ?_))))))
  obtain rfl:k=ps.length:=by omega
  rw[List.take_length]at hlab hwl
  have e8:ps.take ps.length=ps:=List.take_length
  have hfin:decide ((wl ps:Int)≤255)=decide (okN ps):=by
   by_cases hq:wl ps≤255
   ·rw[J5 (by omega),J5 ⟨hlab,hq⟩]
   rw[J6 (by omega),J6 fun q=>hq q.2]
  refine aW [2] rfl rfl rfl fun K hK=>?_
  simp(disch:=omega) only[Try.f14,go_sem,↓reduceIte,e8,hfin]
  refine hK _ ?_
  refine aB (aS rfl ?_)
  simp(disch:=omega) only[cN,bV,bK,bQ,Try.f14,go_sem,↓reduceIte]
 cases hg
theorem eCe:bX Try.prog GLh 14 (.pure true gY):=⟨⟨_,Try.func14,rfl,rfl⟩,eGz⟩
def eNi:List AV→Option AV
 |[.sl n xs,.sl m ys]=>aK (unS xs) fun p=>aK (unS ys) fun q=>aN (p.length=n∧q.length=m∧n≤9223372036854775807∧m≤9223372036854775807) (some (.b (decide (p=q))))
 |_=>none
theorem eSz (n m:Nat) (xs ys:List AV):eNi [.sl n xs,.sl m ys]=aK (unS xs) fun p=>aK (unS ys) fun q=>aN (p.length=n∧q.length=m∧n≤9223372036854775807∧m≤9223372036854775807) (some (.b (decide (p=q)))):=(rfl)
attribute [go_sem] eSz
theorem eQl {a b:Nm} {k:Nat} (ha:k<a.length) (hb:k<b.length) (h:a.take k=b.take k) (e:a.getD k []=b.getD k []):a.take (k+1)=b.take (k+1):=by
 rw[List.take_succ_eq_append_getElem ha,List.take_succ_eq_append_getElem hb,h]
 rw[List.getD_eq_getElem?_getD,List.getD_eq_getElem?_getD,List.getElem?_eq_getElem ha,List.getElem?_eq_getElem hb]at e
 simp only[Option.getD_some]at e
 rw[e]
set_option maxHeartbeats 4000000 in
theorem eVs:cL Try.prog GLh 19 eNi:=by
 refine cC Try.func19 (aT rfl) ?_
 intro args r hg
 unfold eNi at hg
 split at hg
 ·rename_i n xs m ys
  replace hg:=aJ hg;obtain⟨a,ha,hg⟩:=hg
  replace hg:=aJ hg;obtain⟨b,hb,hg⟩:=hg
  replace hg:=aP hg;obtain⟨⟨rfl,rfl,hn,hm⟩,hg⟩:=hg
  obtain rfl:=J0 hg
  have:=gT ha;subst this
  have:=gT hb;subst this
  refine⟨J1 rfl,fun nx=>?_⟩
  clear ha hb hg
  refine aA rfl (aW [0,1] rfl rfl rfl fun K hK=>?_)
  simp(disch:=omega) only[Try.f19,go_sem,↓reduceIte]
  refine hK _ ?_
  refine aB (aA rfl (aA rfl (aW [10,0,1] rfl rfl rfl fun K hK=>?_)))
  simp(disch:=omega) only[Try.f19,go_sem,↓reduceIte]
  refine hK _ ?_
  refine aB (eGn (.tmp 10) rfl rfl rfl (fun h=>?_) (fun h=>?_))
  ·refine aI rfl ?_
   rw[J6 (fun q=>by rw[q]at h;exact h rfl)]
   refine aA rfl (aW [4] rfl rfl rfl fun K hK=>?_)
   simp(disch:=omega) only[Try.f19,go_sem,↓reduceIte]
   refine hK _ ?_
   refine aB (aS rfl (bI ?_))
   simp(disch:=omega) only[cN,bV,bK,bQ,Try.f19,go_sem,↓reduceIte]
  refine aI rfl ?_
  have hab:a.length=b.length:=by omega
  refine aQ rfl (aB (aA rfl (aA rfl (aW [0,1,5] rfl rfl rfl fun K hK=>?_))))
  simp(disch:=omega) only[Try.f19,go_sem,↓reduceIte]
  refine hK _ ?_
  refine aB (aR 0 rfl rfl (bR (fun p:KC5=> {fr:=[(0,.sl a.length (cS a)),(1,.sl b.length (cS b)),(5,.i (p.k:Int))],hp:=fun _=>none,nx:=0,cx:=p.c}) (fun p=>p.k≤a.length∧a.take p.k=b.take p.k) (fun p=>a.length-p.k) rfl ⟨⟨0,_⟩,⟨Nat.zero_le _,rfl⟩,bD rfl rfl (U3 _)⟩ ?_))
  rintro⟨k,c⟩ ⟨hk,he⟩ n0
  simp only at hk he⊢
  refine aA rfl (aA rfl (aW [14,0,1,5] rfl rfl rfl fun K hK=>?_))
  simp(disch:=omega) only[Try.f19,go_sem,↓reduceIte]
  refine hK _ ?_
  refine aB (bA (.tmp 14) rfl rfl rfl (fun h=>?_) (fun h=>?_))
  ·refine aI rfl ?_
   have hka:k<a.length:=by omega
   have hkb:k<b.length:=by omega
   have hnx:=eQl hka hkb he
   obtain⟨x,hx⟩: ∃x,a.getD k []=x:=⟨_,rfl⟩
   obtain⟨y,hy⟩: ∃y,b.getD k []=y:=⟨_,rfl⟩
   rw[hx,hy]at hnx
   refine aQ rfl (aB (aA rfl (aR 1 rfl rfl (aA rfl (bB (Γ:=aL) (fun _=>2) [25,0,1,5] bZ (aD _ _) rfl rfl rfl (by kernel_rfl) (fun K hK=>?_))))))
   simp(disch:=omega) only[Try.f19,go_sem,↓reduceIte,hx,hy]
   refine hK _ ?_
   refine aB (eGn (.tmp 25) rfl rfl rfl (fun h=>?_) (fun h=>?_))
   ·refine aI rfl ?_
    rw[J6 (fun q=>h (by rw[←hx,←hy,q]))]
    refine aA rfl (aW [4] rfl rfl rfl fun K hK=>?_)
    simp(disch:=omega) only[Try.f19,go_sem,↓reduceIte]
    refine hK _ ?_
    refine aB (aS rfl (bN (bI (dF (bN (bI ?_))))))
    simp(disch:=omega) only[cN,bV,bK,bQ,Try.f19,go_sem,↓reduceIte]
   refine aI rfl (aQ rfl (bU (aB (aW [0,1,5] rfl rfl rfl fun K hK=>?_))))
   simp(disch:=omega) only[Try.f19,go_sem,↓reduceIte]
   refine hK _ ?_
   refine bT ?_
   refine⟨⟨k+1,_⟩,⟨by simp only;omega,hnx (by first|exact h|exact Decidable.not_not.1 h)⟩,by simp only;omega,bD ?_ rfl (U3 _)⟩
   simp only[Int.natCast_add,Int.natCast_one]
  refine aI rfl (bF 0 rfl rfl (aY (aZ (bE (aB (aA rfl ?_))))))
  obtain rfl:k=a.length:=by omega
  rw[List.take_length,hab,List.take_length]at he
  rw[J5 he]
  refine aW [4] rfl rfl rfl fun K hK=>?_
  simp(disch:=omega) only[Try.f19,go_sem,↓reduceIte]
  refine hK _ ?_
  refine aB (aS rfl ?_)
  simp(disch:=omega) only[cN,bV,bK,bQ,Try.f19,go_sem,↓reduceIte]
 cases hg
theorem eCd:bX Try.prog GLh 19 (.pure true eNi):=⟨⟨_,Try.func19,rfl,rfl⟩,eVs⟩
end Go.AX

namespace Go.AX
open Go Go.Proofs
theorem k_a:gJ 1#16 (List.replicate 4 0#8)=0:=by kernel_rfl
theorem k_b:gJ 1#16 (List.replicate 3 0#8)=50:=by kernel_rfl
theorem k_c:eRw 2#16 [1#8,65#8,0#8]=.tup [.sl 3 (c8 [1#8,97#8,0#8]),.i 0]:=by kernel_rfl
theorem k_d:eMt 2#16 [1#8,65#8,0#8]=.tup [.sl 1 (cS [[65#8]]),.i 0]:=by kernel_rfl
theorem k_e:eWc [1#8,0#8,3#8,253#8,9#8]=.tup [.agg [.w16 256#16,.w8 3#8,.w8 253#8,.sl 1 (c8 [9#8])],.i 0]:=by kernel_rfl
theorem tr4:(List.replicate 4 0#8).take 4=List.replicate 4 0#8:=(rfl)
theorem tr3:(List.replicate 3 0#8).take 3=List.replicate 3 0#8:=(rfl)
theorem u1 (a:B8):cI [.w8 a]=some [a]:=(rfl)
theorem u3 (a b c:B8):cI [.w8 a,.w8 b,.w8 c]=some [a,b,c]:=(rfl)
theorem u5 (a b c d e:B8):cI [.w8 a,.w8 b,.w8 c,.w8 d,.w8 e]=some [a,b,c,d,e]:=(rfl)
attribute [go_sem] u3 u5
theorem fGx:((1:Nat):Int)=1:=(rfl)
theorem fGw:((5:Nat):Int)=5:=(rfl)
theorem kl5:(wF 256#16 3#8 253#8 [9#8]).length=5:=(rfl)
theorem hd11 (x:List B8) (r:Nm):(cS (x::r)).head? =some (.s x):=(rfl)
theorem fFx:ofV (Value.string {data:= #[65]})=.s [65#8]:=(rfl)
def eNl:List AV→Option AV
 |[]=>some (.b true)
 |_=>none
theorem eTd:eNl []=some (.b true):=(rfl)
attribute [go_sem] eTd
set_option maxHeartbeats 8000000 in
theorem eBb:cL Try.prog GLh 9 eNl:=by
 refine cC Try.func9 (aT rfl) ?_
 intro args r hg
 unfold eNl at hg
 split at hg
 ·obtain rfl:=J0 hg
  clear hg
  refine⟨J1 rfl,fun nx=>?_⟩
  refine aA rfl (aW [] rfl rfl rfl fun K hK=>?_)
  simp(maxSteps:=300000) (disch:=omega) only[Try.f9,go_sem]
  refine hK _ ?_
  refine aB (aA rfl (bB (Γ:=bC [(13,.pure true eNq)]) (fun k=>if k=1 then 4 else if k=3 then 0 else 2) [1,2] bZ (aH eVm aO) rfl rfl rfl (by kernel_rfl) (fun K hK=>?_)))
  simp(maxSteps:=300000) (disch:=omega) only[Try.f9,go_sem,↓reduceIte,k_a,k_b,fFe,tr4,tr3,and_true,List.length_replicate,aCv 4 0 (by decide) (by decide)]
  refine hK _ ?_
  refine aB (aA rfl (aC (Γ:=bC [(10,.pure false eQd)]) [1,2,3,4] (aH fFq aO) rfl rfl rfl (fun K hK=>?_)))
  simp(maxSteps:=300000) (disch:=omega) only[Try.f9,go_sem,↓reduceIte,k_c,and_true,List.length_cons,List.length_nil]
  refine hK _ ?_
  refine aB (aA rfl (aC (Γ:=bC [(17,.pure false tgG)]) [1,2,3,4,5,6] (aH eSw aO) rfl rfl rfl (fun K hK=>?_)))
  simp(maxSteps:=300000) (disch:=omega) only[Try.f9,go_sem,↓reduceIte,k_d,List.length_cons,List.length_nil]
  refine hK _ ?_
  refine aB (aA rfl (aC (Γ:=bC [(31,.pure false dJl)]) [1,2,3,4,5,6,7,8] (aH fFp aO) rfl rfl rfl (fun K hK=>?_)))
  simp(maxSteps:=300000) (disch:=omega) only[Try.f9,go_sem,↓reduceIte,k_e,List.length_cons,List.length_nil]
  refine hK _ ?_
  refine aB (aA rfl (aC (Γ:=bC [(11,.pure true eNv),(34,.fresh true qG)]) [0] (aH dQz (aH ok34 aO)) rfl rfl rfl (fun K hK=>?_)))
  simp(maxSteps:=300000) (disch:=omega) only[Try.f9,go_sem,↓reduceIte,fGx,fGw,kl5,hd11,fFx]
  refine hK _ ?_
  refine aB (aS rfl ?_)
  simp(disch:=omega) only[cN,bV,bK,bQ,Try.f9,go_sem,↓reduceIte]
 cases hg
theorem ok9:bX Try.prog GLh 9 (.pure true eNl):=⟨⟨_,Try.func9,rfl,rfl⟩,eBb⟩
end Go.AX

namespace Go.AX
open Go Go.Proofs
section
variable {P : Program} {Γ : Env} {ρ : Operand → AV} {m nx n id cx : Nat} {hp : H}
end
section
variable {α : Type} [DecidableEq α] (kc : α → AV) (hk : ∀ a b, kEq (kc a) (kc b) = some (decide (a = b)))
end
end Go.AX

namespace Go.AX
open Go Go.Proofs
section
variable {P : Program} {Γ : Env} {GL : Nat → Option (List AV)} {md : Nat → Nat} {ops : Array Oper}
end
end Go.AX

namespace Go.AX
open Go Go.Proofs
section
variable {P : Program} {Γ : Env} {c : Ctx} {σ0 : Nat → Loc} {I0 : Nat → Prop} {w0 : World} {GL : Nat → Option (List AV)} {md : Nat → Nat} {ops : Array Oper}
end
end Go.AX

namespace Go.AX
open Go Go.Proofs
def eQs:AO→AO
 | .cells xs _=> .cells xs false
 | .mapo es _=> .mapo es false
def ePa (hp:H):H:=fun k=>(hp k).map eQs
def eOy:AV→Bool
 | .w8 _| .w16 _| .w32 _| .w64 _| .i _| .b _| .s _| .v _| .os _ _ _ _ _| .op _ _| .mp _=>true
 |_=>false
theorem Rel.keepV {σ:Nat→Loc} {I I':Nat→Prop} {w w':World} {x:AV} {y:Value} (h:Rel σ I w x y) (hk:eOy x=true):Rel σ I' w' x y:=by
 cases h with
 |w8=>exact .w8 _
 |w16=>exact .w16 _
 |w32=>exact .w32 _
 |w64=>exact .w64 _
 |i=>exact .i _
 |b=>exact .b _
 |s=>exact .s _
 |v=>exact .v _
 |os id off n e g blk base sz cap h1 h2 h3=>exact .os id off n e g blk base sz cap h1 h2 h3
 |osnil id e g h1=>exact .osnil id e g h1
 |oszero id off e g a h1=>exact .oszero id off e g a h1
 |op id off blk base sz h1=>exact .op id off blk base sz h1
 |mp id blk h1=>exact .mp id blk h1
 |_=>cases hk
theorem Rel.unpin {σ:Nat→Loc} {I:Nat→Prop} {w:World} {v:Value} {x:AV} {y:Value} (h:Rel σ I w (.pin v x) y):y=v∧Rel σ I w x y:=by
 cases h with|pin _ _ h=>exact⟨rfl,h⟩
theorem cF.set {σ:Nat→Loc} {I:Nat→Prop} {w:World} {id:Nat} {o:AO} (h:cF σ I w id o):σ id≠.unset:=by
 intro e
 cases o with
 |cells xs mt=>simp only[cF,e]at h
 |mapo es mt=>
  obtain⟨blk,h1,_⟩:=h
  rw[e]at h1;cases h1
theorem cF.lend {σ:Nat→Loc} {I I':Nat→Prop} {w:World} {id:Nat} {o:AO} (h:cF σ I w id o) (hI: ∀k,I k→I' k) (hb: ∀k base sz,σ id=.at_ k base sz→I' k):cF σ I' w id (eQs o):=by
 cases o with
 |cells xs mt=>
  simp only[cF,eQs]at h⊢
  cases e:σ id with
  |unset=>simp[e]at h
  |nil=>simpa [e]using h
  |at_ blk base sz=>
   simp only[e]at h
   exact⟨h.1.mono (fun _ _=>rfl) hI (fun _ _=>rfl) rfl,fun hm=>by simp at hm,fun _=>hb _ _ _ e⟩
 |mapo es mt=>
  obtain⟨blk,a1,a2,_,_⟩:=h
  exact⟨blk,a1,a2.mono (fun _ _=>rfl) hI (fun _ _=>rfl) rfl,fun hm=>by simp at hm,fun _=>hb _ _ _ a1⟩
theorem eNm {hp:H} {id:Nat} {o:AO} (h:ePa hp id=some o): ∃o',hp id=some o'∧o=eQs o':=by
 unfold ePa at h
 cases e:hp id with
 |none=>simp[e]at h
 |some o'=>rw[e]at h;exact⟨o',rfl,(J0 h).symm⟩
theorem eRv (o:AO):(eQs o).mt=false:=by cases o<;>rfl
theorem eWh (hp:H) (k:Nat) (o:AO):ePa (upd hp k o)=upd (ePa hp) k (eQs o):=by
 funext j
 unfold ePa
 simp only[bJ]
 split<;>rfl
theorem eWi:ePa (fun _=>none)=fun _=>none:=rfl
theorem fCz (xs:List AV) (mt:Bool):eQs (.cells xs mt)=.cells xs false:=rfl
structure fBb (s t u:S):Prop where
 hp:u.hp=s.hp
 nx:u.nx=t.nx
 cx:u.cx=t.cx
 fr: ∀k,dG u.fr k=.junk∨(eOy (dG u.fr k)=true∧dG u.fr k=dG t.fr k)∨∃v,dG s.fr k=.pin v (dG u.fr k)∧dG t.fr k=dG s.fr k
theorem fAz {s t:S} {L:List (Nat×AV)} (h: ∀e∈L,(eOy e.2=true∧e.2=dG t.fr e.1)∨∃v,dG s.fr e.1=.pin v e.2∧dG t.fr e.1=dG s.fr e.1):fBb s t {fr:=L,hp:=s.hp,nx:=t.nx,cx:=t.cx}:=by
 refine⟨rfl,rfl,rfl,?_⟩
 show∀k,dG L k=.junk∨(eOy (dG L k)=true∧dG L k=dG t.fr k)∨∃v,dG s.fr k=.pin v (dG L k)∧dG t.fr k=dG s.fr k
 induction L with
 |nil=>exact fun _=> .inl rfl
 |cons e r ih=>
  intro k
  simp only[dG]
  split
  ·rename_i e2
   rw[←e2]
   exact .inr (h e (by simp))
  exact ih (fun e he=>h e (by simp[he])) k
def eNk (σ:Nat→Loc) (I:Nat→Prop) (s:S):Nat→Prop:=fun k=>I k∨∃id o base sz,s.hp id=some o∧σ id=.at_ k base sz
def eRr (c:Ctx) (σ:Nat→Loc) (I:Nat→Prop) (w:World) (s:S):Ctx:= {w0:=w,σ0:=σ,I0:=eNk σ I s,O:=fun _=>False,GL:=c.GL,nt:=c.nt,u0:=c.u0,df:=c.df}
structure RL (c:Ctx) (σ0:Nat→Loc) (I0:Nat→Prop) (w0:World) (s t:S) (a:Act) (w:World):Prop where
 ex: ∃(σ:Nat→Loc) (I:Nat→Prop) (w1:World) (a0:Act),Inv c σ I w1 s.hp (fun id=>s.cx≤id∨(∃k,False∧id=s.nx+k)∨c.u0 id)∧Grow σ0 I0 w0 σ I w1∧(∀k,Rel σ I w1 (dG s.fr k) (a0.tmps.getD k undef))∧
  R (eRr c σ I w1 s) σ (eNk σ I s) w1 (fun _=>False) t a w
theorem RL.begin {c:Ctx} {σ0:Nat→Loc} {I0:Nat→Prop} {w0:World} {s:S} {a:Act} {w:World} (h:R c σ0 I0 w0 (fun _=>False) s a w):RL c σ0 I0 w0 s {s with hp:=ePa s.hp} a w:=by
 obtain⟨⟨σ,I,inv,gr,rel⟩,hdf,hsz,hlt,hlt0⟩:=h
 have hII: ∀k,I k→eNk σ I s k:=fun k hk=> .inl hk
 have hIB: ∀id o k base sz,s.hp id=some o→σ id=.at_ k base sz→eNk σ I s k:=fun id o k base sz h1 h2=> .inr ⟨id,o,base,sz,h1,h2⟩
 have inv1:Inv (eRr c σ I w s) σ (eNk σ I s) w (ePa s.hp) (fun id=>s.cx≤id∨(∃k,False∧id=s.nx+k)∨c.u0 id):=by
  refine⟨fun _ _=>rfl,fun _ h=>h,fun _ _=>rfl,rfl,rfl,rfl,U3 _,fun _ _ _=>rfl,fun k hk=>?_,fun id o ho=>?_,fun id id' o o' blk base sz base' sz' ho hm=>?_,fun id o blk base sz ho hm=>?_,inv.un,fun g xs hg=>(inv.glob g xs hg).mono (fun _ _=>rfl) hII (fun _ _=>rfl),fun k hk=> .inl hk⟩
  ·rcases hk with hk|⟨id,o,base,sz,h1,h2⟩
   ·exact inv.ilt k hk
   exact(inv.own id o h1).lt h2
  ·obtain⟨o',h1,rfl⟩:=eNm ho
   exact(inv.own id o' h1).lend hII fun k base sz e=>hIB id o' k base sz h1 e
  ·obtain⟨o2,_,rfl⟩:=eNm ho
   rw[eRv]at hm;cases hm
  obtain⟨o2,_,rfl⟩:=eNm ho
  rw[eRv]at hm;cases hm
 exact⟨σ,I,w,a,inv,gr,rel,⟨⟨σ,eNk σ I s,inv1,Grow.refl _ _ _,fun t=>(rel t).mono (fun _ _=>rfl) hII (fun _ _=>rfl)⟩,hdf,hsz,hlt,hlt0⟩⟩
theorem RL.back {c:Ctx} {σ0:Nat→Loc} {I0:Nat→Prop} {w0:World} {s t u:S} {a:Act} {w:World} (h:RL c σ0 I0 w0 s t a w) (hu:fBb s t u):R c σ0 I0 w0 (fun _=>False) u a w:=by
 obtain⟨σ,I,w1,a0,inv,gr,rel,⟨⟨σ',I',inv',gr',rel'⟩,hdf',hsz',hlt',hlt0'⟩⟩:=h
 have hIB: ∀id o k base sz,s.hp id=some o→σ id=.at_ k base sz→eNk σ I s k:=fun id o k base sz h1 h2=> .inr ⟨id,o,base,sz,h1,h2⟩
 have hst: ∀id o,s.hp id=some o→σ id≠.unset:=fun id o ho=>(inv.own id o ho).set
 have hσ: ∀id,σ id≠.unset→σ' id=σ id:=fun id hid=>inv'.ext id hid
 have hw: ∀k,I k→w.heap[k]? =w1.heap[k]?:=fun k hk=>inv'.iw k (.inl hk)
 have hat: ∀id o,s.hp id=some o→σ' id=σ id:=fun id o ho=>hσ id (hst id o ho)
 refine⟨⟨σ',I,?_,gr.trans ⟨hσ,fun _ h=>h,hw⟩,fun k=>?_⟩,hdf',hsz',fun k hk=>hk.elim,fun id hid=>by rw[hu.nx,hu.cx];exact hlt0' id hid⟩
 ·rw[hu.hp]
  refine⟨fun id hid=>?_,inv.imm,fun k hk=>?_,inv'.os.trans inv.os,inv'.tape.trans inv.tape,inv'.output.trans inv.output,Nat.le_trans inv.size inv'.size,fun k hk ho=>?_,fun k hk=>Nat.lt_of_lt_of_le (inv.ilt k hk) inv'.size,fun id o ho=>?_,fun id id' o o' blk base sz base' sz' ho hm ho' hne e1 e2=>?_,fun id o blk base sz ho hm e1=>?_,fun id hid=>?_,fun g xs hg=>(inv.glob g xs hg).mono hσ (fun _ h=>h) hw,inv.inew⟩
  ·have:=inv.ext id hid
   rw[hσ id (by rw[this];exact hid),this]
  ·rw[hw k (inv.imm k hk)];exact inv.iw k hk
  ·rw[inv'.old k (Nat.lt_of_lt_of_le hk inv.size) (fun h=>h)];exact inv.old k hk ho
  ·exact(inv.own id o ho).mono hσ (fun _ h=>h) hw fun blk base sz e1=>⟨inv'.iw blk (hIB id o blk base sz ho e1),fun _ h=>h⟩
  ·rw[hat id o ho]at e1
   rw[hat id' o' ho']at e2
   exact inv.inj id id' o o' blk base sz base' sz' ho hm ho' hne e1 e2
  ·rw[hat id o ho]at e1
   exact inv.lim id o blk base sz ho hm e1
  refine inv'.un id ?_
  rw[←hu.cx]
  rcases hid with hid|⟨k,hk,_⟩|hid
  ·exact .inl hid
  ·exact hk.elim
  exact .inr (.inr hid)
 rcases hu.fr k with h1|⟨h1,h2⟩|⟨v,h1,h2⟩
 ·rw[h1];exact .junk _
 ·have:=rel' k
  rw[←h2]at this
  exact this.keepV h1
 have r0:=rel k
 have r1:=rel' k
 rw[h2,h1]at r1
 rw[h1]at r0
 rw[r1.unpin.1,←r0.unpin.1]
 exact r0.unpin.2.mono hσ (fun _ h=>h) hw
def eTs (P:Program) (GL:Nat→Option (List AV)) (nt:Nat) (s:S) (code:Code) (t:S) (Q:Exit→S→Prop):Prop:=
 ∀(c:Ctx),c.GL=GL→c.nt=nt→∀(σ0:Nat→Loc) (I0:Nat→Prop) (w0:World) (a:Act) (w:World),RL c σ0 I0 w0 s t a w→
  code.wp P (fun e a' w'=> ∃s',Q e s'∧R c σ0 I0 w0 (fun _=>False) s' a' w') a w
def eNs (P:Program) (GL:Nat→Option (List AV)) (nt:Nat) (s:S) (b:Code) (Q:Exit→S→Prop):Exit→S→Prop
 | .normal,t=>eTs P GL nt s b t Q
 |e,t=> ∃u,Q e u∧fBb s t u
section
variable {P : Program} {GL : Nat → Option (List AV)} {nt : Nat} {Q : Exit → S → Prop} {s t : S} {code : Code}
theorem eQr (h:eTs P GL nt s code {s with hp:=ePa s.hp} Q):Awp P GL nt code s Q:=fun c h1 h2 σ0 I0 w0 a w hR=>h c h1 h2 σ0 I0 w0 a w (.begin hR)
theorem eVz {u:S} (hu:fBb s t u) (h:Awp P GL nt code u Q):eTs P GL nt s code t Q:=fun c h1 h2 σ0 I0 w0 a w hR=>h c h1 h2 σ0 I0 w0 a w (hR.back hu)
theorem eVy {x y:Code} (h:Awp P GL nt x t (eNs P GL nt s y Q)):eTs P GL nt s (.seq x y) t Q:=by
 intro c h1 h2 σ0 I0 w0 a w hR
 obtain⟨σ,I,w1,a0,inv,gr,rel,hR'⟩:=hR
 refine wp_seq (wp_mono (h _ (show(eRr c σ I w1 s).GL=GL from h1) (show(eRr c σ I w1 s).nt=nt from h2) _ _ _ a w hR') ?_)
 rintro e a' w' ⟨t',hq,hr⟩
 have hl:RL c σ0 I0 w0 s t' a' w':=⟨σ,I,w1,a0,inv,gr,rel,hr⟩
 cases e with
 |normal=>exact hq c h1 h2 σ0 I0 w0 a' w' hl
 |_=>
  obtain⟨u,hq,hu⟩:=hq
  exact⟨u,hq,hl.back hu⟩
theorem eKx (hc:cYj code=true) (h:Awp P GL nt (cl code) t (eNs P GL nt s (cr code) Q)):eTs P GL nt s code t Q:=by
 cases code<;>first|(cases hc;done)|exact eVy h
theorem eMo {b:Code} (h:eTs P GL nt s b t Q):eNs P GL nt s b Q .normal t:=h
theorem eXk {Γ:Env} (md:Nat→Nat) (ks:List Nat) (hΓ:eJ P GL Γ) (hc:eEs code=true) (hd:lZ code=false) (ho:fK nt (aM code).toList=true)
  (h: ∀K:S→Prop,(∀t,Q .normal t→K t)→nH (aRf P Γ GL md (rN code) (aF code) (cX (rN code) s)) fun t=>K {t with fr:=gL ks t.fr}):Awp P GL nt code s Q:=by
 have h0:=h (Q .normal) fun _ h=>h
 unfold aRf aF rN at h0
 rw[←aBn]at h0
 obtain⟨t,h1,h2⟩:=mR h0
 cases code<;>first|(cases hc;done)|skip
 rename_i id ops d
 simp only[lZ]at hd
 subst hd
 exact sX (aTt hΓ ho h1 ⟨_,h2,dWs ks t,rfl⟩)
theorem fBa (k:Nat) (h: ∀v,Awp P GL nt code {s with fr:=(k,.pin v (dG s.fr k))::s.fr} Q):Awp P GL nt code s Q:=by
 intro c h1 h2 σ0 I0 w0 a w hR
 refine h (a.tmps.getD k undef) c h1 h2 σ0 I0 w0 a w ?_
 obtain⟨⟨σ,I,a1,a2,a3⟩,b,d,e1,e0⟩:=hR
 refine⟨⟨σ,I,a1,a2,fun t=>?_⟩,b,d,e1,e0⟩
 simp only[dG]
 split
 ·rename_i e;subst e;exact .pin _ _ (a3 k)
 exact a3 t
end
end Go.AX

namespace Go.AX
open Go Go.Proofs
set_option maxRecDepth 8000
theorem fCi (hp:H) (v:Value) (n:Nat) (xs:List AV):cO 4 hp (.pin v (.sl n xs))=some (.sl n xs):=(rfl)
attribute [go_sem] fCi
theorem sub3 {g:H} {a b c:Nat} {x y z:AO} (h1:g a=some x) (h2:g b=some y) (h3:g c=some z): ∀j o,upd (upd (upd (fun _=>none) a x) b y) c z j=some o→g j=some o:=by
 intro j o h
 simp only[bJ]at h
 split at h
 ·rename_i e;rw[e,h3];exact h
 split at h
 ·rename_i e;rw[e,h2];exact h
 split at h
 ·rename_i e;rw[e,h1];exact h
 cases h
def dnG:List AV→Option AV
 |[.sl n xs,.sl m ys,.w16 _,.w8 _]=>aK (unS xs) fun p=>aK (unS ys) fun q=>aN ((p.length=n∧n≤9223372036854775807∧∀l∈p,l.length≤9223372036854775807)∧(q.length=m∧m≤9223372036854775807∧∀l∈q,l.length≤9223372036854775807)) (some (.b true))
 |_=>none
set_option maxHeartbeats 8000000 in
theorem fGp:cL Try.prog GLh 5 dnG:=by
 refine cC Try.func5 (aT rfl) ?_
 intro args r hg
 unfold dnG at hg
 split at hg
 ·rename_i n xs m ys pref x
  replace hg:=aJ hg;obtain⟨p,hp,hg⟩:=hg
  replace hg:=aJ hg;obtain⟨q,hq,hg⟩:=hg
  replace hg:=aP hg;obtain⟨⟨⟨rfl,hn,hs1⟩,⟨rfl,hm,hs2⟩⟩,hg⟩:=hg
  obtain rfl:=J0 hg
  have:=gT hp;subst this
  have:=gT hq;subst this
  clear hp hq hg
  refine⟨J1 rfl,fun nx=>?_⟩
  have g1: ∀x:Option AV,aN (p.length≤9223372036854775807∧∀l∈p,l.length≤9223372036854775807) x=x:=fun x=>cU x ⟨hn,hs1⟩
  have g2: ∀x:Option AV,aN (q.length≤9223372036854775807∧∀l∈q,l.length≤9223372036854775807) x=x:=fun x=>cU x ⟨hm,hs2⟩
  refine aA rfl (aW [0,1,2,3] rfl rfl rfl fun K hK=>?_)
  simp(disch:=omega) only[Try.f5,go_sem,↓reduceIte]
  refine hK _ ?_
  refine aB (aA rfl (aA rfl (aC (Γ:=bC [(9,.pure true eNl)]) [19,0,1,2,3] (aH ok9 aO) rfl rfl rfl (fun K hK=>?_))))
  simp(disch:=omega) only[Try.f5,go_sem,↓reduceIte]
  refine hK _ ?_
  refine aB (eC (.tmp 19) rfl rfl rfl (fun h=>?_) (fun h=>?_))
  ·refine aI rfl ?_
   cases h
  refine aI rfl ?_
  clear h
  refine aQ rfl (aB (aA rfl (aA rfl ?_)))
  by_cases q0:okN p
  ·have d0:decide (okN p)=true:=J5 q0
   by_cases q1:okN q
   ·have d1:decide (okN q)=true:=J5 q1
    refine aC (Γ:=bC [(14,.pure true gY)]) [27,0,1,2,3] (aH eCe aO) rfl rfl rfl (fun K hK=>?_)
    simp(disch:=omega) only[Try.f5,go_sem,↓reduceIte,g1,g2,d0,d1,Bool.not_true]
    refine hK _ ?_
    refine aB (eC (.tmp 27) rfl rfl rfl (fun h=>?_) (fun h=>?_))
    ·refine aI rfl ?_
     cases h
    refine aI rfl ?_
    clear h
    refine aQ rfl (aB (aA rfl ?_))
    have w1:=q0.2
    have w2:=q1.2
    have hb1:(eF p).length≤1000000:=by have:=fS p;omega
    have hb2:(eF q).length≤1000000:=by have:=fS q;omega
    have l1:=dS p
    have l2:=dS q
    refine aC (Γ:=bC [(15,.fresh true rG)]) [0,1,2,3,9] (aH eAy aO) rfl rfl rfl (fun K hK=>?_)
    simp(disch:=omega) only[Try.f5,go_sem,↓reduceIte,hb1]
    refine hK _ ?_
    refine aB ?_
    have hbl:=cZ (BitVec.setWidth 32 pref) 2 2
    obtain⟨b0,b1,hab⟩: ∃b0 b1,beL (BitVec.setWidth 32 pref) 2 2=[b0,b1]:=⟨_,_,rfl⟩
    refine aA rfl (eXk (Γ:=bC [(16,.fresh false aIu)]) (fun k=>if k=2 then 2 else 0) [0,1,3,9,10] (aH dUo aO) rfl rfl rfl (fun K hK=>?_))
    simp(disch:=omega) only[Try.f5,go_sem,↓reduceIte,hbl]
    refine hK _ ?_
    refine aB ?_
    rw[hab]
    refine aA rfl (aC (Γ:=bC [(15,.fresh true rG)]) [0,1,3,9,10,11] (aH eAy aO) rfl rfl rfl (fun K hK=>?_))
    simp(disch:=omega) only[Try.f5,go_sem,↓reduceIte,hb2]
    refine hK _ ?_
    refine aB ?_
    have hso:c8 (cM p++cM q)++rep 20 [AV.w8 0#8]=c8 (rF p q z20):=by rw[rF,fBy,←aDj,←aDj,←aDj];rfl
    have hsl:(cM p).length+(cM q).length+20=(rF p q z20).length:=by rw[eMv,l1,l2];rfl
    have hl2:2+(cM p).length=(b0::b1::cM p).length:=by rw[List.length_cons,List.length_cons];omega
    rw[hso,hsl,hl2]
    refine yK (sub3 (a:=nx+1+2+8+1) (b:=nx+1+2+8+3+4) (c:=nx+1+2+8+3+6+5) (x:=.cells (c8 (cM p)) true) (y:=.cells (c8 (b0::b1::cM p)) true) (z:=.cells (c8 (rF p q z20)) true) ?_ ?_ ?_) ?_
    ·simp(disch:=omega) only[aV,kE,bY,↓reduceIte]
    ·simp(disch:=omega) only[aV,kE,bY,↓reduceIte]
    ·simp(disch:=omega) only[aV,↓reduceIte]
    obtain⟨i9,e9⟩: ∃y,nx+1+2+8+1=y:=⟨_,rfl⟩
    obtain⟨i10,e10⟩: ∃y,nx+1+2+8+3+4=y:=⟨_,rfl⟩
    obtain⟨i11,e11⟩: ∃y,nx+1+2+8+3+6+5=y:=⟨_,rfl⟩
    rw[e9,e10,e11]
    obtain⟨A,hA⟩: ∃y,cM p=y:=⟨_,rfl⟩
    obtain⟨B,hB⟩: ∃y,b0::b1::cM p=y:=⟨_,rfl⟩
    obtain⟨C,hC⟩: ∃y,rF p q z20=y:=⟨_,rfl⟩
    have t1:=fEj p q0
    have t2:=fEk p q0 b0 b1
    have t3:=fFb p q q0 q1
    have A5:A.length≤100000:=by rw[←hA];omega
    have B5:B.length≤100000:=by rw[←hB,←hl2];omega
    have C5:C.length≤100000:=by rw[←hC,←hsl];omega
    rw[hB]at t2
    rw[hA]at t1
    rw[hC]at t3
    rw[hB,hA,hC]
    refine fBa 0 fun v0=>?_
    simp only[eW,↓reduceIte]
    refine eQr ?_
    simp only[eWh,eWi,fCz]
    refine eKx rfl (aC (Γ:=bC [(17,.pure false tgG)]) [0,1,3,9,10,11,12,13] (aH eSw aO) rfl rfl rfl (fun K hK=>?_))
    simp(disch:=omega) only[Try.f5,go_sem,↓reduceIte,t1,A5]
    refine hK _ ?_
    refine eMo (eKx rfl (aC (Γ:=bC [(17,.pure false tgG)]) [0,1,3,9,10,11,12,13,14,15] (aH eSw aO) rfl rfl rfl (fun K hK=>?_)))
    simp(disch:=omega) only[Try.f5,go_sem,↓reduceIte,t2,B5]
    refine hK _ ?_
    refine eMo (eKx rfl (aC (Γ:=bC [(18,.pure false eQo)]) [0,1,3,9,10,11,12,13,14,15,16,17] (aH eBs aO) rfl rfl rfl (fun K hK=>?_)))
    simp(disch:=omega) only[Try.f5,go_sem,↓reduceIte,t3,C5]
    refine hK _ ?_
    refine eMo (eKx rfl (aA rfl (aC (Γ:=bC [(19,.pure true eNi)]) [87,0,3,9,10,11] (aH eCd aO) rfl rfl rfl (fun K hK=>?_))))
    simp(maxSteps:=400000) (disch:=omega) only[Try.f5,go_sem,↓reduceIte,hn,hm,Bool.not_true,J8,J7,J9]
    refine hK _ ?_
    refine aB (eC (.tmp 87) rfl rfl rfl (fun h=>?_) (fun h=>?_))
    ·refine aI rfl ?_
     cases h
    refine aI rfl ?_
    clear h
    refine aQ rfl (eMo (eVz (fAz (L:=[(0,.sl p.length (cS p)),(3,.w8 x),(9,.os i9 0 A.length 1 true),(10,.os i10 0 B.length 1 true),(11,.os i11 0 C.length 1 true)]) ?_) ?_))
    ·intro e he
     simp only[List.mem_cons,List.not_mem_nil,or_false]at he
     rcases he with rfl|rfl|rfl|rfl|rfl
     ·exact .inr ⟨v0,rfl,rfl⟩
     ·exact .inl ⟨rfl,rfl⟩
     ·exact .inl ⟨rfl,rfl⟩
     ·exact .inl ⟨rfl,rfl⟩
     exact .inl ⟨rfl,rfl⟩
    dsimp only
    have c1:=fGr p q0 x
    have c2:=fGs p q0 b0 b1
    have c3:=fGq p q q0 q1 x
    have c4:=fGt p q0
    rw[hA]at c1 c2
    rw[hC]at c3
    have lA:A.length=wl p:=by rw[←hA,l1]
    have lB:B.length=A.length+2:=by rw[←hB,←hA];rfl
    have hBt:B.take (B.length-1)=b0::b1::A.take (A.length-1):=by
     rw[lB,←hB,hA,show A.length+2-1=(A.length-1)+2 by have:=eQi p;omega];rfl
    rw[←hBt]at c2
    have eB:((B.length:Int)-1).toNat=B.length-1:=by omega
    have wp1:=eQi p
    have tA:List.take (A.length+1) (A++[x])=A++[x]:=List.take_of_length_le (by simp)
    have tC:List.take (C.length+1) (C++[x])=C++[x]:=List.take_of_length_le (by simp)
    have lAx:(A++[x]).length=A.length+1:=by simp
    have lCx:(C++[x]).length=C.length+1:=by simp
    have lBt:(B.take (B.length-1)).length=B.length-1:=by rw[List.length_take];omega
    have A9:A.length≤99999:=by omega
    have C9:C.length≤99999:=by rw[←hC,←hsl];omega
    have B9:B.length-1≤100000:=by omega
    have w5:(cM p).length≤100000:=by omega
    refine aA rfl (aC (Γ:=bC [(13,.pure true eNq),(15,.fresh true rG)]) [8] (aH eVm (aH eAy aO)) rfl rfl rfl (fun K hK=>?_))
    simp(maxSteps:=400000) (disch:=omega) only[Try.f5,go_sem,↓reduceIte,c1,c2,c3,c4,eB,hb1,tA,tC,lAx,lCx,lBt,A9,C9,B9,w5,Nat.sub_zero,decide_true,U0,U1,J9]
    refine hK _ ?_
    refine aB (aS rfl ?_)
    simp(disch:=omega) only[cN,bV,bK,bQ,Try.f5,go_sem,↓reduceIte]
   have d1:decide (okN q)=false:=J6 q1
   refine aC (Γ:=bC [(14,.pure true gY)]) [27,0,1,2,3] (aH eCe aO) rfl rfl rfl (fun K hK=>?_)
   simp(disch:=omega) only[Try.f5,go_sem,↓reduceIte,g1,g2,d0,d1,Bool.not_true,Bool.not_false]
   refine hK _ ?_
   refine aB (eC (.tmp 27) rfl rfl rfl (fun h=>?_) (fun h=>?_))
   ·refine aI rfl (aA rfl (aW [8] rfl rfl rfl fun K hK=>?_))
    simp(disch:=omega) only[Try.f5,go_sem,↓reduceIte]
    refine hK _ ?_
    refine aB (aS rfl (bI ?_))
    simp(disch:=omega) only[cN,bV,bK,bQ,Try.f5,go_sem,↓reduceIte]
   refine aI rfl ?_
   cases h
  have d0:decide (okN p)=false:=J6 q0
  refine aC (Γ:=bC [(14,.pure true gY)]) [27,0,1,2,3] (aH eCe aO) rfl rfl rfl (fun K hK=>?_)
  simp(disch:=omega) only[Try.f5,go_sem,↓reduceIte,g1,d0,Bool.not_false]
  refine hK _ ?_
  refine aB (eC (.tmp 27) rfl rfl rfl (fun h=>?_) (fun h=>?_))
  ·refine aI rfl (aA rfl (aW [8] rfl rfl rfl fun K hK=>?_))
   simp(disch:=omega) only[Try.f5,go_sem,↓reduceIte]
   refine hK _ ?_
   refine aB (aS rfl (bI ?_))
   simp(disch:=omega) only[cN,bV,bK,bQ,Try.f5,go_sem,↓reduceIte]
  refine aI rfl ?_
  cases h
 cases hg
end Go.AX
