/-
  AX, part AyA: small laws of the walks that speak of no program. AX, more, part B: 'clear' of a slice; functions that turn one own row in place and hand back a slice of it. AX, part AyC: calls that panic: what has been done is left, and all own objects are given up. AX, part AyD: a region that draws its order and ends with a call that panics. Wire, part cA: what gives up reading. AX, part AyE: functions that turn one own object in place, answer with what may be read from then on, or panic. Wire, part cB: bytes taken off a reader. Wire, part cC: numbers, texts, all the rest, off a reader. Wire, part cD: in plain words: a name read with its pointers; questions; a message that has no records. AX, part AyF: functions that defer one closure, which recovers. AX, part AyG: a region that draws its order, walked in each order that it may take (where operations meet that need not wait for each other, such as a load of one own object and a store to another). AX, part AyH: a plain function that is handed a closure over an own object. AX, part AyI: a plain function that is handed something and a closure over an own object. AX, part AyJ: an own object that is no more written becomes a plain one. AX, part AyK: a region that draws its order, in which one pair of operations that don't wait for each other meets: two orders are walked. AX, more, part M: maps: evaluation. AX, more, part N: a region that draws its order, where operations are apart by the own objects that they touch. AX, more, part Q: a region that draws its order, where operations are apart by the own objects that they touch: the rule. AX, more, part R: a part of a function that runs on lent objects: whatever it makes of them, they are there again behind it. Wire, part cE: a name taken off a reader, pointers and all. Wire, part cF: questions. Wire, part cG: no records; functions over no records. AX, part AyP: a region that draws its order, where a few orders stand for all: each other order is one of them but for operations that don't touch one another. Wire, part fB: a region that draws its order, one of whose calls panics wherever in the order it comes. Wire, part cH: a message that has no records, taken off a reader. Wire, part cI: a function that defers and recovers behind some other code. Wire, part cJ: Read. Wire, part cK: a name read off bytes. Wire, part cL: names' bytes and small letters. Wire, part cM: names that may stand. Wire, part cN: a writer in memory; numbers written. Wire, part cO: a writer's names: what was written is written as a pointer.
-/
import Derived.Test.YtbhlbggocbhecaaGreatBB
import Derived.Scope
import Derived.WalkKit
import Derived.Tactics
import Derived.Tactics2
import Derived.Defers
import Derived.Recover
namespace Go.AX
open Go Go.Proofs
variable {P : Program} {GL : Nat → Option (List AV)} {nt : Nat} {code : Code} {Q : Exit → S → Prop} {s t : S}
abbrev B8:=BitVec 8
abbrev W32:=BitVec 32
def word (b:List B8) (i:Nat):W32:=
 (b.getD (4*i) 0#8).setWidth 32 <<<24|||(b.getD (4*i+1) 0#8).setWidth 32 <<<16|||(b.getD (4*i+2) 0#8).setWidth 32 <<<8|||(b.getD (4*i+3) 0#8).setWidth 32
def w16 (b:List B8):Nat→List W32
 |0=>List.replicate 64 0#32
 |i+1=>(w16 b i).set i (word b i)
def un8:List AV→Option (List B8)
 |[]=>some []
 | .w8 x::r=>aK (un8 r) fun l=>some (x::l)
 |_::_=>none
theorem kK (l:List B8):un8 (c8 l)=some l:=by
 induction l with
 |nil=>rfl
 |cons x r ih=>show aK (un8 (c8 r)) _=_;rw[ih];rfl
theorem iX: ∀(xs:List AV) {l:List B8},un8 xs=some l→xs=c8 l
 |[],l,h=>by obtain rfl:=J0 h;rfl
 |x::r,l,h=>by
  cases x with
  |w8 y=>
   simp only[un8]at h
   replace h:=aJ h;obtain⟨m,hm,h⟩:=h
   obtain rfl:=J0 h
   rw[iX r hm];rfl
  |_=>cases h
theorem bY (a b:Nat) (h:a≠b):(a=b)=False:=eq_false h
structure KC where
 k:Nat
 c:Nat
theorem aRw (l:List B8):AV.noMem.noMemL (c8 l)=true:=by
 induction l with
 |nil=>rfl
 |cons x l ih=>show(AV.noMem (.w8 x)&&AV.noMem.noMemL (c8 l))=true;rw[ih];rfl
theorem fPg {P:Program} {GL:Nat→Option (List AV)} {nt:Nat} {code:Code} {Q:Exit→S→Prop} {fr:List (Nat×AV)} {hp:H} {nx cx:Nat} (ks:List Nat)
  (h:Awp P GL nt code {fr:=gL ks fr,hp:=hp,nx:=nx,cx:=cx} Q):Awp P GL nt code {fr:=fr,hp:=hp,nx:=nx,cx:=cx} Q:=
 tU h (dWs ks {fr:=fr,hp:=hp,nx:=nx,cx:=cx}) rfl
def b4 (n:Nat):List B8:=[BitVec.ofInt 8 ((n:Int).fdiv 16777216),BitVec.ofInt 8 ((n:Int).fdiv 65536),BitVec.ofInt 8 ((n:Int).fdiv 256),BitVec.ofInt 8 (n:Int)]
def cP (ps:List (List B8)):List AV:=ps.map fun p=> .sl p.length (c8 p)
structure KIC where
 k:Nat
 id:Nat
 c:Nat
theorem cEt (x:AV):rep 2 [x]=[x,x]:=(rfl)
theorem cEs (x:AV):rep 3 [x]=[x,x,x]:=(rfl)
theorem cTp (x y:AV) (xs:List AV):eG (x::xs) 0 [y]=y::xs:=by simp[eG]
theorem cTq (x y:AV) (xs:List AV) (k:Nat):eG (x::xs) (k+1) [y]=x::eG xs k [y]:=by simp[eG]
theorem aPl (l:List B8) (k:Nat) (h:k<l.length):(c8 (l.drop k)).head? =some (.w8 (l.getD k 0#8)):=by rw[←tP];exact oC l k h
def bZx (hp:H) (xs:List AV):Bool→Option (List AV×H)|true=>some (xs,hp)|false=>gG hp xs
theorem bNd (hp:H) (xs:List AV):uU hp xs=bZx hp xs (fVs xs):=by unfold uU bZx;cases fVs xs<;>rfl
theorem bNb (hp:H) (xs:List AV):bZx hp xs true=some (xs,hp):=(rfl)
theorem aNe:fVs []=true:=(rfl)
theorem aWh (x:B8) (r:List AV):fVs (.w8 x::r)=fVs r:=by simp[fVs,wG]
theorem bJz (x:List B8) (r:List AV):fVs (.s x::r)=fVs r:=by simp[fVs,wG]
theorem aNd (x:BitVec 16) (r:List AV):fVs (.w16 x::r)=fVs r:=by simp[fVs,wG]
theorem aNc (x:W32) (r:List AV):fVs (.w32 x::r)=fVs r:=by simp[fVs,wG]
theorem dCv (l:List B8) (a:B8):c8 l++[AV.w8 a]=c8 (l++[a]):=by simp[c8]
theorem dCu (l:List B8) (a b:B8):c8 l++[AV.w8 a,.w8 b]=c8 (l++[a,b]):=by simp[c8]
def beL (n:W32) (k:Nat):Nat→List B8
 |0=>[]
 |j+1=>beL n k j++[(n>>>(8*(k-1-j))).setWidth 8]
theorem cZ (n:W32) (k j:Nat):(beL n k j).length=j:=by
 induction j with
 |zero=>rfl
 |succ j ih=>simp[beL,ih]
theorem iE {P:Program} {GL:Nat→Option (List AV)} {nt:Nat} {code:Code} {Q:Exit→S→Prop} {fr:List (Nat×AV)} {hp:H} {nx cx:Nat} (t e:Nat) (hn:dG fr t=.v (.slice none 0 0))
  (h:Awp P GL nt code {fr:=(t,.os cx 0 0 e true)::fr,hp:=upd hp cx (.cells [] true),nx:=nx,cx:=cx+1} Q):Awp P GL nt code {fr:=fr,hp:=hp,nx:=nx,cx:=cx} Q:=by
 intro c h1 h2 σ0 I0 w0 a w hR
 refine h c h1 h2 σ0 I0 w0 a w ?_
 obtain⟨⟨σ,I,a1,a2,a3⟩,b,d,e1,e0⟩:=hR
 have hu:cx≤cx∨(∃k,False∧cx=nx+k)∨c.u0 cx:=.inl (U3 _)
 have hun:=a1.un cx hu
 have hσ:=dM (l:=.nil) hun
 refine⟨⟨cU σ cx .nil,I,(a1.newNil hu).mono_un fun id hid=>?_,a2.trans ⟨hσ,fun _ h=>h,fun _ _=>rfl⟩,fun k=>?_⟩,b,d,fun k hk=>hk.elim,fun id hid=>⟨(e0 id hid).1,Nat.lt_succ_of_lt (e0 id hid).2⟩⟩
 ·rcases hid with hid|⟨k,hk,_⟩|hid
  ·exact⟨.inl (Nat.le_of_succ_le hid),Nat.ne_of_gt hid⟩
  ·exact hk.elim
  exact⟨.inr (.inr hid),Nat.ne_of_lt (e0 id hid).2⟩
 show Rel _ I w (if t=k then .os cx 0 0 e true else dG fr k) _
 have h3:=a3 k
 by_cases hk:t=k
 ·subst hk
  rw[J4 rfl]
  have h4:dG fr t=.v (.slice none 0 0):=hn
  rw[h4]at h3
  generalize hv:a.tmps.getD t undef=v at h3
  cases h3
  exact .osnil _ _ _ (by simp[cU])
 rw[J3 hk]
 exact h3.mono hσ (fun _ h=>h) (fun _ _=>rfl)
theorem fKa {t:H}: ∀j o,(fun _=>none:H) j=some o→t j=some o:=fun _ _ h=>by cases h
theorem bS {s t:H} {i:Nat} {a:AO} (h1:t i=some a) (h2: ∀j o,s j=some o→t j=some o): ∀j o,upd s i a j=some o→t j=some o:=by
 intro j o h
 rw[bJ]at h
 split at h
 ·rename_i e;subst e;rw[h1];exact h
 exact h2 j o h
theorem iA (l:List B8):fHq (c8 l)=some l:=by
 induction l with
 |nil=>rfl
 |cons x r ih=>show aK (fHq (c8 r)) _=_;rw[ih];rfl
theorem aGo (x r:List AV):dB (.agg x::r)=false:=(rfl)
def cS (ps:List (List B8)):List AV:=ps.map .s
def unS:List AV→Option (List (List B8))
 |[]=>some []
 | .s l::r=>aK (unS r) fun ps=>some (l::ps)
 |_=>none
theorem aQr (ps:List (List B8)):unS (cS ps)=some ps:=by
 induction ps with
 |nil=>rfl
 |cons p ps ih=>show aK (unS (cS ps)) (fun l=>some (p::l))=_;rw[ih,aX]
theorem gT: ∀ {xs:List AV} {ps:List (List B8)},unS xs=some ps→xs=cS ps
 |[],ps,h=>by obtain rfl:=J0 h;rfl
 |x::r,ps,h=>by
  cases x<;>simp only[unS]at h<;>first|(cases h;done)|skip
  replace h:=aJ h;obtain⟨l,hl,h⟩:=h
  obtain rfl:=J0 h
  rw[gT hl];rfl
theorem cQo (ps:List (List B8)):(cS ps).length=ps.length:=List.length_map ..
theorem aXq (ps:List (List B8)) (k:Nat) (h:k<ps.length):((cS ps).drop k).head? =some (.s (ps.getD k [])):=by
 rw[List.head?_drop];simp[cS,List.getElem?_map,List.getElem?_eq_getElem h]
theorem bPf (ps:List (List B8)):dB (cS ps)=true:=by
 simp only[dB,cS,List.all_eq_true,List.mem_map]
 rintro _ ⟨x,_,rfl⟩;rfl
theorem cQq (l m:List (List B8)):cS l++cS m=cS (l++m):=by simp[cS]
theorem aXr (l:List (List B8)) (k:Nat):(cS l).drop k=cS (l.drop k):=by simp[cS,List.map_drop]
theorem cCa (l:List (List B8)) (k:Nat):(cS l).take k=cS (l.take k):=by simp[cS,List.map_take]
theorem bPg (ps:List (List B8)) (k:Nat) (h:k<ps.length):(cS (ps.drop k)).head? =some (.s (ps.getD k [])):=by rw[←aXr];exact aXq ps k h
theorem cMi (l:List B8):List.map AV.w8 l=c8 l:=rfl
theorem cSp {P:Program} {GL:Nat→Option (List AV)} {nt:Nat} {code:Code} {Q:Exit→S→Prop} {fr:List (Nat×AV)} {hp:H} {nx cx:Nat} (i k:Nat) (xs:List AV) (ho:hp i=some (.cells xs true))
  (h:Awp P GL nt code {fr:=fr,hp:=upd hp i (.cells (xs.take k) true),nx:=nx,cx:=cx} Q):Awp P GL nt code {fr:=fr,hp:=hp,nx:=nx,cx:=cx} Q:=by
 intro c h1 h2 σ0 I0 w0 a w hR
 refine h c h1 h2 σ0 I0 w0 a w ?_
 obtain⟨⟨σ,I,a1,a2,a3⟩,b,d,e1,e0⟩:=hR
 exact⟨⟨σ,I,a1.trunc ho k,a2,a3⟩,b,d,e1,e0⟩
theorem yK {P:Program} {GL:Nat→Option (List AV)} {nt:Nat} {code:Code} {Q:Exit→S→Prop} {fr:List (Nat×AV)} {hp hp':H} {nx cx:Nat} (hs: ∀j o,hp' j=some o→hp j=some o)
  (h:Awp P GL nt code {fr:=fr,hp:=hp',nx:=nx,cx:=cx} Q):Awp P GL nt code {fr:=fr,hp:=hp,nx:=nx,cx:=cx} Q:=tU h ⟨fun _=> .inr rfl,hs,U3 _⟩ rfl
def aLp (w:World) (l:Loc) (k:Nat):Value:=
 match l with
 | .at_ blk base _=>match w.heap[blk]? with|some (.cells cs _ _)=>cs.getD (base+k) undef|_=>undef
 |_=>undef
theorem aMl {c:Ctx} {σ:Nat→Loc} {I:Nat→Prop} {w:World} {hp:H} {un:Nat→Prop} (h:Inv c σ I w hp un) {i:Nat} {xs:List AV} {mt:Bool} (ho:hp i=some (.cells xs mt)): ∀k (_h:k<xs.length),xs[k].isCell=true∧Rel σ I w xs[k] (aLp w (σ i) k):=by
 have hrow:=h.own i _ ho
 simp only[eD]at hrow
 cases e:σ i with
 |unset=>simp only[e]at hrow
 |nil=>simp only[e]at hrow;subst hrow;exact fun k hk=>by simp at hk
 |at_ blk base sz=>
  simp only[e]at hrow
  obtain⟨⟨⟨cs,T,lo,hi,q1,q2,q3,q4,q5⟩,q6⟩,q7⟩:=hrow
  intro k hk
  simp only[aLp,q1]
  exact⟨q6 k hk,q5 k hk⟩
theorem Inv.reRow {c:Ctx} {σ:Nat→Loc} {I:Nat→Prop} {w:World} {hp:H} {un:Nat→Prop} (h:Inv c σ I w hp un) {i:Nat} {xs ys:List AV} {mt:Bool} (ho:hp i=some (.cells xs mt)) (hl:ys.length=xs.length)
  (hr: ∀k (_h:k<ys.length),ys[k].isCell=true∧Rel σ I w ys[k] (aLp w (σ i) k)):Inv c σ I w (upd hp i (.cells ys mt)) un:=by
 have get: ∀id o,upd hp i (.cells ys mt) id=some o→(id=i∧o=.cells ys mt)∨(id≠i∧hp id=some o):=by
  intro id o h
  simp only[upd]at h
  split at h
  ·rename_i e;exact .inl ⟨e,(J0 h).symm⟩
  rename_i e;exact .inr ⟨e,h⟩
 have hil:=h.updIL ho (.cells ys mt) fun h=>h
 refine {h with own:=fun id o h1=>?_,inj:=hil.1,lim:=hil.2}
 rcases get id o h1 with⟨rfl,rfl⟩|⟨_,h2⟩
 ·have h3:=h.own id _ ho
  simp only[eD]at h3⊢
  cases e:σ id with
  |unset=>simp only[e]at h3
  |nil=>simp only[e]at h3⊢;subst h3;exact List.eq_nil_of_length_eq_zero hl
  |at_ blk base sz=>
   simp only[e]at h3⊢
   obtain⟨⟨⟨cs,T,lo,hi,q1,q2,q3,q4,q5⟩,q6⟩,q7⟩:=h3
   have h4:=hr
   simp only[e,aLp,q1]at h4
   exact⟨⟨⟨cs,T,lo,hi,q1,q2,by omega,q4,fun k hk=>(h4 k hk).2⟩,fun k hk=>(h4 k hk).1⟩,q7⟩
 exact h.own id o h2
theorem aDn {P:Program} {GL:Nat→Option (List AV)} {nt:Nat} {code:Code} {Q:Exit→S→Prop} {fr:List (Nat×AV)} {hp:H} {nx cx:Nat} (i z:Nat) (xs ys:List AV) (mt:Bool) (ho:hp i=some (.cells (xs++ .v (.slice none 0 0)::ys) mt)) (hi:i≠cx)
  (h:Awp P GL nt code {fr:=fr,hp:=upd (upd hp cx (.cells [] true)) i (.cells (xs++ .os cx 0 0 z true::ys) mt),nx:=nx,cx:=cx+1} Q):Awp P GL nt code {fr:=fr,hp:=hp,nx:=nx,cx:=cx} Q:=by
 intro c h1 h2 σ0 I0 w0 a w hR
 refine h c h1 h2 σ0 I0 w0 a w ?_
 obtain⟨⟨σ,I,a1,a2,a3⟩,b,d,e1,e0⟩:=hR
 have hu:cx≤cx∨(∃k,False∧cx=nx+k)∨c.u0 cx:=.inl (U3 _)
 have hun:=a1.un cx hu
 have hσ:=dM (l:=.nil) hun
 have hn:=(a1.newNil hu).mono_un (un':=fun id=>cx+1≤id∨(∃k,False∧id=nx+k)∨c.u0 id) fun id hid=>by
  rcases hid with hid|⟨k,hk,_⟩|hid
  ·exact⟨.inl (Nat.le_of_succ_le hid),Nat.ne_of_gt hid⟩
  ·exact hk.elim
  exact⟨.inr (.inr hid),Nat.ne_of_lt (e0 id hid).2⟩
 have ho2:upd hp cx (.cells [] true) i=some (.cells (xs++ .v (.slice none 0 0)::ys) mt):=by rw[bJ,J3 hi];exact ho
 have hσi:cU σ cx .nil i=σ i:=by simp[cU,hi]
 refine⟨⟨cU σ cx .nil,I,hn.reRow ho2 (by simp) (fun k hk=>?_),a2.trans ⟨hσ,fun _ h=>h,fun _ _=>rfl⟩,fun k=>?_⟩,b,d,fun k hk=>hk.elim,fun id hid=>⟨(e0 id hid).1,Nat.lt_succ_of_lt (e0 id hid).2⟩⟩
 ·have hk2:k<(xs++ .v (.slice none 0 0)::ys).length:=by simpa using hk
  have h5:=aMl hn ho2 k hk2
  by_cases e:k=xs.length
  ·subst e
   rw[List.getElem_append_right (U3 _)]at h5⊢
   simp only[Nat.sub_self,List.getElem_cons_zero]at h5⊢
   refine⟨rfl,?_⟩
   have h6:=h5.2
   generalize aLp w (cU σ cx .nil i) xs.length=v at h6⊢
   cases h6
   exact .osnil _ _ _ (by simp[cU])
  have h7:(xs++ .os cx 0 0 z true::ys)[k]=(xs++ .v (.slice none 0 0)::ys)[k]:=by
   rw[List.getElem_append,List.getElem_append]
   split
   ·rfl
   rename_i hlt
   obtain⟨m,hm⟩: ∃m,k-xs.length=m+1:=⟨k-xs.length-1,by omega⟩
   simp only[hm,List.getElem_cons_succ]
  rw[h7];exact h5
 exact(a3 k).mono hσ (fun _ h=>h) (fun _ _=>rfl)
theorem aXg (P:Program) (xs:List AV) (f:Nat) (fs:Array Field):faF P (.rp xs) f (some (.struct fs))=aK fs[f]? fun fd=>aK (eK P fd.type) fun n=>aN (0<n) (some (.rp (xs.drop fd.offset))):=(rfl)
theorem aXh (P:Program) (id off:Nat) (f:Nat) (fs:Array Field):faF P (.op id off) f (some (.struct fs))=aK fs[f]? fun fd=>aK (eK P fd.type) fun n=>aN (0<n) (some (.op id (off+fd.offset))):=(rfl)
theorem aXx (P:Program) (n:Nat) (ps:List (Nat×AV)) (zs:List AV) (fs:Array Field):bdF P n ps (some zs) (some (.struct fs))=aK (fZh (fun k=>aK fs[k]? fun fd=>aK (eK P fd.type) fun n=>some (fd.offset,n)) zs ps) fun cs=>aN (fs.toList.all (fun fd=>(eK P fd.type).isSome)=true) (some (.agg cs)):=(rfl)
theorem aVn (zs:List AV):rep 1 zs=zs:=by simp[rep]
attribute [go_sem] fQ wS mP iM oC aPm eXf eEg tP lN Int.toNat_natCast aDj eQz List.length_set List.length_replicate List.take_of_length_le List.length_append List.take_zero List.map_cons List.map_nil List.getElem?_cons_zero List.getElem?_cons_succ Bool.and_true
attribute [go_sem] Bool.true_and Bool.and_self aRw bY kK aPl cEt cEs cTp cTq bNd
attribute [go_sem] bNb aNe aWh bJz aNd aNc dCv dCu iA aGo aQr cQo aXq bPg bPf cQq aXr cCa cMi
attribute [go_sem] aVn aXg aXh aXx
end Go.AX

namespace Go.AX
open Go Go.Proofs
def clO (i off n e' z:Nat) (zs:List AV) (hp:H):AO→Option (AV×H)
 | .cells xs mt=>aN (mt=true∧e'=z∧off+n*z≤xs.length) (some (.tup [],upd hp i (.cells (eG xs off (rep n zs)) true)))
 |_=>none
def clX (x:AV) (z:Nat) (zs:List AV) (hp:H):Option (AV×H):=
 match x with
 | .os i off n e' _=>aK (hp i) (clO i off n e' z zs hp)
 |_=>none
def clM (hp:H):AV→Option (AV×H)
 | .mp id=>aK (hp id) (aSz id hp)
 |_=>none
def clF (P:Program) (hp:H) (x:AV):Option TypeDesc→Option (AV×H)
 |some (.map _ _)=>clM hp x
 |some (.slice e)=>aK (eK P e) fun z=>aK (lA P e) fun zs=>aN (0<z∧zs.length=z) (clX x z zs hp)
 |_=>none
theorem bNv {P:Program} {Γ:Env} {ρ:Operand→AV} {m nx n id cx:Nat} {hp:H} {x:Operand} {t:TypeId}:eff P Γ (.call {callee:=.builtin .clear,args:= #[x],argTypes:= #[t]}) ρ m nx n hp id cx=aK (clF P hp (ρ x) (P.underlying t)) fun p=>some (p.1,p.2,cx):=by
 simp only[eff,cls,fR,aKa]
 cases P.underlying t with
 |none=>rfl
 |some d=>cases d<;>first|rfl|(simp only[clF,clM];cases ρ x<;>rfl)
theorem cQg {P:Program} {hp:H} {x:AV} (e:TypeId):clF P hp x (some (.slice e))=aK (eK P e) fun z=>aK (lA P e) fun zs=>aN (0<z∧zs.length=z) (clX x z zs hp):=(rfl)
theorem cQe (i off n e':Nat) (g:Bool) (z:Nat) (zs:List AV) (hp:H):clX (.os i off n e' g) z zs hp=aK (hp i) (clO i off n e' z zs hp):=(rfl)
theorem dBd (i off n e' z:Nat) (zs xs:List AV) (mt:Bool) (hp:H):clO i off n e' z zs hp (.cells xs mt)=aN (mt=true∧e'=z∧off+n*z≤xs.length) (some (.tup [],upd hp i (.cells (eG xs off (rep n zs)) true))):=(rfl)
attribute [go_sem] bNv cQg cQe dBd
theorem cPf {P:Program} {Γ:Env} {ρ:Operand→AV} {m nx n id cx:Nat} {hp:H} {x y:Operand} {t t2:TypeId}:eff P Γ (.call {callee:=.builtin .min,args:= #[x,y],argTypes:= #[t,t2]}) ρ m nx n hp id cx=aK (aCh (ρ x) (ρ y)) fun y=>some (y,hp,cx):=(rfl)
theorem cMe (a b:Int):aCh (.i a) (.i b)=some (.i (if b<a then b else a)):=(rfl)
attribute [go_sem] cPf cMe
theorem aRi {σ σ':Nat→Loc} {I I':Nat→Prop} {w w':World} {id off n e:Nat} {g:Bool} {v:Value} (h:Rel σ' I' w' (.os id off n e g) v) (hl:σ' id=σ id):Rel σ I w (.os id off n e g) v:=by
 cases h with
 |os _ _ _ _ _ blk base sz cap g1 g2 g3=>exact .os id off n e g blk base sz cap (hl▸g1) g2 g3
 |osnil _ _ _ g1=>exact .osnil _ _ _ (hl▸g1)
 |oszero _ _ _ _ a g1=>exact .oszero _ _ _ _ a (hl▸g1)
structure aLk (P:Program) (rs:List ResultVar) (r:AV) (id:Nat) (ys:List AV) (t:S):Prop where
 res:bV P rs t=some r
 row:t.hp id=some (.cells ys true)
 nm:r.noMem=true∨∃off n e g,r=.os id off n e g
 nms:AV.noMem.noMemL ys=true
def cFr (P:Program) (rs:List ResultVar) (r:AV) (id:Nat) (ys:List AV):Exit→S→Prop
 | .ret,t=>aLk P rs r id ys t
 | .normal,t=>aLk P rs r id ys t
 |_,_=>False
section
variable {P : Program} {GL : Nat → Option (List AV)}
theorem cFq {f:FuncId} {fn:Func} {code:Code} {g:List AV→List AV→Option (AV×List AV)} (hf:P.funcs[f]? =some fn) (hb:fn.body=some code)
  (h: ∀id off n e gg rest nx xs r ys,g (.os id off n e gg::rest) xs=some (r,ys)→rest.length+1≤fn.ntmps∧(id<nx→Awp P GL fn.ntmps code (sN (.os id off n e gg::rest) (upd (fun _=>none) id (.cells xs true)) nx) (cFr P fn.results.toList r id ys))):fHs P GL f (dP g):=by
 intro c σ I w hp nx args vals r hp' nx' hGL hi hs hr hg
 unfold dP at hg
 split at hg
 case h_2=>cases hg
 rename_i id off n e gg rest
 replace hg:=aJ hg;obtain⟨o,ho,hg⟩:=hg
 obtain⟨xs,mt,rfl⟩: ∃a b,o=AO.cells a b:=by cases o<;>first|exact⟨_,_,rfl⟩|(simp at hg)
 simp only at hg
 replace hg:=aP hg;obtain⟨hmt,hg⟩:=hg
 subst hmt
 replace hg:=aJ hg;obtain⟨⟨r0,ys⟩,hgg,hg⟩:=hg
 simp only[Option.some.injEq,Prod.mk.injEq]at hg
 obtain⟨rfl,rfl,rfl⟩:=hg
 obtain⟨hlen,haw⟩:=h id off n e gg rest nx xs r0 ys hgg
 refine⟨U3 _,?_⟩
 have hset:σ id≠.unset:=by
  intro hu
  have:=hi.own id _ ho
  simp[eD,hu]at this
 have hid:id<nx:=by
  apply Classical.byContradiction
  intro hc
  exact hset (hi.un id (by omega))
 have get1: ∀k o,upd (fun _=>none:H) id (.cells xs true) k=some o→k=id∧o=.cells xs true:=by
  intro k o hk
  rw[bJ]at hk
  split at hk
  ·rename_i e;exact⟨e,(J0 hk).symm⟩
  cases hk
 have hnI: ∀blk base sz,σ id=.at_ blk base sz→¬I blk:=by
  intro blk base sz e1
  have:=hi.own id _ ho
  simp only[eD,e1]at this
  exact this.2.1 trivial
 have hi':Inv {w0:=w,σ0:=σ,I0:=I,O:=fun k=> ∃base sz,σ id=.at_ k base sz,GL:=GL,nt:=fn.ntmps,u0:=fun k=>k<nx∧σ k=.unset} σ I w (upd (fun _=>none) id (.cells xs true)) (fun k=>nx≤k∨(k<nx∧σ k=.unset)):=by
  refine⟨fun _ _=>rfl,fun _ h=>h,fun _ _=>rfl,rfl,rfl,rfl,U3 _,fun _ _ _=>rfl,hi.ilt,fun k o hk=>?_,fun k k' zs o' blk base sz base' sz' h1 hm h2 hne e1=>?_,fun k zs blk base sz h1 hm e1=>?_,fun k hk=>hk.elim (hi.un k) (fun h=>h.2),fun g xs hg=>hi.glob g xs (by rw[hGL];exact hg),fun _ h=> .inl h⟩
  ·obtain⟨rfl,rfl⟩:=get1 k o hk;exact hi.own _ _ ho
  ·obtain⟨rfl,_⟩:=get1 k _ h1
   obtain⟨rfl,_⟩:=get1 k' _ h2
   exact absurd rfl hne
  obtain⟨rfl,_⟩:=get1 k _ h1
  exact .inr ⟨base,sz,e1⟩
 have hQ: ∀e t,cFr P fn.results.toList r0 id ys e t→(e=.ret∨e=.normal)∧aLk P fn.results.toList r0 id ys t:=by
  intro e t hq;cases e<;>first|exact⟨.inl rfl,hq⟩|exact⟨.inr rfl,hq⟩|exact hq.elim
 refine aBm hf hb _ rfl rfl rfl (by simpa using hlen) (fun e t hq=>(hQ e t hq).1) (haw hid) hi' (fun _ h=>h.1) hs hr ?_
 intro e t a w' hq hR
 obtain⟨⟨σ',I',a1,a2,a3⟩,_⟩:=hR
 obtain⟨q1,q2,q3,q4⟩:=(hQ e t hq).2
 obtain⟨v,hv,hrel⟩:=eZ (P:=P) a1 a3 q1
 have hold: ∀k,k<w.heap.size→(∀base sz,σ id≠.at_ k base sz)→w'.heap[k]? =w.heap[k]?:=fun k hk hn=>a1.old k hk (fun⟨base,sz,e⟩=>hn base sz e)
 have hIs: ∀k,I k→w'.heap[k]? =w.heap[k]?:=fun k hk=>hold k (hi.ilt k hk) (fun base sz e=>hnI k base sz e hk)
 have get: ∀k o,upd hp id (.cells ys true) k=some o→(k=id∧o=.cells ys true)∨(k≠id∧hp k=some o):=by
  intro k o hk
  rw[bJ]at hk
  split at hk
  ·rename_i e;exact .inl ⟨e,(J0 hk).symm⟩
  rename_i e;exact .inr ⟨e,hk⟩
 refine⟨v,hv,v,σ,I,rfl,?_,(q3.elim hrel.noMem fun⟨_,_,_,_,e⟩=>by subst e;exact aRi hrel (a2.loc id hset)),⟨fun _ _=>rfl,fun _ h=>h,hIs⟩,fun _ _ h=>h⟩
 refine⟨hi.ext,hi.imm,fun k hk=>by rw[hIs k (hi.imm k hk)];exact hi.iw k hk,by rw[a1.os];exact hi.os,by rw[a1.tape];exact hi.tape,by rw[a1.output];exact hi.output,Nat.le_trans hi.size a1.size,fun k hk hO=>?_,fun k hk=>Nat.lt_of_lt_of_le (hi.ilt k hk) a1.size,fun k o hk=>?_,(hi.updIL ho (.cells ys true) fun _=>rfl).1,(hi.updIL ho (.cells ys true) fun _=>rfl).2,hi.un,fun g zs hg=>(hi.glob g zs hg).mono (fun _ _=>rfl) (fun _ h=>h) hIs,hi.inew⟩
 ·rw[hold k (Nat.lt_of_lt_of_le hk hi.size) (fun base sz e=>?_)]
  ·exact hi.old k hk hO
  rcases hi.lim id _ k base sz ho rfl e with h5|h5
  ·omega
  exact hO h5
 rcases get k o hk with⟨rfl,rfl⟩|⟨hne,h2⟩
 ·have h3:=a1.own k _ q2
  have h4:σ' k=σ k:=a2.loc k hset
  have h6:=hi.own k _ ho
  simp only[eD,h4]at h3 h6⊢
  cases e5:σ k with
  |unset=>exact absurd e5 hset
  |nil=>simp only[e5]at h3⊢;exact h3
  |at_ blk base sz=>
   simp only[e5]at h3 h6⊢
   obtain⟨⟨⟨cs,T,lo,hi2,b1,b2,b3,b4,b5⟩,b6⟩,b7⟩:=h3
   exact⟨⟨⟨cs,T,lo,hi2,b1,b2,b3,b4,fun i hi3=>(b5 i hi3).noMem (AV.noMem_get ys q4 i hi3)⟩,b6⟩,h6.2⟩
 have h3:=hi.own k o h2
 refine h3.mono (fun _ _=>rfl) (fun _ h=>h) hIs fun blk base sz e1=>⟨hold blk (h3.lt e1) (fun base' sz' e2=>?_),fun _ h=>h⟩
 exact hi.inj id k _ o blk base' sz' base sz ho rfl h2 (fun e=>hne e.symm) e2 e1
end
end Go.AX

namespace Go.AX
open Go
def dE (P:Program) (GL:Nat→Option (List AV)) (f:FuncId) (ch:List PanicEntry) (g:List AV→H→Nat→Option (H×Nat)):Prop:=
 ∀(c:Ctx) (σ:Nat→Loc) (I:Nat→Prop) (w:World) (hp:H) (nx:Nat) (args:List AV) (vals:Array Value) (hp':H) (nx':Nat),
  c.GL=GL→Inv c σ I w hp (fun id=>nx≤id)→vals.size=args.length→(∀i (_h:i<args.length),Rel σ I w args[i] (vals.getD i undef))→g args hp nx=some (hp',nx')→
  nx≤nx'∧Calls P f vals w fun e w'=> ∃σ' I',e=.panicked ch∧Inv c σ' I' w' hp' (fun id=>nx'≤id)∧Grow σ I w σ' I' w'∧(∀id,id<nx→σ id=.unset→σ' id=.unset)
def bIo (GL:Nat→Option (List AV)) (f:FuncId) (g:List AV→H→Nat→Option (H×Nat)) (Z:S→Prop) (o:LOp) (t:S):Prop:=
 gdS t.fr o.g=some true∧match o.op with
  | .call c=>match c.callee with
   | .value fo=>match ev GL t.fr fo with
    | .fn f' caps=>f'=f∧∃p,g (c.args.toList.map (ev GL t.fr)++caps) t.hp t.cx=some p∧Z {fr:=t.fr,hp:=p.1,nx:=t.nx,cx:=p.2}
    |_=>False
   |_=>False
  |_=>False
section
variable {P : Program} {GL : Nat → Option (List AV)} {nt : Nat} {Q : Exit → S → Prop}
theorem bBh {ops:Array Oper} {o:Oper} {fr:List (Nat×AV)} {a:Act} {σ:Nat→Loc} {I:Nat→Prop} {w:World} {b:Bool} (hb:gdO ops fr o=some b) (hf: ∀t,Rel σ I w (dG fr t) (a.tmps.getD t undef)):Region.wanted o (yielded ops a.tmps)=b:=by
 unfold gdO at hb
 cases hgd:o.guard with
 |none=>rw[hgd]at hb;obtain rfl:=J0 hb;simp[Region.wanted,hgd]
 |some jw=>
  obtain⟨j,want⟩:=jw
  rw[hgd]at hb
  simp only at hb
  split at hb
  ·rename_i t ht
   simp only[Region.wanted,hgd]
   exact aHc (s:= {fr:=fr,hp:=fun _=>none,nx:=0,cx:=0}) ht hb hf
  cases hb
theorem bNa (ops:Array Oper) (fr:List (Nat×AV)) (o:Oper):gdO ops fr o=gdS fr (light ops o).g:=by
 unfold gdO light
 cases o.guard with
 |none=>rfl
 |some p=>
  simp only[Option.map_some]
  cases (ops[p.1]?).bind (·.dst)<;>rfl
theorem bIn {c:Ctx} {σ0:Nat→Loc} {I0:Nat→Prop} {w0:World} {rem:Nat→Prop} {t:S} {a:Act} {w:World} {ops:Array Oper} {o:Oper} {f:FuncId} {ch:List PanicEntry} {g:List AV→H→Nat→Option (H×Nat)} {K:Act→World→Prop} {Q':Exit→Act→World→Prop}
  (hpan:dE P c.GL f ch g) (hcall:fHm P f) {Z:S→Prop} (hc:bIo c.GL f g Z (light ops o) t) (hR:R c σ0 I0 w0 rem t a w)
  (hQ: ∀t' a' w',Z t'→R c σ0 I0 w0 (fun _=>False) t' a' w'→Q' (.panic ch) a' w'):
  Region.wanted o (yielded ops a.tmps)=true∧o.wp P a w K Q':=by
 obtain⟨hgd,hc⟩:=hc
 obtain⟨⟨σ,I,hi,hg,hf⟩,hd,hsz,hlt,hlt0⟩:=hR
 refine⟨bBh (by rw[bNa];exact hgd) hf,?_⟩
 have hρ:=aJt hi hf
 obtain⟨dst,op,type,pos,after,guard⟩:=o
 simp only[light]at hc
 split at hc
 rotate_left
 ·exact hc.elim
 rename_i cl
 obtain⟨callee,cargs,argTypes⟩:=cl
 simp only at hc
 split at hc
 rotate_left
 ·exact hc.elim
 rename_i fo
 split at hc
 rotate_left
 ·exact hc.elim
 rename_i f' caps hfo
 obtain⟨rfl,⟨hp',nx'⟩,hgt,hZ⟩:=hc
 have hfv:=hρ fo
 rw[hfo]at hfv
 have hv: ∃vs:Array Value,a.eval fo=.func (.func f') #[] vs∧vs.size=caps.length∧∀i (_h:i<caps.length),Rel σ I w caps[i] (vs.getD i undef):=by
  generalize a.eval fo=u at hfv
  cases hfv with
  |fn _ _ vs h1 h2=>exact⟨vs,rfl,h1,h2⟩
 obtain⟨vs,hv,hvs,hvr⟩:=hv
 have hsize:(cargs.map a.eval++vs).size=(cargs.toList.map (ev c.GL t.fr)++caps).length:=by simp[hvs]
 have hargs: ∀i (_h:i<(cargs.toList.map (ev c.GL t.fr)++caps).length),Rel σ I w (cargs.toList.map (ev c.GL t.fr)++caps)[i] ((cargs.map a.eval++vs).getD i undef):=by
  intro i hi'
  rw[List.getElem_append]
  rw[Array.getD_eq_getD_getElem?,Array.getElem?_append]
  split
  ·rename_i hlt
   rw[J4 (by simpa using hlt)]
   have:=aAc (l:=cargs.toList) hρ i hlt
   rw[fI,List.getD_eq_getElem?_getD]at this
   have e:(Array.map a.eval cargs)[i]? =(List.map a.eval cargs.toList)[i]?:=by rw[←Array.toList_map,Array.getElem?_toList]
   rw[e];exact this
  rename_i hge
  rw[J3 (by simpa using hge)]
  simp only[List.length_map,Array.length_toList,Array.size_map]at hge⊢
  have:=hvr (i-cargs.size) (by simp at hi';omega)
  rw[Array.getD_eq_getD_getElem?]at this
  exact this
 obtain⟨fn,h1,h2,h3⟩:=hcall
 have hrun:(execOp a.eval {dst:=dst,op:=.call {callee:=.value fo,args:=cargs,argTypes:=argTypes},type:=type,pos:=pos,after:=after,guard:=guard}).run P w=.ok (.enter f' (cargs.map a.eval++vs)) w:=by
  simp only[execOp,resolve,hv,Deferred.ofValue,Array.empty_append,Sem.run_bind,Sem.run_pure,Result.andThen_ok,invoke,callFunc,run_program,h1,h2,h3,Bool.false_eq_true,if_false]
 unfold Oper.wp
 rw[hrun]
 obtain⟨hle,hcalls⟩:=hpan c σ I w t.hp t.cx _ _ hp' nx' rfl (hi.mono_un fun id hid=> .inl hid) hsize hargs hgt
 refine hcalls.mono ?_
 rintro e w' ⟨σ',I',rfl,hinv,hgr,hun⟩
 refine hQ _ a w' hZ ⟨⟨σ',I',{hinv with un:=fun id hid=>?_},hg.trans hgr,fun k=>(hf k).grow hgr⟩,hd,hsz,fun _ h=>h.elim,fun id hid=>⟨(hlt0 id hid).1,Nat.lt_of_lt_of_le (hlt0 id hid).2 hle⟩⟩
 rcases hid with hid|⟨k,hk,_⟩|hid
 ·exact hinv.un id hid
 ·exact hk.elim
 exact hun id (hlt0 id hid).2 (hi.un id (.inr (.inr hid)))
theorem aMj {Γ:Env} {c:Ctx} {σ0:Nat→Loc} {I0:Nat→Prop} {w0:World} {md:Nat→Nat} (hΓ:eT P c.GL Γ) {ops:Array Oper} {Q':Exit→Act→World→Prop} (hdst:fK c.nt ops.toList=true) {t:S} {o:Oper} {post:List Oper}
  {f:FuncId} {ch:List PanicEntry} {g:List AV→H→Nat→Option (H×Nat)} (hpan:dE P c.GL f ch g) (hcall:fHm P f) {Z:S→Prop} (hc:bIo c.GL f g Z (light ops o) t)
  (hQ: ∀t' a' w',Z t'→R c σ0 I0 w0 (fun _=>False) t' a' w'→Q' (.panic ch) a' w'):
  ∀(l:List Oper) (k:Nat) (s:S) (a:Act) (w:World),(∀o∈l,o∈ops.toList)→k+l.length<ops.size→oT P Γ c.GL md ops k l s=some t→R c σ0 I0 w0 (fun m=>k≤m∧m<ops.size) s a w→wpList P ops Q' (l++o::post) a w
 |[],k,s,a,w,_,hk,h,hR=>by
  obtain rfl:=J0 h
  obtain⟨h1,h2⟩:=bIn (K:=wpList P ops Q' post) (ops:=ops) hpan hcall hc hR hQ
  rw[List.nil_append]
  unfold wpList
  rw[J4 h1];exact .inl h2
 |x::r,k,s,a,w,hmem,hk,h,hR=>by
  simp only[oT]at h
  replace h:=aJ h;obtain⟨s1,hs1,h⟩:=h
  simp only[List.length_cons]at hk
  have:=fX (K:=wpList P ops Q' (r++o::post)) (Q:=Q') hΓ hs1 (lU hdst (hmem x (by simp))) (rem:=fun m=>k≤m∧m<ops.size) ⟨U3 _,by omega⟩ hR (fun a' w' hR'=>
   aMj hΓ hdst hpan hcall hc hQ r (k+1) s1 a' w' (fun o ho=>hmem o (by simp[ho])) (by omega) h (hR'.un fun m hm=>⟨⟨by omega,hm.2⟩,by omega⟩))
  rw[List.cons_append]
  unfold wpList
  split
  ·rename_i hw;rw[J4 hw]at this;exact .inl this
  ·rename_i hw;rw[J3 hw]at this;exact this
def bVn (GL:Nat→Option (List AV)) (f:FuncId) (g:List AV→H→Nat→Option (H×Nat)) (Z:S→Prop):Option LOp→S→Prop
 |some o,t=>bIo GL f g Z o t
 |none,_=>False
def cJt (f:FuncId) (g:List AV→H→Nat→Option (H×Nat)) (Z:S→Prop) (args:List AV) (fr:List (Nat×AV)) (hp:H) (nx cx:Nat):AV→Prop
 | .fn f' caps=>f'=f∧∃p,g (args++caps) hp cx=some p∧Z {fr:=fr,hp:=p.1,nx:=nx,cx:=p.2}
 |_=>False
theorem cSi (GL:Nat→Option (List AV)) (f:FuncId) (g:List AV→H→Nat→Option (H×Nat)) (Z:S→Prop) (d:Option Tmp) (fo:Operand) (args:Array Operand) (ty:Array TypeId) (fr:List (Nat×AV)) (hp:H) (nx cx:Nat) (gd:Option (Option Tmp×Bool)):
  bVn GL f g Z (some {d:=d,op:=.call {callee:=.value fo,args:=args,argTypes:=ty},g:=gd}) {fr:=fr,hp:=hp,nx:=nx,cx:=cx}=(gdS fr gd=some true∧cJt f g Z (args.toList.map (ev GL fr)) fr hp nx cx (ev GL fr fo)):=by
 simp only[bVn,bIo]
 unfold cJt
 cases ev GL fr fo<;>rfl
theorem dXs (f f':FuncId) (g:List AV→H→Nat→Option (H×Nat)) (Z:S→Prop) (args caps:List AV) (fr:List (Nat×AV)) (hp:H) (nx cx:Nat):cJt f g Z args fr hp nx cx (.fn f' caps)=(f'=f∧∃p,g (args++caps) hp cx=some p∧Z {fr:=fr,hp:=p.1,nx:=nx,cx:=p.2}):=(rfl)
theorem bIm {o:Option (H×Nat)} {Z:H×Nat→Prop} {p:H×Nat} (h:o=some p):(∃q,o=some q∧Z q)=Z p:=by
 subst h
 exact propext ⟨fun⟨_,e,h⟩=>by obtain rfl:=J0 e;exact h,fun h=>⟨p,rfl,h⟩⟩
theorem bP (p:H×Nat) (Z:H×Nat→Prop):(∃q,some p=some q∧Z q)=Z p:=bIm rfl
theorem dCn {s:S} {code:Code} {Γ:Env} (k:Nat) {f:FuncId} {ch:List PanicEntry} {g:List AV→H→Nat→Option (H×Nat)} (hpan:dE P GL f ch g) (hcall:fHm P f) (hΓ:eT P GL Γ) (hc:eEs code=true) (hd:lZ code=false) (ho:fK nt (aM code).toList=true)
  (h: ∀Z:S→Prop,(∀t,Q (.panic ch) t→Z t)→nH (aRf P Γ GL (fun _=>0) (rN code) ((aF code).take k) (cX (rN code) s)) (bVn GL f g Z (aF code)[k]?)):Awp P GL nt code s Q:=by
 replace h:=h (Q (.panic ch)) fun _ h=>h
 cases code with
 |region id ops dr=>
  simp only[lZ]at hd
  subst hd
  intro c h1 h2 σ0 I0 w0 a w hR
  subst h1;subst h2
  have hk: ∃o,ops.toList[k]? =some o:=by
   cases e:ops.toList[k]? with
   |some o=>exact⟨o,rfl⟩
   |none=>
    have:(aF (.region id ops false))[k]? =none:=by simp only[aF,aM,List.getElem?_map,e,Option.map_none]
    rw[this]at h
    unfold nH at h
    split at h
    ·exact h.elim
    exact h.elim
  obtain⟨o,hk⟩:=hk
  have hl:(aF (.region id ops false))[k]? =some (light ops o):=by simp only[aF,aM,List.getElem?_map,hk,Option.map_some]
  have ht:(aF (.region id ops false)).take k=(ops.toList.take k).map (light ops):=by simp only[aF,aM,List.map_take]
  rw[hl,ht]at h
  have hr:aRf P Γ c.GL (fun _=>0) (rN (.region id ops false)) ((ops.toList.take k).map (light ops)) (cX (rN (.region id ops false)) s)=oT P Γ c.GL (fun _=>0) ops 0 (ops.toList.take k) (cX ops.size s):=by
   rw[aBn];rfl
  rw[hr]at h
  have hex: ∃t,oT P Γ c.GL (fun _=>0) ops 0 (ops.toList.take k) (cX ops.size s)=some t∧bIo c.GL f g (Q (.panic ch)) (light ops o) t:=by
   unfold nH at h
   split at h
   ·rename_i t e;exact⟨t,e,h⟩
   exact h.elim
  obtain⟨t,e1,e2⟩:=hex
  have hlt:k<ops.toList.length:=(List.getElem?_eq_some_iff.1 hk).1
  have hsplit:ops.toList=ops.toList.take k++o::ops.toList.drop (k+1):=by
   have:=(List.getElem?_eq_some_iff.1 hk).2
   rw[←this,←List.drop_eq_getElem_cons hlt,List.take_append_drop]
  refine wp_region_list ?_
  have:=aMj (post:=ops.toList.drop (k+1)) (Q':=fun e a' w'=> ∃s',Q e s'∧R c σ0 I0 w0 (fun _=>False) s' a' w') hΓ ho hpan hcall e2 (fun t' a' w' hZ hR'=>⟨t',hZ,hR'⟩) (ops.toList.take k) 0 (cX ops.size s) a w (fun _ h=>List.mem_of_mem_take h) (by show 0+(ops.toList.take k).length<ops.size;rw[Nat.zero_add,List.length_take];have:ops.toList.length=ops.size:=Array.length_toList;omega) e1 ((hR.enter ops.size).un fun _ hm=>hm.2)
  rw[←hsplit]at this;exact this
 |_=>cases hc
end
end Go.AX

namespace Go.AX
open Go
section
variable {P : Program} {Γ : Env} {c : Ctx} {σ0 : Nat → Loc} {I0 : Nat → Prop} {w0 : World} {md : Nat → Nat} {ops : Array Oper}
theorem bBy (hΓ:eT P c.GL Γ) {Q:Exit→Act→World→Prop} (hdst:fK c.nt ops.toList=true) (hok:sF P Γ md ops=true) {m:Nat} {o:Oper} (hm:ops[m]? =some o) (hn:ops.size=m+1)
  (hb: ∀j,j<m→((Region.before ops).getD m 0).testBit j=true) {s':S}
  (hP: ∀a w,R c σ0 I0 w0 (fun k=>k=m) s' a w→Region.wanted o (yielded ops a.tmps)=true∧∀K,o.wp P a w K Q):
  ∀(fuel:Nat) (listed:Array Bool) (s sf:S) (a:Act) (w:World),listed.size=ops.size→listed.getD m true=false→(unl ops.size listed).length≤fuel→
   (∀m o,listed.getD m false=true→ops[m]? =some o→∀e∈o.after,Region.binds .any e=true→listed.getD e.on false=true)→
   dQ P Γ c.GL md ops ((unl ops.size listed).filter (· !=m)) s=some sf→fVo s' sf→R c σ0 I0 w0 (fun k=>k∈unl ops.size listed) s a w→wpAny P .any ops Q fuel listed a w:=by
 have hchk: ∀j y,ops[j]? =some y→(∀e∈y.after,Region.binds .any e=true→e.on<j)∧∀i x,i<j→ops[i]? =some x→((Region.before ops).getD j 0).testBit i=true∨(x.apart ops y=true∧eEq i j (tI P Γ (md i) x.op) (tI P Γ (md j) y.op)=true):=by
  intro j y hy
  have hlt:=(Array.getElem?_eq_some_iff.1 hy).1
  have h:=List.all_eq_true.1 hok j (List.mem_range.2 hlt)
  simp only[hy,Bool.and_eq_true]at h
  refine⟨fun e he hb=>?_,fun i x hi hx=>?_⟩
  ·have:=Array.all_eq_true_iff_forall_mem.1 h.1 e he
   simpa [hb]using this
  have:=List.all_eq_true.1 h.2 i (List.mem_range.2 hi)
  simp only[hx,Bool.or_eq_true,Bool.and_eq_true]at this
  exact this
 have mem_unl: ∀(listed:Array Bool) i,i∈unl ops.size listed↔i<ops.size∧listed.getD i true=false:=by
  intro listed i;simp[unl]
 have noready: ∀(listed:Array Bool),listed.size=ops.size→Region.ready .any ops listed=[]→unl ops.size listed=[]:=by
  intro listed hsz hr
  refine List.eq_nil_iff_forall_not_mem.2 fun i=>?_
  induction i using Nat.strongRecOn with
  |_ i ih=>
   intro hi
   obtain⟨hlt,hun⟩:=(mem_unl listed i).1 hi
   have:i∈Region.ready .any ops listed:=by
    rw[mem_ready]
    refine⟨hun,ops[i],Array.getElem?_eq_getElem hlt,fun e he hb=>?_⟩
    have hlt':=(hchk i _ (Array.getElem?_eq_getElem hlt)).1 e he hb
    have hn:=ih e.on hlt'
    rw[mem_unl]at hn
    have hs2:e.on<listed.size:=by omega
    rw[Array.getD_eq_getD_getElem?,Array.getElem?_eq_getElem hs2]at hn⊢
    simp only[Option.getD_some]at hn⊢
    cases hv:listed[e.on]with
    |true=>rfl
    |false=>exact absurd ⟨by omega,hv⟩ hn
   rw[hr]at this;cases this
 have hmu: ∀(listed:Array Bool),listed.getD m true=false→m∈unl ops.size listed:=fun listed h=>(mem_unl listed m).2 ⟨by omega,h⟩
 intro fuel
 induction fuel with
 |zero=>
  intro listed s sf a w hsz hml hlen hdc hrun heq hR
  have h0:unl ops.size listed=[]:=List.eq_nil_of_length_eq_zero (by omega)
  have:=hmu listed hml
  rw[h0]at this;cases this
 |succ fuel ih=>
  intro listed s sf a w hsz hml hlen hdc hrun heq hR
  refine⟨fun hr=>?_,fun i hi=>?_⟩
  ·have h0:=noready listed hsz hr
   have:=hmu listed hml
   rw[h0]at this;cases this
  obtain⟨hun,x,hx,hall⟩:=mem_ready.1 hi
  have hlt:=(Array.getElem?_eq_some_iff.1 hx).1
  have hmem:i∈unl ops.size listed:=(mem_unl listed i).2 ⟨hlt,hun⟩
  have hanc: ∀m j,Anc ops m j→(∀o,ops[m]? =some o→∀e∈o.after,Region.binds .any e=true→listed.getD e.on false=true)→listed.getD j false=true:=by
   intro m j ha
   induction ha with
   |edge ho he hb=>exact fun h=>h _ ho _ he hb
   |step ho he hb _ ih2=>exact fun h=>ih2 fun o ho' e' he' hb'=>hdc _ o (h _ ho _ he hb) ho' e' he' hb'
  by_cases him:i=m
  ·subst him
   rw[hm]at hx
   obtain rfl:=J0 hx
   have hlisted: ∀j,j<i→j∉unl ops.size listed:=by
    intro j hj hju
    have h1:=hanc i j (oR ops i j (hb j hj)) (fun o' ho e he hb=>by rw[hm]at ho;obtain rfl:=J0 ho;exact hall e he hb)
    have h2:=((mem_unl listed j).1 hju).2
    have hs2:j<listed.size:=by omega
    rw[Array.getD_eq_getD_getElem?,Array.getElem?_eq_getElem hs2]at h1 h2
    simp only[Option.getD_some]at h1 h2
    rw[h1]at h2;cases h2
   have honly: ∀j,j∈unl ops.size listed→j=i:=by
    intro j hj
    have:=((mem_unl listed j).1 hj).1
    apply Classical.byContradiction
    intro hne
    exact hlisted j (by omega) hj
   have hnil:(unl ops.size listed).filter (· !=i)=[]:=by
    refine List.filter_eq_nil_iff.2 fun j hj=>?_
    rw[honly j hj];simp
   rw[hnil]at hrun
   obtain rfl:=J0 hrun
   obtain⟨h1,h2⟩:=hP a w ((hR.un fun k hk=>by subst hk;exact hmem).eqv heq.symm)
   unfold wpOp
   simp only[hm]
   rw[J4 h1];exact .inl (h2 _)
  have hmem2:i∈(unl ops.size listed).filter (· !=m):=List.mem_filter.2 ⟨hmem,by simpa using him⟩
  obtain⟨l1,l2,hl⟩:=List.append_of_mem hmem2
  have hpw:((unl ops.size listed).filter (· !=m)).Pairwise (· < ·):=List.Pairwise.filter _ (List.Pairwise.filter _ List.pairwise_lt_range)
  rw[hl]at hpw hrun
  have hlt1: ∀j∈l1,j<i:=fun j hj=>(List.pairwise_append.1 hpw).2.2 j hj i (by simp)
  have hlt2: ∀j∈l2,i<j:=fun j hj=>(List.pairwise_cons.1 (List.pairwise_append.1 hpw).2.1).1 j hj
  obtain⟨s1,sf1,f1,f2,f3⟩:=wK hx l1 l2 (fun j hj=>by
   have hjm:j∈unl ops.size listed:=(List.mem_filter.1 (show j∈(unl ops.size listed).filter (· !=m)by rw[hl];simp[hj])).1
   obtain⟨hjlt,hjun⟩:=(mem_unl listed j).1 hjm
   refine⟨by have:=hlt1 j hj;omega,ops[j],Array.getElem?_eq_getElem hjlt,?_⟩
   rcases(hchk i x hx).2 j _ (hlt1 j hj) (Array.getElem?_eq_getElem hjlt)with h|h
   ·have:=hanc i j (oR ops i j h) (fun o ho e he hb=>by rw[hx]at ho;obtain rfl:=J0 ho;exact hall e he hb)
    have hs2:j<listed.size:=by omega
    rw[Array.getD_eq_getD_getElem?,Array.getElem?_eq_getElem hs2]at hjun this
    simp only[Option.getD_some]at hjun this
    rw[hjun]at this;cases this
   exact h) hrun
  have e0:unl ops.size (listed.setIfInBounds i true)=(unl ops.size listed).filter (fun k=>k !=i):=by
   unfold unl
   rw[List.filter_filter]
   refine List.filter_congr fun k hk=>?_
   by_cases hki:k=i
   ·subst hki
    rw[Array.getD_eq_getD_getElem?,Array.getElem?_setIfInBounds_self_of_lt (by omega)];simp
   rw[getD_set_ne true (Ne.symm hki)]
   simp[hki]
  have hnew:(unl ops.size (listed.setIfInBounds i true)).filter (· !=m)=l1++l2:=by
   have e1:(unl ops.size (listed.setIfInBounds i true)).filter (· !=m)=((unl ops.size listed).filter (· !=m)).filter (fun k=>k !=i):=by
    rw[e0,List.filter_filter,List.filter_filter]
    refine List.filter_congr fun k _=>Bool.and_comm _ _
   rw[e1,hl,List.filter_append,List.filter_cons]
   simp only[bne_self_eq_false,Bool.false_eq_true,if_false]
   congr 1
   ·exact List.filter_eq_self.2 fun k hk=>by have:=hlt1 k hk;simp;omega
   exact List.filter_eq_self.2 fun k hk=>by have:=hlt2 k hk;simp;omega
  have hlen2:(unl ops.size (listed.setIfInBounds i true)).length<(unl ops.size listed).length:=by
   rw[e0]
   refine Nat.lt_of_le_of_ne (List.length_filter_le _ _) fun e=>?_
   have:=List.length_filter_eq_length_iff.1 e i hmem
   simp at this
  have hstep:=fX (K:=wpAny P .any ops Q fuel (listed.setIfInBounds i true)) (Q:=Q) (ops:=ops) hΓ f1 (lU hdst (Array.mem_toList_iff.2 (Array.mem_of_getElem? hx))) (rem:=fun k=>k∈unl ops.size listed) hmem hR (fun a' w' hR'=>
   ih (listed.setIfInBounds i true) s1 sf1 a' w' (by simpa using hsz) (by rw[getD_set_ne true him];exact hml) (by omega) (fun m' o' hm' ho e he hb=>by
     by_cases hmi:m'=i
     ·subst hmi
      rw[hx]at ho;obtain rfl:=J0 ho
      exact getD_set_true (hall e he hb)
     ·rw[getD_set_ne false (Ne.symm hmi)]at hm'
      exact getD_set_true (hdc m' o' hm' ho e he hb))
    (by rw[hnew];exact f2) (heq.trans f3) (hR'.un fun k hk=>by
     rw[e0,List.mem_filter]at hk
     exact⟨hk.1,by simpa using hk.2⟩))
  unfold wpOp
  simp only[hx]
  split
  ·rename_i hw;rw[J4 hw]at hstep;exact .inl hstep
  rename_i hw;rw[J3 hw]at hstep;exact hstep
end
def cRj (c:Code) (m:Nat):Bool:=(List.range m).all fun j=>((Region.before (aM c)).getD m 0).testBit j
theorem dCo {P:Program} {GL:Nat→Option (List AV)} {nt:Nat} {Q:Exit→S→Prop} {s:S} {code:Code} {Γ:Env} (k:Nat) (md:Nat→Nat) {f:FuncId} {ch:List PanicEntry} {g:List AV→H→Nat→Option (H×Nat)} (hm:P.follows .mixedOrders=true) (hpan:dE P GL f ch g) (hcall:fHm P f) (hΓ:eT P GL Γ) (hc:eEs code=true) (hd:lZ code=true) (ho:fK nt (aM code).toList=true)
  (hk:sF P Γ md (aM code)=true) (hn:(aM code).size=k+1) (hb:cRj code k=true)
  (h: ∀Z:S→Prop,(∀t,Q (.panic ch) t→Z t)→nH (aRf P Γ GL md (rN code) ((aF code).take k) (cX (rN code) s)) (bVn GL f g Z (aF code)[k]?)):Awp P GL nt code s Q:=by
 replace h:=h (Q (.panic ch)) fun _ h=>h
 cases code with
 |region id ops dr=>
  simp only[lZ]at hd
  subst hd
  intro c h1 h2 σ0 I0 w0 a w hR
  subst h1;subst h2
  simp only[aM]at hn ho hk
  have hlt:k<ops.toList.length:=by rw[Array.length_toList];omega
  have hk2:ops.toList[k]? =some ops.toList[k]:=List.getElem?_eq_getElem hlt
  obtain⟨o,hko⟩: ∃o,ops.toList[k]=o:=⟨_,rfl⟩
  rw[hko]at hk2
  have hka:ops[k]? =some o:=by rw[←Array.getElem?_toList];exact hk2
  have hl:(aF (.region id ops true))[k]? =some (light ops o):=by simp only[aF,aM,List.getElem?_map,hk2,Option.map_some]
  have ht:(aF (.region id ops true)).take k=(ops.toList.take k).map (light ops):=by simp only[aF,aM,List.map_take]
  rw[hl,ht]at h
  have hr:aRf P Γ c.GL md (rN (.region id ops true)) ((ops.toList.take k).map (light ops)) (cX (rN (.region id ops true)) s)=oT P Γ c.GL md ops 0 (ops.toList.take k) (cX ops.size s):=by
   rw[aBn];rfl
  rw[hr]at h
  obtain⟨t,e1,e2⟩:=mR h
  have h0:unl ops.size (Array.replicate ops.size false)=List.range ops.size:=by
   unfold unl
   refine List.filter_eq_self.2 fun k hk=>?_
   rw[List.mem_range]at hk
   rw[Array.getD_eq_getD_getElem?,Array.getElem?_replicate,J4 hk];rfl
  have h0f:(unl ops.size (Array.replicate ops.size false)).filter (· !=k)=List.range k:=by
   rw[h0,hn,List.range_succ,List.filter_append]
   have a1:(List.range k).filter (· !=k)=List.range k:=List.filter_eq_self.2 fun j hj=>by have:=List.mem_range.1 hj;simp;omega
   rw[a1];simp
  have hbk: ∀j,j<k→((Region.before ops).getD k 0).testBit j=true:=fun j hj=>List.all_eq_true.1 hb j (List.mem_range.2 hj)
  have hlk:(ops.toList.take k).length=k:=by rw[List.length_take];omega
  have hrun2:dQ P Γ c.GL md ops (List.range k) (cX ops.size s)=some t:=by
   have hgen: ∀(l:List Oper) (q:Nat) (s:S),(∀m,m<l.length→l[m]? =ops[q+m]?)→oT P Γ c.GL md ops q l s=dQ P Γ c.GL md ops (List.range' q l.length) s:=by
    intro l
    induction l with
    |nil=>intro q s _;rfl
    |cons o r ih=>
     intro q s hq
     have h0:ops[q]? =some o:=by have:=(hq 0 (by simp)).symm;simpa using this
     simp only[oT,List.length_cons,List.range'_succ,dQ,h0]
     congr 1
     funext s'
     exact ih (q+1) s' (fun m hm=>by have:=hq (m+1) (by simpa using hm);simpa [Nat.add_assoc,Nat.add_comm 1 m]using this)
   have:=hgen (ops.toList.take k) 0 (cX ops.size s) (fun m hm=>by rw[hlk]at hm;rw[List.getElem?_take,J4 hm,Nat.zero_add,Array.getElem?_toList])
   rw[hlk]at this
   rw[List.range_eq_range',←this];exact e1
  refine wp_region_any hm (bBy (σ0:=σ0) (I0:=I0) (w0:=w0) hΓ ho hk hka hn hbk (fun a' w' hR'=>?_) ops.size _ (cX ops.size s) t a _ (by simp) ?_ (by rw[h0];simp) (fun m o hl=>?_) (by rw[h0f];exact hrun2) (fVo.refl _) ?_)
  ·have key:=fun K=>bIn (K:=K) (ops:=ops) (Q':=fun e a' w'=> ∃s',Q e s'∧R c σ0 I0 w0 (fun _=>False) s' a' w') hpan hcall e2 hR' (fun t' a' w' hZ hR'=>⟨t',hZ,hR'⟩)
   exact⟨(key fun _ _=>True).1,fun K=>(key K).2⟩
  ·rw[Array.getD_eq_getD_getElem?,Array.getElem?_replicate,J4 (by omega)];rfl
  ·rw[Array.getD_eq_getD_getElem?,Array.getElem?_replicate]at hl;split at hl<;>cases hl
  exact((hR.enter ops.size).un fun k hk=>by rw[h0]at hk;exact List.mem_range.1 hk).world rfl rfl rfl rfl
 |_=>cases hc
end Go.AX

namespace Go.AX
open Go Go.Proofs
def GLh:Nat→Option (List AV):=fun _=>none
def chM:List PanicEntry:=[{v:=.iface 55 (.agg #[]),recovered:=false}]
theorem dXo (P:Program) (t:TypeId) (v:Value) (w:World):(Instr.panic (.iface t v)).run P w=.halt (.panic (.iface t v)) w:=rfl
theorem dXw (w:World):Calls Tryz.prog 35 #[.bool false] w fun e w'=>e=.panicked chM∧w'=w:=by
 go_enter Tryz.func35,Tryz.ntmps35
 go_wp2
 simp only[dXo]
 exact⟨rfl,rfl,rfl⟩
theorem eVt (w:World):Calls Tryz.prog 35 #[.bool true] w fun e w'=>e=.returned (.tuple #[])∧w'=w:=by
 go_enter Tryz.func35,Tryz.ntmps35
 go_wp2
 exact⟨rfl,_,results_none rfl _ _ _,rfl,rfl⟩
section
variable {P : Program} {GL : Nat → Option (List AV)} {f : FuncId}
theorem dXi {ch:List PanicEntry} {g:List AV→H→Nat→Option (H×Nat)} (h: ∀args hp nx hp' nx',g args hp nx=some (hp',nx')→hp'=hp∧nx'=nx∧∀(σ:Nat→Loc) (I:Nat→Prop) (w:World) (vals:Array Value),vals.size=args.length→(∀i (_h:i<args.length),Rel σ I w args[i] (vals.getD i undef))→Calls P f vals w fun e w'=>e=.panicked ch∧w'=w):dE P GL f ch g:=by
 intro c σ I w hp nx args vals hp' nx' _ hi hs hr hg
 obtain⟨rfl,rfl,hc⟩:=h args hp nx hp' nx' hg
 refine⟨U3 _,(hc σ I w vals hs hr).mono ?_⟩
 rintro e w' ⟨rfl,rfl⟩
 exact⟨σ,I,rfl,hi,Grow.refl _ _ _,fun _ _ h=>h⟩
theorem eSu {g:List AV→Option AV} (h: ∀args r,g args=some r→∀(σ:Nat→Loc) (I:Nat→Prop) (w:World) (vals:Array Value),vals.size=args.length→(∀i (_h:i<args.length),Rel σ I w args[i] (vals.getD i undef))→∃v,Rel σ I w r v∧Calls P f vals w fun e w'=>e=.returned v∧w'=w):fHn P GL f g:=by
 intro σ I w nx args vals r h1 h2 h3 hs hr hg
 obtain⟨v,hv,hc⟩:=h args r hg σ I w vals hs hr
 refine hc.mono ?_
 rintro e w' ⟨rfl,rfl⟩
 exact⟨v,σ,I,rfl,rfl,rfl,rfl,U3 _,fun _ _=>rfl,fun _ _=>rfl,fun _ h=> .inl h,h2,hv⟩
end
theorem dXv {σ:Nat→Loc} {I:Nat→Prop} {w:World} {x:AV} {vals:Array Value} (hs:vals.size=[x].length) (hr: ∀i (_h:i<[x].length),Rel σ I w [x][i] (vals.getD i undef)): ∃v,vals= #[v]∧Rel σ I w x v:=by
 have h0:=hr 0 (by simp)
 obtain⟨l⟩:=vals
 simp only[List.size_toArray,List.length_cons,List.length_nil,Nat.zero_add]at hs
 match l,hs with
 |[v],_=>exact⟨v,rfl,h0⟩
def eO:List AV→Option AV
 |[.b true]=>some (.tup [])
 |_=>none
theorem dKp:eO [.b true]=some (.tup []):=(rfl)
def dXl:List AV→H→Nat→Option (H×Nat)
 |[.b false],hp,nx=>some (hp,nx)
 |_,_,_=>none
theorem dXk (hp:H) (nx:Nat):dXl [.b false] hp nx=some (hp,nx):=(rfl)
attribute [go_sem] dKp dXk cSi dXs
theorem dMa:fHn Tryz.prog GLh 35 eO:=by
 refine eSu fun args r hg σ I w vals hs hr=>?_
 unfold eO at hg
 split at hg
 ·obtain rfl:=J0 hg
  obtain⟨v,rfl,hv⟩:=dXv hs hr
  obtain rfl:=bQs hv
  exact⟨_,.tup _ _ rfl (fun i h=>by simp at h),eVt w⟩
 cases hg
theorem fPd:dE Tryz.prog GLh 35 chM dXl:=by
 refine dXi fun args hp nx hp' nx' hg=>?_
 unfold dXl at hg
 split at hg
 ·simp only[Option.some.injEq,Prod.mk.injEq]at hg;obtain⟨rfl,rfl⟩:=hg
  refine⟨rfl,rfl,fun σ I w vals hs hr=>?_⟩
  obtain⟨v,rfl,hv⟩:=dXv hs hr
  obtain rfl:=bQs hv
  exact dXw w
 cases hg
theorem rD:fHm Tryz.prog 35:=⟨_,Tryz.func35,rfl,rfl⟩
theorem rP:bX Tryz.prog GLh 35 (.pure true eO):=⟨rD,dMa⟩
end Go.AX

namespace Go.AX
open Go
def rdH (g:List AV→List AV→Option (Option (AV×List AV))):List AV→H→Nat→Option (AV×H×Nat)
 | .op id off::rest,hp,nx=>aK (hp id) fun o=>match o with
  | .cells xs mt=>aN (mt=true) (aK (g (.op id off::rest) xs) fun p=>aK p fun q=>some (q.1,upd hp id (.cells q.2 true),nx))
  |_=>none
 |_,_,_=>none
def rdP (g:List AV→List AV→Option (Option (AV×List AV))):List AV→H→Nat→Option (H×Nat)
 | .op id off::rest,hp,nx=>aK (hp id) fun o=>match o with
  | .cells xs mt=>aN (mt=true) (aK (g (.op id off::rest) xs) fun p=>match p with
   |some _=>none
   |none=>some (del hp id,nx))
  |_=>none
 |_,_,_=>none
def rdO (g:List AV→List AV→Option (Option (AV×List AV))) (args:List AV) (id:Nat) (hp:H) (nx:Nat):AO→Option (AV×H×Nat)
 | .cells xs mt=>aN (mt=true) (aK (g args xs) fun p=>aK p fun q=>some (q.1,upd hp id (.cells q.2 true),nx))
 |_=>none
theorem cIz (g:List AV→List AV→Option (Option (AV×List AV))) (id off:Nat) (rest:List AV) (hp:H) (nx:Nat):rdH g (.op id off::rest) hp nx=aK (hp id) (rdO g (.op id off::rest) id hp nx):=by
 unfold rdH rdO;rfl
theorem cUp (g:List AV→List AV→Option (Option (AV×List AV))) (args:List AV) (id:Nat) (hp:H) (nx:Nat) (xs:List AV) (mt:Bool):rdO g args id hp nx (.cells xs mt)=aN (mt=true) (aK (g args xs) fun p=>aK p fun q=>some (q.1,upd hp id (.cells q.2 true),nx)):=(rfl)
def rdR (id:Nat) (hp:H) (nx:Nat):Option (AV×List AV)→Option (H×Nat)
 |some _=>none
 |none=>some (del hp id,nx)
def rdU (g:List AV→List AV→Option (Option (AV×List AV))) (args:List AV) (id:Nat) (hp:H) (nx:Nat):AO→Option (H×Nat)
 | .cells xs mt=>aN (mt=true) (aK (g args xs) (rdR id hp nx))
 |_=>none
theorem cIy (g:List AV→List AV→Option (Option (AV×List AV))) (id off:Nat) (rest:List AV) (hp:H) (nx:Nat):rdP g (.op id off::rest) hp nx=aK (hp id) (rdU g (.op id off::rest) id hp nx):=by
 unfold rdP rdU rdR;rfl
theorem cUn (g:List AV→List AV→Option (Option (AV×List AV))) (args:List AV) (id:Nat) (hp:H) (nx:Nat) (xs:List AV) (mt:Bool):rdU g args id hp nx (.cells xs mt)=aN (mt=true) (aK (g args xs) (rdR id hp nx)):=(rfl)
theorem cUo (id:Nat) (hp:H) (nx:Nat):rdR id hp nx none=some (del hp id,nx):=(rfl)
attribute [go_sem] cIz cUp cIy cUn cUo
theorem bQw (P:Program) (t:TypeId) (n:Nat) (xs:List AV):bM P .eql t (.sl n xs) (.v (.slice none 0 0))=aN (oQ P t=true∧0<n) (some (.b false)):=(rfl)
attribute [go_sem] bQw
theorem bQo (P:Program) (t t':TypeId) (v:Value):bM P .neq t (.v (.iface t' v)) (.v .nilIface)=aN (uG P t=true) (some (.b true)):=(rfl)
def cGt (P:Program) (t:TypeId):AV→Option AV
 | .v (.iface t' v)=>aN (t'=t∧uG P t=false∧(P.underlying t).isSome=true) (some (.tup [ofV v,.b true]))
 |_=>none
theorem bTb (P:Program) (t t':TypeId) (v:Value):cGt P t (.v (.iface t' v))=aN (t'=t∧uG P t=false∧(P.underlying t).isSome=true) (some (.tup [ofV v,.b true])):=(rfl)
theorem dAl {P:Program} {Γ:Env} {ρ:Operand→AV} {m nx n id cx:Nat} {hp:H} {x:Operand} {xt t:TypeId}:eff P Γ (.typeAssert x xt t true) ρ m nx n hp id cx=aK (cGt P t (ρ x)) fun y=>some (y,hp,cx):=by
 simp only[eff,cls,dI,cGt]
 generalize ρ x=y
 cases y<;>first|rfl|(rename_i v;cases v<;>rfl)
theorem bWf:ofV .nilIface=.v .nilIface:=(rfl)
attribute [go_sem] bQo bTb dAl bWf
theorem cNo (hp:H) (f xs):zB 4 hp (.fn f xs)=aK (lE (zB 3 hp) xs) fun l=>some (.fn f l):=(rfl)
attribute [go_sem] cNo
structure bSi (P:Program) (rs:List ResultVar) (r:AV) (id:Nat) (ys:List AV) (t:S):Prop where
 res:aK (bV P rs t) (zB 4 (del t.hp id))=some r
 row:t.hp id=some (.cells ys true)
 ids:r.ids=0
 idys:AV.ids.idsL ys=0
def rdQ (P:Program) (rs:List ResultVar) (ch:List PanicEntry) (id:Nat):Option (AV×List AV)→Exit→S→Prop
 |some (r,ys),.ret,t=>bSi P rs r id ys t
 |some (r,ys),.normal,t=>bSi P rs r id ys t
 |none,.panic c,_=>c=ch
 |_,_,_=>False
section
variable {P : Program} {GL : Nat → Option (List AV)}
theorem dT {f:FuncId} {fn:Func} {code:Code} {ch:List PanicEntry} {g:List AV→List AV→Option (Option (AV×List AV))} (hf:P.funcs[f]? =some fn) (hb:fn.body=some code)
  (h: ∀id off rest nx xs o,g (.op id off::rest) xs=some o→rest.length+1≤fn.ntmps∧(id<nx→Awp P GL fn.ntmps code (sN (.op id off::rest) (upd (fun _=>none) id (.cells xs true)) nx) (rdQ P fn.results.toList ch id o))):fHs P GL f (rdH g)∧dE P GL f ch (rdP g):=by
 have main: ∀(c:Ctx) (σ:Nat→Loc) (I:Nat→Prop) (w:World) (hp:H) (nx:Nat) (id off:Nat) (rest:List AV) (vals:Array Value) (xs:List AV) (o:Option (AV×List AV)),c.GL=GL→Inv c σ I w hp (fun id=>nx≤id)→hp id=some (.cells xs true)→
   vals.size=(AV.op id off::rest).length→(∀i (_h:i<(AV.op id off::rest).length),Rel σ I w (AV.op id off::rest)[i] (vals.getD i undef))→g (.op id off::rest) xs=some o→
   Calls P f vals w fun e w'=>(∃r ys v I',o=some (r,ys)∧e=.returned v∧Inv c σ I' w' (upd hp id (.cells ys true)) (fun id=>nx≤id)∧Rel σ I' w' r v∧Grow σ I w σ I' w')∨
    (o=none∧e=.panicked ch∧Inv c σ I w' (del hp id) (fun id=>nx≤id)∧Grow σ I w σ I w'):=by
  intro c σ I w hp nx id off rest vals xs o hGL hi ho hs hr hg
  obtain⟨hlen,haw⟩:=h id off rest nx xs o hg
  have hset:σ id≠.unset:=by
   intro hu
   have:=hi.own id _ ho
   simp[eD,hu]at this
  have hid:id<nx:=by
   apply Classical.byContradiction
   intro hc
   exact hset (hi.un id (by omega))
  have get1: ∀k o,upd (fun _=>none:H) id (.cells xs true) k=some o→k=id∧o=.cells xs true:=by
   intro k o hk
   rw[bJ]at hk
   split at hk
   ·rename_i e;exact⟨e,(J0 hk).symm⟩
   ·cases hk
  have hnI: ∀blk base sz,σ id=.at_ blk base sz→¬I blk:=by
   intro blk base sz e1
   have:=hi.own id _ ho
   simp only[eD,e1]at this
   exact this.2.1 trivial
  let c':Ctx:= {w0:=w,σ0:=σ,I0:=I,O:=fun k=> ∃base sz,σ id=.at_ k base sz,GL:=GL,nt:=fn.ntmps,u0:=fun k=>k<nx∧σ k=.unset}
  have hi':Inv c' σ I w (upd (fun _=>none) id (.cells xs true)) (fun k=>nx≤k∨(k<nx∧σ k=.unset)):=by
   refine⟨fun _ _=>rfl,fun _ h=>h,fun _ _=>rfl,rfl,rfl,rfl,U3 _,fun _ _ _=>rfl,hi.ilt,fun k o hk=>?_,fun k k' zs o' blk base sz base' sz' h1 hm h2 hne e1=>?_,fun k zs blk base sz h1 hm e1=>?_,fun k hk=>hk.elim (hi.un k) (fun h=>h.2),fun g xs hg=>hi.glob g xs (by rw[hGL];exact hg),fun _ h=> .inl h⟩
   ·obtain⟨rfl,rfl⟩:=get1 k o hk;exact hi.own _ _ ho
   ·obtain⟨rfl,_⟩:=get1 k _ h1
    obtain⟨rfl,_⟩:=get1 k' _ h2
    exact absurd rfl hne
   ·obtain⟨rfl,_⟩:=get1 k _ h1
    exact .inr ⟨base,sz,e1⟩
  refine calls_of_wp hf hb (wp_mono (haw hid c' rfl rfl σ I w {tmps:=vals++Array.replicate (fn.ntmps-vals.size) undef,defers:=[]} w ?_) ?_)
  ·refine⟨⟨σ,I,?_,Grow.refl _ _ _,fun t=>oG hs hr t⟩,rfl,(by show _=fn.ntmps;simp at hs⊢;omega),fun k hk=>hk.elim,fun id hid=>⟨hid.1,hid.1⟩⟩
   refine hi'.mono_un fun id hid=>?_
   rcases hid with hid|⟨k,hk,_⟩|hid
   ·exact .inl hid
   ·exact hk.elim
   ·exact .inr hid
  rintro e a w' ⟨t,hq,hR⟩
  have hd:a.defers=[]:=hR.defers
  obtain⟨⟨σ',I',a1,a2,a3⟩,_⟩:=hR
  have hold: ∀k,k<w.heap.size→(∀base sz,σ id≠.at_ k base sz)→w'.heap[k]? =w.heap[k]?:=fun k hk hn=>a1.old k hk (fun⟨base,sz,e⟩=>hn base sz e)
  have hIs: ∀k,I k→w'.heap[k]? =w.heap[k]?:=fun k hk=>hold k (hi.ilt k hk) (fun base sz e=>hnI k base sz e hk)
  have hO: ∀k,k<c.w0.heap.size→¬c.O k→w'.heap[k]? =c.w0.heap[k]?:=fun k hk hO=>by
   rw[hold k (Nat.lt_of_lt_of_le hk hi.size) (fun base sz e=>?_)]
   ·exact hi.old k hk hO
   ·rcases hi.lim id _ k base sz ho rfl e with h5|h5
    ·omega
    ·exact hO h5
  have other: ∀(J:Nat→Prop),(∀k,I k→J k)→(∀k,J k→I k∨w.heap.size≤k)→∀k o,k≠id→hp k=some o→eD σ J w' k o:=by
   intro J hJ1 hJ2 k o hne h2
   have h3:=hi.own k o h2
   refine h3.mono (fun _ _=>rfl) hJ1 hIs fun blk base sz e1=>⟨hold blk (h3.lt e1) (fun base' sz' e2=>?_),fun _ hn hb=>?_⟩
   ·exact hi.inj id k _ o blk base' sz' base sz ho rfl h2 (fun e=>hne e.symm) e2 e1
   ·rcases hJ2 blk hb with h|h
    ·exact hn h
    ·have:=h3.lt e1;omega
  match o,e,hq with
  |none,.panic c2,hq=>
   obtain rfl:c2=ch:=hq
   refine⟨hd,.inr ⟨rfl,rfl,?_,⟨fun _ _=>rfl,fun _ h=>h,hIs⟩⟩⟩
   refine⟨hi.ext,hi.imm,fun k hk=>by rw[hIs k (hi.imm k hk)];exact hi.iw k hk,by rw[a1.os];exact hi.os,by rw[a1.tape];exact hi.tape,by rw[a1.output];exact hi.output,Nat.le_trans hi.size a1.size,hO,fun k hk=>Nat.lt_of_lt_of_le (hi.ilt k hk) a1.size,fun k o hk=>?_,fun k k' zs o' blk base sz base' sz' h1 hm h2 hne e1=>?_,fun k zs blk base sz h1 hm e1=>?_,hi.un,fun g zs hg=>(hi.glob g zs hg).mono (fun _ _=>rfl) (fun _ h=>h) hIs,hi.inew⟩
   ·rw[eV]at hk
    split at hk
    ·cases hk
    ·rename_i hne;exact other I (fun _ h=>h) (fun _ h=> .inl h) k o hne hk
   ·rw[eV]at h1 h2
    split at h1
    ·cases h1
    ·split at h2
     ·cases h2
     ·exact hi.inj k k' zs o' blk base sz base' sz' h1 hm h2 hne e1
   ·rw[eV]at h1
    split at h1
    ·cases h1
    ·exact hi.lim k zs blk base sz h1 hm e1
  |some (r,ys),e,hq=>
   have hq2:(e=.ret∨e=.normal)∧bSi P fn.results.toList r id ys t:=by
    cases e<;>first|exact⟨.inl rfl,hq⟩|exact⟨.inr rfl,hq⟩|exact hq.elim
   obtain⟨he,q1,q2,q3,q4⟩:=hq2
   replace q1:=aJ q1;obtain⟨x,hx,him⟩:=q1
   obtain⟨v,hv,hrel⟩:=eZ (P:=P) a1 a3 hx
   have h4:σ' id=σ id:=a2.loc id hset
   have hidI: ∀blk base sz,σ id=.at_ blk base sz→¬I' blk:=by
    intro blk base sz e1
    have:=a1.own id _ q2
    simp only[eD,h4,e1]at this
    exact this.2.1 trivial
   obtain⟨J,hJ⟩: ∃J:Nat→Prop,∀k,J k↔(I' k∨∃k' o base sz,del t.hp id k'=some o∧σ' k'=.at_ k base sz):=⟨_,fun _=>Iff.rfl⟩
   have hJI': ∀k,I' k→J k:=fun k hk=>(hJ k).2 (.inl hk)
   have hI'c: ∀k,I' k→I k∨w.heap.size≤k:=by
    intro k hk
    rcases a1.inew k hk with h|h|⟨base,sz,h⟩
    ·exact .inl h
    ·exact .inr h
    ·exact absurd hk (hidI k base sz h)
   have hJc: ∀k,J k→(I k∨w.heap.size≤k)∧k<w'.heap.size∧∀base sz,σ id≠.at_ k base sz:=by
    intro k hk
    rcases(hJ k).1 hk with hk|⟨k',o,base,sz,e1,e2⟩
    ·exact⟨hI'c k hk,a1.ilt k hk,fun base sz e=>hidI k base sz e hk⟩
    ·rw[eV]at e1
     split at e1
     ·cases e1
     rename_i hne
     have hcl: ∀base sz,σ id≠.at_ k base sz:=by
      intro base' sz' e3
      exact a1.inj id k' _ o k base' sz' base sz q2 rfl e1 (fun e=>hne e.symm) (by rw[h4];exact e3) e2
     refine⟨?_,(a1.own k' o e1).lt e2,hcl⟩
     cases hm:o.mt with
     |true=>
      rcases a1.lim k' o k base sz e1 hm e2 with h|⟨base',sz',h⟩
      ·exact .inr h
      ·exact absurd h (hcl base' sz')
     |false=>exact hI'c k ((a1.own k' _ e1).fz hm e2)
   obtain⟨him',_⟩:=qH (a1.sub (aAh t.hp id)) hJI' (fun k' o blk base sz e1 e2=>(hJ blk).2 (.inr ⟨k',o,base,sz,e1,e2⟩)) 4 him hrel
   have hIJ: ∀k,I k→J k:=fun k hk=>hJI' k (a2.imm k hk)
   have hres:Rel σ J w' r v:=him'.congr_ids fun k hk=>by rw[q3]at hk;omega
   have hinv:Inv c σ J w' (upd hp id (.cells ys true)) (fun id=>nx≤id):=by
    refine⟨hi.ext,fun k hk=>hIJ k (hi.imm k hk),fun k hk=>by rw[hIs k (hi.imm k hk)];exact hi.iw k hk,by rw[a1.os];exact hi.os,by rw[a1.tape];exact hi.tape,by rw[a1.output];exact hi.output,Nat.le_trans hi.size a1.size,hO,fun k hk=>(hJc k hk).2.1,fun k o hk=>?_,(hi.updIL ho (.cells ys true) fun _=>rfl).1,(hi.updIL ho (.cells ys true) fun _=>rfl).2,hi.un,fun g zs hg=>(hi.glob g zs hg).mono (fun _ _=>rfl) hIJ hIs,fun k hk=>?_⟩
    ·rw[bJ]at hk
     split at hk
     ·rename_i e
      subst e
      obtain rfl:=J0 hk
      have h3:=a1.own k _ q2
      have h6:=hi.own k _ ho
      simp only[eD,h4]at h3 h6⊢
      cases e5:σ k with
      |unset=>exact absurd e5 hset
      |nil=>simp only[e5]at h3⊢;exact h3
      |at_ blk base sz=>
       simp only[e5]at h3 h6⊢
       obtain⟨⟨⟨cs,T,lo,hi2,b1,b2,b3,b4,b5⟩,b6⟩,b7⟩:=h3
       refine⟨⟨⟨cs,T,lo,hi2,b1,b2,b3,b4,fun i hi3=>?_⟩,b6⟩,fun _ hb=>(hJc blk hb).2.2 base sz e5,fun hm=>by cases hm⟩
       exact((b5 i hi3).congr_ids (σ':=σ) fun k hk=>by have:=AV.ids_get ys i hi3;omega).mono (fun _ _=>rfl) hJI' (fun _ _=>rfl)
     ·rename_i hne;exact other J hIJ (fun k hk=>(hJc k hk).1) k o hne hk
    ·rcases(hJc k hk).1 with h|h
     ·exact hi.inew k h
     ·exact .inr (.inl (Nat.le_trans hi.size h))
   have fin:a.defers=[]∧∃v,(results fn a.tmps).run P w'=.ok v w'∧((∃r' ys' v' I',some (r,ys)=some (r',ys')∧Ending.returned v=.returned v'∧Inv c σ I' w' (upd hp id (.cells ys' true)) (fun id=>nx≤id)∧Rel σ I' w' r' v'∧Grow σ I w σ I' w')∨
     (some (r,ys)=none∧Ending.returned v=.panicked ch∧Inv c σ I w' (del hp id) (fun id=>nx≤id)∧Grow σ I w σ I w')):=
    ⟨hd,v,hv,.inl ⟨r,ys,v,J,rfl,rfl,hinv,hres,⟨fun _ _=>rfl,hIJ,hIs⟩⟩⟩
   rcases he with rfl|rfl
   ·exact fin
   ·exact fin
 refine⟨?_,?_⟩
 ·intro c σ I w hp nx args vals r hp' nx' hGL hi hs hr hg
  unfold rdH at hg
  split at hg
  case h_2=>cases hg
  rename_i id off rest
  replace hg:=aJ hg;obtain⟨o,ho,hg⟩:=hg
  obtain⟨xs,mt,rfl⟩: ∃a b,o=AO.cells a b:=by cases o<;>first|exact⟨_,_,rfl⟩|(simp at hg)
  simp only at hg
  replace hg:=aP hg;obtain⟨rfl,hg⟩:=hg
  replace hg:=aJ hg;obtain⟨p,hp1,hg⟩:=hg
  replace hg:=aJ hg;obtain⟨⟨r0,ys⟩,rfl,hg⟩:=hg
  simp only[Option.some.injEq,Prod.mk.injEq]at hg
  obtain⟨rfl,rfl,rfl⟩:=hg
  refine⟨U3 _,(main c σ I w hp nx id off rest vals xs _ hGL hi ho hs hr hp1).mono ?_⟩
  rintro e w' (⟨r',ys',v,I',e1,rfl,b1,b2,b3⟩|⟨e1,_⟩)
  ·simp only[Option.some.injEq,Prod.mk.injEq]at e1;obtain⟨rfl,rfl⟩:=e1
   exact⟨v,σ,I',rfl,b1,b2,b3,fun _ _ h=>h⟩
  cases e1
 intro c σ I w hp nx args vals hp' nx' hGL hi hs hr hg
 unfold rdP at hg
 split at hg
 case h_2=>cases hg
 rename_i id off rest
 replace hg:=aJ hg;obtain⟨o,ho,hg⟩:=hg
 obtain⟨xs,mt,rfl⟩: ∃a b,o=AO.cells a b:=by cases o<;>first|exact⟨_,_,rfl⟩|(simp at hg)
 simp only at hg
 replace hg:=aP hg;obtain⟨rfl,hg⟩:=hg
 replace hg:=aJ hg;obtain⟨p,hp1,hg⟩:=hg
 split at hg
 ·cases hg
 simp only[Option.some.injEq,Prod.mk.injEq]at hg
 obtain⟨rfl,rfl⟩:=hg
 refine⟨U3 _,(main c σ I w hp nx id off rest vals xs _ hGL hi ho hs hr hp1).mono ?_⟩
 rintro e w' (⟨r',ys',v,I',e1,_⟩|⟨_,rfl,b1,b2⟩)
 ·cases e1
 exact⟨σ,I,rfl,b1,b2,fun _ _ h=>h⟩
end
def ppG (g:List AV→Option (Option AV)) (args:List AV):Option AV:=aK (g args) fun o=>o
def ppR (hp:H) (nx:Nat):Option AV→Option (H×Nat)
 |some _=>none
 |none=>some (hp,nx)
def ppP (g:List AV→Option (Option AV)) (args:List AV) (hp:H) (nx:Nat):Option (H×Nat):=aK (g args) (ppR hp nx)
theorem cJl (g:List AV→Option (Option AV)) (args:List AV):ppG g args=aK (g args) fun o=>o:=(rfl)
theorem cJk (g:List AV→Option (Option AV)) (args:List AV) (hp:H) (nx:Nat):ppP g args hp nx=aK (g args) (ppR hp nx):=(rfl)
theorem cVa (hp:H) (nx:Nat):ppR hp nx none=some (hp,nx):=(rfl)
attribute [go_sem] cJl cJk cVa
def ppQ (P:Program) (rs:List ResultVar) (ch:List PanicEntry):Option AV→Exit→S→Prop
 |some r,e,t=>fHo P rs r e t
 |none,.panic c,_=>c=ch
 |none,_,_=>False
theorem cVb (P:Program) (rs:List ResultVar) (ch:List PanicEntry) (r:AV) (e:Exit) (t:S):ppQ P rs ch (some r) e t=fHo P rs r e t:=(rfl)
attribute [go_sem] cVb
section
variable {P : Program} {GL : Nat → Option (List AV)}
theorem cSh {f:FuncId} {fn:Func} {code:Code} {ch:List PanicEntry} {g:List AV→Option (Option AV)} (hf:P.funcs[f]? =some fn) (hb:fn.body=some code)
  (h: ∀args o,g args=some o→args.length≤fn.ntmps∧∀nx,Awp P GL fn.ntmps code (sN args (fun _=>none) nx) (ppQ P fn.results.toList ch o)):fHn P GL f (ppG g)∧dE P GL f ch (ppP g):=by
 refine⟨zK hf hb fun args r hg=>?_,?_⟩
 ·unfold ppG at hg
  replace hg:=aJ hg;obtain⟨o,ho,rfl⟩:=hg
  exact h args _ ho
 intro c σ I w hp nx args vals hp' nx' hGL hi hs hr hg
 unfold ppP at hg
 replace hg:=aJ hg;obtain⟨o,ho,hg⟩:=hg
 cases o with
 |some r=>cases hg
 |none=>
  obtain⟨rfl,rfl⟩:hp'=hp∧nx'=nx:=by
   simp only[ppR,Option.some.injEq,Prod.mk.injEq]at hg;exact⟨hg.1.symm,hg.2.symm⟩
  obtain⟨hlen,haw⟩:=h args none ho
  refine⟨U3 _,?_⟩
  have h1: ∀id,nx'≤id→σ id=.unset:=fun id h=>hi.un id h
  have h3: ∀g xs,GL g=some xs→Rel σ I w (.rp xs) (.pointer (some ⟨g,0,none⟩)):=fun g xs h=>hi.glob g xs (by rw[hGL];exact h)
  refine calls_of_wp hf hb (wp_mono (haw nx' (aPf σ I w GL fn.ntmps nx') rfl rfl σ I w {tmps:=vals++Array.replicate (fn.ntmps-vals.size) undef,defers:=[]} w ?_) ?_)
  ·refine⟨⟨σ,I,?_,Grow.refl _ _ _,fun t=>oG hs hr t⟩,rfl,(by show _=fn.ntmps;simp[hs];omega),fun k hk=>hk.elim,fun id hid=>⟨hid.1,hid.1⟩⟩
   refine(bYs h1 hi.ilt h3).mono_un fun id hid=>?_
   rcases hid with hid|⟨k,hk,_⟩|hid
   ·exact .inl hid
   ·exact hk.elim
   exact .inr hid
  rintro e a w' ⟨t,hq,hR⟩
  have hd:a.defers=[]:=hR.defers
  obtain⟨⟨σ',I',a1,a2,a3⟩,_⟩:=hR
  cases e with
  |panic c2=>
   obtain rfl:c2=ch:=hq
   have hold: ∀k,k<w.heap.size→w'.heap[k]? =w.heap[k]?:=fun k hk=>a1.old k hk (fun h=>h)
   have hIs: ∀k,I k→w'.heap[k]? =w.heap[k]?:=fun k hk=>hold k (hi.ilt k hk)
   refine⟨hd,σ,I,rfl,?_,⟨fun _ _=>rfl,fun _ h=>h,hIs⟩,fun _ _ h=>h⟩
   exact hi.extend a1.os a1.tape a1.output a1.size hold I (fun _ h=>h) (fun _ h=> .inl h)
  |_=>exact hq.elim
end
end Go.AX

namespace Go.AX
open Go Go.Proofs
theorem bG (fr:List (Nat×AV)):gdS fr none=some true:=(rfl)
def eSc (l:List B8) (k a:Nat):Option (AV×List AV):=if k≤l.length-a then some (.sl k (c8 ((l.drop a).take k)),[.sl l.length (c8 l),.i ((a+k:Nat):Int)])else none
theorem eMu {l:List B8} {k a:Nat} (h:k≤l.length-a):eSc l k a=some (.sl k (c8 ((l.drop a).take k)),[.sl l.length (c8 l),.i ((a+k:Nat):Int)]):=J4 h
theorem eOp {l:List B8} {k a:Nat} (h: ¬k≤l.length-a):eSc l k a=none:=J3 h
def fJ:List AV→List AV→Option (Option (AV×List AV))
 |[.op _ 0,.i k],[.sl n xs,.i a]=>aK (fHq xs) fun l=>aN (l.length=n∧0≤k∧k≤100000∧0≤a∧a≤n∧n≤100000) (some (eSc l k.toNat a.toNat))
 |_,_=>none
theorem eUf (id n:Nat) (k a:Int) (xs:List AV):fJ [.op id 0,.i k] [.sl n xs,.i a]=aK (fHq xs) fun l=>aN (l.length=n∧0≤k∧k≤100000∧0≤a∧a≤n∧n≤100000) (some (eSc l k.toNat a.toNat)):=(rfl)
attribute [go_sem] eUf
theorem fCm (l:List B8):AV.ids.idsL (c8 l)=0:=by
 induction l with
 |nil=>rfl
 |cons x l ih=>show max (AV.ids (.w8 x)) (AV.ids.idsL (c8 l))=0;rw[ih];rfl
theorem eLf (n:Nat) (l:List B8):AV.ids (.sl n (c8 l))=0:=fCm l
theorem fVp (n:Nat) (l:List B8) (a:Int):AV.ids.idsL [.sl n (c8 l),.i a]=0:=by
 show max (AV.ids (.sl n (c8 l))) (max 0 0)=0
 rw[eLf];rfl
set_option maxHeartbeats 2000000 in
theorem eNz:fHs Tryz.prog GLh 50 (rdH fJ)∧dE Tryz.prog GLh 50 chM (rdP fJ):=by
 refine dT Tryz.func50 (aT rfl) ?_
 intro id off rest nx xs o hg
 unfold fJ at hg
 split at hg
 ·rename_i id2 k0 n xs2 a0 heq
  simp only[List.cons.injEq,AV.op.injEq]at heq
  obtain⟨⟨rfl,rfl⟩,rfl⟩:=heq
  replace hg:=aJ hg;obtain⟨l,hl,hg⟩:=hg
  replace hg:=aP hg;obtain⟨⟨rfl,hk,hkb,ha,han,hnb⟩,hg⟩:=hg
  obtain rfl:=J0 hg
  have:=bW hl;subst this
  obtain⟨k,rfl⟩:=Int.eq_ofNat_of_zero_le hk
  obtain⟨a,rfl⟩:=Int.eq_ofNat_of_zero_le ha
  simp only[U2]at*
  refine⟨J1 rfl,fun hid=>?_⟩
  clear hl hg
  refine ySq (yRn [0,1] fun K hK=>?_)
  simp(disch:=omega) only[go_sem]
  refine hK _ (aB ?_)
  by_cases hka:k≤l.length-a
  ·rw[eMu hka]
   have hd:decide ((k:Int)≤(l.length:Int)-(a:Int))=true:=J5 (by omega)
   refine ySq (bB (fun k=>if k=12 then 0 else 2) [0,1] bZ (aH rP aO) rfl rfl rfl (by kernel_rfl) (fun K hK=>?_))
   simp(disch:=omega) only[go_sem,hd]
   refine hK _ (aB ?_)
   have ea:(a:Int)+(k:Int)=((a+k:Nat):Int):=rfl
   refine ySq (yRn [0,1] fun K hK=>?_)
   simp(disch:=omega) only[go_sem,ea]
   refine hK _ (aB ?_)
   have es:((a+k:Nat):Int)-(k:Int)=(a:Int):=by omega
   have e2:a+k-a=k:=by omega
   refine ySq (bB (Γ:=aL) (fun _=>2) [4] bZ (aD _ _) rfl rfl rfl (by kernel_rfl) (fun K hK=>?_))
   simp(disch:=omega) only[go_sem,es,e2,U2]
   refine hK _ (aB ?_)
   exact aS rfl (⟨by simp only[bV,bK,bQ,Tryz.f50,go_sem],by simp only[aV,if_true],eLf _ _,fVp _ _ _⟩)
  rw[eOp hka]
  have hd:decide ((k:Int)≤(l.length:Int)-(a:Int))=false:=J6 (by omega)
  refine ySq (dCo 12 (fun _=>2) bZ (fPd) rD (aH rP aO) rfl rfl rfl (by kernel_rfl) rfl (by kernel_rfl) (fun Z hZ=>?_))
  simp(disch:=omega) only[go_sem,bG,eq_self,true_and,bP,List.map_cons,List.map_nil,List.append_nil,hd,U0,U1]
  refine hZ _ ?_;clear hZ Z
  exact rfl
 cases hg
theorem rH:dE Tryz.prog GLh 50 chM (rdP fJ):=eNz.2
theorem eLj:fHm Tryz.prog 50:=⟨_,Tryz.func50,rfl,rfl⟩
theorem eLb:bX Tryz.prog GLh 50 (.heap (rdH fJ)):=⟨⟨_,Tryz.func50,rfl,rfl⟩,eNz.1⟩
end Go.AX

namespace Go.AX
open Go Go.Proofs
theorem fQy (s:List B8) (k:Nat) (h:k<s.length):s[k]? =some (s.getD k 0#8):=by rw[List.getD_eq_getElem?_getD,List.getElem?_eq_getElem h];rfl
def fRs (l:List B8):BitVec 32:=l.foldl (fun n x=>(n <<<8)|||x.setWidth 32) 0#32
theorem eOi (l:List B8) (k:Nat) (h:k<l.length):fRs (l.take (k+1))=(fRs (l.take k) <<<8)|||(l.getD k 0#8).setWidth 32:=by
 unfold fRs
 rw[List.take_succ_eq_append_getElem h,List.foldl_append,List.getD_eq_getElem?_getD,List.getElem?_eq_getElem h];rfl
def rL (l:List B8) (k a:Nat):Option (AV×List AV):=if k≤l.length-a then some (.w32 (fRs ((l.drop a).take k)),[.sl l.length (c8 l),.i ((a+k:Nat):Int)])else none
theorem eKs {l:List B8} {k a:Nat} (h:k≤l.length-a):rL l k a=some (.w32 (fRs ((l.drop a).take k)),[.sl l.length (c8 l),.i ((a+k:Nat):Int)]):=J4 h
theorem fPs {l:List B8} {k a:Nat} (h: ¬k≤l.length-a):rL l k a=none:=J3 h
def eN:List AV→List AV→Option (Option (AV×List AV))
 |[.op _ 0,.i k],[.sl n xs,.i a]=>aK (fHq xs) fun l=>aN (l.length=n∧0≤k∧k≤4∧0≤a∧a≤n∧n≤100000) (some (rL l k.toNat a.toNat))
 |_,_=>none
theorem eYu (id n:Nat) (k a:Int) (xs:List AV):eN [.op id 0,.i k] [.sl n xs,.i a]=aK (fHq xs) fun l=>aN (l.length=n∧0≤k∧k≤4∧0≤a∧a≤n∧n≤100000) (some (rL l k.toNat a.toNat)):=(rfl)
attribute [go_sem] eYu
structure KC5 where
 k:Nat
 c:Nat
set_option maxHeartbeats 4000000 in
theorem ePt:fHs Tryz.prog GLh 32 (rdH eN)∧dE Tryz.prog GLh 32 chM (rdP eN):=by
 refine dT Tryz.func32 (aT rfl) ?_
 intro id off rest nx xs o hg
 unfold eN at hg
 split at hg
 ·rename_i id2 k0 n xs2 a0 heq
  simp only[List.cons.injEq,AV.op.injEq]at heq
  obtain⟨⟨rfl,rfl⟩,rfl⟩:=heq
  replace hg:=aJ hg;obtain⟨l,hl,hg⟩:=hg
  replace hg:=aP hg;obtain⟨⟨rfl,hk,hkb,ha,han,hnb⟩,hg⟩:=hg
  obtain rfl:=J0 hg
  have:=bW hl;subst this
  obtain⟨k,rfl⟩:=Int.eq_ofNat_of_zero_le hk
  obtain⟨a,rfl⟩:=Int.eq_ofNat_of_zero_le ha
  simp only[U2]at*
  refine⟨J1 rfl,fun hid=>?_⟩
  clear hl hg
  refine ySq (yRn [0,1] fun K hK=>?_)
  simp(disch:=omega) only[go_sem]
  refine hK _ (aB ?_)
  refine ySq (yRn [0,1,5] fun K hK=>?_)
  simp(disch:=omega) only[go_sem]
  refine hK _ (aB ?_)
  by_cases hka:k≤l.length-a
  ·rw[eKs hka]
   have ht:=eMu hka
   obtain⟨d,hd⟩: ∃d,(l.drop a).take k=d:=⟨_,rfl⟩
   rw[hd]at ht⊢
   have hdl:d.length=k:=by rw[←hd,List.length_take,List.length_drop];omega
   refine ySq (ySq (yRg [5,10,11,12] (aH eLb aO) fun K hK=>?_))
   simp(disch:=omega) only[go_sem,ht,U2]
   refine hK _ (aB ?_)
   refine yBl 0 (bR (fun p:KC5=> {fr:=[(5,.w32 (fRs (d.take p.k))),(10,.sl k (c8 d)),(11,.i (k:Int)),(12,.i (p.k:Int))],hp:=upd (fun _=>none) id (.cells [.sl l.length (c8 l),.i ((a+k:Nat):Int)] true),nx:=0,cx:=p.c}) (fun p=>p.k≤k) (fun p=>k-p.k) rfl ⟨⟨0,_⟩,Nat.zero_le _,bD rfl rfl (U3 _)⟩ ?_)
   rintro⟨i,c⟩ hi n0
   simp only at hi⊢
   refine ySq (yRn [13,5,10,11,12] fun K hK=>?_)
   simp(disch:=omega) only[go_sem]
   refine hK _ (aB ?_)
   refine ySq (gLb rfl (fun h=>?_) (fun h=>?_))
   ·refine yDr ?_
    have hil:i<d.length:=by omega
    have hix:=fQy d i hil
    have hst:=eOi d i hil
    refine ySk (aB (ySq (yBl 1 (ySq (yRn [5,7,10,11,12] fun K hK=>?_)))))
    simp(disch:=omega) only[go_sem]
    refine hK _ (aB ?_)
    refine yRn [5,10,11,12] fun K hK=>?_
    simp(disch:=omega) only[go_sem]
    refine hK _ (bU (aB ?_))
    refine yRn [5,10,11,12] fun K hK=>?_
    simp(disch:=omega) only[go_sem]
    refine hK _ (bT ?_)
    refine⟨⟨i+1,_⟩,by simp only;omega,by simp only;omega,bD ?_ rfl (U3 _)⟩
    simp only[hst,Int.natCast_add,Int.natCast_one]
   refine yDr ?_
   obtain rfl:i=k:=by omega
   have e1:d.take i=d:=List.take_of_length_le (by omega)
   refine yEx 0 (aY (aZ (bE (aB (ySq (yRn [4] fun K hK=>?_))))))
   simp(disch:=omega) only[go_sem,e1]
   refine hK _ (aB ?_)
   exact aS rfl (⟨by simp only[bV,bK,bQ,Tryz.f32,go_sem],by simp only[aV,if_true],rfl,fVp _ _ _⟩)
  rw[fPs hka]
  have ht:=eOp hka
  refine ySq (ySq (dCn 2 (rH) eLj (aH eLb aO) rfl rfl rfl (fun Z hZ=>?_)))
  simp(disch:=omega) only[go_sem,bG,eq_self,true_and,bP,List.map_cons,List.map_nil,List.append_nil,ht,U2,U0,U1]
  refine hZ _ ?_;clear hZ Z
  exact rfl
 cases hg
theorem dK:dE Tryz.prog GLh 32 chM (rdP eN):=ePt.2
theorem fSe:fHm Tryz.prog 32:=⟨_,Tryz.func32,rfl,rfl⟩
theorem fL:bX Tryz.prog GLh 32 (.heap (rdH eN)):=⟨⟨_,Tryz.func32,rfl,rfl⟩,ePt.1⟩
end Go.AX

namespace Go.AX
open Go Go.Proofs
set_option maxRecDepth 8000
abbrev Nm:=List (List B8)
structure NS where
 bg:Nat
 pl:Nat
 en:Option Nat
 tot:Nat
 acc:Nm
inductive NR where
 |no
 |done (n:Nm) (e:Nat)
 |go (s:NS)
def fHj (b:List B8) (s:NS):NR:=
 if b.length≤s.pl then .no
 else if(b.getD s.pl 0#8).toNat=0 then .done s.acc (s.en.getD (s.pl+1))
 else if 192≤(b.getD s.pl 0#8).toNat then
  if b.length≤s.pl+1 then .no
  else if s.bg≤((b.getD s.pl 0#8).toNat-192)*256+(b.getD (s.pl+1) 0#8).toNat then .no
  else .go ⟨((b.getD s.pl 0#8).toNat-192)*256+(b.getD (s.pl+1) 0#8).toNat,((b.getD s.pl 0#8).toNat-192)*256+(b.getD (s.pl+1) 0#8).toNat,some (s.en.getD (s.pl+2)),s.tot,s.acc⟩
 else if 63<(b.getD s.pl 0#8).toNat∨b.length-(s.pl+1)<(b.getD s.pl 0#8).toNat then .no
 else if 255<s.tot+(1+(b.getD s.pl 0#8).toNat)then .no
 else .go ⟨s.bg,s.pl+1+(b.getD s.pl 0#8).toNat,s.en,s.tot+(1+(b.getD s.pl 0#8).toNat),s.acc++[(b.drop (s.pl+1)).take (b.getD s.pl 0#8).toNat]⟩
def nMu (b:List B8) (s:NS):Nat:=s.bg*(b.length+1)+(b.length-s.pl)
theorem fIu {b:List B8} {s t:NS} (h:fHj b s=.go t):nMu b t<nMu b s:=by
 unfold fHj at h
 split at h
 ·cases h
 rename_i h1
 split at h
 ·cases h
 split at h
 ·split at h
  ·cases h
  split at h
  ·cases h
  rename_i h4
  cases h
  unfold nMu
  simp only
  obtain⟨q,hq⟩: ∃q,((b.getD s.pl 0#8).toNat-192)*256+(b.getD (s.pl+1) 0#8).toNat=q:=⟨_,rfl⟩
  rw[hq]at h4⊢
  have h5:(q+1)*(b.length+1)≤s.bg*(b.length+1):=Nat.mul_le_mul_right _ (by omega)
  rw[Nat.succ_mul]at h5
  omega
 split at h
 ·cases h
 rename_i h3
 split at h
 ·cases h
 cases h
 unfold nMu
 simp only
 omega
def fIv (b:List B8):Nat→NS→Option (Nm×Nat)
 |0,_=>none
 |f+1,s=>match fHj b s with
  | .no=>none
  | .done n e=>some (n,e)
  | .go t=>fIv b f t
theorem fHz {b:List B8} {f:Nat} {s:NS} (h:fHj b s=.no):fIv b (f+1) s=none:=by rw[fIv,h]
theorem fJi {b:List B8} {f:Nat} {s:NS} {n:Nm} {e:Nat} (h:fHj b s=.done n e):fIv b (f+1) s=some (n,e):=by rw[fIv,h]
theorem fIo {b:List B8} {f:Nat} {s t:NS} (h:fHj b s=.go t):fIv b (f+1) s=fIv b f t:=by rw[fIv,h]
def ns0 (a:Nat):NS:=⟨a,a,none,1,[]⟩
def fJj (b:List B8) (a:Nat):Option (Nm×Nat):=fIv b (nMu b (ns0 a)+1) (ns0 a)
structure NI (b:List B8) (s:NS):Prop where
 en: ∀e,s.en=some e→e≤b.length
 lab: ∀l∈s.acc,1≤l.length∧l.length≤63
 tot:1+(s.acc.map fun l=>l.length+1).sum=s.tot
 le:s.tot≤255
theorem NI.start (b:List B8) (a:Nat):NI b (ns0 a):=⟨fun _ h=>by simp[ns0]at h,fun _ h=>by simp[ns0]at h,rfl,by show 1≤255;omega⟩
theorem fKp: ∀l:Nm,l.length≤(l.map fun x=>x.length+1).sum
 |[]=>U3 _
 |x::r=>by
  have:=fKp r
  simp only[List.map_cons,List.sum_cons,List.length_cons]
  omega
theorem NI.cnt {b:List B8} {s:NS} (h:NI b s):s.acc.length≤255:=by
 have:=fKp s.acc
 have:=h.tot
 have:=h.le
 omega
theorem NI.step {b:List B8} {s t:NS} (h:NI b s) (hs:fHj b s=.go t):NI b t:=by
 unfold fHj at hs
 split at hs
 ·cases hs
 rename_i h1
 split at hs
 ·cases hs
 rename_i h0
 split at hs
 ·split at hs
  ·cases hs
  split at hs
  ·cases hs
  cases hs
  refine⟨fun e he=>?_,h.lab,h.tot,h.le⟩
  obtain rfl:=J0 he
  rcases hse:s.en with _|e
  ·show s.pl+2≤b.length;omega
  exact h.en e hse
 split at hs
 ·cases hs
 rename_i h3
 split at hs
 ·cases hs
 rename_i h4
 cases hs
 have hl:((b.drop (s.pl+1)).take (b.getD s.pl 0#8).toNat).length=(b.getD s.pl 0#8).toNat:=by rw[List.length_take,List.length_drop];omega
 refine⟨h.en,fun l hm=>?_,?_,by simp only;omega⟩
 ·rcases List.mem_append.1 hm with hm|hm
  ·exact h.lab l hm
  rw[List.mem_singleton]at hm;subst hm;omega
 have:=h.tot
 simp only[List.map_append,List.sum_append,List.map_cons,List.map_nil,List.sum_cons,List.sum_nil,hl]
 omega
theorem NI.done {b:List B8} {s:NS} (h:NI b s) {n:Nm} {e:Nat} (hs:fHj b s=.done n e):n=s.acc∧e=s.en.getD (s.pl+1)∧e≤b.length:=by
 unfold fHj at hs
 split at hs
 ·cases hs
 rename_i h1
 split at hs
 ·cases hs
  refine⟨rfl,rfl,?_⟩
  rcases hse:s.en with _|e
  ·show s.pl+1≤b.length;omega
  exact h.en e hse
 split at hs
 ·split at hs
  ·cases hs
  split at hs<;>cases hs
 split at hs
 ·cases hs
 split at hs<;>cases hs
theorem fKo {b:List B8}: ∀ {f:Nat} {s:NS} {n:Nm} {e:Nat},NI b s→fIv b f s=some (n,e)→e≤b.length∧(∀l∈n,1≤l.length∧l.length≤63)∧1+(n.map fun l=>l.length+1).sum≤255
 |0,_,_,_,_,h=>by cases h
 |f+1,s,n,e,hi,h=>by
  rcases hs:fHj b s with _|⟨n2,e2⟩|t
  ·rw[fHz hs]at h;cases h
  ·rw[fJi hs]at h
   simp only[Option.some.injEq,Prod.mk.injEq]at h
   obtain⟨rfl,rfl⟩:=h
   obtain⟨rfl,_,h3⟩:=hi.done hs
   exact⟨h3,hi.lab,by rw[hi.tot];exact hi.le⟩
  rw[fIo hs]at h
  exact fKo (hi.step hs) h
theorem fLw {b:List B8} {a:Nat} {n:Nm} {e:Nat} (h:fJj b a=some (n,e)):e≤b.length∧(∀l∈n,1≤l.length∧l.length≤63)∧1+(n.map fun l=>l.length+1).sum≤255:=fKo (NI.start b a) h
structure QN where
 n:Nm
 t:BitVec 16
 c:BitVec 16
def n16 (b:List B8) (a:Nat):BitVec 16:=(fRs ((b.drop a).take 2)).setWidth 16
def qnR (b:List B8) (a:Nat):Option (QN×Nat):=match fJj b a with
 |none=>none
 |some (n,e)=>if e+2+2≤b.length then some (⟨n,n16 b e,n16 b (e+2)⟩,e+2+2)else none
def fJv (b:List B8):Nat→Nat→List QN→Option (List QN×Nat)
 |0,a,l=>some (l,a)
 |k+1,a,l=>match qnR b a with
  |none=>none
  |some (q,e)=>fJv b k e (l++[q])
theorem fNn {b:List B8} {a:Nat} {q:QN} {e:Nat} (h:qnR b a=some (q,e)):e≤b.length:=by
 unfold qnR at h
 split at h
 ·cases h
 split at h
 ·simp only[Option.some.injEq,Prod.mk.injEq]at h
  omega
 cases h
end Go.AX

namespace Go.AX
open Go
def bSj (P:Program) (GL:Nat→Option (List AV)) (f:FuncId) (u u':FrameMode) (g:List AV→H→Nat→Option (H×Nat)):Prop:=
 ∀(c:Ctx) (σ:Nat→Loc) (I:Nat→Prop) (w:World) (hp:H) (nx:Nat) (args:List AV) (vals:Array Value) (hp':H) (nx':Nat),
  c.GL=GL→Inv c σ I w hp (fun id=>nx≤id)→vals.size=args.length→(∀i (_h:i<args.length),Rel σ I w args[i] (vals.getD i undef))→g args hp nx=some (hp',nx')→
  nx≤nx'∧CallsD P f vals u w fun e u1 w'=> ∃v σ' I',e=.returned v∧u1=u'∧Inv c σ' I' w' hp' (fun id=>nx'≤id)∧Grow σ I w σ' I' w'∧(∀id,id<nx→σ id=.unset→σ' id=.unset)
def cIv:FrameMode→Option (Value×FrameMode)
 | .panicking ({v,recovered:=false,goexit:=false}::older)=>some (v,.panicking ({v,recovered:=true}::older))
 |_=>none
theorem uD (c₀:Frame) (cs:List Frame):recoverD (c₀::cs)=(cIv c₀.mode).map fun p=>(p.1,{c₀ with mode:=p.2}::cs):=by
 obtain⟨fn,tmps,todo,defers,mode,kind,roundOf⟩:=c₀
 cases mode with
 |run=>rfl
 |returning=>rfl
 |panicking l=>
  cases l with
  |nil=>rfl
  |cons p r=>
   obtain⟨v,rec,ge⟩:=p
   cases rec<;>cases ge<;>rfl
section
variable {P : Program} {GL : Nat → Option (List AV)}
theorem fZ {f:FuncId} {fn:Func} {rest:Code} {id:Nat} {a b:Tmp} {ty1 ty2:TypeId} {p1 p2:String} {af1 af2:Array Edge} {u u':FrameMode} {rv:Value} {g:List AV→H→Nat→Option (H×Nat)} (hf:P.funcs[f]? =some fn)
  (hb:fn.body=some (.seq (.region id #[{dst:=some a,op:=.call {callee:=.builtin .recover,args:= #[],argTypes:= #[]},type:=ty1,pos:=p1,after:=af1,guard:=none},{dst:=some b,op:=.assign (.tmp a),type:=ty2,pos:=p2,after:=af2,guard:=none}] false) rest))
  (hu:(cIv u=some (rv,u'))∨(cIv u=none∧rv=.nilIface∧u'=u)) (hab:a<fn.ntmps∧b<fn.ntmps)
  (h: ∀args hp nx hp' nx',g args hp nx=some (hp',nx')→args.length≤fn.ntmps∧nx≤nx'∧((∀id,nx≤id→hp id=none)→Awp P GL fn.ntmps rest {fr:=(b,ofV rv)::(a,ofV rv)::aOo 0 args,hp:=hp,nx:=nx,cx:=nx} (bMy P fn.results.toList (.tup []) hp' nx'))):bSj P GL f u u' g:=by
 intro c σ I w hp nx args vals hp' nx' hGL hi hs hr hg
 obtain⟨hlen,hle,haw⟩:=h args hp nx hp' nx' hg
 refine⟨hle,?_⟩
 have hi':Inv {c with nt:=fn.ntmps,u0:=fun id=>id<nx∧σ id=.unset,df:=[]} σ I w hp (fun id=>nx≤id∨(id<nx∧σ id=.unset)):=
  ⟨hi.ext,hi.imm,hi.iw,hi.os,hi.tape,hi.output,hi.size,hi.old,hi.ilt,hi.own,hi.inj,hi.lim,fun id h=>h.elim (hi.un id) (fun h=>h.2),hi.glob,hi.inew⟩
 let a0:Act:= {tmps:=vals++Array.replicate (fn.ntmps-vals.size) undef,defers:=[]}
 have hsz0:a0.tmps.size=fn.ntmps:=by show(vals++Array.replicate (fn.ntmps-vals.size) undef).size=_;simp[hs];omega
 let a1:Act:=(a0.put (some a) rv).put (some b) rv
 have ha1:(a0.put (some a) rv).eval (.tmp a)=rv:=by
  show((a0.tmps.setIfInBounds a rv).getD a undef)=rv
  rw[Array.getD_eq_getD_getElem?,Array.getElem?_setIfInBounds_self_of_lt (by rw[hsz0];exact hab.1)];rfl
 refine callsD_of_wpS hf hb fun c₀ cs hmode=>?_
 have key:rest.wpS P (bodyPostS P fn c₀ cs (fun e u1 w'=> ∃v σ' I',e=.returned v∧u1=u'∧Inv c σ' I' w' hp' (fun id=>nx'≤id)∧Grow σ I w σ' I' w'∧(∀id,id<nx→σ id=.unset→σ' id=.unset))) a1 ({c₀ with mode:=u'}::cs) w:=by
  refine wpS_of_wp (wp_mono (haw (fun id hid=>hi.none_un hid) {c with nt:=fn.ntmps,u0:=fun id=>id<nx∧σ id=.unset,df:=[]} hGL rfl σ I w a1 w ?_) ?_)
  ·refine⟨⟨σ,I,?_,Grow.refl _ _ _,?_⟩,rfl,by rw[pX,pX];exact hsz0,fun k hk=>hk.elim,fun id hid=>⟨hid.1,hid.1⟩⟩
   ·refine hi'.mono_un fun id hid=>?_
    rcases hid with hid|⟨k,hk,_⟩|hid
    ·exact .inl hid
    ·exact hk.elim
    exact .inr hid
   have h1:=vT (n:=fn.ntmps) (dst:=some a) (x:=ofV rv) (v:=rv) hsz0 (fun d hd=>by obtain rfl:=J0 hd;exact hab.1) (fun _=>vP rv) (fun t=>oG (n:=fn.ntmps-vals.size) hs hr t)
   exact vT (n:=fn.ntmps) (dst:=some b) (x:=ofV rv) (v:=rv) (by rw[pX];exact hsz0) (fun d hd=>by obtain rfl:=J0 hd;exact hab.2) (fun _=>vP rv) h1
  rintro e a' w' ⟨t,hq,hR⟩
  have hd:a'.defers=[]:=hR.defers
  obtain⟨⟨σ',I',b1,b2,b3⟩,_⟩:=hR
  have hq2:(e=.ret∨e=.normal)∧wZ P fn.results.toList (.tup []) hp' nx' t:=by
   cases e<;>first|exact⟨.inl rfl,hq⟩|exact⟨.inr rfl,hq⟩|exact hq.elim
  obtain⟨he,q1,q2,q3⟩:=hq2
  obtain⟨v,hv,hrel⟩:=eZ (P:=P) b1 b3 q1
  have b1':=b1.sub q2
  have fin:a'.defers=[]∧∃u1,({c₀ with mode:=u'}::cs:List Frame)= {c₀ with mode:=u1}::cs∧∃v,(results fn a'.tmps).run P w'=.ok v w'∧∃v1 σ' I',Ending.returned v=.returned v1∧u1=u'∧Inv c σ' I' w' hp' (fun id=>nx'≤id)∧Grow σ I w σ' I' w'∧(∀id,id<nx→σ id=.unset→σ' id=.unset):=
   ⟨hd,u',rfl,v,hv,v,σ',I',rfl,rfl,⟨b1'.ext,b1'.imm,b1'.iw,b1'.os,b1'.tape,b1'.output,b1'.size,b1'.old,b1'.ilt,b1'.own,b1'.inj,b1'.lim,fun id h=>b1'.un id (.inl (Nat.le_trans q3 h)),b1'.glob,b1'.inew⟩,b2,fun id hid hun=>b1.un id (.inr (.inr ⟨hid,hun⟩))⟩
  rcases he with rfl|rfl
  ·exact fin
  exact fin
 generalize bodyPostS P fn c₀ cs _=Q at key⊢
 have hav:a<vals.size+(fn.ntmps-vals.size):=Nat.lt_of_lt_of_le hab.1 (by omega)
 apply wpS_seq
 apply wpS_region
 rcases hu with hu|⟨hu,rfl,rfl⟩
 ·simp[wpOpsS,go_sem,uD,hmode,hu,Exit.thenS,hav]
  exact key
 have hc:({c₀ with mode:=u'}:Frame)=c₀:=by cases c₀;simp at hmode;subst hmode;rfl
 rw[hc]at key
 simp[wpOpsS,go_sem,uD,hmode,hu,Exit.thenS,hav]
 exact key
def fDc (P:Program) (rs:List ResultVar) (ch:List PanicEntry) (gI gP:List AV→H→Nat→Option (H×Nat)) (capsA:List AV) (r:AV):Exit→S→Prop
 | .ret,t=> ∃p,gI capsA t.hp t.cx=some p∧aK (bV P rs {t with hp:=p.1}) (zB 4 p.1)=some r
 | .normal,t=> ∃p,gI capsA t.hp t.cx=some p∧aK (bV P rs {t with hp:=p.1}) (zB 4 p.1)=some r
 | .panic c,t=>c=ch∧∃p,gP capsA t.hp t.cx=some p∧aK (bV P rs {t with hp:=p.1}) (zB 4 p.1)=some r
 |_,_=>False
def dBa (k:Tmp) (d:FuncId) (capsA:List AV) (t:S):S:= {fr:=(k,.fn d capsA)::t.fr,hp:=t.hp,nx:=t.nx,cx:=t.cx}
def dYy (P:Program) (GL:Nat→Option (List AV)) (nt:Nat) (C:Code) (k:Tmp) (d:FuncId) (caps:List Operand) (capsA:List AV) (Q:Exit→S→Prop):Exit→S→Prop
 | .normal,t=>caps.map (ev GL t.fr)=capsA∧Awp P GL nt C (dBa k d capsA t) Q
 |_,_=>False
theorem cUy {f d:FuncId} {fn:Func} {r0 C:Code} {id:Nat} {k:Tmp} {caps:Array Operand} {ty1 ty2:TypeId} {p1 p2:String} {af1 af2:Array Edge} {ch:List PanicEntry} {u':FrameMode} {gI gP:List AV→H→Nat→Option (H×Nat)} {g:List AV→Option AV} (hf:P.funcs[f]? =some fn)
  (hb:fn.body=some (.seq r0 (.seq (.region id #[{dst:=some k,op:=.makeFunc (.func d) #[] caps,type:=ty1,pos:=p1,after:=af1,guard:=none},{dst:=none,op:=.defer {callee:=.value (.tmp k),args:= #[],argTypes:= #[]},type:=ty2,pos:=p2,after:=af2,guard:=none}] false) C)))
  (hk:k<fn.ntmps) (hd:fHm P d) (hI:bSj P GL d .returning .returning gI) (hP:bSj P GL d (.panicking ch) u' gP) (hu:settle u'=.returning)
  (h: ∀args r,g args=some r→args.length≤fn.ntmps∧∀nx,∃capsA,Awp P GL fn.ntmps r0 (sN args (fun _=>none) nx) (dYy P GL fn.ntmps C k d caps.toList capsA (fDc P fn.results.toList ch gI gP capsA r))):fHn P GL f g:=by
 intro σ I w nx args vals r h1 h2 h3 hs hr hg
 obtain⟨hlen,haw⟩:=h args r hg
 obtain⟨capsA,haw⟩:=haw nx
 let c:=aPf σ I w GL fn.ntmps nx
 refine calls_of_wp_defers hf hb (wp_seq (wp_mono (haw c rfl rfl σ I w {tmps:=vals++Array.replicate (fn.ntmps-vals.size) undef,defers:=[]} w ?_) ?_))
 ·refine⟨⟨σ,I,?_,Grow.refl _ _ _,fun t=>oG hs hr t⟩,rfl,by show _=fn.ntmps;simp[hs];omega,fun k hk=>hk.elim,fun id hid=>⟨hid.1,hid.1⟩⟩
  refine(bYs h1 h2 h3).mono_un fun id hid=>?_
  rcases hid with hid|⟨k,hk,_⟩|hid
  ·exact .inl hid
  ·exact hk.elim
  exact .inr hid
 rintro e a0 w0 ⟨t0,hq,hR⟩
 cases e with
 |normal=>
  obtain⟨hcaps,hC⟩:=hq
  refine wp_seq (wp_region_list ?_)
  obtain⟨⟨σ1,I1,b1,b2,b3⟩,bd,bs,blt,blt0⟩:=hR
  obtain⟨V,hV⟩: ∃V,caps.map a0.eval=V:=⟨_,rfl⟩
  have hVs:V.size=capsA.length:=by rw[←hV,←hcaps];simp
  have hVr: ∀i (_h:i<capsA.length),Rel σ1 I1 w0 capsA[i] (V.getD i undef):=by
   subst hcaps
   intro i hi
   have:=aAc (l:=caps.toList) (aJt b1 b3) i (by simpa using hi)
   rw[fI,List.getD_eq_getElem?_getD]at this
   have e:V[i]? =(List.map a0.eval caps.toList)[i]?:=by rw[←hV,←Array.toList_map,Array.getElem?_toList]
   rw[Array.getD_eq_getD_getElem?,e];exact this
  let D:Deferred:= {target:=.fn (.func d) V,args:= #[]}
  let a1:Act:=a0.put (some k) (.func (.func d) #[] V)
  let a2:Act:= {a1 with defers:=D::a1.defers}
  have hbs:a0.tmps.size=fn.ntmps:=bs
  have ha1:a1.eval (.tmp k)=.func (.func d) #[] V:=by
   show((a0.tmps.setIfInBounds k _).getD k undef)=_
   rw[Array.getD_eq_getD_getElem?,Array.getElem?_setIfInBounds_self_of_lt (by rw[hbs];exact hk)];rfl
  unfold wpList
  rw[J4 (by simp[Region.wanted])]
  refine .inl ?_
  have e1:(execOp a0.eval {dst:=some k,op:=.makeFunc (.func d) #[] caps,type:=ty1,pos:=p1,after:=af1,guard:=none}).run P w0=.ok (.value (.func (.func d) #[] V)) w0:=by
   rw[←hV]
   simp only[execOp,Instr.makeFunc,Array.map_empty,Sem.run_bind,Sem.run_pure,Result.andThen_ok]
  unfold Oper.wp
  rw[e1]
  show wpList P _ _ _ a1 w0
  unfold wpList
  rw[J4 (by simp[Region.wanted])]
  refine .inl ?_
  have e2:(execOp a1.eval {dst:=none,op:=.defer {callee:=.value (.tmp k),args:= #[],argTypes:= #[]},type:=ty2,pos:=p2,after:=af2,guard:=none}).run P w0=.ok (.defer D) w0:=by
   simp only[execOp,resolve,ha1,Deferred.ofValue,Sem.run_bind,Sem.run_pure,Result.andThen_ok,Array.map_empty,Array.append_empty];rfl
  unfold Oper.wp
  rw[e2]
  show Code.wp P C _ a2 w0
  have hadf:a0.defers=[]:=bd
  have hR2:R {c with df:=[D]} σ1 I1 w0 (fun _=>False) (dBa k d capsA t0) a2 w0:=by
   refine⟨⟨σ1,I1,⟨b1.ext,b1.imm,b1.iw,b1.os,b1.tape,b1.output,b1.size,b1.old,b1.ilt,b1.own,b1.inj,b1.lim,b1.un,b1.glob,b1.inew⟩,Grow.refl _ _ _,?_⟩,?_,?_,fun k hk=>hk.elim,blt0⟩
   ·exact vT (n:=fn.ntmps) (dst:=some k) (x:=.fn d capsA) (v:=.func (.func d) #[] V) hbs (fun d' hd'=>by obtain rfl:=J0 hd';exact hk) (fun _=> .fn d capsA V hVs hVr) b3
   ·show D::a0.defers=[D];rw[hadf]
   show(a0.put (some k) _).tmps.size=_;rw[pX];exact hbs
  refine wp_mono (hC {c with df:=[D]} rfl rfl σ1 I1 w0 a2 w0 hR2) ?_
  rintro e a' w' ⟨t,hq,hR'⟩
  have hd':a'.defers=[D]:=hR'.defers
  obtain⟨⟨σ2,I2,c1,c2,c3⟩,_,_,_,clt0⟩:=hR'
  obtain⟨fnd,q1,q2,q3⟩:=hd
  have hinv:(invoke (.fn (.func d) V) #[]).run P w'=.ok (.enter d V) w':=by
   simp only[invoke,Array.empty_append,callFunc,Sem.run_bind,run_program,Result.andThen_ok,q1,q2,q3,Bool.false_eq_true,if_false,Sem.run_pure]
  have hVr2: ∀i (_h:i<capsA.length),Rel σ2 I2 w' capsA[i] (V.getD i undef):=fun i hi=>(hVr i hi).grow c2
  have fin: ∀(p:H×Nat) (σ3:Nat→Loc) (I3:Nat→Prop) (w3:World),aK (bV P fn.results.toList {t with hp:=p.1}) (zB 4 p.1)=some r→Inv {c with df:=[D]} σ3 I3 w3 p.1 (fun id=>p.2≤id)→Grow σ2 I2 w' σ3 I3 w3→(∀id,id<t.cx→σ2 id=.unset→σ3 id=.unset)→
    ∃v,(results fn a'.tmps).run P w3=.ok v w3∧∃v' σ' I',Ending.returned v=.returned v'∧w3.os=w.os∧w3.tape=w.tape∧w3.output=w.output∧w.heap.size≤w3.heap.size∧(∀k,k<w.heap.size→w3.heap[k]? =w.heap[k]?)∧
     (∀id,id<nx→σ' id=σ id)∧(∀k,I' k→I k∨w.heap.size≤k)∧(∀k,I' k→k<w3.heap.size)∧Rel σ' I' w3 r v':=by
   intro p σ3 I3 w3 hres d1 d2 d3
   replace hres:=aJ hres;obtain⟨x,hx,him⟩:=hres
   obtain⟨v,hv,hrel⟩:=eZ (P:=P) (t:= {t with hp:=p.1}) d1 (fun k=>(c3 k).grow d2) hx
   have hI: ∀k,I3 k→(I3 k∨∃id o base sz,p.1 id=some o∧σ3 id=.at_ k base sz):=fun k hk=> .inl hk
   obtain⟨him',_⟩:=qH d1 hI (fun id o blk base sz e1 e2=> .inr ⟨id,o,base,sz,e1,e2⟩) 4 him hrel
   have hkeep: ∀id,id<nx→σ3 id=σ id:=by
    intro id hid
    by_cases e:σ id=.unset
    ·have hu0:c.u0 id:=⟨hid,e⟩
     rw[e];exact d3 id (clt0 id hu0).2 (c1.un id (.inr (.inr hu0)))
    ·exact d1.ext id e
   refine⟨v,hv,v,σ3,fun k=>I3 k∨∃id o base sz,p.1 id=some o∧σ3 id=.at_ k base sz,rfl,d1.os,d1.tape,d1.output,d1.size,fun k hk=>d1.old k hk (fun h=>h),hkeep,fun k hk=>?_,fun k hk=>?_,him'⟩
   ·rcases hk with hk|⟨id,o,base,sz,e1,e2⟩
    ·rcases d1.inew k hk with h|h|h
     ·exact .inl h
     ·exact .inr h
     ·exact h.elim
    ·rcases d1.blkNew e1 e2 with h|h|h
     ·exact .inl h
     ·exact .inr h
     ·exact h.elim
   ·rcases hk with hk|⟨id,o,base,sz,e1,e2⟩
    ·exact d1.ilt k hk
    ·exact(d1.own id o e1).lt e2
  have c1':Inv {c with df:=[D]} σ2 I2 w' t.hp (fun id=>t.cx≤id):=c1.mono_un fun id hid=> .inl hid
  have ret:(∃p,gI capsA t.hp t.cx=some p∧aK (bV P fn.results.toList {t with hp:=p.1}) (zB 4 p.1)=some r)→Leaves P fn a'.tmps (fun e w3=> ∃v' σ' I',e=.returned v'∧w3.os=w.os∧w3.tape=w.tape∧w3.output=w.output∧w.heap.size≤w3.heap.size∧(∀k,k<w.heap.size→w3.heap[k]? =w.heap[k]?)∧
     (∀id,id<nx→σ' id=σ id)∧(∀k,I' k→I k∨w.heap.size≤k)∧(∀k,I' k→k<w3.heap.size)∧Rel σ' I' w3 r v') a'.defers .returning w':=by
   rintro⟨p,hp1,hres⟩
   rw[hd']
   obtain⟨_,hcalls⟩:=hI {c with df:=[D]} σ2 I2 w' t.hp t.cx capsA V p.1 p.2 rfl c1' hVs hVr2 hp1
   refine leaves_cons (by simp) hinv (fun c₀ cs hm=>?_)
   obtain⟨e',u1,w3,fr',hRR,hst⟩:=hcalls c₀ cs hm
   refine⟨e',u1,w3,fr',?_,hst⟩
   obtain⟨v,σ3,I3,rfl,rfl,d1,d2,d3⟩:=hRR
   exact fin p σ3 I3 w3 hres d1 d2 d3
  cases e with
  |ret=>exact ret hq
  |normal=>exact ret hq
  |panic ch'=>
   obtain⟨rfl,p,hp1,hres⟩:=hq
   show Leaves P fn a'.tmps _ a'.defers (.panicking ch') w'
   rw[hd']
   obtain⟨_,hcalls⟩:=hP {c with df:=[D]} σ2 I2 w' t.hp t.cx capsA V p.1 p.2 rfl c1' hVs hVr2 hp1
   refine leaves_cons (by simp) hinv (fun c₀ cs hm=>?_)
   obtain⟨e',u1,w3,fr',hRR,hst⟩:=hcalls c₀ cs hm
   refine⟨e',u1,w3,fr',?_,hst⟩
   obtain⟨v,σ3,I3,rfl,rfl,d1,d2,d3⟩:=hRR
   show Leaves P fn a'.tmps _ [] (settle u1) w3
   rw[hu]
   exact fin p σ3 I3 w3 hres d1 d2 d3
  |_=>exact hq.elim
 |_=>exact hq.elim
end
end Go.AX

namespace Go.AX
open Go
def uO (i:Nat) (L:List (List Nat)):List (List Nat):=L.filterMap fun l=>match l with|[]=>none|j::r=>if j=i then some r else none
theorem aCi {i:Nat} {L:List (List Nat)} {r:List Nat}:r∈uO i L↔(i::r)∈L:=by
 unfold uO
 rw[List.mem_filterMap]
 constructor
 ·rintro⟨l,hl,h⟩
  cases l with
  |nil=>cases h
  |cons j q=>
   simp only at h
   split at h
   ·rename_i e;obtain rfl:=J0 h;subst e;exact hl
   cases h
 intro h;exact⟨_,h,by simp⟩
def wR (ops:Array Oper):Nat→Array Bool→List (List Nat)→Bool
 |0,listed,L=>(Region.ready .any ops listed).isEmpty&&L.contains []
 |n+1,listed,L=>(!(Region.ready .any ops listed).isEmpty||L.contains [])&&(Region.ready .any ops listed).all fun i=> !(uO i L).isEmpty&&wR ops n (listed.setIfInBounds i true) (uO i L)
section
variable {P : Program} {Γ : Env} {c : Ctx} {σ0 : Nat → Loc} {I0 : Nat → Prop} {w0 : World} {md : Nat → Nat} {ops : Array Oper}
theorem aZt (hΓ:eT P c.GL Γ) {Q:Exit→Act→World→Prop} (hdst:fK c.nt ops.toList=true):
  ∀(fuel:Nat) (listed:Array Bool) (L:List (List Nat)) (s:S) (a:Act) (w:World),listed.size=ops.size→wR ops fuel listed L=true→
   (∀l∈L,∃s',dQ P Γ c.GL md ops l s=some s'∧∀a' w',R c σ0 I0 w0 (fun _=>False) s' a' w'→Q .normal a' w')→R c σ0 I0 w0 (fun k=>k∈unl ops.size listed) s a w→wpAny P .any ops Q fuel listed a w:=by
 have fin: ∀(L:List (List Nat)) (rem:Nat→Prop) (s:S) (a:Act) (w:World),L.contains []=true→(∀l∈L,∃s',dQ P Γ c.GL md ops l s=some s'∧∀a' w',R c σ0 I0 w0 (fun _=>False) s' a' w'→Q .normal a' w')→R c σ0 I0 w0 rem s a w→Q .normal a w:=by
  intro L rem s a w hL h hR
  obtain⟨s',h1,h2⟩:=h [] (by simpa using hL)
  obtain rfl:=J0 h1
  exact h2 _ _ (hR.un fun _ h=>h.elim)
 intro fuel
 induction fuel with
 |zero=>
  intro listed L s a w _ hc h hR
  simp only[wR,Bool.and_eq_true,List.isEmpty_iff]at hc
  exact⟨hc.1,fin L _ s a w hc.2 h hR⟩
 |succ fuel ih=>
  intro listed L s a w hsz hc h hR
  simp only[wR,Bool.and_eq_true,Bool.or_eq_true,Bool.not_eq_true',List.all_eq_true]at hc
  refine⟨fun hr=>?_,fun i hi=>?_⟩
  ·rcases hc.1 with h1|h1
   ·rw[hr]at h1;cases h1
   exact fin L _ s a w h1 h hR
  obtain⟨hne,hcov⟩:=hc.2 i hi
  obtain⟨hun,x,hx,hall⟩:=mem_ready.1 hi
  have hlt:=(Array.getElem?_eq_some_iff.1 hx).1
  have hmem:i∈unl ops.size listed:=by unfold unl;rw[List.mem_filter,List.mem_range];exact⟨hlt,by rw[hun];rfl⟩
  obtain⟨r0,hr0⟩: ∃r,r∈uO i L:=by
   cases hT:uO i L with
   |nil=>rw[hT]at hne;cases hne
   |cons r q=>exact⟨r,by simp⟩
  obtain⟨sf,hf,_⟩:=h _ (aCi.1 hr0)
  simp only[dQ,hx]at hf
  replace hf:=aJ hf;obtain⟨s1,f1,_⟩:=hf
  have hstep:=fX (K:=wpAny P .any ops Q fuel (listed.setIfInBounds i true)) (Q:=Q) (ops:=ops) hΓ f1 (lU hdst (Array.mem_toList_iff.2 (Array.mem_of_getElem? hx))) (rem:=fun k=>k∈unl ops.size listed) hmem hR (fun a' w' hR'=>
   ih (listed.setIfInBounds i true) (uO i L) s1 a' w' (by simpa using hsz) hcov (fun l hl=>by
     obtain⟨s',g1,g2⟩:=h _ (aCi.1 hl)
     simp only[dQ,hx]at g1
     rw[f1,aX]at g1
     exact⟨s',g1,g2⟩)
    (hR'.un fun k hk=>by
     simp only[unl,List.mem_filter,List.mem_range]at hk⊢
     by_cases hki:k=i
     ·subst hki
      rw[Array.getD_eq_getD_getElem?,Array.getElem?_setIfInBounds_self_of_lt (by omega)]at hk
      simp at hk
     ·rw[getD_set_ne true (Ne.symm hki)]at hk
      exact⟨hk,hki⟩))
  unfold wpOp
  simp only[hx]
  split
  ·rename_i hw;rw[J4 hw]at hstep;exact .inl hstep
  rename_i hw;rw[J3 hw]at hstep;exact hstep
end
def yR (P:Program) (Γ:Env) (GL:Nat→Option (List AV)) (m n k:Nat) (s:S):Option LOp→Option S
 |some o=>eEj P Γ GL m n k o s
 |none=>none
def aIk (P:Program) (Γ:Env) (GL:Nat→Option (List AV)) (n:Nat) (ls:List LOp):List Nat→S→Option S
 |[],s=>some s
 |i::r,s=>aK (yR P Γ GL 0 n i s ls[i]?) fun s'=>aIk P Γ GL n ls r s'
@[congr] theorem cId {P : Program} {Γ : Env} {GL : Nat → Option (List AV)} {n : Nat} {ls : List LOp} {l : List Nat} {s s' : S} (h : s = s') : aIk P Γ GL n ls l s = aIk P Γ GL n ls l s' := by rw [h]
theorem cUg (P Γ GL n ls s):aIk P Γ GL n ls [] s=some s:=(rfl)
theorem cSg (P Γ GL n ls i r s):aIk P Γ GL n ls (i::r) s=aK (yR P Γ GL 0 n i s ls[i]?) fun s'=>aIk P Γ GL n ls r s':=(rfl)
theorem eDt (P Γ GL m n k s o):yR P Γ GL m n k s (some o)=eEj P Γ GL m n k o s:=(rfl)
def aUe (f:List Nat→Prop):List (List Nat)→Prop
 |[]=>True
 |l::r=>f l∧aUe f r
theorem aQh (f):aUe f []=True:=(rfl)
theorem aHu (f l r):aUe f (l::r)=(f l∧aUe f r):=(rfl)
theorem aDs {f:List Nat→Prop}: ∀ {L:List (List Nat)},aUe f L→∀l∈L,f l
 |[],_,l,h=>by cases h
 |x::r,h,l,hl=>by
  rcases List.mem_cons.1 hl with e|hl
  ·subst e;exact h.1
  exact aDs h.2 l hl
def dBc (c:Code) (L:List (List Nat)):Bool:=wR (aM c) (aM c).size (Array.replicate (aM c).size false) L
theorem dCp {P:Program} {GL:Nat→Option (List AV)} {nt:Nat} {Q:Exit→S→Prop} {s:S} {code:Code} {Γ:Env} (L:List (List Nat)) (ks:List Nat) (hm:P.follows .mixedOrders=true) (hΓ:eT P GL Γ) (hc:eEs code=true) (hd:lZ code=true) (ho:fK nt (aM code).toList=true) (hk:dBc code L=true)
  (h: ∀K:S→Prop,(∀t,Q .normal t→K t)→aUe (fun l=>nH (aIk P Γ GL (rN code) (aF code) l (cX (rN code) s)) fun t=>K {t with fr:=gL ks t.fr}) L):Awp P GL nt code s Q:=by
 have h':=aDs (h (Q .normal) fun _ h=>h)
 clear h
 refine sX ?_
 cases code<;>first|(cases hc;done)|skip
 rename_i id ops d
 simp only[lZ]at hd
 subst hd
 intro c h1 h2 σ0 I0 w0 a w hR
 subst h1;subst h2
 simp only[aM,dBc]at ho hk
 have h0:unl ops.size (Array.replicate ops.size false)=List.range ops.size:=by
  unfold unl
  refine List.filter_eq_self.2 fun k hk=>?_
  rw[List.mem_range]at hk
  rw[Array.getD_eq_getD_getElem?,Array.getElem?_replicate,J4 hk];rfl
 have hrun: ∀(l:List Nat) (s:S),aIk P Γ c.GL (rN (.region id ops true)) (aF (.region id ops true)) l s=dQ P Γ c.GL (fun _=>0) ops l s:=by
  intro l
  induction l with
  |nil=>intro s;rfl
  |cons i r ih=>
   intro s
   have hl:(aF (.region id ops true))[i]? =(ops[i]?).map (light ops):=by simp only[aF,aM,List.getElem?_map,Array.getElem?_toList]
   simp only[aIk,dQ,hl]
   cases ops[i]? with
   |none=>rfl
   |some o=>
    simp only[Option.map_some,yR,vJ]
    congr 1
    funext s'
    exact ih s'
 refine wp_region_any hm (aZt (σ0:=σ0) (I0:=I0) (w0:=w0) (md:=fun _=>0) hΓ ho ops.size _ L (cX ops.size s) a _ (by simp) hk (fun l hl=>?_) ?_)
 ·obtain⟨t,e1,e2⟩:=mR (h' l hl)
  rw[hrun]at e1
  exact⟨t,e1,fun a' w' hR'=>⟨t,⟨_,e2,dWs ks t,rfl⟩,hR'⟩⟩
 exact((hR.enter ops.size).un fun k hk=>by rw[h0]at hk;exact List.mem_range.1 hk).world rfl rfl rfl rfl
end Go.AX

namespace Go.AX
open Go
def cQk (h:FuncId) (g:List AV→Option AV) (id off:Nat) (hp:H) (nx:Nat):AO→Option (AV×H×Nat)
 | .cells xs _=>aK (g [.fn h [.rp (xs.drop off)]]) fun r=>aN (r.ids=0) (some (r,upd hp id (.cells xs false),nx))
 |_=>none
def cQl (h:FuncId) (g:List AV→Option AV):List AV→H→Nat→Option (AV×H×Nat)
 |[.fn h' [.op id off]],hp,nx=>aN (h'=h) (aK (hp id) (cQk h g id off hp nx))
 |_,_,_=>none
theorem cBo (h h':FuncId) (g:List AV→Option AV) (id off:Nat) (hp:H) (nx:Nat):cQl h g [.fn h' [.op id off]] hp nx=aN (h'=h) (aK (hp id) (cQk h g id off hp nx)):=(rfl)
theorem cQj (h:FuncId) (g:List AV→Option AV) (id off:Nat) (hp:H) (nx:Nat) (xs:List AV) (mt:Bool):cQk h g id off hp nx (.cells xs mt)=aK (g [.fn h [.rp (xs.drop off)]]) fun r=>aN (r.ids=0) (some (r,upd hp id (.cells xs false),nx)):=(rfl)
attribute [go_sem] cBo cQj
theorem cZb {P:Program} {GL:Nat→Option (List AV)} {f h:FuncId} {g:List AV→Option AV} (hok:fHn P GL f g):fHs P GL f (cQl h g):=by
 intro c σ I w hp nx args vals r hp' nx' hGL hi hs hr hg
 unfold cQl at hg
 split at hg
 rotate_left
 ·cases hg
 rename_i h' id off
 replace hg:=aP hg;obtain⟨rfl,hg⟩:=hg
 replace hg:=aJ hg;obtain⟨o,ho,hg⟩:=hg
 obtain⟨xs,mt,rfl⟩: ∃a b,o=AO.cells a b:=by cases o<;>first|exact⟨_,_,rfl⟩|(cases hg)
 replace hg:=aJ (show aK (g [.fn h' [.rp (xs.drop off)]]) _=_ from hg);obtain⟨r',hr',hg⟩:=hg
 replace hg:=aP hg;obtain⟨hids,hg⟩:=hg
 simp only[Option.some.injEq,Prod.mk.injEq]at hg;obtain⟨rfl,rfl,rfl⟩:=hg
 refine⟨U3 _,?_⟩
 have h0:=hr 0 (by simp)
 simp only[List.getElem_cons_zero]at h0
 have hv: ∃vs:Array Value,vals.getD 0 undef=.func (.func h') #[] vs∧vs.size=1∧Rel σ I w (.op id off) (vs.getD 0 undef):=by
  generalize vals.getD 0 undef=u at h0
  cases h0 with
  |fn _ _ vs h1 h2=>exact⟨vs,rfl,h1,h2 0 (by simp)⟩
 obtain⟨vs,hv,hvs,hvr⟩:=hv
 obtain⟨I1,b1,b2,b3⟩:=gN (x:=.op id off) (v:=vs.getD 0 undef) (p:=(.rp (xs.drop off),upd hp id (.cells xs false))) (by simp only[dW,ho,aX]) hi hvr
 simp only at b2 b3
 subst hGL
 refine(hok σ I1 w (max nx r'.ids) [.fn h' [.rp (xs.drop off)]] vals r' (fun id hid=>b2.un id (by omega)) b2.ilt b2.glob (by simpa using hs) (fun i hi'=>?_) hr').mono ?_
 ·have:i=0:=by simpa using hi'
  subst this
  simp only[List.getElem_cons_zero,hv]
  exact .fn h' _ vs hvs (fun i hi'=>by
   have:i=0:=by simpa using hi'
   subst this;exact b3)
 rintro e w' ⟨v,σ',I',rfl,a1,a2,a3,a4,a5,a6,a7,a8,a9⟩
 have hg1: ∀k,I1 k→(I1 k∨(w.heap.size≤k∧k<w'.heap.size)):=fun k hk=> .inl hk
 refine⟨v,σ,fun k=>I1 k∨(w.heap.size≤k∧k<w'.heap.size),rfl,b2.extend a1 a2 a3 a4 a5 _ hg1 (fun _ h=>h),?_,⟨fun _ _=>rfl,fun k hk=> .inl (b1 k hk),fun k hk=>a5 k (hi.ilt k hk)⟩,fun _ _ h=>h⟩
 have h9:Rel σ I' w' r' v:=a9.congr_ids fun id hid=>by omega
 exact h9.mono (fun _ _=>rfl) (fun k hk=>by
  rcases a7 k hk with h|h
  ·exact .inl h
  exact .inr ⟨h,a8 k hk⟩) (fun _ _=>rfl)
end Go.AX

namespace Go.AX
open Go
def bOr (h:FuncId) (g:List AV→Option AV) (x:AV) (id off:Nat) (hp:H) (nx:Nat):AO→Option (AV×H×Nat)
 | .cells xs _=>aK (g [x,.fn h [.rp (xs.drop off)]]) fun r=>aN (r.ids=0) (some (r,upd hp id (.cells xs false),nx))
 |_=>none
def bOt (h:FuncId) (g:List AV→Option AV):List AV→H→Nat→Option (AV×H×Nat)
 |[x,.fn h' [.op id off]],hp,nx=>aN (h'=h) (aK (hp id) (bOr h g x id off hp nx))
 |_,_,_=>none
theorem bOs (h h':FuncId) (g:List AV→Option AV) (x:AV) (id off:Nat) (hp:H) (nx:Nat):bOt h g [x,.fn h' [.op id off]] hp nx=aN (h'=h) (aK (hp id) (bOr h g x id off hp nx)):=(rfl)
theorem cBn (h:FuncId) (g:List AV→Option AV) (x:AV) (id off:Nat) (hp:H) (nx:Nat) (xs:List AV) (mt:Bool):bOr h g x id off hp nx (.cells xs mt)=aK (g [x,.fn h [.rp (xs.drop off)]]) fun r=>aN (r.ids=0) (some (r,upd hp id (.cells xs false),nx)):=(rfl)
attribute [go_sem] bOs cBn
theorem cSn {P:Program} {GL:Nat→Option (List AV)} {f h:FuncId} {g:List AV→Option AV} (hok:fHn P GL f g):fHs P GL f (bOt h g):=by
 intro c σ I w hp nx args vals r hp' nx' hGL hi hs hr hg
 unfold bOt at hg
 split at hg
 rotate_left
 ·cases hg
 rename_i x h' id off
 replace hg:=aP hg;obtain⟨rfl,hg⟩:=hg
 replace hg:=aJ hg;obtain⟨o,ho,hg⟩:=hg
 obtain⟨xs,mt,rfl⟩: ∃a b,o=AO.cells a b:=by cases o<;>first|exact⟨_,_,rfl⟩|(cases hg)
 replace hg:=aJ (show aK (g [x,.fn h' [.rp (xs.drop off)]]) _=_ from hg);obtain⟨r',hr',hg⟩:=hg
 replace hg:=aP hg;obtain⟨hids,hg⟩:=hg
 simp only[Option.some.injEq,Prod.mk.injEq]at hg;obtain⟨rfl,rfl,rfl⟩:=hg
 refine⟨U3 _,?_⟩
 have h00:=hr 0 (by simp)
 simp only[List.getElem_cons_zero]at h00
 have h0:=hr 1 (by simp)
 simp only[List.getElem_cons_succ,List.getElem_cons_zero]at h0
 have hv: ∃vs:Array Value,vals.getD 1 undef=.func (.func h') #[] vs∧vs.size=1∧Rel σ I w (.op id off) (vs.getD 0 undef):=by
  generalize vals.getD 1 undef=u at h0
  cases h0 with
  |fn _ _ vs h1 h2=>exact⟨vs,rfl,h1,h2 0 (by simp)⟩
 obtain⟨vs,hv,hvs,hvr⟩:=hv
 obtain⟨I1,b1,b2,b3⟩:=gN (x:=.op id off) (v:=vs.getD 0 undef) (p:=(.rp (xs.drop off),upd hp id (.cells xs false))) (by simp only[dW,ho,aX]) hi hvr
 simp only at b2 b3
 subst hGL
 refine(hok σ I1 w (max nx r'.ids) [x,.fn h' [.rp (xs.drop off)]] vals r' (fun id hid=>b2.un id (by omega)) b2.ilt b2.glob (by simpa using hs) (fun i hi'=>?_) hr').mono ?_
 ·have:i=0∨i=1:=by simp at hi';omega
  rcases this with rfl|rfl
  ·simp only[List.getElem_cons_zero]
   exact h00.mono (fun _ _=>rfl) b1 (fun _ _=>rfl)
  simp only[List.getElem_cons_succ,List.getElem_cons_zero,hv]
  exact .fn h' _ vs hvs (fun i hi'=>by
   have:i=0:=by simpa using hi'
   subst this;exact b3)
 rintro e w' ⟨v,σ',I',rfl,a1,a2,a3,a4,a5,a6,a7,a8,a9⟩
 have hg1: ∀k,I1 k→(I1 k∨(w.heap.size≤k∧k<w'.heap.size)):=fun k hk=> .inl hk
 refine⟨v,σ,fun k=>I1 k∨(w.heap.size≤k∧k<w'.heap.size),rfl,b2.extend a1 a2 a3 a4 a5 _ hg1 (fun _ h=>h),?_,⟨fun _ _=>rfl,fun k hk=> .inl (b1 k hk),fun k hk=>a5 k (hi.ilt k hk)⟩,fun _ _ h=>h⟩
 have h9:Rel σ I' w' r' v:=a9.congr_ids fun id hid=>by omega
 exact h9.mono (fun _ _=>rfl) (fun k hk=>by
  rcases a7 k hk with h|h
  ·exact .inl h
  exact .inr ⟨h,a8 k hk⟩) (fun _ _=>rfl)
end Go.AX

namespace Go.AX
open Go
theorem lW {P:Program} {GL:Nat→Option (List AV)} {nt:Nat} {code:Code} {Q:Exit→S→Prop} {fr:List (Nat×AV)} {hp:H} {nx cx:Nat} (t id off:Nat) {xs:List AV} {mt:Bool} (hn:dG fr t=.op id off) (ho:hp id=some (.cells xs mt))
  (h:Awp P GL nt code {fr:=(t,.rp (xs.drop off))::fr,hp:=upd hp id (.cells xs false),nx:=nx,cx:=cx} Q):Awp P GL nt code {fr:=fr,hp:=hp,nx:=nx,cx:=cx} Q:=by
 intro c h1 h2 σ0 I0 w0 a w hR
 refine h c h1 h2 σ0 I0 w0 a w ?_
 obtain⟨⟨σ,I,a1,a2,a3⟩,b,d,e1,e0⟩:=hR
 have ht:=a3 t
 simp only at a1 a3 ht
 rw[hn]at ht
 obtain⟨I1,b1,b2,b3⟩:=gN (x:=.op id off) (p:=(.rp (xs.drop off),upd hp id (.cells xs false))) (by simp only[dW,ho,aX]) a1 ht
 have hg:Grow σ I w σ I1 w:=⟨fun _ _=>rfl,b1,fun _ _=>rfl⟩
 refine⟨⟨σ,I1,b2,a2.trans hg,fun k=>?_⟩,b,d,e1,e0⟩
 simp only[dG]
 split
 ·rename_i e;subst e;exact b3
 exact(a3 k).grow hg
theorem pS {P:Program} {GL:Nat→Option (List AV)} {nt:Nat} {code:Code} {Q:Exit→S→Prop} {fr:List (Nat×AV)} {hp:H} {nx cx:Nat} (t id off n e:Nat) {g:Bool} {xs:List AV} {mt:Bool} (hn:dG fr t=.os id off n e g) (ho:hp id=some (.cells xs mt)) (hl:off+n*e≤xs.length)
  (h:Awp P GL nt code {fr:=(t,.sl n ((xs.drop off).take (n*e)))::fr,hp:=upd hp id (.cells xs false),nx:=nx,cx:=cx} Q):Awp P GL nt code {fr:=fr,hp:=hp,nx:=nx,cx:=cx} Q:=by
 intro c h1 h2 σ0 I0 w0 a w hR
 refine h c h1 h2 σ0 I0 w0 a w ?_
 obtain⟨⟨σ,I,a1,a2,a3⟩,b,d,e1,e0⟩:=hR
 have ht:=a3 t
 simp only at a1 a3 ht
 rw[hn]at ht
 obtain⟨I1,b1,b2,b3⟩:=gN (x:=.os id off n e g) (p:=(.sl n ((xs.drop off).take (n*e)),upd hp id (.cells xs false))) (by simp only[dW,ho,aX];rw[eE _ hl]) a1 ht
 have hg:Grow σ I w σ I1 w:=⟨fun _ _=>rfl,b1,fun _ _=>rfl⟩
 refine⟨⟨σ,I1,b2,a2.trans hg,fun k=>?_⟩,b,d,e1,e0⟩
 simp only[dG]
 split
 ·rename_i e;subst e;exact b3
 exact(a3 k).grow hg
end Go.AX

namespace Go.AX
open Go
def aRu (P:Program) (Γ:Env) (md:Nat→Nat) (ops:Array Oper) (c d j i:Nat):Bool:=
 ((Region.before ops).getD i 0).testBit j||(j==c&&i==d)||match ops[j]?,ops[i]? with
  |some y,some x=>y.apart ops x&&eEq j i (tI P Γ (md j) y.op) (tI P Γ (md i) x.op)
  |_,_=>false
def aAb (P:Program) (Γ:Env) (md:Nat→Nat) (ops:Array Oper) (c d:Nat):List Nat→Bool
 |[]=>true
 |j::r=>(r.all fun i=>aRu P Γ md ops c d j i&&j !=i)&&aAb P Γ md ops c d r
def tJ (ops:Array Oper):Bool:=(List.range ops.size).all fun j=>match ops[j]? with
 |none=>true
 |some y=>y.after.all fun e=> !Region.binds .any e||decide (e.on<j)
def okL (P:Program) (Γ:Env) (md:Nat→Nat) (ops:Array Oper) (c d:Nat) (l:List Nat):Bool:=
 aAb P Γ md ops c d l&&((List.range ops.size).all fun i=>l.contains i)&&l.all fun i=>decide (i<ops.size)
theorem aCc {P:Program} {Γ:Env} {md:Nat→Nat} {ops:Array Oper} {c d:Nat}: ∀ {l:List Nat},aAb P Γ md ops c d l=true→l.Pairwise fun j i=>aRu P Γ md ops c d j i=true∧j≠i
 |[],_=> .nil
 |j::r,h=>by
  simp only[aAb,Bool.and_eq_true,List.all_eq_true]at h
  refine .cons (fun i hi=>?_) (aCc h.2)
  have:=h.1 i hi
  exact⟨this.1,by simpa using this.2⟩
section
variable {P : Program} {Γ : Env} {c : Ctx} {σ0 : Nat → Loc} {I0 : Nat → Prop} {w0 : World} {md : Nat → Nat} {ops : Array Oper}
def pT (listed:Array Bool) (i:Nat):Bool:= !listed.getD i true
theorem aAs {listed:Array Bool} {i:Nat}:pT listed i=true↔listed.getD i true=false:=by simp[pT]
theorem uQ (he:tJ ops=true) (listed:Array Bool) (hsz:listed.size=ops.size) (hr:Region.ready .any ops listed=[]): ∀i,i<ops.size→listed.getD i true=true:=by
 intro i
 induction i using Nat.strongRecOn with
 |_ i ih=>
  intro hlt
  cases hun:listed.getD i true with
  |true=>rfl
  |false=>
   have:i∈Region.ready .any ops listed:=by
    rw[mem_ready]
    refine⟨hun,ops[i],Array.getElem?_eq_getElem hlt,fun e he' hb=>?_⟩
    have h1:=List.all_eq_true.1 he i (List.mem_range.2 hlt)
    simp only[Array.getElem?_eq_getElem hlt]at h1
    have h2:=Array.all_eq_true_iff_forall_mem.1 h1 e he'
    have hlt':e.on<i:=by simpa [hb]using h2
    have h3:=ih e.on hlt' (by omega)
    have hs2:e.on<listed.size:=by omega
    rw[Array.getD_eq_getD_getElem?,Array.getElem?_eq_getElem hs2]at h3⊢
    exact h3
   rw[hr]at this;cases this
def uY (ops:Array Oper) (listed:Array Bool):Prop:= ∀m o,listed.getD m false=true→ops[m]? =some o→∀e∈o.after,Region.binds .any e=true→listed.getD e.on false=true
theorem aUa {listed:Array Bool} (hdc:uY ops listed) {m j:Nat} (ha:Anc ops m j) (h: ∀o,ops[m]? =some o→∀e∈o.after,Region.binds .any e=true→listed.getD e.on false=true):listed.getD j false=true:=by
 induction ha with
 |edge ho he hb=>exact h _ ho _ he hb
 |step ho he hb _ ih2=>exact ih2 fun o ho' e' he' hb'=>hdc _ o (h _ ho _ he hb) ho' e' he' hb'
theorem uY.set {listed:Array Bool} (hdc:uY ops listed) {i:Nat} {x:Oper} (hx:ops[i]? =some x) (hall: ∀e∈x.after,Region.binds .any e=true→listed.getD e.on false=true):uY ops (listed.setIfInBounds i true):=by
 intro m o hm ho e he hb
 by_cases hmi:m=i
 ·subst hmi
  rw[hx]at ho;obtain rfl:=J0 ho
  exact getD_set_true (hall e he hb)
 rw[getD_set_ne false (Ne.symm hmi)]at hm
 exact getD_set_true (hdc m o hm ho e he hb)
theorem qI {l:List Nat} {a0 b0:Nat} (hl:okL P Γ md ops a0 b0 l=true) {listed:Array Bool} (hsz:listed.size=ops.size) (hdc:uY ops listed) {i:Nat} (hi:i∈Region.ready .any ops listed) (hab:listed.getD a0 true=true∨i≠b0) {s sf:S}
  (hrun:dQ P Γ c.GL md ops (l.filter (pT listed)) s=some sf): ∃x s1 sf1,ops[i]? =some x∧kA P Γ c.GL md ops i x s=some s1∧dQ P Γ c.GL md ops (l.filter (pT (listed.setIfInBounds i true))) s1=some sf1∧fVo sf sf1:=by
 obtain⟨hun,x,hx,hall⟩:=mem_ready.1 hi
 have hlt:=(Array.getElem?_eq_some_iff.1 hx).1
 simp only[okL,Bool.and_eq_true,List.all_eq_true]at hl
 obtain⟨⟨h1,h2⟩,h3⟩:=hl
 have hpw:=(aCc h1).filter (pT listed)
 have hmem:i∈l.filter (pT listed):=List.mem_filter.2 ⟨by simpa using h2 i (List.mem_range.2 hlt),aAs.2 hun⟩
 obtain⟨p,q,hpq⟩:=List.append_of_mem hmem
 rw[hpq]at hpw hrun
 have hpi:=fun j (hj:j∈p)=>(List.pairwise_append.1 hpw).2.2 j hj i (by simp)
 have hiq:=fun j (hj:j∈q)=>(List.pairwise_cons.1 (List.pairwise_append.1 hpw).2.1).1 j hj
 obtain⟨s1,sf1,f1,f2,f3⟩:=wK hx p q (fun j hj=>by
  obtain⟨g1,g2⟩:=hpi j hj
  have hjm:j∈l.filter (pT listed):=by rw[hpq];simp[hj]
  have hjun:=aAs.1 (List.mem_filter.1 hjm).2
  have hjlt:j<ops.size:=by simpa using h3 j (List.mem_filter.1 hjm).1
  refine⟨g2,ops[j],Array.getElem?_eq_getElem hjlt,?_⟩
  simp only[aRu,Bool.or_eq_true,Bool.and_eq_true,beq_iff_eq,Array.getElem?_eq_getElem hjlt,hx]at g1
  rcases g1 with(g1|⟨rfl,rfl⟩)|g1
  ·have:=aUa hdc (oR ops i j g1) (fun o ho e he hb=>by rw[hx]at ho;obtain rfl:=J0 ho;exact hall e he hb)
   have hs2:j<listed.size:=by omega
   rw[Array.getD_eq_getD_getElem?,Array.getElem?_eq_getElem hs2]at hjun this
   simp only[Option.getD_some]at hjun this
   rw[hjun]at this;cases this
  ·rcases hab with h|h
   ·rw[h]at hjun;cases hjun
   exact absurd rfl h
  exact g1) hrun
 refine⟨x,s1,sf1,hx,f1,?_,f3⟩
 have hnew:l.filter (pT (listed.setIfInBounds i true))=p++q:=by
  have e1:l.filter (pT (listed.setIfInBounds i true))=(l.filter (pT listed)).filter (fun k=>k !=i):=by
   rw[List.filter_filter]
   refine List.filter_congr fun k hk=>?_
   by_cases hki:k=i
   ·subst hki
    unfold pT
    rw[Array.getD_eq_getD_getElem?,Array.getElem?_setIfInBounds_self_of_lt (by omega)];simp
   unfold pT
   rw[getD_set_ne true (Ne.symm hki)]
   simp[hki]
  rw[e1,hpq,List.filter_append,List.filter_cons]
  simp only[bne_self_eq_false,Bool.false_eq_true,if_false]
  congr 1
  ·exact List.filter_eq_self.2 fun k hk=>by simpa using(hpi k hk).2
  exact List.filter_eq_self.2 fun k hk=>by simpa using(hiq k hk).2.symm
 rw[hnew];exact f2
theorem aHn {l:List Nat} {a0 b0:Nat} (hl:okL P Γ md ops a0 b0 l=true) {listed:Array Bool} (hall: ∀i,i<ops.size→listed.getD i true=true):l.filter (pT listed)=[]:=by
 simp only[okL,Bool.and_eq_true,List.all_eq_true]at hl
 refine List.filter_eq_nil_iff.2 fun j hj=>?_
 have:=hall j (by simpa using hl.2 j hj)
 simp[pT,this]
theorem wQ (hΓ:eT P c.GL Γ) {Q:Exit→Act→World→Prop} (hdst:fK c.nt ops.toList=true) (he:tJ ops=true) {l:List Nat} {a0 b0:Nat} (hl:okL P Γ md ops a0 b0 l=true) {s':S}
  (hQ: ∀a' w',R c σ0 I0 w0 (fun _=>False) s' a' w'→Q .normal a' w'):
  ∀(fuel:Nat) (listed:Array Bool) (s sf:S) (a:Act) (w:World),listed.size=ops.size→listed.getD a0 true=true→(unl ops.size listed).length≤fuel→uY ops listed→
   dQ P Γ c.GL md ops (l.filter (pT listed)) s=some sf→fVo s' sf→R c σ0 I0 w0 (fun k=>k∈unl ops.size listed) s a w→wpAny P .any ops Q fuel listed a w:=by
 have fin: ∀(listed:Array Bool) (s sf:S) (a:Act) (w:World),listed.size=ops.size→Region.ready .any ops listed=[]→dQ P Γ c.GL md ops (l.filter (pT listed)) s=some sf→fVo s' sf→R c σ0 I0 w0 (fun k=>k∈unl ops.size listed) s a w→Q .normal a w:=by
  intro listed s sf a w hsz hr hrun heq hR
  rw[aHn hl (uQ he listed hsz hr)]at hrun
  obtain rfl:=J0 hrun
  exact hQ _ _ ((hR.un fun k hk=>hk.elim).eqv heq.symm)
 intro fuel
 induction fuel with
 |zero=>
  intro listed s sf a w hsz ha0 hlen hdc hrun heq hR
  have hun0:unl ops.size listed=[]:=List.eq_nil_of_length_eq_zero (by omega)
  have hr:Region.ready .any ops listed=[]:=by
   refine List.eq_nil_iff_forall_not_mem.2 fun i hi=>?_
   obtain⟨h1,o,ho,_⟩:=mem_ready.1 hi
   have:i∈unl ops.size listed:=by unfold unl;rw[List.mem_filter,List.mem_range];exact⟨(Array.getElem?_eq_some_iff.1 ho).1,by rw[h1];rfl⟩
   rw[hun0]at this;cases this
  exact⟨hr,fin listed s sf a w hsz hr hrun heq hR⟩
 |succ fuel ih=>
  intro listed s sf a w hsz ha0 hlen hdc hrun heq hR
  refine⟨fun hr=>fin listed s sf a w hsz hr hrun heq hR,fun i hi=>?_⟩
  obtain⟨x,s1,sf1,hx,f1,f2,f3⟩:=qI hl hsz hdc hi (.inl ha0) hrun
  obtain⟨hun,x',hx',hall⟩:=mem_ready.1 hi
  rw[hx]at hx';obtain rfl:=J0 hx'
  have hlt:=(Array.getElem?_eq_some_iff.1 hx).1
  have hmem:i∈unl ops.size listed:=by unfold unl;rw[List.mem_filter,List.mem_range];exact⟨hlt,by rw[hun];rfl⟩
  have hsub: ∀k,k∈unl ops.size (listed.setIfInBounds i true)→k∈unl ops.size listed∧k≠i:=by
   intro k hk
   simp only[unl,List.mem_filter,List.mem_range]at hk⊢
   by_cases hki:k=i
   ·subst hki
    rw[Array.getD_eq_getD_getElem?,Array.getElem?_setIfInBounds_self_of_lt (by omega)]at hk
    simp at hk
   rw[getD_set_ne true (Ne.symm hki)]at hk
   exact⟨hk,hki⟩
  have hlen2:(unl ops.size (listed.setIfInBounds i true)).length<(unl ops.size listed).length:=by
   have e0:unl ops.size (listed.setIfInBounds i true)=(unl ops.size listed).filter (fun k=>k !=i):=by
    unfold unl
    rw[List.filter_filter]
    refine List.filter_congr fun k hk=>?_
    by_cases hki:k=i
    ·subst hki
     rw[Array.getD_eq_getD_getElem?,Array.getElem?_setIfInBounds_self_of_lt (by omega)];simp
    rw[getD_set_ne true (Ne.symm hki)]
    simp[hki]
   rw[e0]
   refine Nat.lt_of_le_of_ne (List.length_filter_le _ _) fun e=>?_
   have:=List.length_filter_eq_length_iff.1 e i hmem
   simp at this
  have ha1:(listed.setIfInBounds i true).getD a0 true=true:=by
   by_cases hai:a0=i
   ·subst hai;rw[Array.getD_eq_getD_getElem?,Array.getElem?_setIfInBounds_self_of_lt (by omega)];rfl
   rw[getD_set_ne true (Ne.symm hai)];exact ha0
  have hstep:=fX (K:=wpAny P .any ops Q fuel (listed.setIfInBounds i true)) (Q:=Q) (ops:=ops) hΓ f1 (lU hdst (Array.mem_toList_iff.2 (Array.mem_of_getElem? hx))) (rem:=fun k=>k∈unl ops.size listed) hmem hR (fun a' w' hR'=>
   ih (listed.setIfInBounds i true) s1 sf1 a' w' (by simpa using hsz) ha1 (by omega) (hdc.set hx hall) f2 (heq.trans f3) (hR'.un fun k hk=>hsub k hk))
  unfold wpOp
  simp only[hx]
  split
  ·rename_i hw;rw[J4 hw]at hstep;exact .inl hstep
  rename_i hw;rw[J3 hw]at hstep;exact hstep
theorem aJy (hΓ:eT P c.GL Γ) {Q:Exit→Act→World→Prop} (hdst:fK c.nt ops.toList=true) (he:tJ ops=true) {l1 l2:List Nat} {a0 b0:Nat} (hne:a0≠b0) (hl1:okL P Γ md ops a0 b0 l1=true) (hl2:okL P Γ md ops b0 a0 l2=true) {s1' s2':S}
  (hQ1: ∀a' w',R c σ0 I0 w0 (fun _=>False) s1' a' w'→Q .normal a' w') (hQ2: ∀a' w',R c σ0 I0 w0 (fun _=>False) s2' a' w'→Q .normal a' w'):
  ∀(fuel:Nat) (listed:Array Bool) (s sf1 sf2:S) (a:Act) (w:World),listed.size=ops.size→(unl ops.size listed).length≤fuel→uY ops listed→
   dQ P Γ c.GL md ops (l1.filter (pT listed)) s=some sf1→fVo s1' sf1→dQ P Γ c.GL md ops (l2.filter (pT listed)) s=some sf2→fVo s2' sf2→R c σ0 I0 w0 (fun k=>k∈unl ops.size listed) s a w→wpAny P .any ops Q fuel listed a w:=by
 have fin: ∀(listed:Array Bool) (s sf:S) (a:Act) (w:World),listed.size=ops.size→Region.ready .any ops listed=[]→dQ P Γ c.GL md ops (l1.filter (pT listed)) s=some sf→fVo s1' sf→R c σ0 I0 w0 (fun k=>k∈unl ops.size listed) s a w→Q .normal a w:=by
  intro listed s sf a w hsz hr hrun heq hR
  rw[aHn hl1 (uQ he listed hsz hr)]at hrun
  obtain rfl:=J0 hrun
  exact hQ1 _ _ ((hR.un fun k hk=>hk.elim).eqv heq.symm)
 intro fuel
 induction fuel with
 |zero=>
  intro listed s sf1 sf2 a w hsz hlen hdc hrun heq _ _ hR
  have hun0:unl ops.size listed=[]:=List.eq_nil_of_length_eq_zero (by omega)
  have hr:Region.ready .any ops listed=[]:=by
   refine List.eq_nil_iff_forall_not_mem.2 fun i hi=>?_
   obtain⟨h1,o,ho,_⟩:=mem_ready.1 hi
   have:i∈unl ops.size listed:=by unfold unl;rw[List.mem_filter,List.mem_range];exact⟨(Array.getElem?_eq_some_iff.1 ho).1,by rw[h1];rfl⟩
   rw[hun0]at this;cases this
  exact⟨hr,fin listed s sf1 a w hsz hr hrun heq hR⟩
 |succ fuel ih=>
  intro listed s sf1 sf2 a w hsz hlen hdc hrun1 heq1 hrun2 heq2 hR
  refine⟨fun hr=>fin listed s sf1 a w hsz hr hrun1 heq1 hR,fun i hi=>?_⟩
  obtain⟨hun,x,hx,hall⟩:=mem_ready.1 hi
  have hlt:=(Array.getElem?_eq_some_iff.1 hx).1
  have hmem:i∈unl ops.size listed:=by unfold unl;rw[List.mem_filter,List.mem_range];exact⟨hlt,by rw[hun];rfl⟩
  have hsub: ∀k,k∈unl ops.size (listed.setIfInBounds i true)→k∈unl ops.size listed∧k≠i:=by
   intro k hk
   simp only[unl,List.mem_filter,List.mem_range]at hk⊢
   by_cases hki:k=i
   ·subst hki
    rw[Array.getD_eq_getD_getElem?,Array.getElem?_setIfInBounds_self_of_lt (by omega)]at hk
    simp at hk
   rw[getD_set_ne true (Ne.symm hki)]at hk
   exact⟨hk,hki⟩
  have hlen2:(unl ops.size (listed.setIfInBounds i true)).length<(unl ops.size listed).length:=by
   have e0:unl ops.size (listed.setIfInBounds i true)=(unl ops.size listed).filter (fun k=>k !=i):=by
    unfold unl
    rw[List.filter_filter]
    refine List.filter_congr fun k hk=>?_
    by_cases hki:k=i
    ·subst hki
     rw[Array.getD_eq_getD_getElem?,Array.getElem?_setIfInBounds_self_of_lt (by omega)];simp
    rw[getD_set_ne true (Ne.symm hki)]
    simp[hki]
   rw[e0]
   refine Nat.lt_of_le_of_ne (List.length_filter_le _ _) fun e=>?_
   have:=List.length_filter_eq_length_iff.1 e i hmem
   simp at this
  have hset:(listed.setIfInBounds i true).getD i true=true:=by rw[Array.getD_eq_getD_getElem?,Array.getElem?_setIfInBounds_self_of_lt (by omega)];rfl
  have go: ∀(s1:S),kA P Γ c.GL md ops i x s=some s1→(∀a' w',R c σ0 I0 w0 (fun k=>k∈unl ops.size (listed.setIfInBounds i true)) s1 a' w'→wpAny P .any ops Q fuel (listed.setIfInBounds i true) a' w')→wpOp P ops Q i (wpAny P .any ops Q fuel (listed.setIfInBounds i true)) a w:=by
   intro s1 f1 hk
   have hstep:=fX (K:=wpAny P .any ops Q fuel (listed.setIfInBounds i true)) (Q:=Q) (ops:=ops) hΓ f1 (lU hdst (Array.mem_toList_iff.2 (Array.mem_of_getElem? hx))) (rem:=fun k=>k∈unl ops.size listed) hmem hR (fun a' w' hR'=>hk a' w' (hR'.un fun k hk=>hsub k hk))
   unfold wpOp
   simp only[hx]
   split
   ·rename_i hw;rw[J4 hw]at hstep;exact .inl hstep
   rename_i hw;rw[J3 hw]at hstep;exact hstep
  by_cases hib:i=b0
  ·obtain⟨x',s1,sf',hx',f1,f2,f3⟩:=qI hl2 hsz hdc hi (.inr (fun e=>hne (e.symm.trans hib))) hrun2
   rw[hx]at hx';obtain rfl:=J0 hx'
   exact go s1 f1 fun a' w' hR'=>wQ hΓ hdst he hl2 hQ2 fuel _ s1 sf' a' w' (by simpa using hsz) (by rw[←hib];exact hset) (by omega) (hdc.set hx hall) f2 (heq2.trans f3) hR'
  by_cases hia:i=a0
  ·obtain⟨x',s1,sf',hx',f1,f2,f3⟩:=qI hl1 hsz hdc hi (.inr hib) hrun1
   rw[hx]at hx';obtain rfl:=J0 hx'
   exact go s1 f1 fun a' w' hR'=>wQ hΓ hdst he hl1 hQ1 fuel _ s1 sf' a' w' (by simpa using hsz) (by rw[←hia];exact hset) (by omega) (hdc.set hx hall) f2 (heq1.trans f3) hR'
  obtain⟨x1,s1,sfa,hx1,f1,f2,f3⟩:=qI hl1 hsz hdc hi (.inr hib) hrun1
  obtain⟨x2,s2,sfb,hx2,g1,g2,g3⟩:=qI hl2 hsz hdc hi (.inr hia) hrun2
  rw[hx]at hx1 hx2;obtain rfl:=J0 hx1;obtain rfl:=J0 hx2
  rw[f1]at g1;obtain rfl:=J0 g1
  exact go s1 f1 fun a' w' hR'=>ih (listed.setIfInBounds i true) s1 sfa sfb a' w' (by simpa using hsz) (by omega) (hdc.set hx hall) f2 (heq1.trans f3) g2 (heq2.trans g3) hR'
end
def ok2 (P:Program) (Γ:Env) (md:Nat→Nat) (a0 b0:Nat) (l1 l2:List Nat) (c:Code):Bool:=tJ (aM c)&&okL P Γ md (aM c) a0 b0 l1&&okL P Γ md (aM c) b0 a0 l2
def xL (P:Program) (Γ:Env) (GL:Nat→Option (List AV)) (md:Nat→Nat) (n:Nat) (ls:List LOp):List Nat→S→Option S
 |[],s=>some s
 |i::r,s=>aK (yR P Γ GL (md i) n i s ls[i]?) fun s'=>xL P Γ GL md n ls r s'
@[congr] theorem cIc {P : Program} {Γ : Env} {GL : Nat → Option (List AV)} {md : Nat → Nat} {n : Nat} {ls : List LOp} {l : List Nat} {s s' : S} (h : s = s') : xL P Γ GL md n ls l s = xL P Γ GL md n ls l s' := by rw [h]
theorem eJ (P Γ GL md n ls s):xL P Γ GL md n ls [] s=some s:=(rfl)
theorem lY (P Γ GL md n ls i r s):xL P Γ GL md n ls (i::r) s=aK (yR P Γ GL (md i) n i s ls[i]?) fun s'=>xL P Γ GL md n ls r s':=(rfl)
theorem aKy {P:Program} {GL:Nat→Option (List AV)} {nt:Nat} {Q:Exit→S→Prop} {s:S} {code:Code} {Γ:Env} (a0 b0:Nat) (l1 l2:List Nat) (md:Nat→Nat) (ks:List Nat) (hm:P.follows .mixedOrders=true) (hΓ:eT P GL Γ) (hne:a0≠b0) (hc:eEs code=true) (hd:lZ code=true) (ho:fK nt (aM code).toList=true) (hk:ok2 P Γ md a0 b0 l1 l2 code=true)
  (h1: ∀K:S→Prop,(∀t,Q .normal t→K t)→nH (xL P Γ GL md (rN code) (aF code) l1 (cX (rN code) s)) fun t=>K {t with fr:=gL ks t.fr})
  (h2: ∀K:S→Prop,(∀t,Q .normal t→K t)→nH (xL P Γ GL md (rN code) (aF code) l2 (cX (rN code) s)) fun t=>K {t with fr:=gL ks t.fr}):Awp P GL nt code s Q:=by
 replace h1:=h1 (Q .normal) fun _ h=>h
 replace h2:=h2 (Q .normal) fun _ h=>h
 refine sX ?_
 cases code<;>first|(cases hc;done)|skip
 rename_i id ops d
 simp only[lZ]at hd
 subst hd
 intro c g1 g2 σ0 I0 w0 a w hR
 subst g1;subst g2
 simp only[aM,ok2,Bool.and_eq_true]at ho hk
 have h0:unl ops.size (Array.replicate ops.size false)=List.range ops.size:=by
  unfold unl
  refine List.filter_eq_self.2 fun k hk=>?_
  rw[List.mem_range]at hk
  rw[Array.getD_eq_getD_getElem?,Array.getElem?_replicate,J4 hk];rfl
 have hf: ∀ {x y:Nat} {l:List Nat},okL P Γ md ops x y l=true→l.filter (pT (Array.replicate ops.size false))=l:=by
  intro x y l hl
  simp only[okL,Bool.and_eq_true,List.all_eq_true]at hl
  refine List.filter_eq_self.2 fun j hj=>aAs.2 ?_
  have:j<ops.size:=by simpa using hl.2 j hj
  rw[Array.getD_eq_getD_getElem?,Array.getElem?_replicate,J4 this];rfl
 have hrun: ∀(l:List Nat) (s:S),xL P Γ c.GL md (rN (.region id ops true)) (aF (.region id ops true)) l s=dQ P Γ c.GL md ops l s:=by
  intro l
  induction l with
  |nil=>intro s;rfl
  |cons i r ih=>
   intro s
   have hl:(aF (.region id ops true))[i]? =(ops[i]?).map (light ops):=by simp only[aF,aM,List.getElem?_map,Array.getElem?_toList]
   simp only[xL,dQ,hl]
   cases ops[i]? with
   |none=>rfl
   |some o=>
    simp only[Option.map_some,yR,vJ]
    congr 1
    funext s'
    exact ih s'
 obtain⟨t1,e1,e2⟩:=mR h1
 obtain⟨t2,f1,f2⟩:=mR h2
 rw[hrun]at e1 f1
 refine wp_region_any hm (aJy (σ0:=σ0) (I0:=I0) (w0:=w0) (md:=md) (s1':=t1) (s2':=t2) hΓ ho hk.1.1 hne hk.1.2 hk.2 (fun a' w' hR'=>⟨t1,⟨_,e2,dWs ks t1,rfl⟩,hR'⟩) (fun a' w' hR'=>⟨t2,⟨_,f2,dWs ks t2,rfl⟩,hR'⟩)
  ops.size _ (cX ops.size s) t1 t2 a _ (by simp) (by rw[h0];simp) (fun m o hl=>?_) (by rw[hf hk.1.2];exact e1) (fVo.refl _) (by rw[hf hk.2];exact f1) (fVo.refl _) ?_)
 ·rw[Array.getD_eq_getD_getElem?,Array.getElem?_replicate]at hl;split at hl<;>cases hl
 exact((hR.enter ops.size).un fun k hk=>by rw[h0]at hk;exact List.mem_range.1 hk).world rfl rfl rfl rfl
end Go.AX

namespace Go.AX
open Go Go.Proofs
section
variable {P : Program} {Γ : Env} {ρ : Operand → AV} {m nx n id cx : Nat} {hp : H}
def lkF (P:Program) (hp:H) (x k:AV) (ok:Bool):Option TypeDesc→Option AV
 |some (.map kt et)=>aK (P.underlying kt) fun d=>aN (oP d k=true) (aK (zvA P et) fun z=>aK (aEi hp x) fun es=>aK (aNp k es) fun r=>some (aCm z ok r))
 |_=>none
theorem bNx {t:TypeId} {x k:Operand} {ok:Bool}:eff P Γ (.lookup t x k ok) ρ m nx n hp id cx=aK (lkF P (mY m nx n hp) (ρ x) (ρ k) ok (P.underlying t)) fun y=>some (y,hp,cx):=by
 simp only[eff,cls,eKi,aWs]
 cases P.underlying t with
 |none=>rfl
 |some d=>cases d<;>rfl
theorem cXv {x k:AV} {ok:Bool} (kt et:TypeId):lkF P hp x k ok (some (.map kt et))=aK (P.underlying kt) fun d=>aN (oP d k=true) (aK (zvA P et) fun z=>aK (aEi hp x) fun es=>aK (aNp k es) fun r=>some (aCm z ok r)):=(rfl)
def muM (hp:H) (m k x:AV):Option (AV×H):=
 match m with
 | .mp id=>aK (pP hp x) fun fx=>aK (fx.2 id) (bAp k fx.1 id fx.2)
 |_=>none
def muF (P:Program) (hp:H) (m k x:AV):Option TypeDesc→Option (AV×H)
 |some (.map kt _)=>aK (P.underlying kt) fun d=>aN (oP d k=true) (muM hp m k x)
 |_=>none
theorem dAn {t:TypeId} {a k x:Operand}:eff P Γ (.mapUpdate t a k x) ρ m nx n hp id cx=aK (muF P hp (ρ a) (ρ k) (ρ x) (P.underlying t)) fun p=>some (p.1,p.2,cx):=by
 simp only[eff,cls,fR,aGs]
 cases P.underlying t with
 |none=>rfl
 |some d=>cases d<;>first|rfl|(simp only[muF,muM];cases ρ a<;>rfl)
theorem cXj {a k x:AV} (kt et:TypeId):muF P hp a k x (some (.map kt et))=aK (P.underlying kt) fun d=>aN (oP d k=true) (muM hp a k x):=(rfl)
theorem cLq {k x:AV} (i:Nat):muM hp (.mp i) k x=aK (pP hp x) fun fx=>aK (fx.2 i) (bAp k fx.1 i fx.2):=(rfl)
theorem cMj {k x:AV} (i:Nat) (es:List (AV×AV)) (mt:Bool):bAp k x i hp (.mapo es mt)=aN (mt=true) (aK (aEh k x es) fun es'=>some (.junk,upd hp i (.mapo es' true))):=(rfl)
theorem cAo {t:TypeId}:eff P Γ (.makeMap t none) ρ m nx n hp id cx=some (.mp id,upd hp id (.mapo [] true),cx):=(rfl)
theorem fm_i (x):pP hp (.i x)=some (.i x,hp):=(rfl)
theorem kd_s (x):oP .string (.s x)=true:=(rfl)
theorem cXr (z v):aCm z true (some v)=.tup [v,.b true]:=(rfl)
theorem cXt (z):aCm z true none=.tup [z,.b false]:=(rfl)
theorem bCj (i):dC (.mp i)=some [.mp i]:=(rfl)
end
attribute [go_sem] bNx cXv dAn cXj cLq cMj cAo fm_i kd_s cXr cXt bCj
section
variable {α : Type} [DecidableEq α] (kc : α → AV) (hk : ∀ a b, kEq (kc a) (kc b) = some (decide (a = b)))
def aIx (a:α):List α→Option Nat
 |[]=>none
 |b::r=>if a=b then some 0 else(aIx a r).map (· +1)
include hk in
theorem wB {β:Type} (vc:β→AV) (a:α): ∀l:List (α×β),aNn (kc a) (l.map fun p=>(kc p.1,vc p.2))=some (aIx a (l.map (·.1)))
 |[]=>rfl
 |p::r=>by
  simp only[List.map_cons,aNn,aIx,hk,aX]
  by_cases h:a=p.1
  ·simp[h]
  simp only[h,decide_false,if_false,wB vc a r,aX]
def iK {β:Type} (a:α):List (α×β)→Option β
 |[]=>none
 |p::r=>if a=p.1 then some p.2 else iK a r
def kT {β:Type} (a:α) (v:β):List (α×β)→List (α×β)
 |[]=>[(a,v)]
 |p::r=>if a=p.1 then(a,v)::r else p::kT a v r
include hk in
theorem aNo {β:Type} (vc:β→AV) (a:α) (l:List (α×β)):aNp (kc a) (l.map fun p=>(kc p.1,vc p.2))=some ((iK a l).map vc):=by
 unfold aNp
 rw[wB kc hk,aX]
 congr 1
 induction l with
 |nil=>rfl
 |cons p r ih=>
  simp only[List.map_cons,aIx,iK]
  by_cases h:a=p.1
  ·simp[h]
  simp only[h,if_false]
  rw[←ih]
  cases aIx a (r.map (·.1))<;>simp
include hk in
theorem aNm {β:Type} (vc:β→AV) (a:α) (v:β) (l:List (α×β)):aEh (kc a) (vc v) (l.map fun p=>(kc p.1,vc p.2))=some ((kT a v l).map fun p=>(kc p.1,vc p.2)):=by
 unfold aEh
 rw[wB kc hk,aX]
 congr 1
 induction l with
 |nil=>rfl
 |cons p r ih=>
  simp only[List.map_cons,aIx,kT]
  by_cases h:a=p.1
  ·simp[h]
  simp only[h,if_false,List.map_cons]
  rw[←ih]
  cases aIx a (r.map (·.1))<;>simp
end
theorem fNh (a b:List (BitVec 8)):kEq (.s a) (.s b)=some (decide (a=b)):=(rfl)
end Go.AX

namespace Go.AX
open Go Go.Proofs
section
variable {P : Program} {Γ : Env} {GL : Nat → Option (List AV)} {md : Nat → Nat} {ops : Array Oper}
end
end Go.AX

namespace Go.AX
open Go Go.Proofs
section
variable {P : Program} {Γ : Env} {c : Ctx} {σ0 : Nat → Loc} {I0 : Nat → Prop} {w0 : World} {GL : Nat → Option (List AV)} {md : Nat → Nat} {ops : Array Oper}
end
end Go.AX

namespace Go.AX
open Go Go.Proofs
def eQs:AO→AO
 | .cells xs _=> .cells xs false
 | .mapo es _=> .mapo es false
def eOy:AV→Bool
 | .w8 _| .w16 _| .w32 _| .w64 _| .i _| .b _| .s _| .v _| .os _ _ _ _ _| .op _ _| .mp _=>true
 |_=>false
theorem Rel.keepV {σ:Nat→Loc} {I I':Nat→Prop} {w w':World} {x:AV} {y:Value} (h:Rel σ I w x y) (hk:eOy x=true):Rel σ I' w' x y:=by
 cases h with
 |w8=>exact .w8 _
 |w16=>exact .w16 _
 |w32=>exact .w32 _
 |w64=>exact .w64 _
 |i=>exact .i _
 |b=>exact .b _
 |s=>exact .s _
 |v=>exact .v _
 |os id off n e g blk base sz cap h1 h2 h3=>exact .os id off n e g blk base sz cap h1 h2 h3
 |osnil id e g h1=>exact .osnil id e g h1
 |oszero id off e g a h1=>exact .oszero id off e g a h1
 |op id off blk base sz h1=>exact .op id off blk base sz h1
 |mp id blk h1=>exact .mp id blk h1
 |_=>cases hk
theorem Rel.unpin {σ:Nat→Loc} {I:Nat→Prop} {w:World} {v:Value} {x:AV} {y:Value} (h:Rel σ I w (.pin v x) y):y=v∧Rel σ I w x y:=by
 cases h with|pin _ _ h=>exact⟨rfl,h⟩
theorem eD.set {σ:Nat→Loc} {I:Nat→Prop} {w:World} {id:Nat} {o:AO} (h:eD σ I w id o):σ id≠.unset:=by
 intro e
 cases o with
 |cells xs mt=>simp only[eD,e]at h
 |mapo es mt=>
  obtain⟨blk,h1,_⟩:=h
  rw[e]at h1;cases h1
theorem eD.lend {σ:Nat→Loc} {I I':Nat→Prop} {w:World} {id:Nat} {o:AO} (h:eD σ I w id o) (hI: ∀k,I k→I' k) (hb: ∀k base sz,σ id=.at_ k base sz→I' k):eD σ I' w id (eQs o):=by
 cases o with
 |cells xs mt=>
  simp only[eD,eQs]at h⊢
  cases e:σ id with
  |unset=>simp[e]at h
  |nil=>simpa [e]using h
  |at_ blk base sz=>
   simp only[e]at h
   exact⟨h.1.mono (fun _ _=>rfl) hI (fun _ _=>rfl) rfl,fun hm=>by simp at hm,fun _=>hb _ _ _ e⟩
 |mapo es mt=>
  obtain⟨blk,a1,a2,_,_⟩:=h
  exact⟨blk,a1,a2.mono (fun _ _=>rfl) hI (fun _ _=>rfl) rfl,fun hm=>by simp at hm,fun _=>hb _ _ _ a1⟩
theorem eRv (o:AO):(eQs o).mt=false:=by cases o<;>rfl
theorem fCz (xs:List AV) (mt:Bool):eQs (.cells xs mt)=.cells xs false:=rfl
structure fBb (s t u:S):Prop where
 hp:u.hp=s.hp
 nx:u.nx=t.nx
 cx:u.cx=t.cx
 fr: ∀k,dG u.fr k=.junk∨(eOy (dG u.fr k)=true∧dG u.fr k=dG t.fr k)∨∃v,dG s.fr k=.pin v (dG u.fr k)∧dG t.fr k=dG s.fr k
def eNk (σ:Nat→Loc) (I:Nat→Prop) (s:S):Nat→Prop:=fun k=>I k∨∃id o base sz,s.hp id=some o∧σ id=.at_ k base sz
def eRr (c:Ctx) (σ:Nat→Loc) (I:Nat→Prop) (w:World) (s:S):Ctx:= {w0:=w,σ0:=σ,I0:=eNk σ I s,O:=fun _=>False,GL:=c.GL,nt:=c.nt,u0:=c.u0,df:=c.df}
structure RL (c:Ctx) (σ0:Nat→Loc) (I0:Nat→Prop) (w0:World) (s t:S) (a:Act) (w:World):Prop where
 ex: ∃(σ:Nat→Loc) (I:Nat→Prop) (w1:World) (a0:Act),Inv c σ I w1 s.hp (fun id=>s.cx≤id∨(∃k,False∧id=s.nx+k)∨c.u0 id)∧Grow σ0 I0 w0 σ I w1∧(∀k,Rel σ I w1 (dG s.fr k) (a0.tmps.getD k undef))∧
  R (eRr c σ I w1 s) σ (eNk σ I s) w1 (fun _=>False) t a w
theorem RL.back {c:Ctx} {σ0:Nat→Loc} {I0:Nat→Prop} {w0:World} {s t u:S} {a:Act} {w:World} (h:RL c σ0 I0 w0 s t a w) (hu:fBb s t u):R c σ0 I0 w0 (fun _=>False) u a w:=by
 obtain⟨σ,I,w1,a0,inv,gr,rel,⟨⟨σ',I',inv',gr',rel'⟩,hdf',hsz',hlt',hlt0'⟩⟩:=h
 have hIB: ∀id o k base sz,s.hp id=some o→σ id=.at_ k base sz→eNk σ I s k:=fun id o k base sz h1 h2=> .inr ⟨id,o,base,sz,h1,h2⟩
 have hst: ∀id o,s.hp id=some o→σ id≠.unset:=fun id o ho=>(inv.own id o ho).set
 have hσ: ∀id,σ id≠.unset→σ' id=σ id:=fun id hid=>inv'.ext id hid
 have hw: ∀k,I k→w.heap[k]? =w1.heap[k]?:=fun k hk=>inv'.iw k (.inl hk)
 have hat: ∀id o,s.hp id=some o→σ' id=σ id:=fun id o ho=>hσ id (hst id o ho)
 refine⟨⟨σ',I,?_,gr.trans ⟨hσ,fun _ h=>h,hw⟩,fun k=>?_⟩,hdf',hsz',fun k hk=>hk.elim,fun id hid=>by rw[hu.nx,hu.cx];exact hlt0' id hid⟩
 ·rw[hu.hp]
  refine⟨fun id hid=>?_,inv.imm,fun k hk=>?_,inv'.os.trans inv.os,inv'.tape.trans inv.tape,inv'.output.trans inv.output,Nat.le_trans inv.size inv'.size,fun k hk ho=>?_,fun k hk=>Nat.lt_of_lt_of_le (inv.ilt k hk) inv'.size,fun id o ho=>?_,fun id id' o o' blk base sz base' sz' ho hm ho' hne e1 e2=>?_,fun id o blk base sz ho hm e1=>?_,fun id hid=>?_,fun g xs hg=>(inv.glob g xs hg).mono hσ (fun _ h=>h) hw,inv.inew⟩
  ·have:=inv.ext id hid
   rw[hσ id (by rw[this];exact hid),this]
  ·rw[hw k (inv.imm k hk)];exact inv.iw k hk
  ·rw[inv'.old k (Nat.lt_of_lt_of_le hk inv.size) (fun h=>h)];exact inv.old k hk ho
  ·exact(inv.own id o ho).mono hσ (fun _ h=>h) hw fun blk base sz e1=>⟨inv'.iw blk (hIB id o blk base sz ho e1),fun _ h=>h⟩
  ·rw[hat id o ho]at e1
   rw[hat id' o' ho']at e2
   exact inv.inj id id' o o' blk base sz base' sz' ho hm ho' hne e1 e2
  ·rw[hat id o ho]at e1
   exact inv.lim id o blk base sz ho hm e1
  refine inv'.un id ?_
  rw[←hu.cx]
  rcases hid with hid|⟨k,hk,_⟩|hid
  ·exact .inl hid
  ·exact hk.elim
  exact .inr (.inr hid)
 rcases hu.fr k with h1|⟨h1,h2⟩|⟨v,h1,h2⟩
 ·rw[h1];exact .junk _
 ·have:=rel' k
  rw[←h2]at this
  exact this.keepV h1
 have r0:=rel k
 have r1:=rel' k
 rw[h2,h1]at r1
 rw[h1]at r0
 rw[r1.unpin.1,←r0.unpin.1]
 exact r0.unpin.2.mono hσ (fun _ h=>h) hw
section
variable {P : Program} {GL : Nat → Option (List AV)} {nt : Nat} {Q : Exit → S → Prop} {s t : S} {code : Code}
theorem eXk {Γ:Env} (md:Nat→Nat) (ks:List Nat) (hΓ:eT P GL Γ) (hc:eEs code=true) (hd:lZ code=false) (ho:fK nt (aM code).toList=true)
  (h: ∀K:S→Prop,(∀t,Q .normal t→K t)→nH (aRf P Γ GL md (rN code) (aF code) (cX (rN code) s)) fun t=>K {t with fr:=gL ks t.fr}):Awp P GL nt code s Q:=by
 have h0:=h (Q .normal) fun _ h=>h
 unfold aRf aF rN at h0
 rw[←aBn]at h0
 obtain⟨t,h1,h2⟩:=mR h0
 cases code<;>first|(cases hc;done)|skip
 rename_i id ops d
 simp only[lZ]at hd
 subst hd
 exact sX (aTt hΓ ho h1 ⟨_,h2,dWs ks t,rfl⟩)
end
end Go.AX

namespace Go.AX
open Go Go.Proofs
set_option maxRecDepth 8000
theorem gHy (hp hp2:H) (cx id:Nat) (x:AV) (sd:Bool):cvF hp hp2 cx id x Tryz.prog.underlying sd (some (.slice 5)) (some .string)=aK (sR hp2 1 x) fun nl=>aK (fHq nl.2) fun l=>some (.s l,hp,cx):=aXn _ _ _ _ _ _ _ _ Tryz.underlying5
attribute [go_sem] gHy
theorem fCl (ps:List (List B8)):AV.ids.idsL (cS ps)=0:=by
 induction ps with
 |nil=>rfl
 |cons x l ih=>show max (AV.ids (.s x)) (AV.ids.idsL (cS l))=0;rw[ih];rfl
theorem eKy (n:Nat) (ps:List (List B8)):AV.ids (.sl n (cS ps))=0:=fCl ps
theorem fOv {k j:Nat} (hk:k≤63) (hj:j<256):ior ((k*256:Nat):Int) (j:Int)=((k*256+j:Nat):Int):=by
 have e1:(BitVec.ofInt 64 ((k*256:Nat):Int)).toNat=k*256:=by rw[BitVec.toNat_ofInt];omega
 have e2:(BitVec.ofInt 64 (j:Int)).toNat=j:=by rw[BitVec.toNat_ofInt];omega
 have e3:k*256|||j=k*256+j:=by
  have:=Nat.shiftLeft_add_eq_or_of_lt (i:=8) (b:=j) hj k
  rw[Nat.shiftLeft_eq]at this
  exact this.symm
 unfold ior
 rw[BitVec.toNat_or,e1,e2,e3]
 exact eKg (by omega) (by omega)
def nmA (b:List B8):Option (Nm×Nat)→Option (AV×List AV)
 |none=>none
 |some (n,e)=>some (.sl n.length (cS n),[.sl b.length (c8 b),.i (e:Int)])
def nmG:List AV→List AV→Option (Option (AV×List AV))
 |[.op _ 0],[.sl n xs,.i a]=>aK (fHq xs) fun b=>aN (b.length=n∧0≤a∧a≤n∧n≤100000) (some (nmA b (fJj b a.toNat)))
 |_,_=>none
theorem fNo (id n:Nat) (a:Int) (xs:List AV):nmG [.op id 0] [.sl n xs,.i a]=aK (fHq xs) fun b=>aN (b.length=n∧0≤a∧a≤n∧n≤100000) (some (nmA b (fJj b a.toNat))):=(rfl)
attribute [go_sem] fNo
def enV:Option Nat→Int
 |none=> -1
 |some e=>e
structure NMI where
 s:NS
 f:Nat
 q:Nat
 c:Nat
set_option maxHeartbeats 8000000 in
theorem eOe:fHs Tryz.prog GLh 51 (rdH nmG)∧dE Tryz.prog GLh 51 chM (rdP nmG):=by
 refine dT Tryz.func51 (aT rfl) ?_
 intro id off rest nx xs o hg
 unfold nmG at hg
 split at hg
 ·rename_i id2 n xs2 a0 heq
  simp only[List.cons.injEq,AV.op.injEq]at heq
  obtain⟨⟨rfl,rfl⟩,rfl⟩:=heq
  replace hg:=aJ hg;obtain⟨b,hl,hg⟩:=hg
  replace hg:=aP hg;obtain⟨⟨rfl,ha,han,hnb⟩,hg⟩:=hg
  obtain rfl:=J0 hg
  have:=bW hl;subst this
  obtain⟨a,rfl⟩:=Int.eq_ofNat_of_zero_le ha
  simp only[U2]at*
  refine⟨J1 rfl,fun hid=>?_⟩
  clear hl hg
  obtain⟨R,hR⟩: ∃R,fJj b a=R:=⟨_,rfl⟩
  rw[hR]
  refine ySq (yRn [0] fun K hK=>?_)
  simp(disch:=omega) only[go_sem]
  refine hK _ (aB ?_)
  refine ySq (yRn [0,3] fun K hK=>?_)
  simp(disch:=omega) only[go_sem]
  refine hK _ (aB ?_)
  refine ySq (bB (Γ:=aL) (fun _=>2) [0,3,4,5,6,7] bZ (aD _ _) rfl rfl rfl (by kernel_rfl) (fun K hK=>?_))
  simp(disch:=omega) only[go_sem]
  refine hK _ (aB ?_)
  refine iE 3 1 rfl (fPg [0,3,4,5,6,7] ?_)
  simp only[iB,fU,eW,↓reduceIte,Nat.reduceEqDiff]
  refine yBl 0 ?_
  refine bR (fun p:NMI=> {fr:=[(0,.op id 0),(3,.os p.q 0 p.s.acc.length 1 true),(4,.i (p.s.bg:Int)),(5,.i (p.s.pl:Int)),(6,.i (enV p.s.en)),(7,.i (p.s.tot:Int))],hp:=upd (upd (fun _=>none) id (.cells [.sl b.length (c8 b),.i (a:Int)] true)) p.q (.cells (cS p.s.acc) true),nx:=0,cx:=p.c}) (fun p=>NI b p.s∧fIv b p.f p.s=R∧nMu b p.s<p.f∧id<p.q∧p.q<p.c) (fun p=>nMu b p.s) rfl ⟨⟨ns0 a,nMu b (ns0 a)+1,_,_⟩,⟨NI.start b a,hR,Nat.lt_succ_self _,by simp only;omega,by simp only;omega⟩,bD rfl rfl (U3 _)⟩ ?_
  rintro⟨⟨bg,pl,en,tot,acc⟩,f,q,c⟩ ⟨hI,hrun,hmu,hq,hqc⟩ n0
  simp only at hI hrun hmu hq hqc⊢
  obtain⟨g,rfl⟩: ∃g,f=g+1:=⟨f-1,by omega⟩
  have hile:b.length≤100000:=hnb
  have htl:tot≤255:=hI.le
  have hcl:List.length acc≤255:=hI.cnt
  by_cases hil:pl<b.length
  ·have d0:decide ((pl:Int)<(b.length:Int))=true:=J5 (by omega)
   obtain⟨k,hk⟩: ∃k,b.getD pl 0#8=k:=⟨_,rfl⟩
   have hkl:=k.isLt
   refine yBl 1 (ySq (yRg [0,3,4,5,6,7] (aH rP aO) fun K hK=>?_))
   simp(disch:=omega) only[go_sem,d0]
   refine hK _ (aB ?_)
   refine ySq (yRn [0,3,4,5,6,7,8] fun K hK=>?_)
   simp(disch:=omega) only[go_sem,hk]
   refine hK _ (aB ?_)
   refine ySq (yRn [0,3,4,5,6,7,8] fun K hK=>?_)
   simp(disch:=omega) only[go_sem]
   refine hK _ (aB ?_)
   by_cases hk0:k.toNat=0
   ·have d1:decide ((k.toNat:Int)=0)=true:=J5 (by omega)
    have hs:fHj b ⟨bg,pl,en,tot,acc⟩=.done acc (en.getD (pl+1)):=by
     unfold fHj;simp only;rw[J3 (by omega),hk,J4 hk0]
    refine yBl 2 (ySq (yRn [72,0,3,4,5,6,7,8] fun K hK=>?_))
    simp(disch:=omega) only[go_sem,d1]
    refine hK _ (aB ?_)
    refine iTd ?_
    rw[fJi hs]at hrun
    obtain⟨_,_,hle⟩:=hI.done hs
    rcases en with _|e
    ·rw[show enV none= -1 from rfl]
     refine ySq (ySq (yRn [76,0,3,5,6] fun K hK=>?_))
     simp(disch:=omega) only[go_sem]
     refine hK _ (aB ?_)
     refine iTd ?_
     have ea:(pl:Int)+1=((pl+1:Nat):Int):=rfl
     refine yRn [0,3,6] fun K hK=>?_
     simp(disch:=omega) only[go_sem]
     refine hK _ (aB ?_)
     refine ySq (yRn [3] fun K hK=>?_)
     simp(disch:=omega) only[go_sem,ea]
     refine hK _ (aB ?_)
     refine ySq (yRn [2] fun K hK=>?_)
     simp(disch:=omega) only[go_sem]
     refine hK _ (aB ?_)
     rw[←hrun,Option.getD_none]
     refine aS rfl (bN (bN (dF (bN (⟨by simp(disch:=omega) only[bV,bK,bQ,go_sem,aV,kE,bY,eq_self,bPf],by simp(disch:=omega) only[aV,↓reduceIte,eq_self],?_,?_⟩)))))
     ·exact eKy _ _
     exact fVp _ _ _
    rw[show enV (some e)=(e:Int)from rfl]
    have d9:decide ((e:Int)<0)=false:=J6 (by omega)
    refine ySq (ySq (yRn [76,0,3,5,6] fun K hK=>?_))
    simp(disch:=omega) only[go_sem,d9]
    refine hK _ (aB ?_)
    refine iFd (ySk (aB (ySq (yRn [3] fun K hK=>?_))))
    simp(disch:=omega) only[go_sem]
    refine hK _ (aB ?_)
    refine ySq (yRn [2] fun K hK=>?_)
    simp(disch:=omega) only[go_sem]
    refine hK _ (aB ?_)
    rw[←hrun,Option.getD_some]
    refine aS rfl (bN (bN (dF (bN (⟨by simp(disch:=omega) only[bV,bK,bQ,go_sem,aV,kE,bY,eq_self,bPf],by simp(disch:=omega) only[aV,↓reduceIte,eq_self],?_,?_⟩)))))
    ·exact eKy _ _
    exact fVp _ _ _
   have d1:decide ((k.toNat:Int)=0)=false:=J6 (by omega)
   refine yBl 2 (ySq (yRn [72,0,3,4,5,6,7,8] fun K hK=>?_))
   simp(disch:=omega) only[go_sem,d1]
   refine hK _ (aB ?_)
   refine iFd (ySq ?_)
   by_cases hk1:192≤k.toNat
   ·have d2:decide ((192:Int)≤(k.toNat:Int))=true:=J5 (by omega)
    refine yRn [83,0,3,4,5,6,7,8] fun K hK=>?_
    simp(disch:=omega) only[go_sem,d2]
    refine hK _ (aB ?_)
    refine iTd ?_
    by_cases hp1:pl+1<b.length
    ·have d3:decide ((pl:Int)+1<(b.length:Int))=true:=J5 (by omega)
     obtain⟨k2,hk2⟩: ∃k,b.getD (pl+1) 0#8=k:=⟨_,rfl⟩
     have hk2l:=k2.isLt
     obtain⟨to,hto⟩: ∃t,(k.toNat-192)*256+k2.toNat=t:=⟨_,rfl⟩
     have hW:W (((k.toNat:Int)-192)*2^min 8 64)=(((k.toNat-192)*256:Nat):Int):=by
      rw[show((2:Int)^min 8 64)=256 from rfl]
      exact(eKg (by omega) (by omega)).trans (by omega)
     have hio:ior (((k.toNat-192)*256:Nat):Int) (k2.toNat:Int)=(to:Int):=by rw[fOv (by omega) hk2l,hto]
     have e1:((pl:Int)+1).toNat=pl+1:=by omega
     refine ySq (yRg [0,3,4,5,6,7,8] (aH rP aO) fun K hK=>?_)
     simp(disch:=omega) only[go_sem,d3]
     refine hK _ (aB ?_)
     rcases en with _|e
     ·rw[show enV none= -1 from rfl]
      refine ySq (ySq (yRn [95,0,3,4,5,6,7,8] fun K hK=>?_))
      simp(disch:=omega) only[go_sem]
      refine hK _ (aB ?_)
      refine iTd (yRn [0,3,4,5,6,7,8] fun K hK=>?_)
      simp(disch:=omega) only[go_sem]
      refine hK _ (aB ?_)
      by_cases hbg:to<bg
      ·have d5:decide ((to:Int)<(bg:Int))=true:=J5 (by omega)
       have hs:fHj b ⟨bg,pl,none,tot,acc⟩=.go ⟨to,to,some (pl+2),tot,acc⟩:=by
        unfold fHj;simp only;rw[J3 (by omega),hk,J3 hk0,J4 hk1,J3 (by omega),hk2,hto,J3 (by omega)];rfl
       rw[fIo hs]at hrun
       have hmu2:=fIu hs
       refine ySq (yRn [0,3,4,5,6,7] fun K hK=>?_)
       simp(disch:=omega) only[go_sem,e1,hk2,hW,hio]
       refine hK _ (aB ?_)
       refine ySq (yRg [0,3,5,6,7] (aH rP aO) fun K hK=>?_)
       simp(disch:=omega) only[go_sem,d5]
       refine hK _ (aB ?_)
       refine yRn [0,3,4,5,6,7] fun K hK=>?_
       simp(disch:=omega) only[go_sem]
       refine hK _ (bU (bU (bT ?_)))
       refine⟨⟨⟨to,to,some (pl+2),tot,acc⟩,g,q,_⟩,⟨hI.step hs,hrun,by simp only;omega,hq,by simp only;omega⟩,hmu2,bD ?_ rfl (U3 _)⟩
       simp only[enV]
       have ee:(pl:Int)+1+1=((pl+2:Nat):Int):=by omega
       rw[ee]
      have d5:decide ((to:Int)<(bg:Int))=false:=J6 (by omega)
      have hs:fHj b ⟨bg,pl,none,tot,acc⟩=.no:=by
       unfold fHj;simp only;rw[J3 (by omega),hk,J3 hk0,J4 hk1,J3 (by omega),hk2,hto,J4 (by omega)]
      rw[fHz hs]at hrun
      refine ySq (yRn [0,3,4,5,6,7] fun K hK=>?_)
      simp(disch:=omega) only[go_sem,e1,hk2,hW,hio]
      refine hK _ (aB ?_)
      refine ySq (dCn 3 (fPd) rD (aH rP aO) rfl rfl rfl (fun Z hZ=>?_))
      simp(disch:=omega) only[U0,U1,go_sem,bG,eq_self,true_and,bP,List.map_cons,List.map_nil,List.append_nil,d5]
      refine hZ _ ?_;clear hZ Z
      rw[←hrun]
      exact rfl
     rw[show enV (some e)=(e:Int)from rfl]
     have d9:decide ((e:Int)<0)=false:=J6 (by omega)
     refine ySq (ySq (yRn [95,0,3,4,5,6,7,8] fun K hK=>?_))
     simp(disch:=omega) only[go_sem,d9]
     refine hK _ (aB ?_)
     refine iFd (ySk (aB (ySq ?_)))
     by_cases hbg:to<bg
     ·have d5:decide ((to:Int)<(bg:Int))=true:=J5 (by omega)
      have hs:fHj b ⟨bg,pl,(some e),tot,acc⟩=.go ⟨to,to,some e,tot,acc⟩:=by
       unfold fHj;simp only;rw[J3 (by omega),hk,J3 hk0,J4 hk1,J3 (by omega),hk2,hto,J3 (by omega)];rfl
      rw[fIo hs]at hrun
      have hmu2:=fIu hs
      refine yRn [0,3,4,5,6,7] fun K hK=>?_
      simp(disch:=omega) only[go_sem,e1,hk2,hW,hio]
      refine hK _ (aB ?_)
      refine ySq (yRg [0,3,5,6,7] (aH rP aO) fun K hK=>?_)
      simp(disch:=omega) only[go_sem,d5]
      refine hK _ (aB ?_)
      refine yRn [0,3,4,5,6,7] fun K hK=>?_
      simp(disch:=omega) only[go_sem]
      refine hK _ (bU (bU (bT ?_)))
      refine⟨⟨⟨to,to,some e,tot,acc⟩,g,q,_⟩,⟨hI.step hs,hrun,by simp only;omega,hq,by simp only;omega⟩,hmu2,bD ?_ rfl (U3 _)⟩
      simp only[enV]
     have d5:decide ((to:Int)<(bg:Int))=false:=J6 (by omega)
     have hs:fHj b ⟨bg,pl,(some e),tot,acc⟩=.no:=by
      unfold fHj;simp only;rw[J3 (by omega),hk,J3 hk0,J4 hk1,J3 (by omega),hk2,hto,J4 (by omega)]
     rw[fHz hs]at hrun
     refine yRn [0,3,4,5,6,7] fun K hK=>?_
     simp(disch:=omega) only[go_sem,e1,hk2,hW,hio]
     refine hK _ (aB ?_)
     refine ySq (dCn 3 (fPd) rD (aH rP aO) rfl rfl rfl (fun Z hZ=>?_))
     simp(disch:=omega) only[U0,U1,go_sem,bG,eq_self,true_and,bP,List.map_cons,List.map_nil,List.append_nil,d5]
     refine hZ _ ?_;clear hZ Z
     rw[←hrun]
     exact rfl
    have d3:decide ((pl:Int)+1<(b.length:Int))=false:=J6 (by omega)
    have hs:fHj b ⟨bg,pl,en,tot,acc⟩=.no:=by
     unfold fHj;simp only;rw[J3 (by omega),hk,J3 hk0,J4 hk1,J4 (by omega)]
    rw[fHz hs]at hrun
    refine ySq (dCn 7 (fPd) rD (aH rP aO) rfl rfl rfl (fun Z hZ=>?_))
    simp(disch:=omega) only[U0,U1,go_sem,bG,eq_self,true_and,bP,List.map_cons,List.map_nil,List.append_nil,d3]
    refine hZ _ ?_;clear hZ Z
    rw[←hrun]
    exact rfl
   have d2:decide ((192:Int)≤(k.toNat:Int))=false:=J6 (by omega)
   refine yRn [83,0,3,4,5,6,7,8] fun K hK=>?_
   simp(disch:=omega) only[go_sem,d2]
   refine hK _ (aB ?_)
   refine iFd (ySq ?_)
   by_cases hlab:k.toNat≤63∧k.toNat≤b.length-(pl+1)
   ·have d3:decide ((k.toNat:Int)≤63)=true:=J5 (by omega)
    have d4:decide ((k.toNat:Int)≤(b.length:Int)-((pl:Int)+1))=true:=J5 (by omega)
    refine yRg [0,3,4,5,6,7,8] (aH rP aO) fun K hK=>?_
    simp(disch:=omega) only[go_sem,d3,d4]
    refine hK _ (aB ?_)
    refine ySq (yRn [0,3,4,5,6,7,8] fun K hK=>?_)
    simp(disch:=omega) only[go_sem]
    refine hK _ (aB ?_)
    by_cases ht:255<tot+(1+k.toNat)
    ·have d5:decide ((tot:Int)+(1+(k.toNat:Int))≤255)=false:=J6 (by omega)
     have hs:fHj b ⟨bg,pl,en,tot,acc⟩=.no:=by
      unfold fHj;simp only;rw[J3 (by omega),hk,J3 hk0,J3 hk1,J3 (by omega),J4 ht]
     rw[fHz hs]at hrun
     refine ySq (dCn 2 (fPd) rD (aH rP aO) rfl rfl rfl (fun Z hZ=>?_))
     simp(disch:=omega) only[U0,U1,go_sem,bG,eq_self,true_and,bP,List.map_cons,List.map_nil,List.append_nil,d5]
     refine hZ _ ?_;clear hZ Z
     rw[←hrun]
     exact rfl
    have d5:decide ((tot:Int)+(1+(k.toNat:Int))≤255)=true:=J5 (by omega)
    obtain⟨d,hd⟩: ∃d,(b.drop (pl+1)).take k.toNat=d:=⟨_,rfl⟩
    have hdl:d.length=k.toNat:=by rw[←hd,List.length_take,List.length_drop];omega
    have hs:fHj b ⟨bg,pl,en,tot,acc⟩=.go ⟨bg,pl+1+k.toNat,en,tot+(1+k.toNat),acc++[d]⟩:=by
     unfold fHj;simp only;rw[J3 (by omega),hk,J3 hk0,J3 hk1,J3 (by omega),J3 ht,hd]
    rw[fIo hs]at hrun
    have hmu2:=fIu hs
    have e1:((pl:Int)+1).toNat=pl+1:=by omega
    have e2:((pl:Int)+1+(k.toNat:Int)).toNat=pl+1+k.toNat:=by omega
    have e3:pl+1+k.toNat-(pl+1)=k.toNat:=by omega
    have hsn:cS acc++[AV.s d]=cS (acc++[d]):=cQq acc [d]
    refine ySq (yRg [0,3,4,5,6,7,8] (aH rP aO) fun K hK=>?_)
    simp(disch:=omega) only[go_sem,d5]
    refine hK _ (aB ?_)
    refine yRn [0,3,4,5,6,7] fun K hK=>?_
    simp(disch:=omega) only[go_sem,e1,e2,e3,hd,hdl]
    refine hK _ (bU (bU (bT ?_)))
    refine⟨⟨⟨bg,pl+1+k.toNat,en,tot+(1+k.toNat),acc++[d]⟩,g,c+8+9+3+3+3+14+5+3+12,_⟩,⟨hI.step hs,hrun,by simp only;omega,by simp only;omega,by simp only;omega⟩,hmu2,⟨fun _=> .inr ?_,fun j o h=>?_,U3 _⟩⟩
    ·simp only[List.length_append,List.length_singleton,Int.natCast_add,Int.natCast_one]
    simp only at h
    exact bS (by simp(disch:=omega) only[aV,↓reduceIte,eq_self,hsn]) (bS (by simp(disch:=omega) only[aV,kE,bY,↓reduceIte,eq_self,hsn]) (fKa)) j o h
   have hs:fHj b ⟨bg,pl,en,tot,acc⟩=.no:=by
    unfold fHj;simp only;rw[J3 (by omega),hk,J3 hk0,J3 hk1,J4 (by omega)]
   rw[fHz hs]at hrun
   by_cases h63:k.toNat≤63
   ·have d3:decide ((k.toNat:Int)≤63)=true:=J5 (by omega)
    have d4:decide ((k.toNat:Int)≤(b.length:Int)-((pl:Int)+1))=false:=J6 (by omega)
    refine dCn 13 (fPd) rD (aH rP aO) rfl rfl rfl (fun Z hZ=>?_)
    simp(disch:=omega) only[U0,U1,go_sem,bG,eq_self,true_and,bP,List.map_cons,List.map_nil,List.append_nil,d3,d4]
    refine hZ _ ?_;clear hZ Z
    rw[←hrun]
    exact rfl
   have d3:decide ((k.toNat:Int)≤63)=false:=J6 (by omega)
   refine dCn 13 (fPd) rD (aH rP aO) rfl rfl rfl (fun Z hZ=>?_)
   simp(disch:=omega) only[U0,U1,go_sem,bG,eq_self,true_and,bP,List.map_cons,List.map_nil,List.append_nil,d3]
   refine hZ _ ?_;clear hZ Z
   rw[←hrun]
   exact rfl
  have d0:decide ((pl:Int)<(b.length:Int))=false:=J6 (by omega)
  have hs:fHj b ⟨bg,pl,en,tot,acc⟩=.no:=by
   unfold fHj;simp only;rw[J4 (by omega)]
  rw[fHz hs]at hrun
  refine yBl 1 (ySq (dCn 7 (fPd) rD (aH rP aO) rfl rfl rfl (fun Z hZ=>?_)))
  simp(disch:=omega) only[U0,U1,go_sem,bG,eq_self,true_and,bP,List.map_cons,List.map_nil,List.append_nil,d0]
  refine hZ _ ?_;clear hZ Z
  rw[←hrun]
  exact rfl
 cases hg
theorem rM:dE Tryz.prog GLh 51 chM (rdP nmG):=eOe.2
theorem fOb:fHm Tryz.prog 51:=⟨_,Tryz.func51,rfl,rfl⟩
theorem fKm:bX Tryz.prog GLh 51 (.heap (rdH nmG)):=⟨⟨_,Tryz.func51,rfl,rfl⟩,eOe.1⟩
end Go.AX

namespace Go.AX
open Go Go.Proofs
set_option maxRecDepth 8000
def qA (q:QN):AV:=.agg [.sl q.n.length (cS q.n),.w16 q.t,.w16 q.c]
def qsA (b:List B8):Option (QN×Nat)→Option (AV×List AV)
 |none=>none
 |some (q,e)=>some (qA q,[.sl b.length (c8 b),.i (e:Int)])
def qsG:List AV→List AV→Option (Option (AV×List AV))
 |[.op _ 0],[.sl n xs,.i a]=>aK (fHq xs) fun b=>aN (b.length=n∧0≤a∧a≤n∧n≤100000) (some (qsA b (qnR b a.toNat)))
 |_,_=>none
theorem fNm (id n:Nat) (a:Int) (xs:List AV):qsG [.op id 0] [.sl n xs,.i a]=aK (fHq xs) fun b=>aN (b.length=n∧0≤a∧a≤n∧n≤100000) (some (qsA b (qnR b a.toNat))):=(rfl)
attribute [go_sem] fNm
theorem fNv (q:QN):AV.ids (qA q)=0:=by
 show max (AV.ids (.sl q.n.length (cS q.n))) (max 0 (max 0 0))=0
 rw[eKy];rfl
theorem st3 (a b c x y z:AV):dV [a,b,c] 0 [x,y,z]=[x,y,z]:=(rfl)
theorem fGf (P:Program) (t:TypeId) (ys:List AV):ldV P t ys=ldF P t ys (fHi P t):=by simp only[ldV,ldF];cases fHi P t with|none=>rfl|some b=>cases b<;>rfl
attribute [go_sem] st3 fGf
set_option maxHeartbeats 8000000 in
theorem fJc:fHs Tryz.prog GLh 33 (rdH qsG)∧dE Tryz.prog GLh 33 chM (rdP qsG):=by
 refine dT Tryz.func33 (aT rfl) ?_
 intro id off rest nx xs o hg
 unfold qsG at hg
 split at hg
 ·rename_i id2 n xs2 a0 heq
  simp only[List.cons.injEq,AV.op.injEq]at heq
  obtain⟨⟨rfl,rfl⟩,rfl⟩:=heq
  replace hg:=aJ hg;obtain⟨b,hl,hg⟩:=hg
  replace hg:=aP hg;obtain⟨⟨rfl,ha,han,hnb⟩,hg⟩:=hg
  obtain rfl:=J0 hg
  have:=bW hl;subst this
  obtain⟨a,rfl⟩:=Int.eq_ofNat_of_zero_le ha
  simp only[U2]at*
  refine⟨J1 rfl,fun hid=>?_⟩
  clear hl hg
  refine ySq (yRn [0,2] fun K hK=>?_)
  simp(disch:=omega) only[go_sem]
  refine hK _ (aB ?_)
  rcases hn:fJj b a with _|⟨n,e⟩
  ·have hq:qnR b a=none:=by unfold qnR;rw[hn]
   rw[hq]
   have hA:nmA b none=none:=rfl
   refine ySq (dCn 1 (rM) fOb (aH fKm (aH fL aO)) rfl rfl rfl (fun Z hZ=>?_))
   simp(disch:=omega) only[U0,U1,go_sem,bG,eq_self,true_and,bP,List.map_cons,List.map_nil,List.append_nil,hn,hA,U2]
   refine hZ _ ?_;clear hZ Z
   exact rfl
  have hA:nmA b (some (n,e))=some (.sl n.length (cS n),[.sl b.length (c8 b),.i (e:Int)]):=rfl
  obtain⟨he,hlb,hsum⟩:=fLw hn
  by_cases h2:2≤b.length-e
  ·have n2:=eKs h2
   by_cases h4:2≤b.length-(e+2)
   ·have n4:=eKs h4
    have hq:qnR b a=some (⟨n,n16 b e,n16 b (e+2)⟩,e+2+2):=by
     unfold qnR;rw[hn];simp only;rw[J4 (by omega)]
    rw[hq]
    refine ySq (yRg [2] (aH fKm (aH fL aO)) fun K hK=>?_)
    simp(disch:=omega) only[go_sem,hn,hA,n2,n4,U2]
    refine hK _ (aB ?_)
    refine aS rfl (⟨by simp(disch:=omega) only[bV,bK,bQ,go_sem,aV,eq_self,qA,n16,U0,U1,J9],by simp(disch:=omega) only[aV,bY,↓reduceIte,eq_self],?_,?_⟩)
    ·exact fNv _
    exact fVp _ _ _
   have n4:=fPs h4
   have hq:qnR b a=none:=by
    unfold qnR;rw[hn];simp only;rw[J3 (by omega)]
   rw[hq]
   refine ySq (dCn 6 (dK) fSe (aH fKm (aH fL aO)) rfl rfl rfl (fun Z hZ=>?_))
   simp(disch:=omega) only[U0,U1,go_sem,bG,eq_self,true_and,bP,List.map_cons,List.map_nil,List.append_nil,hn,hA,n2,n4,U2]
   refine hZ _ ?_;clear hZ Z
   exact rfl
  have n2:=fPs h2
  have hq:qnR b a=none:=by
   unfold qnR;rw[hn];simp only;rw[J3 (by omega)]
  rw[hq]
  refine ySq (dCn 3 (dK) fSe (aH fKm (aH fL aO)) rfl rfl rfl (fun Z hZ=>?_))
  simp(disch:=omega) only[U0,U1,go_sem,bG,eq_self,true_and,bP,List.map_cons,List.map_nil,List.append_nil,hn,hA,n2,U2]
  refine hZ _ ?_;clear hZ Z
  exact rfl
 cases hg
theorem fPr:dE Tryz.prog GLh 33 chM (rdP qsG):=fJc.2
theorem fRa:fHm Tryz.prog 33:=⟨_,Tryz.func33,rfl,rfl⟩
theorem fOp:bX Tryz.prog GLh 33 (.heap (rdH qsG)):=⟨⟨_,Tryz.func33,rfl,rfl⟩,fJc.1⟩
end Go.AX

namespace Go.AX
open Go Go.Proofs
set_option maxRecDepth 8000
def fLb:List AV→List AV→Option (Option (AV×List AV))
 |[.op _ 0,.i k],[.sl n xs,.i a]=>aK (fHq xs) fun b=>aN (b.length=n∧0≤a∧a≤n∧n≤100000∧k=0) (some (some (.sl 0 [],[.sl b.length (c8 b),.i a])))
 |_,_=>none
theorem fMq (id n:Nat) (k a:Int) (xs:List AV):fLb [.op id 0,.i k] [.sl n xs,.i a]=aK (fHq xs) fun b=>aN (b.length=n∧0≤a∧a≤n∧n≤100000∧k=0) (some (some (.sl 0 [],[.sl b.length (c8 b),.i a]))):=(rfl)
attribute [go_sem] fMq
structure C1 where
 c:Nat
set_option maxHeartbeats 4000000 in
theorem fJb:fHs Tryz.prog GLh 34 (rdH fLb)∧dE Tryz.prog GLh 34 chM (rdP fLb):=by
 refine dT Tryz.func34 (aT rfl) ?_
 intro id off rest nx xs o hg
 unfold fLb at hg
 split at hg
 ·rename_i id2 k n xs2 a0 heq
  simp only[List.cons.injEq,AV.op.injEq]at heq
  obtain⟨⟨rfl,rfl⟩,rfl⟩:=heq
  replace hg:=aJ hg;obtain⟨b,hl,hg⟩:=hg
  replace hg:=aP hg;obtain⟨⟨rfl,ha,han,hnb,rfl⟩,hg⟩:=hg
  obtain rfl:=J0 hg
  have:=bW hl;subst this
  obtain⟨a,rfl⟩:=Int.eq_ofNat_of_zero_le ha
  simp only[]at*
  refine⟨J1 rfl,fun hid=>?_⟩
  clear hl hg
  refine ySq (yRn [0,1] fun K hK=>?_)
  simp(disch:=omega) only[go_sem]
  refine hK _ (aB ?_)
  refine ySq (yRn [0,1,5] fun K hK=>?_)
  simp(disch:=omega) only[go_sem]
  refine hK _ (aB ?_)
  refine ySq (ySq (yRn [0,5,7,8] fun K hK=>?_))
  simp(disch:=omega) only[go_sem]
  refine hK _ (aB ?_)
  refine yBl 0 (bR (fun p:C1=> {fr:=[(0,.op id 0),(5,.v (.slice none 0 0)),(7,.i 0),(8,.i 0)],hp:=upd (fun _=>none) id (.cells [.sl b.length (c8 b),.i (a:Int)] true),nx:=0,cx:=p.c}) (fun p=>True) (fun p=>0) rfl ⟨⟨_⟩,trivial,bD rfl rfl (U3 _)⟩ ?_)
  rintro⟨c⟩ _ n0
  simp only at⊢
  refine ySq (yRn [9,0,5,7,8] fun K hK=>?_)
  simp(disch:=omega) only[go_sem]
  refine hK _ (aB ?_)
  refine ySq (iFd (yEx 0 (aY (aZ (bE (aB (ySq (yRn [4] fun K hK=>?_))))))))
  simp(disch:=omega) only[go_sem]
  refine hK _ (aB ?_)
  refine aS rfl (⟨by simp(disch:=omega) only[bV,bK,bQ,go_sem,eq_self],by simp(disch:=omega) only[aV,↓reduceIte,eq_self],?_,?_⟩)
  ·rfl
  exact fVp _ _ _
 cases hg
theorem fOo:bX Tryz.prog GLh 34 (.heap (rdH fLb)):=⟨⟨_,Tryz.func34,rfl,rfl⟩,fJb.1⟩
def fLg:List AV→Option AV
 |[.agg [.sl _ _,.w16 t,.w16 _,.w32 _,.sl _ _]]=>some (.b (decide (t=41#16)))
 |_=>none
theorem st5 (a b c d e a' b' c' d' e':AV):dV [a,b,c,d,e] 0 [a',b',c',d',e']=[a',b',c',d',e']:=(rfl)
attribute [go_sem] st5
set_option maxHeartbeats 4000000 in
theorem fNr:fHn Tryz.prog GLh 37 fLg:=by
 refine zK Tryz.func37 (aT rfl) ?_
 intro args r hg
 unfold fLg at hg
 split at hg
 ·rename_i n xs t c l m ys
  obtain rfl:=J0 hg
  refine⟨J1 rfl,fun nx=>?_⟩
  clear hg
  refine ySq (yRn [1] fun K hK=>?_)
  simp(disch:=omega) only[go_sem]
  refine hK _ (aB ?_)
  refine ySq (yRn [2] fun K hK=>?_)
  simp(disch:=omega) only[go_sem,J8,J7,J9]
  refine hK _ (aB ?_)
  refine aS rfl ?_
  simp(disch:=omega) only[fHo,bV,bK,bQ,go_sem]
 cases hg
theorem fLt:bX Tryz.prog GLh 37 (.pure true fLg):=⟨⟨_,Tryz.func37,rfl,rfl⟩,fNr⟩
def fLf:List AV→Option AV
 |[.sl 0 [],.fn _ _]=>some (.i (-1))
 |_=>none
theorem fMu (f:FuncId) (l:List AV):fLf [.sl 0 [],.fn f l]=some (.i (-1)):=(rfl)
def fLh:List AV→Option AV
 |[.sl 0 [],.fn _ []]=>some (.b false)
 |_=>none
theorem fMx (f:FuncId):fLh [.sl 0 [],.fn f []]=some (.b false):=(rfl)
attribute [go_sem] fMu fMx
set_option maxHeartbeats 4000000 in
theorem fNq:fHn Tryz.prog GLh 38 fLf:=by
 refine zK Tryz.func38 (aT rfl) ?_
 intro args r hg
 unfold fLf at hg
 split at hg
 ·rename_i f l
  obtain rfl:=J0 hg
  refine⟨J1 rfl,fun nx=>?_⟩
  clear hg
  refine ySq (yRn [0,1] fun K hK=>?_)
  simp(disch:=omega) only[go_sem]
  refine hK _ (aB ?_)
  refine ySq (ySq (yRn [0,1,7,8] fun K hK=>?_))
  simp(disch:=omega) only[go_sem]
  refine hK _ (aB ?_)
  refine yBl 0 (bR (fun p:C1=> {fr:=[(0,.sl 0 []),(1,.fn f l),(7,.i 0),(8,.i 0)],hp:=fun _=>none,nx:=0,cx:=p.c}) (fun p=>True) (fun p=>0) rfl ⟨⟨_⟩,trivial,bD rfl rfl (U3 _)⟩ ?_)
  rintro⟨c⟩ _ n0
  simp only at⊢
  refine ySq (yRn [9,0,1,7,8] fun K hK=>?_)
  simp(disch:=omega) only[go_sem]
  refine hK _ (aB ?_)
  refine ySq (iFd (yEx 0 (aY (aZ (bE (aB (ySq (yRn [4] fun K hK=>?_))))))))
  simp(disch:=omega) only[go_sem]
  refine hK _ (aB ?_)
  refine aS rfl ?_
  simp(disch:=omega) only[fHo,bV,bK,bQ,go_sem]
 cases hg
theorem fNd:bX Tryz.prog GLh 38 (.pure true fLf):=⟨⟨_,Tryz.func38,rfl,rfl⟩,fNq⟩
set_option maxHeartbeats 4000000 in
theorem fNy:fHn Tryz.prog GLh 36 fLh:=by
 refine zK Tryz.func36 (aT rfl) ?_
 intro args r hg
 unfold fLh at hg
 split at hg
 ·rename_i f
  obtain rfl:=J0 hg
  refine⟨J1 rfl,fun nx=>?_⟩
  clear hg
  refine ySq (yRn [0,1] fun K hK=>?_)
  simp(disch:=omega) only[go_sem]
  refine hK _ (aB ?_)
  refine ySq (yRg [4] (aH fNd aO) fun K hK=>?_)
  simp(disch:=omega) only[go_sem]
  refine hK _ (aB ?_)
  refine aS rfl ?_
  simp(disch:=omega) only[fHo,bV,bK,bQ,go_sem]
 cases hg
theorem fNe:bX Tryz.prog GLh 36 (.pure true fLh):=⟨⟨_,Tryz.func36,rfl,rfl⟩,fNy⟩
end Go.AX

namespace Go.AX
open Go
def aRj (ops:Array Oper) (rem:List Nat) (i:Nat):Bool:=match ops[i]? with
 |some x=>x.after.all fun e=> !Region.binds .any e|| !rem.contains e.on
 |none=>false
section
variable {P : Program} {Γ : Env} {c : Ctx} {σ0 : Nat → Loc} {I0 : Nat → Prop} {w0 : World} {md : Nat → Nat} {ops : Array Oper}
end
end Go.AX

namespace Go.AX
open Go
def okE (ops:Array Oper) (k:Nat) (L1 L2:List (List Nat)):Nat→List Nat→List Nat→Bool
 |0,_,_=>false
 |n+1,rem,p=>(if aRj ops rem k then L2.contains p else L1.contains p)&&rem.all fun i=> !aRj ops rem i||i==k||okE ops k L1 L2 n (rem.filter fun j=>j !=i) (p++[i])
section
variable {P : Program} {Γ : Env} {c : Ctx} {σ0 : Nat → Loc} {I0 : Nat → Prop} {w0 : World} {md : Nat → Nat} {ops : Array Oper}
theorem fPm (GL:Nat→Option (List AV)): ∀(p:List Nat) (i:Nat) (x:Oper) (s0 s t:S),ops[i]? =some x→dQ P Γ GL md ops p s0=some s→dQ P Γ GL md ops (p++[i]) s0=some t→kA P Γ GL md ops i x s=some t
 |[],i,x,s0,s,t,hx,h1,h2=>by
  obtain rfl:=J0 h1
  simp only[List.nil_append,dQ,hx]at h2
  obtain⟨s',e1,e2⟩:=aJ h2
  obtain rfl:=J0 e2
  exact e1
 |j::p,i,x,s0,s,t,hx,h1,h2=>by
  simp only[List.cons_append,dQ]at h1 h2
  split at h1
  ·rename_i y hy
   obtain⟨s1,e1,e2⟩:=aJ h1
   rw[hy]at h2
   obtain⟨s2,f1,f2⟩:=aJ h2
   rw[e1]at f1
   obtain rfl:=J0 f1
   exact fPm GL p i x _ s t hx e2 f2
  cases h1
theorem fPt (hΓ:eT P c.GL Γ) {Q:Exit→Act→World→Prop} (hdst:fK c.nt ops.toList=true) (he:tJ ops=true) {k:Nat} {o:Oper} (hk:ops[k]? =some o) {L1 L2:List (List Nat)} {s0:S}
  (h1: ∀p∈L1,∃t,dQ P Γ c.GL md ops p s0=some t)
  (h2: ∀p∈L2,∃t,dQ P Γ c.GL md ops p s0=some t∧∀rem a w,R c σ0 I0 w0 rem t a w→Region.wanted o (yielded ops a.tmps)=true∧∀K,o.wp P a w K Q):
  ∀(fuel:Nat) (listed:Array Bool) (p:List Nat) (s:S) (a:Act) (w:World),listed.size=ops.size→(unl ops.size listed).length≤fuel→k∈unl ops.size listed→
   okE ops k L1 L2 (fuel+1) (unl ops.size listed) p=true→dQ P Γ c.GL md ops p s0=some s→R c σ0 I0 w0 (fun k=>k∈unl ops.size listed) s a w→wpAny P .any ops Q fuel listed a w:=by
 have unl_nil: ∀(listed:Array Bool),listed.size=ops.size→Region.ready .any ops listed=[]→unl ops.size listed=[]:=by
  intro listed hsz hr
  have hall:=uQ he listed hsz hr
  unfold unl
  refine List.filter_eq_nil_iff.2 fun i hi=>?_
  rw[hall i (List.mem_range.1 hi)];simp
 have run: ∀n rem p,okE ops k L1 L2 n rem p=true→∃t,dQ P Γ c.GL md ops p s0=some t:=by
  intro n rem p h
  cases n with
  |zero=>cases h
  |succ n=>
   simp only[okE,Bool.and_eq_true]at h
   have h:=h.1
   split at h
   ·obtain⟨t,e,_⟩:=h2 p (List.contains_iff_mem.1 h);exact⟨t,e⟩
   exact h1 p (List.contains_iff_mem.1 h)
 intro fuel
 induction fuel with
 |zero=>
  intro listed p s a w hsz hlen hku hok hrun hR
  have hun0:unl ops.size listed=[]:=List.eq_nil_of_length_eq_zero (by omega)
  rw[hun0]at hku;cases hku
 |succ fuel ih=>
  intro listed p s a w hsz hlen hku hok hrun hR
  have hok0:=hok
  rw[okE]at hok
  simp only[Bool.and_eq_true,List.all_eq_true]at hok
  obtain⟨hok1,hstepT⟩:=hok
  refine⟨fun hr=>?_,fun i hi=>?_⟩
  ·have hz:=unl_nil listed hsz hr
   rw[hz]at hku;cases hku
  obtain⟨hun,x,hx,hall⟩:=mem_ready.1 hi
  have hlt:=(Array.getElem?_eq_some_iff.1 hx).1
  have hmem:i∈unl ops.size listed:=by unfold unl;rw[List.mem_filter,List.mem_range];exact⟨hlt,by rw[hun];rfl⟩
  have hrd:aRj ops (unl ops.size listed) i=true:=by
   unfold aRj
   simp only[hx]
   refine Array.all_eq_true_iff_forall_mem.2 fun e hem=>?_
   cases hb:Region.binds .any e with
   |false=>rfl
   |true=>
    have h1:=hall e hem hb
    simp only[Bool.not_true,Bool.false_or,Bool.not_eq_true']
    rw[←Bool.not_eq_true]
    intro hc
    have hc2:=List.contains_iff_mem.1 hc
    unfold unl at hc2
    rw[List.mem_filter,List.mem_range]at hc2
    obtain⟨hc3,hc4⟩:=hc2
    have hs2:e.on<listed.size:=by omega
    rw[Array.getD_eq_getD_getElem?,Array.getElem?_eq_getElem hs2]at h1 hc4
    simp only[Option.getD_some]at h1 hc4
    rw[h1]at hc4;cases hc4
  by_cases hik:i=k
  ·subst hik
   rw[hk]at hx
   obtain rfl:=J0 hx
   rw[J4 hrd]at hok1
   obtain⟨t,e1,e2⟩:=h2 p (List.contains_iff_mem.1 hok1)
   rw[hrun]at e1
   obtain rfl:=J0 e1
   obtain⟨q1,q2⟩:=e2 _ a w hR
   unfold wpOp
   simp only[hk]
   rw[J4 q1];exact .inl (q2 _)
  have hT:=hstepT i hmem
  have hb:(i==k)=false:=by simp[hik]
  rw[hrd,hb]at hT
  simp only[Bool.not_true,Bool.false_or]at hT
  have hsub: ∀k,k∈unl ops.size (listed.setIfInBounds i true)→k∈unl ops.size listed∧k≠i:=by
   intro k hk
   simp only[unl,List.mem_filter,List.mem_range]at hk⊢
   by_cases hki:k=i
   ·subst hki
    rw[Array.getD_eq_getD_getElem?,Array.getElem?_setIfInBounds_self_of_lt (by omega)]at hk
    simp at hk
   rw[getD_set_ne true (Ne.symm hki)]at hk
   exact⟨hk,hki⟩
  have e0:unl ops.size (listed.setIfInBounds i true)=(unl ops.size listed).filter (fun k=>k !=i):=by
   unfold unl
   rw[List.filter_filter]
   refine List.filter_congr fun k hk=>?_
   by_cases hki:k=i
   ·subst hki
    rw[Array.getD_eq_getD_getElem?,Array.getElem?_setIfInBounds_self_of_lt (by omega)];simp
   rw[getD_set_ne true (Ne.symm hki)]
   simp[hki]
  have hlen2:(unl ops.size (listed.setIfInBounds i true)).length<(unl ops.size listed).length:=by
   rw[e0]
   refine Nat.lt_of_le_of_ne (List.length_filter_le _ _) fun e=>?_
   have:=List.length_filter_eq_length_iff.1 e i hmem
   simp at this
  have hku2:k∈unl ops.size (listed.setIfInBounds i true):=by
   rw[e0,List.mem_filter]
   exact⟨hku,by simpa using fun e=>hik e.symm⟩
  obtain⟨s1,hr1⟩:=run _ _ _ hT
  have hs1:=fPm (P:=P) (Γ:=Γ) (md:=md) c.GL p i x s0 s s1 hx hrun hr1
  have hstep:=fX (K:=wpAny P .any ops Q fuel (listed.setIfInBounds i true)) (Q:=Q) (ops:=ops) hΓ hs1 (lU hdst (Array.mem_toList_iff.2 (Array.mem_of_getElem? hx))) (rem:=fun k=>k∈unl ops.size listed) hmem hR (fun a' w' hR'=>
   ih (listed.setIfInBounds i true) (p++[i]) s1 a' w' (by simpa using hsz) (by omega) hku2 (by rw[e0];exact hT) hr1 (hR'.un fun k hk=>hsub k hk))
  unfold wpOp
  simp only[hx]
  split
  ·rename_i hw;rw[J4 hw]at hstep;exact .inl hstep
  rename_i hw;rw[J3 hw]at hstep;exact hstep
end
def fRk (k:Nat) (L1 L2:List (List Nat)) (c:Code):Bool:=tJ (aM c)&&decide (k<(aM c).size)&&okE (aM c) k L1 L2 ((aM c).size+1) (List.range (aM c).size) []
theorem fQk {P:Program} {GL:Nat→Option (List AV)} {nt:Nat} {Q:Exit→S→Prop} {s:S} {code:Code} {Γ:Env} (k:Nat) (L1 L2:List (List Nat)) (md:Nat→Nat) {f:FuncId} {ch:List PanicEntry} {g:List AV→H→Nat→Option (H×Nat)} (hm:P.follows .mixedOrders=true) (hpan:dE P GL f ch g) (hcall:fHm P f) (hΓ:eT P GL Γ) (hc:eEs code=true) (hd:lZ code=true) (ho:fK nt (aM code).toList=true) (hk:fRk k L1 L2 code=true)
  (h1:aUe (fun l=>nH (xL P Γ GL md (rN code) (aF code) l (cX (rN code) s)) fun _=>True) L1)
  (h2: ∀Z:S→Prop,(∀t,Q (.panic ch) t→Z t)→aUe (fun l=>nH (xL P Γ GL md (rN code) (aF code) l (cX (rN code) s)) (bVn GL f g Z (aF code)[k]?)) L2):Awp P GL nt code s Q:=by
 have h1':=aDs h1
 have h2':=aDs (h2 (Q (.panic ch)) fun _ h=>h)
 clear h1 h2
 cases code<;>first|(cases hc;done)|skip
 rename_i id ops d
 simp only[lZ]at hd
 subst hd
 intro c e1 e2 σ0 I0 w0 a w hR
 subst e1;subst e2
 simp only[aM,fRk,Bool.and_eq_true]at ho hk
 obtain⟨⟨hk1,hk2⟩,hk3⟩:=hk
 replace hk2:=of_decide_eq_true hk2
 have h0:unl ops.size (Array.replicate ops.size false)=List.range ops.size:=by
  unfold unl
  refine List.filter_eq_self.2 fun k hk=>?_
  rw[List.mem_range]at hk
  rw[Array.getD_eq_getD_getElem?,Array.getElem?_replicate,J4 hk];rfl
 have hrun: ∀(l:List Nat) (s:S),xL P Γ c.GL md (rN (.region id ops true)) (aF (.region id ops true)) l s=dQ P Γ c.GL md ops l s:=by
  intro l
  induction l with
  |nil=>intro s;rfl
  |cons i r ih=>
   intro s
   have hl:(aF (.region id ops true))[i]? =(ops[i]?).map (light ops):=by simp only[aF,aM,List.getElem?_map,Array.getElem?_toList]
   simp only[xL,dQ,hl]
   cases ops[i]? with
   |none=>rfl
   |some o=>
    simp only[Option.map_some,yR,vJ]
    congr 1
    funext s'
    exact ih s'
 obtain⟨o,hka⟩: ∃o,ops[k]? =some o:=⟨ops[k]'hk2,Array.getElem?_eq_getElem hk2⟩
 have hlk:(aF (.region id ops true))[k]? =some (light ops o):=by simp only[aF,aM,List.getElem?_map,Array.getElem?_toList,hka,Option.map_some]
 refine wp_region_any hm (fPt (σ0:=σ0) (I0:=I0) (w0:=w0) (md:=md) (s0:=cX ops.size s) hΓ ho hk1 hka (fun p hp=>?_) (fun p hp=>?_) ops.size _ [] (cX ops.size s) a _ (by simp) (by rw[h0];simp) (by rw[h0];exact List.mem_range.2 hk2) (by rw[h0];exact hk3) rfl ?_)
 ·obtain⟨t,e1,_⟩:=mR (h1' p hp)
  rw[hrun]at e1
  exact⟨t,e1⟩
 ·obtain⟨t,e1,e2⟩:=mR (h2' p hp)
  rw[hrun]at e1
  rw[hlk]at e2
  refine⟨t,e1,fun rem a' w' hR'=>?_⟩
  have key:=fun K=>bIn (K:=K) (ops:=ops) (Q':=fun e a' w'=> ∃s',Q e s'∧R c σ0 I0 w0 (fun _=>False) s' a' w') hpan hcall e2 hR' (fun t' a' w' hZ hR'=>⟨t',hZ,hR'⟩)
  exact⟨(key fun _ _=>True).1,fun K=>(key K).2⟩
 exact((hR.enter ops.size).un fun k hk=>by rw[h0]at hk;exact List.mem_range.1 hk).world rfl rfl rfl rfl
end Go.AX

namespace Go.AX
open Go Go.Proofs
set_option maxRecDepth 8000
theorem st15 (a b c d e f g h i j k l m n o a' b' c' d' e' f' g' h' i' j' k' l' m' n' o':AV):dV [a,b,c,d,e,f,g,h,i,j,k,l,m,n,o] 0 [a',b',c',d',e',f',g',h',i',j',k',l',m',n',o']=[a',b',c',d',e',f',g',h',i',j',k',l',m',n',o']:=(rfl)
attribute [go_sem] st15
theorem sp3 (a b c x y z:AV):eG [a,b,c] 0 [x,y,z]=[x,y,z]:=(rfl)
theorem fMs (n:Nat) (xs r:List AV):fVs (.sl n xs::r)=fVs r:=(rfl)
attribute [go_sem] sp3 fMs
def qsC:List QN→List AV
 |[]=>[]
 |q::r=>[.sl q.n.length (cS q.n),.w16 q.t,.w16 q.c]++qsC r
theorem fIi: ∀l:List QN,(qsC l).length=3*l.length
 |[]=>rfl
 |q::r=>by simp only[qsC,List.length_append,List.length_cons,List.length_nil,fIi r];omega
theorem fKl: ∀l m:List QN,qsC (l++m)=qsC l++qsC m
 |[],_=>rfl
 |q::r,m=>by rw[List.cons_append,qsC,qsC,fKl r m,List.append_assoc]
theorem fLq: ∀l:List QN,dB (qsC l)=true
 |[]=>rfl
 |_::r=>fLq r
def c16 (b:List B8) (a:Nat):Nat:=(fRs ((b.drop a).take 2)).toNat
def b1 (b:List B8) (a:Nat):W32:=fRs ((b.drop a).take 1)
def msC (b:List B8) (q:AV):List AV:=[.w16 (n16 b 0),.b (!decide (b1 b 2&&&128#32=0#32)),.i ((b1 b 2>>>3&&&15#32).toNat:Int),.b (!decide (b1 b 2&&&4#32=0#32)),.b (!decide (b1 b 2&&&2#32=0#32)),.b (!decide (b1 b 2&&&1#32=0#32)),.b (!decide (b1 b 3&&&128#32=0#32)),.i ((b1 b 3&&&15#32).toNat:Int),q]
def msT:List AV:=[.sl 0 [],.sl 0 [],.sl 0 [],.b false,.w16 0#16,.b false]
def msA (b:List B8) (l:List QN):AV:=.agg (msC b (.sl l.length (qsC l))++msT)
theorem fKq: ∀l:List QN,AV.ids.idsL (qsC l)=0
 |[]=>rfl
 |q::r=>by
  show max (AV.ids (.sl q.n.length (cS q.n))) (max 0 (max 0 (AV.ids.idsL (qsC r))))=0
  rw[eKy,fKq r];rfl
theorem fMw (b:List B8) (l:List QN):AV.ids (msA b l)=0:=by
 unfold msA msC msT
 simp[AV.ids,AV.ids.idsL,fKq]
def MGd (b:List B8):Prop:=b.length<2∨(12≤b.length∧c16 b 6=0∧c16 b 8=0∧c16 b 10=0)
instance (b:List B8):Decidable (MGd b):=by unfold MGd;infer_instance
def mgX (b:List B8):Option (List QN×Nat)→Option (AV×List AV)
 |none=>none
 |some (l,e)=>if e=b.length then some (msA b l,[.sl b.length (c8 b),.i (e:Int)])else none
def mgR (b:List B8):Option (AV×List AV):=if b.length<2 then none else mgX b (fJv b (c16 b 4) 12 [])
def mgG:List AV→List AV→Option (Option (AV×List AV))
 |[.op _ 0],[.sl n xs,.i 0]=>aK (fHq xs) fun b=>aN (b.length=n∧n≤100000∧MGd b) (some (mgR b))
 |_,_=>none
theorem fNp (id n:Nat) (xs:List AV):mgG [.op id 0] [.sl n xs,.i 0]=aK (fHq xs) fun b=>aN (b.length=n∧n≤100000∧MGd b) (some (mgR b)):=(rfl)
attribute [go_sem] fNp
def fKi (b:List B8) (k:Nat):List AV:=(List.range 4).map fun j=> .i (if j<k then((c16 b (4+2*j):Nat):Int)else 0)
theorem fOa (b:List B8):fKi b 0=List.replicate 4 (.i 0):=rfl
theorem fMg (b:List B8) (k:Nat):(fKi b k).length=4:=rfl
theorem fMf (b:List B8) {k:Nat} (h:k<4):(fKi b k).set k (.i ((c16 b (4+2*k):Nat):Int))=fKi b (k+1):=by
 rcases(by omega:k=0∨k=1∨k=2∨k=3)with rfl|rfl|rfl|rfl<;>rfl
theorem fNz (b:List B8):fKi b 4=[.i ((c16 b 4:Nat):Int),.i ((c16 b 6:Nat):Int),.i ((c16 b 8:Nat):Int),.i ((c16 b 10:Nat):Int)]:=rfl
def z15:List AV:=[.w16 0#16,.b false,.i 0,.b false,.b false,.b false,.b false,.i 0,.v (.slice none 0 0),.v (.slice none 0 0),.v (.slice none 0 0),.v (.slice none 0 0),.b false,.w16 0#16,.b false]
def fKg (b:List B8):List AV:=[.w16 (n16 b 0),.b (!decide (b1 b 2&&&128#32=0#32)),.i ((b1 b 2>>>3&&&15#32).toNat:Int),.b (!decide (b1 b 2&&&4#32=0#32)),.b (!decide (b1 b 2&&&2#32=0#32)),.b (!decide (b1 b 2&&&1#32=0#32)),.b (!decide (b1 b 3&&&128#32=0#32)),.i ((b1 b 3&&&15#32).toNat:Int)]
def fKf:List AV:=[.v (.slice none 0 0),.v (.slice none 0 0),.v (.slice none 0 0),.b false,.w16 0#16,.b false]
def ms0 (b:List B8) (q:AV):List AV:=msC b q++[.v (.slice none 0 0),.v (.slice none 0 0),.v (.slice none 0 0),.b false,.w16 0#16,.b false]
theorem fMn {g:H} {a b c d:Nat} {x y z w:AO} (h1:g a=some x:=by simp(disch:=omega) only[aV,kE,bY,↓reduceIte,if_true,if_false]<;>rfl) (h2:g b=some y:=by simp(disch:=omega) only[aV,kE,bY,↓reduceIte,if_true,if_false]<;>rfl) (h3:g c=some z:=by simp(disch:=omega) only[aV,kE,bY,↓reduceIte,if_true,if_false]<;>rfl) (h4:g d=some w:=by simp(disch:=omega) only[aV,kE,bY,↓reduceIte,if_true,if_false]<;>rfl): ∀j o,upd (upd (upd (upd (fun _=>none) a x) b y) c z) d w j=some o→g j=some o:=by
 intro j o h
 simp only[bJ]at h
 split at h
 ·rename_i e;rw[e,h4];exact h
 split at h
 ·rename_i e;rw[e,h3];exact h
 split at h
 ·rename_i e;rw[e,h2];exact h
 split at h
 ·rename_i e;rw[e,h1];exact h
 cases h
theorem fNi {g:H} {a b c d e:Nat} {x y z w v:AO} (h1:g a=some x:=by simp(disch:=omega) only[aV,kE,bY,↓reduceIte,if_true,if_false]<;>rfl) (h2:g b=some y:=by simp(disch:=omega) only[aV,kE,bY,↓reduceIte,if_true,if_false]<;>rfl) (h3:g c=some z:=by simp(disch:=omega) only[aV,kE,bY,↓reduceIte,if_true,if_false]<;>rfl) (h4:g d=some w:=by simp(disch:=omega) only[aV,kE,bY,↓reduceIte,if_true,if_false]<;>rfl) (h5:g e=some v:=by simp(disch:=omega) only[aV,kE,bY,↓reduceIte,if_true,if_false]<;>rfl): ∀j o,upd (upd (upd (upd (upd (fun _=>none) a x) b y) c z) d w) e v j=some o→g j=some o:=by
 intro j o h
 rw[bJ]at h
 split at h
 ·rename_i e1;rw[e1,h5];exact h
 exact fMn h1 h2 h3 h4 j o h
theorem fOe (b:List B8) (a:Nat):c16 b a<65536:=by
 unfold c16
 have h:((b.drop a).take 2).length≤2:=by rw[List.length_take];omega
 obtain⟨l,hl⟩: ∃l,(b.drop a).take 2=l:=⟨_,rfl⟩
 rw[hl]at h⊢
 match l,h with
 |[],_=>decide
 |[x],_=>
  show(((0#32 <<<8)|||x.setWidth 32).toNat)<65536
  have:=x.isLt
  rw[BitVec.toNat_or,BitVec.toNat_setWidth]
  have e1:(0#32 <<<8).toNat=0:=rfl
  rw[e1,Nat.zero_or];omega
 |[x,y],_=>
  show(((((0#32 <<<8)|||x.setWidth 32) <<<8)|||y.setWidth 32).toNat)<65536
  have h1:=x.isLt
  have h2:=y.isLt
  rw[BitVec.toNat_or]
  have e0:((0#32 <<<8)|||x.setWidth 32)=x.setWidth 32:=by rw[show(0#32 <<<8)=0#32 from rfl,BitVec.zero_or]
  rw[e0]
  have e1:((x.setWidth 32:W32) <<<8).toNat=x.toNat <<<8:=by
   rw[BitVec.toNat_shiftLeft,BitVec.toNat_setWidth,Nat.shiftLeft_eq,Nat.shiftLeft_eq];omega
  have e2:(y.setWidth 32:W32).toNat=y.toNat:=by rw[BitVec.toNat_setWidth];omega
  rw[e1,e2,←Nat.shiftLeft_add_eq_or_of_lt h2,Nat.shiftLeft_eq]
  omega
structure QLI where
 k:Nat
 e:Nat
 l:List QN
 q:Nat
 c:Nat
structure MGI where
 k:Nat
 c:Nat
set_option maxHeartbeats 8000000 in
theorem fIj:fHs Tryz.prog GLh 18 (rdH mgG)∧dE Tryz.prog GLh 18 chM (rdP mgG):=by
 refine dT Tryz.func18 (aT rfl) ?_
 intro id off rest nx xs o hg
 unfold mgG at hg
 split at hg
 ·rename_i id2 n xs2 heq
  simp only[List.cons.injEq,AV.op.injEq]at heq
  obtain⟨⟨rfl,rfl⟩,rfl⟩:=heq
  replace hg:=aJ hg;obtain⟨b,hl,hg⟩:=hg
  replace hg:=aP hg;obtain⟨⟨rfl,hnb,hmg⟩,hg⟩:=hg
  obtain rfl:=J0 hg
  have:=bW hl;subst this
  refine⟨J1 rfl,fun hid=>?_⟩
  clear hl hg
  refine ySq (yRn [0,2] fun K hK=>?_)
  simp(disch:=omega) only[go_sem]
  refine hK _ (aB ?_)
  by_cases hb2:b.length<2
  ·have e0:mgR b=none:=J4 hb2
   rw[e0]
   have n0:rL b 2 0=none:=fPs (by omega)
   refine ySq (dCn 1 (dK) fSe (aH fL aO) rfl rfl rfl (fun Z hZ=>?_))
   simp(disch:=omega) only[U0,U1,go_sem,bG,eq_self,true_and,bP,List.map_cons,List.map_nil,List.append_nil,n0]
   refine hZ _ ?_;clear hZ Z
   exact rfl
  rcases hmg with h|⟨h12,z1,z2,z3⟩
  ·exact absurd h hb2
  have e0:mgR b=mgX b (fJv b (c16 b 4) 12 []):=J3 hb2
  rw[e0]
  have n0:rL b 2 0=some (.w32 (fRs (b.take 2)),[.sl b.length (c8 b),.i ((0+2:Nat):Int)]):=eKs (by omega)
  have n2:=eKs (l:=b) (k:=1) (a:=2) (by omega)
  have n3:=eKs (l:=b) (k:=1) (a:=3) (by omega)
  refine ySq (yRg [0,2,3] (aH fL aO) fun K hK=>?_)
  simp(disch:=omega) only[go_sem,n0]
  refine hK _ (aB ?_)
  refine ySq (yRg [0,2,3,4,5] (aH fL aO) fun K hK=>?_)
  simp(disch:=omega) only[go_sem,n2,n3,U2]
  refine hK _ (aB ?_)
  refine ySq (yRn [0,2,3,5] fun K hK=>?_)
  simp(disch:=omega) only[go_sem]
  refine hK _ (aB ?_)
  refine ySq (yRn [0,2,3] fun K hK=>?_)
  simp(disch:=omega) only[go_sem]
  refine hK _ (aB ?_)
  refine ySq (yRn [0,2,3,6] fun K hK=>?_)
  simp(disch:=omega) only[go_sem]
  refine hK _ (aB ?_)
  refine ySq (ySq (yRn [0,2,3,6,47] fun K hK=>?_))
  simp(disch:=omega) only[go_sem]
  refine hK _ (aB ?_)
  refine yK (fMn (a:=id) (b:=nx) (c:=nx+1+4) (d:=nx+49) (x:=.cells [.sl b.length (c8 b),.i ((4:Nat):Int)] true) (y:=.cells z15 true) (z:=.cells (ms0 b (.v (.slice none 0 0))) true) (w:=.cells (fKi b 0) true) ?_ ?_ ?_ ?_) ?_
  ·simp(disch:=omega) only[aV,bY,↓reduceIte]
  ·simp(disch:=omega) only[aV,bY,↓reduceIte,z15]
  ·simp(disch:=omega) only[aV,bY,↓reduceIte]
   rfl
  ·simp(disch:=omega) only[aV,↓reduceIte,fOa]
  obtain⟨mi,hmi⟩: ∃y,nx+1+4=y:=⟨_,rfl⟩
  obtain⟨ci,hci⟩: ∃y,nx+49=y:=⟨_,rfl⟩
  rw[hmi,hci]
  refine yBl 0 ?_
  refine bR (fun p:MGI=> {fr:=[(0,.op id 0),(2,.op nx 0),(3,.op mi 0),(6,.op ci 0),(47,.i (p.k:Int))],hp:=upd (upd (upd (upd (fun _=>none) id (.cells [.sl b.length (c8 b),.i ((4+2*p.k:Nat):Int)] true)) nx (.cells z15 true)) mi (.cells (ms0 b (.v (.slice none 0 0))) true)) ci (.cells (fKi b p.k) true),nx:=0,cx:=p.c}) (fun p=>p.k≤4∧ci<p.c) (fun p=>4-p.k) rfl ⟨⟨0,_⟩,⟨Nat.zero_le _,by simp only;omega⟩,bD rfl rfl (U3 _)⟩ ?_
  rintro⟨k,c⟩ ⟨hk,hcc⟩ n0
  simp only at hk hcc⊢
  refine ySq (yRn [48,0,2,3,6,47] fun K hK=>?_)
  simp(disch:=omega) only[go_sem]
  refine hK _ (aB ?_)
  refine ySq (gLb rfl (fun h=>?_) (fun h=>?_))
  ·refine yDr ?_
   have hk4:k<4:=by omega
   have nk:=eKs (l:=b) (k:=2) (a:=4+2*k) (by omega)
   have hset:=fMf b hk4
   have hcv:(fRs (List.take 2 (List.drop (4+2*k) b))).toNat=c16 b (4+2*k):=rfl
   clear h
   refine ySk (aB (ySq (yBl 1 (ySq (yRn [0,2,3,6,7,47] fun K hK=>?_)))))
   simp(disch:=omega) only[go_sem]
   refine hK _ (aB ?_)
   refine yRg [0,2,3,6,47] (aH fL aO) fun K hK=>?_
   simp(disch:=omega) only[go_sem,nk,fMg,hcv,hset,U2]
   refine hK _ (bU (aB ?_))
   refine yRn [0,2,3,6,47] fun K hK=>?_
   simp(disch:=omega) only[go_sem]
   refine hK _ (bT ?_)
   refine⟨⟨k+1,_⟩,⟨by simp only;omega,by simp only;omega⟩,by simp only;omega,⟨fun _=> .inr ?_,fun j o hj=>?_,U3 _⟩⟩
   ·simp only[Int.natCast_add,Int.natCast_one]
   simp only at hj
   rw[show 4+2*(k+1)=4+2*k+2 by omega]at hj
   exact(fMn) j o hj
  refine yDr ?_
  obtain rfl:k=4:=by omega
  refine yEx 0 (aY (aZ (bE (aB (ySq (ySq ?_))))))
  rw[fNz,z1,z2,z3]
  refine yRn [0,2,3,6,57,58] fun K hK=>?_
  simp(disch:=omega) only[go_sem,J8,J9]
  refine hK _ (aB ?_)
  refine aDn mi 3 (fKg b) fKf true (by simp(disch:=omega) only[aV,bY,↓reduceIte];rfl) (by omega) ?_
  obtain⟨ans,hqs⟩: ∃a,fJv b (c16 b 4) 12 []=a:=⟨_,rfl⟩
  rw[hqs]
  obtain⟨N,hN⟩: ∃N,c16 b 4=N:=⟨_,rfl⟩
  rw[hN]at hqs⊢
  have hNl:N<65536:=by rw[←hN];exact fOe b 4
  refine yBl 2 ?_
  refine bR (fun p:QLI=> {fr:=[(0,.op id 0),(2,.op nx 0),(3,.op mi 0),(6,.op ci 0),(57,.i (N:Int)),(58,.i (p.k:Int))],hp:=upd (upd (upd (upd (upd (fun _=>none) id (.cells [.sl b.length (c8 b),.i (p.e:Int)] true)) nx (.cells z15 true)) ci (.cells [.i (N:Int),.i 0,.i 0,.i 0] true)) p.q (.cells (qsC p.l) true)) mi (.cells (fKg b++ .os p.q 0 p.l.length 3 true::fKf) true),nx:=0,cx:=p.c}) (fun p=>p.k≤N∧p.l.length=p.k∧p.e≤b.length∧fJv b (N-p.k) p.e p.l=ans∧ci<p.q∧p.q<p.c) (fun p=>N-p.k) rfl ⟨⟨0,12,[],c+1+3,_⟩,⟨Nat.zero_le _,rfl,h12,hqs,by simp only;omega,by simp only;omega⟩,⟨fun _=> .inr rfl,fNi,U3 _⟩⟩ ?_
  rintro⟨k,e,l,q,c⟩ ⟨hk,hl,he,hrun,hq1,hq2⟩ n0
  simp only at hk hl he hrun hq1 hq2⊢
  refine ySq (yRn [59,0,2,3,6,57,58] fun K hK=>?_)
  simp(disch:=omega) only[go_sem]
  refine hK _ (aB ?_)
  refine ySq (gLb rfl (fun h=>?_) (fun h=>?_))
  ·refine yDr ?_
   obtain⟨j,hj⟩: ∃j,N-k=j+1:=⟨N-k-1,by omega⟩
   rw[hj,fJv]at hrun
   clear h
   refine ySk (aB (ySq (yBl 3 ?_)))
   rcases hx:qnR b e with _|⟨x,e'⟩
   ·rw[hx]at hrun
    obtain rfl:=hrun
    have hA:qsA b none=none:=rfl
    have hM:mgX b none=none:=rfl
    have hd8: ∀y:AV,(List.drop 8 (fKg b++y::fKf)).head? =some y:=fun y=>rfl
    have hl8: ∀y:AV,(fKg b++y::fKf).length=15:=fun y=>rfl
    rw[hM]
    refine fQk 3 [[],[0],[0,1]] [[0,1,2],[0,2],[0,2,1],[2],[2,0],[2,0,1]] (fun k=>if k=3 then 0 else 2) bZ (fPr) fRa (aH fOp aO) rfl rfl rfl (by kernel_rfl) ?_ (fun Z hZ=>?_)
    ·simp(disch:=omega) only[go_sem,aHu,aQh,cHk,eJ,lY,eDt,List.getElem?_cons_zero,List.getElem?_cons_succ,eq_self,and_self,List.map_cons,List.map_nil,hd8]
    simp(disch:=omega) only[go_sem,aHu,aQh,cHk,eJ,lY,eDt,List.getElem?_cons_zero,List.getElem?_cons_succ,bG,eq_self,true_and,and_true,bP,List.map_cons,List.map_nil,List.append_nil,hd8,hx,hA,U2]
    exact⟨hZ _ (by exact rfl),hZ _ (by exact rfl),hZ _ (by exact rfl),hZ _ (by exact rfl),hZ _ (by exact rfl),hZ _ (by exact rfl)⟩
   rw[hx]at hrun
   simp only at hrun
   have he':=fNn hx
   have hA:qsA b (some (x,e'))=some (qA x,[.sl b.length (c8 b),.i (e':Int)]):=rfl
   have hd8: ∀y:AV,(List.drop 8 (fKg b++y::fKf)).head? =some y:=fun y=>rfl
   have hs8: ∀y z:AV,(fKg b++y::fKf).set 8 z=fKg b++z::fKf:=fun y z=>rfl
   have hl8: ∀y:AV,(fKg b++y::fKf).length=15:=fun y=>rfl
   have hsn:qsC l++[.sl x.n.length (cS x.n),.w16 x.t,.w16 x.c]=qsC (l++[x]):=by rw[fKl];rfl
   have hcl:=fIi l
   have hl1:(l++[x]).length=l.length+1:=by simp
   refine aKy 1 3 [0,1,2,3,4,5,6,7] [2,3,0,1,4,5,6,7] (fun k=>if k=3 then 0 else 2) [0,2,3,6,57,58] bZ (aH fOp aO) (by decide) rfl rfl rfl (by kernel_rfl) (fun K hK=>?_) (fun K hK=>?_)
   ·simp(disch:=omega) only[go_sem,eJ,lY,eDt,List.getElem?_cons_zero,List.getElem?_cons_succ,hd8,hs8,hl8,hx,hA,qA,hcl,hsn,U2,U0,U1,J9]
    refine hK _ (bU (aB ?_))
    refine yRn [0,2,3,6,57,58] fun K hK=>?_
    simp(disch:=omega) only[go_sem]
    refine hK _ (bT ?_)
    refine⟨⟨k+1,e',l++[x],c+1+5,_⟩,⟨by simp only;omega,hl1.trans (by rw[hl]),he',by rw[show N-(k+1)=j by omega];exact hrun,by simp only;omega,by simp only;omega⟩,by simp only;omega,⟨fun _=> .inr ?_,fun j o hj=>?_,U3 _⟩⟩
    ·simp only[Int.natCast_add,Int.natCast_one]
    simp only at hj
    rw[hl1]at hj
    exact(fNi) j o hj
   simp(disch:=omega) only[go_sem,eJ,lY,eDt,List.getElem?_cons_zero,List.getElem?_cons_succ,hd8,hs8,hl8,hx,hA,qA,hcl,hsn,U2,U0,U1,J9]
   refine hK _ (bU (aB ?_))
   refine yRn [0,2,3,6,57,58] fun K hK=>?_
   simp(disch:=omega) only[go_sem]
   refine hK _ (bT ?_)
   refine⟨⟨k+1,e',l++[x],c+1+5,_⟩,⟨by simp only;omega,hl1.trans (by rw[hl]),he',by rw[show N-(k+1)=j by omega];exact hrun,by simp only;omega,by simp only;omega⟩,by simp only;omega,⟨fun _=> .inr ?_,fun j o hj=>?_,U3 _⟩⟩
   ·simp only[Int.natCast_add,Int.natCast_one]
   simp only at hj
   rw[hl1]at hj
   exact(fNi) j o hj
  refine yDr ?_
  obtain rfl:k=N:=by omega
  rw[Nat.sub_self,fJv]at hrun
  obtain rfl:=hrun
  refine yEx 2 (aY (aZ (bE (aB ?_))))
  refine lW 6 ci 0 rfl (by simp(disch:=omega) only[aV,bY,↓reduceIte]<;>rfl) ?_
  refine ySq (bB (fun k=>if k=3 then 0 else if k=7 then 0 else if k=11 then 0 else if k=2 then 1 else if k=6 then 1 else if k=10 then 1 else 2) [0,2,3] bZ (aH fOo aO) rfl rfl rfl (by kernel_rfl) (fun K hK=>?_))
  simp(disch:=omega) only[go_sem,fKg,fKf,List.cons_append,List.nil_append,J8,List.set_cons_succ,List.set_cons_zero,J7,J9]
  refine hK _ (aB ?_)
  refine yK (fMn (a:=id) (b:=nx) (c:=q) (d:=mi) (x:=.cells [.sl b.length (c8 b),.i (e:Int)] true) (y:=.cells z15 true) (z:=.cells (qsC l) true) (w:=.cells (msC b (.os q 0 l.length 3 true)++msT) true) ?_ ?_ ?_ ?_) ?_
  ·simp(disch:=omega) only[aV,bY,↓reduceIte]
  ·simp(disch:=omega) only[aV,bY,↓reduceIte]
  ·simp(disch:=omega) only[aV,bY,↓reduceIte]
  ·simp(disch:=omega) only[aV,↓reduceIte]<;>rfl
  have hcl:=fIi l
  have hno:=fLq l
  by_cases hee:e=b.length
  ·have de:decide ((e:Int)=(b.length:Int))=true:=J5 (by omega)
   have hX:mgX b (some (l,e))=some (msA b l,[.sl b.length (c8 b),.i (e:Int)]):=J4 hee
   rw[hX]
   refine ySq (bB (Γ:=bC [(36,.pure true fLh),(37,.pure true fLg),(35,.pure true eO)]) (fun k=>if k=12 then 0 else if k=13 then 0 else if k=18 then 0 else if k=19 then 0 else if k=22 then 0 else 2) [2,3] bZ (aH fNe (aH fLt (aH rP aO))) rfl rfl rfl (by kernel_rfl) (fun K hK=>?_))
   simp(disch:=omega) only[go_sem,de,msC,msT,List.cons_append,List.nil_append,Bool.not_false,J8,J7,J9]
   refine hK _ (aB ?_)
   refine ySq (ySq (yRg [2,3,8] (aH fNd (aH fLt aO)) fun K hK=>?_))
   simp(disch:=omega) only[go_sem,List.cons_append,List.nil_append,J8,J7,J9]
   refine hK _ (aB ?_)
   refine ySq (yRn [110,2,3,8] fun K hK=>?_)
   simp(disch:=omega) only[go_sem]
   refine hK _ (aB ?_)
   refine iFd (ySk (aB (ySq (yRn [2] fun K hK=>?_))))
   simp(disch:=omega) only[go_sem,z15,U0,U1,J9]
   refine hK _ (aB ?_)
   refine aS rfl (⟨by simp(disch:=omega) only[bV,bK,bQ,go_sem,aV,kE,bY,eq_self,hcl,hno,msA,msC,msT,List.cons_append,List.nil_append,U0,U1,J9],by simp(disch:=omega) only[aV,bY,↓reduceIte,eq_self],?_,?_⟩)
   ·exact fMw b l
   exact fVp _ _ _
  have de:decide ((e:Int)=(b.length:Int))=false:=J6 (by omega)
  have hX:mgX b (some (l,e))=none:=J3 hee
  rw[hX]
  refine ySq (dCo (Γ:=bC [(36,.pure true fLh),(37,.pure true fLg),(35,.pure true eO)]) 22 (fun _=>2) bZ (fPd) rD (aH fNe (aH fLt (aH rP aO))) rfl rfl rfl (by kernel_rfl) rfl (by kernel_rfl) (fun Z hZ=>?_))
  simp(disch:=omega) only[U0,U1,go_sem,bG,eq_self,true_and,bP,List.map_cons,List.map_nil,List.append_nil,de,msC,msT,List.cons_append,List.nil_append,J8,U0,U1,J7,J9]
  refine hZ _ ?_;clear hZ Z
  exact rfl
 cases hg
theorem fJy:dE Tryz.prog GLh 18 chM (rdP mgG):=fIj.2
theorem fOc:fHm Tryz.prog 18:=⟨_,Tryz.func18,rfl,rfl⟩
theorem fNf:bX Tryz.prog GLh 18 (.heap (rdH mgG)):=⟨⟨_,Tryz.func18,rfl,rfl⟩,fIj.1⟩
end Go.AX

namespace Go.AX
open Go
set_option maxRecDepth 8000
theorem fLc {P:Program} {GL:Nat→Option (List AV)} {f d:FuncId} {fn:Func} {r0 r1 C:Code} {id:Nat} {k:Tmp} {caps:Array Operand} {ty1 ty2:TypeId} {p1 p2:String} {af1 af2:Array Edge} {ch:List PanicEntry} {u':FrameMode} {gI gP:List AV→H→Nat→Option (H×Nat)} {g:List AV→Option AV} (hf:P.funcs[f]? =some fn)
  (hb:fn.body=some (.seq r0 (.seq r1 (.seq (.region id #[{dst:=some k,op:=.makeFunc (.func d) #[] caps,type:=ty1,pos:=p1,after:=af1,guard:=none},{dst:=none,op:=.defer {callee:=.value (.tmp k),args:= #[],argTypes:= #[]},type:=ty2,pos:=p2,after:=af2,guard:=none}] false) C))))
  (hk:k<fn.ntmps) (hd:fHm P d) (hI:bSj P GL d .returning .returning gI) (hP:bSj P GL d (.panicking ch) u' gP) (hu:settle u'=.returning)
  (h: ∀args r,g args=some r→args.length≤fn.ntmps∧∀nx,∃capsA,Awp P GL fn.ntmps r0 (sN args (fun _=>none) nx) (oS P GL fn.ntmps r1 (dYy P GL fn.ntmps C k d caps.toList capsA (fDc P fn.results.toList ch gI gP capsA r)))):fHn P GL f g:=by
 intro σ I w nx args vals r h1 h2 h3 hs hr hg
 obtain⟨hlen,haw⟩:=h args r hg
 obtain⟨capsA,haw⟩:=haw nx
 let c:=aPf σ I w GL fn.ntmps nx
 refine calls_of_wp_defers hf hb (wp_seq (wp_mono (haw c rfl rfl σ I w {tmps:=vals++Array.replicate (fn.ntmps-vals.size) undef,defers:=[]} w ?_) ?_))
 ·refine⟨⟨σ,I,?_,Grow.refl _ _ _,fun t=>oG hs hr t⟩,rfl,by show _=fn.ntmps;simp[hs];omega,fun k hk=>hk.elim,fun id hid=>⟨hid.1,hid.1⟩⟩
  refine(bYs h1 h2 h3).mono_un fun id hid=>?_
  rcases hid with hid|⟨k,hk,_⟩|hid
  ·exact .inl hid
  ·exact hk.elim
  exact .inr hid
 rintro e a00 w00 ⟨t00,hq0,hR0⟩
 have hq1:e=.normal∧Awp P GL fn.ntmps r1 t00 (dYy P GL fn.ntmps C k d caps.toList capsA (fDc P fn.results.toList ch gI gP capsA r)):=by
  cases e<;>first|exact⟨rfl,hq0⟩|exact hq0.elim
 obtain⟨rfl,hq1⟩:=hq1
 refine wp_seq (wp_mono (hq1 c rfl rfl σ I w a00 w00 hR0) ?_)
 rintro e a0 w0 ⟨t0,hq,hR⟩
 cases e with
 |normal=>
  obtain⟨hcaps,hC⟩:=hq
  refine wp_seq (wp_region_list ?_)
  obtain⟨⟨σ1,I1,b1,b2,b3⟩,bd,bs,blt,blt0⟩:=hR
  obtain⟨V,hV⟩: ∃V,caps.map a0.eval=V:=⟨_,rfl⟩
  have hVs:V.size=capsA.length:=by rw[←hV,←hcaps];simp
  have hVr: ∀i (_h:i<capsA.length),Rel σ1 I1 w0 capsA[i] (V.getD i undef):=by
   subst hcaps
   intro i hi
   have:=aAc (l:=caps.toList) (aJt b1 b3) i (by simpa using hi)
   rw[fI,List.getD_eq_getElem?_getD]at this
   have e:V[i]? =(List.map a0.eval caps.toList)[i]?:=by rw[←hV,←Array.toList_map,Array.getElem?_toList]
   rw[Array.getD_eq_getD_getElem?,e];exact this
  let D:Deferred:= {target:=.fn (.func d) V,args:= #[]}
  let a1:Act:=a0.put (some k) (.func (.func d) #[] V)
  let a2:Act:= {a1 with defers:=D::a1.defers}
  have hbs:a0.tmps.size=fn.ntmps:=bs
  have ha1:a1.eval (.tmp k)=.func (.func d) #[] V:=by
   show((a0.tmps.setIfInBounds k _).getD k undef)=_
   rw[Array.getD_eq_getD_getElem?,Array.getElem?_setIfInBounds_self_of_lt (by rw[hbs];exact hk)];rfl
  unfold wpList
  rw[J4 (by simp[Region.wanted])]
  refine .inl ?_
  have e1:(execOp a0.eval {dst:=some k,op:=.makeFunc (.func d) #[] caps,type:=ty1,pos:=p1,after:=af1,guard:=none}).run P w0=.ok (.value (.func (.func d) #[] V)) w0:=by
   rw[←hV]
   simp only[execOp,Instr.makeFunc,Array.map_empty,Sem.run_bind,Sem.run_pure,Result.andThen_ok]
  unfold Oper.wp
  rw[e1]
  show wpList P _ _ _ a1 w0
  unfold wpList
  rw[J4 (by simp[Region.wanted])]
  refine .inl ?_
  have e2:(execOp a1.eval {dst:=none,op:=.defer {callee:=.value (.tmp k),args:= #[],argTypes:= #[]},type:=ty2,pos:=p2,after:=af2,guard:=none}).run P w0=.ok (.defer D) w0:=by
   simp only[execOp,resolve,ha1,Deferred.ofValue,Sem.run_bind,Sem.run_pure,Result.andThen_ok,Array.map_empty,Array.append_empty];rfl
  unfold Oper.wp
  rw[e2]
  show Code.wp P C _ a2 w0
  have hadf:a0.defers=[]:=bd
  have hR2:R {c with df:=[D]} σ1 I1 w0 (fun _=>False) (dBa k d capsA t0) a2 w0:=by
   refine⟨⟨σ1,I1,⟨b1.ext,b1.imm,b1.iw,b1.os,b1.tape,b1.output,b1.size,b1.old,b1.ilt,b1.own,b1.inj,b1.lim,b1.un,b1.glob,b1.inew⟩,Grow.refl _ _ _,?_⟩,?_,?_,fun k hk=>hk.elim,blt0⟩
   ·exact vT (n:=fn.ntmps) (dst:=some k) (x:=.fn d capsA) (v:=.func (.func d) #[] V) hbs (fun d' hd'=>by obtain rfl:=J0 hd';exact hk) (fun _=> .fn d capsA V hVs hVr) b3
   ·show D::a0.defers=[D];rw[hadf]
   show(a0.put (some k) _).tmps.size=_;rw[pX];exact hbs
  refine wp_mono (hC {c with df:=[D]} rfl rfl σ1 I1 w0 a2 w0 hR2) ?_
  rintro e a' w' ⟨t,hq,hR'⟩
  have hd':a'.defers=[D]:=hR'.defers
  obtain⟨⟨σ2,I2,c1,c2,c3⟩,_,_,_,clt0⟩:=hR'
  obtain⟨fnd,q1,q2,q3⟩:=hd
  have hinv:(invoke (.fn (.func d) V) #[]).run P w'=.ok (.enter d V) w':=by
   simp only[invoke,Array.empty_append,callFunc,Sem.run_bind,run_program,Result.andThen_ok,q1,q2,q3,Bool.false_eq_true,if_false,Sem.run_pure]
  have hVr2: ∀i (_h:i<capsA.length),Rel σ2 I2 w' capsA[i] (V.getD i undef):=fun i hi=>(hVr i hi).grow c2
  have fin: ∀(p:H×Nat) (σ3:Nat→Loc) (I3:Nat→Prop) (w3:World),aK (bV P fn.results.toList {t with hp:=p.1}) (zB 4 p.1)=some r→Inv {c with df:=[D]} σ3 I3 w3 p.1 (fun id=>p.2≤id)→Grow σ2 I2 w' σ3 I3 w3→(∀id,id<t.cx→σ2 id=.unset→σ3 id=.unset)→
    ∃v,(results fn a'.tmps).run P w3=.ok v w3∧∃v' σ' I',Ending.returned v=.returned v'∧w3.os=w.os∧w3.tape=w.tape∧w3.output=w.output∧w.heap.size≤w3.heap.size∧(∀k,k<w.heap.size→w3.heap[k]? =w.heap[k]?)∧
     (∀id,id<nx→σ' id=σ id)∧(∀k,I' k→I k∨w.heap.size≤k)∧(∀k,I' k→k<w3.heap.size)∧Rel σ' I' w3 r v':=by
   intro p σ3 I3 w3 hres d1 d2 d3
   replace hres:=aJ hres;obtain⟨x,hx,him⟩:=hres
   obtain⟨v,hv,hrel⟩:=eZ (P:=P) (t:= {t with hp:=p.1}) d1 (fun k=>(c3 k).grow d2) hx
   have hI: ∀k,I3 k→(I3 k∨∃id o base sz,p.1 id=some o∧σ3 id=.at_ k base sz):=fun k hk=> .inl hk
   obtain⟨him',_⟩:=qH d1 hI (fun id o blk base sz e1 e2=> .inr ⟨id,o,base,sz,e1,e2⟩) 4 him hrel
   have hkeep: ∀id,id<nx→σ3 id=σ id:=by
    intro id hid
    by_cases e:σ id=.unset
    ·have hu0:c.u0 id:=⟨hid,e⟩
     rw[e];exact d3 id (clt0 id hu0).2 (c1.un id (.inr (.inr hu0)))
    ·exact d1.ext id e
   refine⟨v,hv,v,σ3,fun k=>I3 k∨∃id o base sz,p.1 id=some o∧σ3 id=.at_ k base sz,rfl,d1.os,d1.tape,d1.output,d1.size,fun k hk=>d1.old k hk (fun h=>h),hkeep,fun k hk=>?_,fun k hk=>?_,him'⟩
   ·rcases hk with hk|⟨id,o,base,sz,e1,e2⟩
    ·rcases d1.inew k hk with h|h|h
     ·exact .inl h
     ·exact .inr h
     ·exact h.elim
    ·rcases d1.blkNew e1 e2 with h|h|h
     ·exact .inl h
     ·exact .inr h
     ·exact h.elim
   ·rcases hk with hk|⟨id,o,base,sz,e1,e2⟩
    ·exact d1.ilt k hk
    ·exact(d1.own id o e1).lt e2
  have c1':Inv {c with df:=[D]} σ2 I2 w' t.hp (fun id=>t.cx≤id):=c1.mono_un fun id hid=> .inl hid
  have ret:(∃p,gI capsA t.hp t.cx=some p∧aK (bV P fn.results.toList {t with hp:=p.1}) (zB 4 p.1)=some r)→Leaves P fn a'.tmps (fun e w3=> ∃v' σ' I',e=.returned v'∧w3.os=w.os∧w3.tape=w.tape∧w3.output=w.output∧w.heap.size≤w3.heap.size∧(∀k,k<w.heap.size→w3.heap[k]? =w.heap[k]?)∧
     (∀id,id<nx→σ' id=σ id)∧(∀k,I' k→I k∨w.heap.size≤k)∧(∀k,I' k→k<w3.heap.size)∧Rel σ' I' w3 r v') a'.defers .returning w':=by
   rintro⟨p,hp1,hres⟩
   rw[hd']
   obtain⟨_,hcalls⟩:=hI {c with df:=[D]} σ2 I2 w' t.hp t.cx capsA V p.1 p.2 rfl c1' hVs hVr2 hp1
   refine leaves_cons (by simp) hinv (fun c₀ cs hm=>?_)
   obtain⟨e',u1,w3,fr',hRR,hst⟩:=hcalls c₀ cs hm
   refine⟨e',u1,w3,fr',?_,hst⟩
   obtain⟨v,σ3,I3,rfl,rfl,d1,d2,d3⟩:=hRR
   exact fin p σ3 I3 w3 hres d1 d2 d3
  cases e with
  |ret=>exact ret hq
  |normal=>exact ret hq
  |panic ch'=>
   obtain⟨rfl,p,hp1,hres⟩:=hq
   show Leaves P fn a'.tmps _ a'.defers (.panicking ch') w'
   rw[hd']
   obtain⟨_,hcalls⟩:=hP {c with df:=[D]} σ2 I2 w' t.hp t.cx capsA V p.1 p.2 rfl c1' hVs hVr2 hp1
   refine leaves_cons (by simp) hinv (fun c₀ cs hm=>?_)
   obtain⟨e',u1,w3,fr',hRR,hst⟩:=hcalls c₀ cs hm
   refine⟨e',u1,w3,fr',?_,hst⟩
   obtain⟨v,σ3,I3,rfl,rfl,d1,d2,d3⟩:=hRR
   show Leaves P fn a'.tmps _ [] (settle u1) w3
   rw[hu]
   exact fin p σ3 I3 w3 hres d1 d2 d3
  |_=>exact hq.elim
 |_=>exact hq.elim
end Go.AX

namespace Go.AX
open Go Go.Proofs
set_option maxRecDepth 20000
def fQc (n:Nat) (args:List AV) (hp:H) (nx:Nat):Option (H×Nat):=aN (args.length=n) (some (hp,nx))
theorem dPj {f:FuncId} {n:Nat} (h: ∀(vals:Array Value) (w:World),vals.size=n→CallsD Tryz.prog f vals .returning w fun e u1 w'=>e=.returned (.tuple #[])∧u1=.returning∧w'=w):bSj Tryz.prog GLh f .returning .returning (fun args hp nx=>aN (args.length=n) (some (hp,nx))):=by
 intro c σ I w hp nx args vals hp' nx' _ hi hs hr hg
 replace hg:=aP hg;obtain⟨hn,hg⟩:=hg
 simp only[Option.some.injEq,Prod.mk.injEq]at hg;obtain⟨rfl,rfl⟩:=hg
 refine⟨U3 _,fun c₀ cs hm=>?_⟩
 obtain⟨e,u1,w',fr,⟨rfl,rfl,rfl⟩,hst⟩:=h vals w (by rw[hs,hn]) c₀ cs hm
 exact⟨_,_,_,fr,⟨_,σ,I,rfl,rfl,hi,Grow.refl _ _ _,fun _ _ h=>h⟩,hst⟩
def fWn:Option AO→Bool
 |some (.cells [_] true)=>true
 |_=>false
theorem fSn {o:Option AO} (h:fWn o=true): ∃x,o=some (.cells [x] true):=by
 unfold fWn at h
 split at h
 ·exact⟨_,rfl⟩
 cases h
theorem dXx (x:AV):fWn (some (.cells [x] true))=true:=(rfl)
theorem fMe {P:Program} {rs:List ResultVar} {ch:List PanicEntry} {gI gP:List AV→H→Nat→Option (H×Nat)} {capsA:List AV} {r:AV} {t:S} {p:H×Nat} (h1:gP capsA t.hp t.cx=some p) (h2:aK (bV P rs {t with hp:=p.1}) (zB 4 p.1)=some r):fDc P rs ch gI gP capsA r (.panic ch) t:=⟨rfl,p,h1,h2⟩
theorem rO {P:Program} {rs:List ResultVar} {ch:List PanicEntry} {gI gP:List AV→H→Nat→Option (H×Nat)} {capsA:List AV} {r:AV} {t:S} {p:H×Nat} (h1:gI capsA t.hp t.cx=some p) (h2:aK (bV P rs {t with hp:=p.1}) (zB 4 p.1)=some r):fDc P rs ch gI gP capsA r .ret t:=⟨p,h1,h2⟩
theorem eKm (a b:AV) (hp:H) (nx:Nat):fQc 2 [a,b] hp nx=some (hp,nx):=eE _ rfl
theorem ePe {hp:H} {nx m i1 i2:Nat} {a c1 c2:AO} (hno: ∀id,nx≤id→hp id=none) (hm:nx≤m) (id:Nat) (o:AO) (h:upd (upd hp i1 c1) i2 c2 id=some o):upd (upd (upd hp m a) i1 c1) i2 c2 id=some o:=by
 simp only[bJ]at h⊢
 split
 ·rename_i e;rw[J4 e]at h;exact h
 rename_i e;rw[J3 e]at h
 split
 ·rename_i e;rw[J4 e]at h;exact h
 rename_i e;rw[J3 e]at h
 split
 ·rename_i e;rw[e,hno m hm]at h;cases h
 exact h
theorem dYm:ofV (.agg #[])=.agg []:=(rfl)
theorem fOk (ys:List AV):dV ys 0 []=ys:=by simp[dV,eG]
attribute [go_sem] dXx eKm dYm fOk
theorem isi55:uG Tryz.prog 55=false:=by kernel_rfl
theorem zc55:lA Tryz.prog 55=some []:=by kernel_rfl
theorem dYl (t:TypeId) (v:Value):ofV (.iface t v)=.v (.iface t v):=(rfl)
attribute [go_sem] isi55 zc55 dYl
def fLz:Option AO→Bool
 |some (.cells xs true)=>decide (xs.length=15)
 |_=>false
theorem fLy {o:Option AO} (h:fLz o=true): ∃xs,o=some (.cells xs true)∧xs.length=15:=by
 unfold fLz at h
 split at h
 ·exact⟨_,rfl,of_decide_eq_true h⟩
 cases h
theorem fNu (xs:List AV):fLz (some (.cells xs true))=decide (xs.length=15):=(rfl)
attribute [go_sem] fNu
theorem fNw (vals:Array Value) (w:World) (hs:vals.size=2):CallsD Tryz.prog 17 vals .returning w fun e u1 w'=>e=.returned (.tuple #[])∧u1=.returning∧w'=w:=by
 obtain⟨l⟩:=vals
 match l,hs with
 |[a,b],_=>
  refine callsD_of_wpS Tryz.func17 rfl fun c₀ cs hu=>?_
  apply wpS_seq
  apply wpS_region
  simp[wpOpsS,go_sem,recoverD,hu,Tryz.ntmps17,Exit.thenS]
  apply wpS_seq
  apply wpS_region
  simp[wpOpsS,go_sem,Tryz.ntmps17,Exit.thenS]
  refine wpS_cond (t:=false) (by simp[Act.eval,Array.replicate]) ?_
  simp only[Bool.false_eq_true,if_false]
  refine wpS_of_wp (wp_skip ?_)
  cases c₀
  simp_all [bodyPostS,results,Tryz.results17]
theorem fOx:bSj Tryz.prog GLh 17 .returning .returning (fQc 2):=dPj fNw
theorem fOd:fHm Tryz.prog 17:=⟨_,Tryz.func17,rfl,rfl⟩
def fMh:List AV→H→Nat→Option (H×Nat)
 |[.op i1 0,.op i2 0],hp,nx=>aN ((fLz (hp i1)=true∧fWn (hp i2)=true)∧i1≠i2∧i1<nx∧i2<nx) (some (upd (upd hp i1 (.cells z15 true)) i2 (.cells [.i 60] true),nx+30))
 |_,_,_=>none
theorem fMz (i1 i2 nx:Nat) (hp:H):fMh [.op i1 0,.op i2 0] hp nx=aN ((fLz (hp i1)=true∧fWn (hp i2)=true)∧i1≠i2∧i1<nx∧i2<nx) (some (upd (upd hp i1 (.cells z15 true)) i2 (.cells [.i 60] true),nx+30)):=(rfl)
attribute [go_sem] fMz
theorem fOj (xs:List AV) (h:xs.length=15) (a b c d e f g i j k l m n o p:AV):dV xs 0 [a,b,c,d,e,f,g,i,j,k,l,m,n,o,p]=[a,b,c,d,e,f,g,i,j,k,l,m,n,o,p]:=by
 unfold dV eG
 simp[List.drop_of_length_le,h]
set_option maxHeartbeats 4000000 in
theorem fMy:bSj Tryz.prog GLh 17 (.panicking chM) (.panicking [{v:=.iface 55 (.agg #[]),recovered:=true}]) fMh:=by
 refine fZ (rest:=(cr (aE Tryz.f17))) (rv:=.iface 55 (.agg #[])) (a:=5) (b:=2) Tryz.func17 rfl (.inl rfl) ⟨J1 rfl,J1 rfl⟩ ?_
 intro args hp nx hp' nx' hg
 unfold fMh at hg
 split at hg
 ·rename_i i1 i2
  replace hg:=aP hg;obtain⟨⟨⟨o1,o2⟩,n12,l1,l2⟩,hg⟩:=hg
  simp only[Option.some.injEq,Prod.mk.injEq]at hg;obtain⟨rfl,rfl⟩:=hg
  obtain⟨xs,h1,hx⟩:=fLy o1
  obtain⟨y,h2⟩:=fSn o2
  refine⟨J1 rfl,Nat.le_add_right _ _,fun hno=>?_⟩
  simp only[aOo]
  have hst:=fOj xs hx
  refine ySq (yRn [7,0,1,2] fun K hK=>?_)
  simp(disch:=omega) only[go_sem]
  refine hK _ (aB ?_)
  refine gLc rfl (fun h=>?_) (fun h=>?_)
  ·refine yDr (ySq (ySq (yRn [0,1,2,4] fun K hK=>?_)))
   simp(disch:=omega) only[go_sem]
   refine hK _ (aB ?_)
   refine ySq (yRn [14,0,1,2] fun K hK=>?_)
   simp(disch:=omega) only[go_sem]
   refine hK _ (aB ?_)
   refine iFd (ySk (aB (yRn [] fun K hK=>?_)))
   simp(disch:=omega) only[go_sem,h1,h2,hst,hx,List.getElem?_toArray]
   refine hK _ ?_
   exact⟨rfl,ePe hno (by omega),by simp only;omega⟩
  refine yDr ?_
  cases h
 cases hg
def msZ:AV:=.agg [.w16 0#16,.b false,.i 0,.b false,.b false,.b false,.b false,.i 0,.sl 0 [],.sl 0 [],.sl 0 [],.sl 0 [],.b false,.w16 0#16,.b false]
def rwT:Option (AV×List AV)→AV
 |none=> .tup [msZ,.i 60]
 |some (v,_)=> .tup [v,.i 0]
def rwG:List AV→Option AV
 |[.sl n xs]=>aK (fHq xs) fun b=>aN (b.length=n∧n≤65535∧MGd b) (some (rwT (mgR b)))
 |_=>none
theorem fNj (n:Nat) (xs:List AV):rwG [.sl n xs]=aK (fHq xs) fun b=>aN (b.length=n∧n≤65535∧MGd b) (some (rwT (mgR b))):=(rfl)
attribute [go_sem] fNj
theorem fLe (b:List B8):mgR b=none∨∃l e,mgR b=some (msA b l,[.sl b.length (c8 b),.i (e:Int)]):=by
 unfold mgR
 split
 ·exact .inl rfl
 rcases h:fJv b (c16 b 4) 12 []with _|⟨l,e⟩
 ·exact .inl rfl
 unfold mgX
 simp only
 split
 ·exact .inr ⟨l,e,rfl⟩
 exact .inl rfl
set_option maxHeartbeats 4000000 in
theorem fMo (b:List B8) (h100:b.length≤100000) (hmg:MGd b) {i nx cx:Nat} (hic:i+1<cx):
  Awp Tryz.prog GLh Tryz.f7.ntmps (cr (cr (cr (aE Tryz.f7)))) {fr:=[(9,.fn 17 [.op i 0,.op (i+1) 0]),(0,.sl b.length (c8 b)),(2,.op i 0),(3,.op (i+1) 0)],hp:=upd (upd (fun _=>none) i (.cells z15 true)) (i+1) (.cells [.i 0] true),nx:=nx,cx:=cx} (fDc Tryz.prog Tryz.f7.results.toList chM (fQc 2) fMh [.op i 0,.op (i+1) 0] (rwT (mgR b))):=by
 refine ySq (yRn [2,3,4] fun K hK=>?_)
 simp(disch:=omega) only[go_sem]
 refine hK _ (aB ?_)
 rcases fLe b with e2|⟨l,e,e2⟩
 ·refine ySq (dCn 1 (fJy) fOc (aH fNf aO) rfl rfl rfl (fun Z hZ=>?_))
  simp(disch:=omega) only[U0,U1,go_sem,bG,eq_self,true_and,and_true,bP,List.map_cons,List.map_nil,List.append_nil,h100,hmg,e2]
  refine hZ _ ?_;clear hZ Z
  refine fMe (gI:=fQc 2) (p:=_) (by simp(disch:=omega) only[go_sem,aV,kE,bY];exact eE _ ⟨rfl,by omega⟩) ?_
  rw[e2]
  simp(disch:=omega) only[bV,bK,bQ,go_sem,aV,bY,z15,rwT,msZ,J8,U0,U1,J9]
 refine ySq (yRg [2,3] (aH fNf aO) fun K hK=>?_)
 simp(disch:=omega) only[go_sem,h100,hmg,e2,msA,msC,msT,z15,List.cons_append,List.nil_append,List.set_cons_zero]
 refine hK _ (aB ?_)
 refine aS rfl (rO (gP:=fMh) (ch:=chM) (p:=_) (eKm _ _ _ _) ?_)
 rw[e2]
 simp(disch:=omega) only[bV,bK,bQ,go_sem,aV,bY,rwT,msA,msC,msT,List.cons_append,List.nil_append,J8,U0,U1,J9]
set_option maxHeartbeats 4000000 in
theorem fOm:fHn Tryz.prog GLh 7 rwG:=by
 refine fLc (r0:=(cl (aE Tryz.f7))) (r1:=(cl (cr (aE Tryz.f7)))) (C:=(cr (cr (cr (aE Tryz.f7))))) (k:=9) (d:=17) (caps:= #[.tmp 2,.tmp 3]) Tryz.func7 rfl (J1 rfl) fOd fOx fMy rfl ?_
 intro args r hg
 unfold rwG at hg
 split at hg
 ·rename_i n xs
  replace hg:=aJ hg;obtain⟨b,hl,hg⟩:=hg
  replace hg:=aP hg;obtain⟨⟨rfl,hnb,hmg⟩,hg⟩:=hg
  obtain rfl:=J0 hg
  have:=bW hl;subst this
  refine⟨J1 rfl,fun nx=>⟨[.op nx 0,.op (nx+1) 0],?_⟩⟩
  clear hl hg
  have h100:b.length≤100000:=by omega
  have d0:decide ((65535:Int)<(b.length:Int))=false:=J6 (by omega)
  refine yRn [0,2,3] fun K hK=>?_
  simp(disch:=omega) only[go_sem]
  refine hK _ (aB ?_)
  refine ySq (yRn [7,0,2,3] fun K hK=>?_)
  simp(disch:=omega) only[go_sem,d0]
  refine hK _ (aB ?_)
  refine iFd (ySk (⟨rfl,?_⟩))
  simp only[dBa]
  exact fMo b (by omega) hmg (by omega)
 cases hg
theorem fOn:bX Tryz.prog GLh 7 (.pure false rwG):=⟨⟨_,Tryz.func7,rfl,rfl⟩,fOm⟩
end Go.AX

namespace Go.AX
open Go Go.Proofs
def wl (ls:Nm):Nat:=1+(ls.map fun l=>l.length+1).sum
theorem fBj:wl []=1:=rfl
theorem eKu (l:List B8) (r:Nm):wl (l::r)=wl r+(l.length+1):=by unfold wl;simp only[List.map_cons,List.sum_cons];omega
def gZ (l:List B8):Prop:=1≤l.length∧l.length≤63
instance (l:List B8):Decidable (gZ l):=by unfold gZ;infer_instance
theorem eKw:ofV (Value.string {data:= #[]})=.s []:=(rfl)
end Go.AX

namespace Go.AX
open Go Go.Proofs
def ePy (l:List B8):List B8:=BitVec.ofInt 8 (l.length:Int)::l
def eRs (ps:List (List B8)):List B8:=ps.flatMap ePy
def fHk (ps:List (List B8)):List B8:=eRs ps++[0#8]
theorem fJr:eRs []=[]:=rfl
theorem eNx (p:List B8) (ps:List (List B8)):eRs (p::ps)=ePy p++eRs ps:=by simp[eRs]
theorem gX (p:List B8) (ps:List (List B8)):(eRs (p::ps)).length=p.length+1+(eRs ps).length:=by rw[eNx];simp[ePy];omega
theorem eNw (ps:List (List B8)) (k:Nat) (h:k<ps.length):eRs (ps.take (k+1))=eRs (ps.take k)++ePy (ps.getD k []):=by
 have e:ps.take (k+1)=ps.take k++[ps.getD k []]:=by rw[List.take_succ_eq_append_getElem h];simp[List.getD,List.getElem?_eq_getElem h,-List.take_append_getElem]
 rw[e];unfold eRs;rw[List.flatMap_append];simp only[List.flatMap_cons,List.flatMap_nil,List.append_nil]
theorem eOo (ps:List (List B8)):ps.length≤(eRs ps).length:=by
 induction ps with
 |nil=>simp
 |cons p ps ih=>rw[gX,List.length_cons];omega
theorem eMr (ps:List (List B8)) (k:Nat):(ps.getD k []).length≤(eRs ps).length:=by
 induction ps generalizing k with
 |nil=>simp
 |cons p ps ih=>
  rw[gX]
  cases k with
  |zero=>simp;omega
  |succ k=>have:=ih k;simp at this⊢;omega
theorem eRd (ps:List (List B8)) (k:Nat):(eRs (ps.take k)).length≤(eRs ps).length:=by
 induction ps generalizing k with
 |nil=>simp
 |cons p ps ih=>
  cases k with
  |zero=>simp[eRs]
  |succ k=>rw[U0,gX,gX];have:=ih k;omega
def wireG:List AV→Option (Nat×Nat×List AV)
 |[.sl n xs]=>aK (unS xs) fun ps=>aN (ps.length=n∧(eRs ps).length≤1000000) (some ((fHk ps).length,1,c8 (fHk ps)))
 |_=>none
theorem eTt (n:Nat) (xs:List AV):wireG [.sl n xs]=aK (unS xs) fun ps=>aN (ps.length=n∧(eRs ps).length≤1000000) (some ((fHk ps).length,1,c8 (fHk ps))):=(rfl)
attribute [go_sem] eTt
set_option maxHeartbeats 1000000 in
theorem eXn:dH Tryz.prog GLh 46 wireG:=by
 refine fJo Tryz.func46 (aT rfl) ?_
 intro args r hg
 unfold wireG at hg
 split at hg
 ·rename_i n xs
  replace hg:=aJ hg;obtain⟨ps,hb,hg⟩:=hg
  replace hg:=aP hg;obtain⟨⟨hn,hbig⟩,hg⟩:=hg
  obtain rfl:=J0 hg
  have:=gT hb;subst this
  subst hn
  clear hg hb
  refine⟨J1 rfl,fun nx=>?_⟩
  have hpn:=eOo ps
  refine ySq (yRn [0] fun K hK=>?_)
  simp(disch:=omega) only[go_sem]
  refine hK _ (aB ?_)
  refine ySq (yRn [0,3] fun K hK=>?_)
  simp(disch:=omega) only[go_sem]
  refine hK _ (aB ?_)
  refine ySq (ySq (yRn [3,6,7,8] fun K hK=>?_))
  simp(disch:=omega) only[go_sem]
  refine hK _ (aB ?_)
  refine iE 3 1 rfl (fPg [3,6,7,8] ?_)
  simp only[iB,fU,eW,↓reduceIte,Nat.reduceEqDiff]
  refine yBl 0 ?_
  refine bR (fun p:KIC=> {fr:=[(3,.os p.id 0 (eRs (ps.take p.k)).length 1 true),(6,.sl ps.length (cS ps)),(7,.i ps.length),(8,.i p.k)],hp:=upd (fun _=>none) p.id (.cells (c8 (eRs (ps.take p.k))) true),nx:=0,cx:=p.c}) (fun p=>p.k≤ps.length∧p.id<p.c) (fun p=>ps.length-p.k) rfl ⟨⟨0,_,_⟩,⟨Nat.zero_le _,by simp only;omega⟩,bD rfl rfl (U3 _)⟩ ?_
  rintro⟨k,id,c⟩ ⟨hk,hid⟩ n0
  simp only at hk hid⊢
  refine ySq (yRn [9,3,6,7,8] fun K hK=>?_)
  simp(disch:=omega) only[go_sem]
  refine hK _ (aB ?_)
  refine ySq (gLb rfl (fun h=>?_) (fun h=>?_))
  ·refine yDr ?_
   have hkl:k<ps.length:=by omega
   have ht:=eRd ps k
   have hm:=eMr ps k
   refine ySk (aB (ySq (yBl 1 (ySq (yRn [3,5,6,7,8] fun K hK=>?_)))))
   simp(disch:=omega) only[go_sem]
   refine hK _ (aB ?_)
   generalize hl:ps.getD k []=l at hm
   refine yRn [3,6,7,8] fun K hK=>?_
   simp(disch:=omega) only[go_sem]
   refine hK _ (bU (aB ?_))
   have e6:eRs (ps.take (k+1))=eRs (ps.take k)++[BitVec.ofInt 8 (l.length:Int)]++l:=by rw[eNw ps k hkl,hl];simp[ePy]
   have e7:(eRs (ps.take (k+1))).length=(eRs (ps.take k)).length+1+l.length:=by rw[e6];simp;omega
   refine yRn [3,6,7,8] fun K hK=>?_
   simp(disch:=omega) only[go_sem]
   refine hK _ (bT ?_)
   refine⟨⟨k+1,c+1+3+7,_⟩,⟨by simp only;omega,by simp only;omega⟩,by simp only;omega,⟨fun _=> .inr ?_,fun j o h=>?_,U3 _⟩⟩
   ·simp only[e7,Int.natCast_add,Int.natCast_one]
   simp only at h
   exact bS (by simp(disch:=omega) only[aV,↓reduceIte,eq_self,e6]) (fKa) j o h
  refine yDr (yEx 0 (aY (aZ (bE (aB (ySq ?_))))))
  obtain rfl:k=ps.length:=by omega
  have e8:ps.take ps.length=ps:=List.take_length
  have e9:(fHk ps).length=(eRs ps).length+1:=by simp[fHk]
  have ew:eRs ps++[0#8]=fHk ps:=rfl
  refine yRn [2] fun K hK=>?_
  simp(disch:=omega) only[go_sem,e8,ew]
  refine hK _ (aB ?_)
  refine aS rfl ?_
  simp(disch:=omega) only[fPz,fRw,bV,bK,bQ,go_sem,fQ,e9]
 cases hg
theorem eVk:bX Tryz.prog GLh 46 (.fresh true wireG):=⟨⟨_,Tryz.func46,rfl,rfl⟩,eXn⟩
end Go.AX

namespace Go.AX
open Go Go.Proofs
def okN (n:Nm):Prop:=(∀l∈n,gZ l)∧wl n≤255
instance (n:Nm):Decidable (okN n):=by unfold okN;infer_instance
theorem fSi: ∀(n:Nm),(∀l∈n,gZ l)→2*n.length+1≤wl n
 |[],_=>U3 _
 |l::r,h=>by
  rw[eKu,List.length_cons]
  have:=fSi r fun x hx=>h x (by simp[hx])
  have:=(h l (by simp)).1
  omega
theorem eYr {n:Nm} (h:okN n):n.length≤127:=by
 have:=fSi n h.1
 have:=h.2
 omega
end Go.AX

namespace Go.AX
open Go Go.Proofs
set_option maxRecDepth 8000
theorem aTj {a b:List B8} (h:c8 a=c8 b):a=b:=by
 have:=congrArg fHq h
 rw[iA,iA]at this
 exact J0 this
theorem lI {hp:H} {nx d:Nat} {o:AO} (hn: ∀id,nx≤id→hp id=none) (h:hp d=some o):d<nx:=by
 rcases Nat.lt_or_ge d nx with e|e
 ·exact e
 rw[hn d e]at h;cases h
structure fIz (hp:H) (w q:Nat) (b:List B8) (m:AV):Prop where
 hw:hp w=some (.cells [.os q 0 b.length 1 true,m] true)
 hq:hp q=some (.cells (c8 b) true)
 ne:w≠q
def fHw (w q:Nat) (b:List B8) (m:AV) (hp:H):H:=upd (upd hp q (.cells (c8 b) true)) w (.cells [.os q 0 b.length 1 true,m] true)
structure WT where
 q:Nat
 b:List B8
 m:AV
theorem fIz.uniq {hp:H} {w q q':Nat} {b b':List B8} {m m':AV} (h:fIz hp w q b m) (h':fIz hp w q' b' m'):q=q'∧b=b'∧m=m':=by
 have e:=(AO.cells.inj (J0 (h.hw.symm.trans h'.hw))).1
 simp only[List.cons.injEq,AV.os.injEq,and_true,true_and]at e
 obtain⟨⟨rfl,_⟩,rfl⟩:=e
 exact⟨rfl,aTj (AO.cells.inj (J0 (h.hq.symm.trans h'.hq))).1,rfl⟩
open Classical in
noncomputable def fKr (hp:H) (w:Nat):Option WT:=if h: ∃t:WT,fIz hp w t.q t.b t.m then some (Classical.choose h)else none
theorem yQ {hp:H} {w q:Nat} {b:List B8} {m:AV} (h:fIz hp w q b m):fKr hp w=some ⟨q,b,m⟩:=by
 have hx: ∃t:WT,fIz hp w t.q t.b t.m:=⟨⟨q,b,m⟩,h⟩
 unfold fKr
 rw[dif_pos hx]
 have h2:=Classical.choose_spec hx
 obtain⟨e1,e2,e3⟩:=h2.uniq h
 congr 1
 generalize Classical.choose hx=t at e1 e2 e3
 cases t;simp only at e1 e2 e3;rw[e1,e2,e3]
theorem fLk {hp:H} {w:Nat} {t:WT} (h:fKr hp w=some t):fIz hp w t.q t.b t.m:=by
 unfold fKr at h
 split at h
 ·rename_i hx
  obtain rfl:=J0 h
  exact Classical.choose_spec hx
 cases h
theorem fJh {hp:H} {w q:Nat} {b:List B8} {m:AV} (h:w≠q):fIz (fHw w q b m hp) w q b m:=
 ⟨by simp[fHw,bJ],by simp[fHw,bJ,Ne.symm h],h⟩
theorem fHv {hp:H} {w q:Nat} {b:List B8} {m:AV} {k:Nat} (h1:k≠w) (h2:k≠q):fHw w q b m hp k=hp k:=by simp[fHw,bJ,h1,h2]
theorem fJg {hp g:H} {w q:Nat} {b:List B8} {m:AV} (h:fIz g w q b m) (hs: ∀j o,j≠w→j≠q→hp j=some o→g j=some o): ∀j o,fHw w q b m hp j=some o→g j=some o:=by
 intro j o hj
 simp only[fHw,bJ]at hj
 split at hj
 ·rename_i e;rw[e,h.hw];exact hj
 split at hj
 ·rename_i e;rw[e,h.hq];exact hj
 exact hs j o (by assumption) (by assumption) hj
def nqI (q nx:Nat):Nat→Nat
 |0=>q
 |j+1=>nx+17+21*j
theorem fHr (q nx j:Nat):nqI q nx (j+1)=nx+17+21*j:=rfl
noncomputable def fHp:List AV→H→Nat→Option (AV×H×Nat)
 |[.op w 0,.w32 x,.i k],hp,nx=>aK (fKr hp w) fun t=>aN (0≤k∧k≤8∧t.b.length≤1000000)
   (some (.tup [],fHw w (nqI t.q nx k.toNat) (t.b++beL x k.toNat k.toNat) t.m (del hp t.q),nx+400))
 |_,_,_=>none
theorem fLl (w:Nat) (x:W32) (k:Int) (hp:H) (nx:Nat):fHp [.op w 0,.w32 x,.i k] hp nx=aK (fKr hp w) fun t=>aN (0≤k∧k≤8∧t.b.length≤1000000)
   (some (.tup [],fHw w (nqI t.q nx k.toNat) (t.b++beL x k.toNat k.toNat) t.m (del hp t.q),nx+400)):=(rfl)
attribute [go_sem] fLl
structure WNI where
 j:Nat
 g:H
 c:Nat
set_option maxHeartbeats 4000000 in
theorem fMk:fHs Tryz.prog GLh 26 fHp:=by
 refine fVw Tryz.func26 (aT rfl) ?_
 intro args hp nx r hp' nx' hg
 unfold fHp at hg
 split at hg
 ·rename_i w x k0
  replace hg:=aJ hg;obtain⟨⟨q,b,m⟩,hW0,hg⟩:=hg
  have hW:=fLk hW0
  replace hg:=aP hg;obtain⟨⟨hk1,hk8,hb⟩,hg⟩:=hg
  simp only[Option.some.injEq,Prod.mk.injEq]at hg hW hb;obtain⟨rfl,rfl,rfl⟩:=hg
  obtain⟨k,rfl⟩:=Int.eq_ofNat_of_zero_le hk1
  simp only[U2]at*
  refine⟨J1 rfl,by omega,fun hnone=>?_⟩
  have hlt: ∀k o,hp k=some o→k<nx:=fun k o hk=>lI hnone hk
  have hwl:=hlt _ _ hW.hw
  have hql:=hlt _ _ hW.hq
  have hne:=hW.ne
  refine ySq (yRn [0,1,6] fun K hK=>?_)
  simp(disch:=omega) only[go_sem]
  refine hK _ (aB ?_)
  refine yBl 0 ?_
  refine bR (fun p:WNI=> {fr:=[(0,.op w 0),(1,.w32 x),(6,.i ((k:Int)-1-(p.j:Int)))],hp:=p.g,nx:=0,cx:=p.c}) (fun p=>p.j≤k∧p.c=nx+3+21*p.j∧fIz p.g w (nqI q nx p.j) (b++beL x k p.j) m∧(∀j o,j≠w→j≠q→hp j=some o→p.g j=some o)) (fun p=>k-p.j) rfl ⟨⟨0,hp,_⟩,⟨Nat.zero_le _,rfl,by simp only[beL,List.append_nil];exact hW,fun j o _ _ h=>h⟩,bD (by simp only[Int.natCast_zero,Int.sub_zero]) rfl (U3 _)⟩ ?_
  rintro⟨j,g,c⟩ ⟨hj,hc,hWj,hsub⟩ n0
  simp only at hj hc hWj hsub⊢
  refine ySq (ySq (yRn [10,0,1,6] fun K hK=>?_))
  simp(disch:=omega) only[go_sem]
  refine hK _ (aB ?_)
  refine gLb rfl (fun h=>?_) (fun h=>?_)
  ·refine yDr ?_
   have hjk:j<k:=by omega
   have es:(BitVec.ofInt 64 (8*((k:Int)-1-(j:Int)))).toNat=8*(k-1-j):=by rw[BitVec.toNat_ofInt];omega
   have h1:=hWj.hw
   have h2:=hWj.hq
   have h3:=hWj.ne
   have hbl:(b++beL x k j).length=b.length+j:=by rw[List.length_append,cZ]
   have hnext:b++beL x k j++[(x>>>(8*(k-1-j))).setWidth 8]=b++beL x k (j+1):=by rw[beL,List.append_assoc]
   have hqq:nqI q nx j=q∨nx≤nqI q nx j:=by
    cases j with
    |zero=>exact .inl rfl
    |succ j=>right;rw[fHr];omega
   have hqc:nqI q nx j<c:=by
    cases j with
    |zero=>show q<c;omega
    |succ j=>rw[fHr];omega
   clear h
   refine ySk (aB (ySq (yBl 1 (yRn [0,1,6] fun K hK=>?_))))
   simp(disch:=omega) only[go_sem,h1,h2,hbl,es,hnext,J8,List.set_cons_zero,U0,U1,J9]
   refine hK _ (bU (aB ?_))
   refine yRn [0,1,6] fun K hK=>?_
   simp(disch:=omega) only[go_sem]
   refine hK _ (bT ?_)
   have e17:nqI q nx (j+1)=c+2+12:=by rw[fHr];omega
   have hbl2:(b++beL x k (j+1)).length=b.length+j+1:=by rw[List.length_append,cZ];omega
   have e2:(k:Int)-1-((j:Int)+1)=(k:Int)-1-(j:Int)-1:=by omega
   obtain⟨g',hg'⟩: ∃y,upd (upd (del (upd g (c+2+11) (.cells [.w8 ((x>>>(8*(k-1-j))).setWidth 8)] true)) (nqI q nx j)) (c+2+12) (.cells (c8 (b++beL x k (j+1))) true)) w (.cells [.os (c+2+12) 0 (b.length+j+1) 1 true,m] true)=y:=⟨_,rfl⟩
   rw[hg']
   refine⟨⟨j+1,g',_⟩,⟨by simp only;omega,by simp only;omega,?_,fun i o i1 i2 hi=>?_⟩,by simp only;omega,bD ?_ rfl (U3 _)⟩
   ·simp only
    rw[e17]
    exact⟨by rw[←hg',bJ,J4 rfl,hbl2],by rw[←hg',bJ,J3 (by omega),bJ,J4 rfl],by omega⟩
   ·have:=hlt i o hi
    show g' i=some o
    rw[←hg',bJ,J3 i1,bJ,J3 (by omega),eV,J3 (by omega),bJ,J3 (by omega)]
    exact hsub i o i1 i2 hi
   simp only[Int.natCast_add,Int.natCast_one,e2]
  refine yDr ?_
  obtain rfl:j=k:=by omega
  refine yEx 0 (aY (aZ (bE ?_)))
  refine⟨rfl,fJg hWj (fun i o i1 i2 hi=>?_),by simp only;omega⟩
  rw[eV]at hi
  split at hi
  ·cases hi
  rename_i i3;exact hsub i o i1 i3 hi
 cases hg
theorem fHt:bX Tryz.prog GLh 26 (.heap fHp):=⟨⟨_,Tryz.func26,rfl,rfl⟩,fMk⟩
end Go.AX

namespace Go.AX
open Go Go.Proofs
set_option maxRecDepth 8000
abbrev WF:=List (List B8×Nat)
def fJe (F:WF):List (AV×AV):=F.map fun p=>(.s p.1,.i p.2)
theorem fKc (k:List B8) (F:WF):aNp (.s k) (fJe F)=some ((iK k F).map fun n=> .i n):=aNo .s fNh (fun n:Nat=> .i n) k F
theorem fMa (k:List B8) (n:Nat) (F:WF):aEh (.s k) (.i n) (fJe F)=some (fJe (kT k n F)):=aNm .s fNh (fun n:Nat=> .i n) k n F
theorem fMb {F G:WF} (h:fJe F=fJe G):F=G:=by
 unfold fJe at h
 exact(List.map_inj_right (fun a b e=>by
  have e1:=(Prod.mk.injEq ..▸e:_∧_)
  obtain⟨e1,e2⟩:=e1
  cases a;cases b
  simp only[AV.s.injEq]at e1
  simp only[AV.i.injEq,Int.ofNat_inj]at e2
  rw[e1,e2])).1 h
structure W3 (hp:H) (w q m:Nat) (b:List B8) (F:WF):Prop where
 h:fIz hp w q b (.mp m)
 hm:hp m=some (.mapo (fJe F) true)
 n1:m≠w
 n2:m≠q
def fIb (w q m:Nat) (b:List B8) (F:WF) (hp:H):H:=fHw w q b (.mp m) (upd hp m (.mapo (fJe F) true))
structure W3T where
 q:Nat
 m:Nat
 b:List B8
 F:WF
theorem W3.uniq {hp:H} {w q q' m m':Nat} {b b':List B8} {F F':WF} (h:W3 hp w q m b F) (h':W3 hp w q' m' b' F'):q=q'∧m=m'∧b=b'∧F=F':=by
 obtain⟨rfl,rfl,e⟩:=h.h.uniq h'.h
 obtain rfl:=AV.mp.inj e
 exact⟨rfl,rfl,rfl,fMb (AO.mapo.inj (J0 (h.hm.symm.trans h'.hm))).1⟩
open Classical in
noncomputable def fJt (hp:H) (w:Nat):Option W3T:=if h: ∃t:W3T,W3 hp w t.q t.m t.b t.F then some (Classical.choose h)else none
theorem fIa {hp:H} {w q m:Nat} {b:List B8} {F:WF} (h:W3 hp w q m b F):fJt hp w=some ⟨q,m,b,F⟩:=by
 have hx: ∃t:W3T,W3 hp w t.q t.m t.b t.F:=⟨⟨q,m,b,F⟩,h⟩
 unfold fJt
 rw[dif_pos hx]
 have h2:=Classical.choose_spec hx
 obtain⟨e1,e2,e3,e4⟩:=h2.uniq h
 congr 1
 generalize Classical.choose hx=t at e1 e2 e3 e4
 cases t;simp only at e1 e2 e3 e4;rw[e1,e2,e3,e4]
theorem fJs {hp:H} {w:Nat} {t:W3T} (h:fJt hp w=some t):W3 hp w t.q t.m t.b t.F:=by
 unfold fJt at h
 split at h
 ·rename_i hx
  obtain rfl:=J0 h
  exact Classical.choose_spec hx
 cases h
theorem fKy {hp:H} {w q m:Nat} {b:List B8} {F:WF} (h:w≠q) (h1:m≠w) (h2:m≠q):W3 (fIb w q m b F hp) w q m b F:=
 ⟨fJh h,by unfold fIb;rw[fHv h1 h2,bJ,J4 rfl],h1,h2⟩
theorem fKz {hp:H} {w q m:Nat} {b:List B8} {F:WF} {k:Nat} (h1:k≠w) (h2:k≠q) (h3:k≠m):fIb w q m b F hp k=hp k:=by
 unfold fIb;rw[fHv h1 h2,bJ,J3 h3]
theorem fHx {hp g:H} {w q m:Nat} {b:List B8} {F:WF} (h:W3 g w q m b F) (hs: ∀j o,j≠w→j≠q→j≠m→hp j=some o→g j=some o): ∀j o,fIb w q m b F hp j=some o→g j=some o:=
 fJg h.h fun j o h1 h2 hj=>by
  rw[bJ]at hj
  split at hj
  ·rename_i e;rw[e,h.hm];exact hj
  exact hs j o h1 h2 (by assumption) hj
theorem W3.num {hp:H} {w q m q':Nat} {b b':List B8} {F:WF} (h:W3 hp w q m b F) (hw:w≠q') (hm:m≠q'):W3 (fHw w q' b' (.mp m) (del hp q)) w q' m b' F:=
 ⟨fJh hw,by rw[fHv h.n1 hm,eV,J3 h.n2];exact h.hm,h.n1,hm⟩
def wnS:Nm→List B8→WF→List B8×WF×Nat
 |[],b,F=>(b++[0#8],F,0)
 |l::r,b,F=>match iK (fHk (l::r)) F with
  |some a=>(b++beL (49152#32|||BitVec.ofInt 32 (a:Int)) 2 2,F,r.length+1)
  |none=>wnS r (b++ePy l) (if b.length<16384 then kT (fHk (l::r)) b.length F else F)
def wnQ (nx n k:Nat):Nat:=if k=0 then nx+2000*n+1006 else nx+2000*(n-k)+1043
def fJx:AV→Option Nm
 | .sl n xs=>aK (unS xs) fun ps=>aN (ps.length=n) (some ps)
 | .v (.slice none 0 0)=>some []
 |_=>none
theorem fMt (n:Nat) (xs:List AV):fJx (.sl n xs)=aK (unS xs) fun ps=>aN (ps.length=n) (some ps):=(rfl)
theorem fLv {x:AV} {ps:Nm} (h:fJx x=some ps):x=.sl ps.length (cS ps)∨(x=.v (.slice none 0 0)∧ps=[]):=by
 unfold fJx at h
 split at h
 ·replace h:=aJ h;obtain⟨qs,hq,h⟩:=h
  replace h:=aP h;obtain⟨rfl,h⟩:=h
  obtain rfl:=J0 h
  have:=gT hq;subst this
  exact .inl rfl
 ·obtain rfl:=J0 h
  exact .inr ⟨rfl,rfl⟩
 cases h
noncomputable def fIf:List AV→H→Nat→Option (AV×H×Nat)
 |[.op w 0,x],hp,nx=>aK (fJt hp w) fun t=>aK (fJx x) fun ps=>aN (ps.length≤255∧t.b.length+(eRs ps).length≤900000)
   (some (.tup [],fIb w (wnQ nx ps.length (wnS ps t.b t.F).2.2) t.m (wnS ps t.b t.F).1 (wnS ps t.b t.F).2.1 (del hp t.q),nx+2000*(ps.length+1)))
 |_,_,_=>none
theorem fKs (w:Nat) (x:AV) (hp:H) (nx:Nat):fIf [.op w 0,x] hp nx=aK (fJt hp w) fun t=>aK (fJx x) fun ps=>aN (ps.length≤255∧t.b.length+(eRs ps).length≤900000)
   (some (.tup [],fIb w (wnQ nx ps.length (wnS ps t.b t.F).2.2) t.m (wnS ps t.b t.F).1 (wnS ps t.b t.F).2.1 (del hp t.q),nx+2000*(ps.length+1))):=(rfl)
attribute [go_sem] fMt
attribute [go_sem] fKs
theorem fKu (ps:List (List B8)) (k:Nat) (h:k<ps.length):eRs (ps.drop k)=ePy (ps.getD k [])++eRs (ps.drop (k+1)):=by
 rw[List.drop_eq_getElem_cons h,eNx];simp[List.getD,List.getElem?_eq_getElem h]
theorem eTh (ps:Nm) (k:Nat) (h:k<ps.length):ps.drop k=ps.getD k []::ps.drop (k+1):=by
 rw[List.drop_eq_getElem_cons h];simp[List.getD,List.getElem?_eq_getElem h]
theorem kU {P:Program} {GL:Nat→Option (List AV)} {nt:Nat} {code:Code} {Q:Exit→S→Prop} {fr:List (Nat×AV)} {hp:H} {nx cx:Nat} (cx':Nat) (hc:cx≤cx')
  (h:Awp P GL nt code {fr:=fr,hp:=hp,nx:=nx,cx:=cx'} Q):Awp P GL nt code {fr:=fr,hp:=hp,nx:=nx,cx:=cx} Q:=tU h ⟨fun _=> .inr rfl,fun _ _ h=>h,hc⟩ rfl
theorem fId {hp:H} {q j:Nat} {o:AO} (h:del hp q j=some o):j≠q∧hp j=some o:=by
 rw[eV]at h
 split at h
 ·cases h
 exact⟨by assumption,h⟩
theorem W3.upM {hp:H} {w q m:Nat} {b:List B8} {F G:WF} (h:W3 hp w q m b F):W3 (upd hp m (.mapo (fJe G) true)) w q m b G:=
 ⟨⟨by rw[bJ,J3 (Ne.symm h.n1)];exact h.h.hw,by rw[bJ,J3 (Ne.symm h.n2)];exact h.h.hq,h.h.ne⟩,by rw[bJ,J4 rfl],h.n1,h.n2⟩
theorem fJq {l:List B8} {r:Nm} {b:List B8} {F:WF} {a:Nat} (h:iK (fHk (l::r)) F=some a):wnS (l::r) b F=(b++beL (49152#32|||BitVec.ofInt 32 (a:Int)) 2 2,F,r.length+1):=by
 rw[wnS,h]
theorem fIg {l:List B8} {r:Nm} {b:List B8} {F:WF} (h:iK (fHk (l::r)) F=none):wnS (l::r) b F=wnS r (b++ePy l) (if b.length<16384 then kT (fHk (l::r)) b.length F else F):=by
 rw[wnS,h]
structure WMI where
 k:Nat
 g:H
 q:Nat
 b:List B8
 F:WF
set_option maxHeartbeats 4000000 in
theorem fLm:fHs Tryz.prog GLh 28 fIf:=by
 refine fVw Tryz.func28 (aT rfl) ?_
 intro args hp nx r hp' nx' hg
 unfold fIf at hg
 split at hg
 ·rename_i w x
  replace hg:=aJ hg;obtain⟨⟨q,m,b,F⟩,hW0,hg⟩:=hg
  have hW:=fJs hW0
  replace hg:=aJ hg;obtain⟨ps,hl,hg⟩:=hg
  replace hg:=aP hg;obtain⟨⟨hn,hbig⟩,hg⟩:=hg
  simp only[Option.some.injEq,Prod.mk.injEq]at hg hW hbig;obtain⟨rfl,rfl,rfl⟩:=hg
  refine⟨J1 rfl,by omega,fun hnone=>?_⟩
  have hlt: ∀k o,hp k=some o→k<nx:=fun k o hk=>lI hnone hk
  have hwl:=hlt _ _ hW.h.hw
  have hql:=hlt _ _ hW.h.hq
  have hml:=hlt _ _ hW.hm
  obtain⟨n1,n2⟩:=And.intro hW.n1 hW.n2
  rcases fLv hl with rfl|⟨rfl,rfl⟩
  ·refine ySq (ySq (yRn [0,1,9,10] fun K hK=>?_))
   simp(disch:=omega) only[go_sem]
   refine hK _ (aB ?_)
   refine yBl 0 ?_
   refine bR (fun p:WMI=> {fr:=[(0,.op w 0),(1,.sl ps.length (cS ps)),(9,.i ps.length),(10,.i p.k)],hp:=p.g,nx:=0,cx:=nx+100+2000*p.k}) (fun p=>p.k≤ps.length∧wnS (ps.drop p.k) p.b p.F=wnS ps b F∧W3 p.g w p.q m p.b p.F∧(∀j o,j≠w→j≠q→j≠m→hp j=some o→p.g j=some o)∧(p.q=q∨nx≤p.q)∧p.q<nx+100+2000*p.k∧p.b.length+(eRs (ps.drop p.k)).length=b.length+(eRs ps).length) (fun p=>ps.length-p.k) rfl ⟨⟨0,hp,q,b,F⟩,⟨Nat.zero_le _,rfl,hW,fun j o _ _ _ h=>h,.inl rfl,by simp only;omega,rfl⟩,bD rfl rfl (by simp only;omega)⟩ ?_
   rintro⟨k,g,q1,b1,F1⟩ ⟨hk,hS,hW1,hsub,hq1,hqc,hlen⟩ n0
   simp only at hk hS hW1 hsub hq1 hqc hlen⊢
   refine ySq (yRn [11,0,1,9,10] fun K hK=>?_)
   simp(disch:=omega) only[go_sem]
   refine hK _ (aB ?_)
   refine ySq (gLb rfl (fun h=>?_) (fun h=>?_))
   ·refine yDr ?_
    have hkl:k<ps.length:=by omega
    have hwd:=fKu ps k hkl
    have hpd:=eTh ps k hkl
    have hdl:(ps.drop k).length=ps.length-k:=List.length_drop
    have hwb:(eRs (ps.drop k)).length≤900000:=by omega
    have hX: ∀X o,nx+100+2000*k<X→W3 (upd g X o) w q1 m b1 F1∧∀j o',j≠w→j≠q→j≠m→hp j=some o'→upd g X o j=some o':=by
     intro X o hXk
     refine⟨⟨⟨?_,?_,hW1.h.ne⟩,?_,hW1.n1,hW1.n2⟩,fun j o' j1 j2 j3 hj=>?_⟩
     ·rw[bJ,J3 (by omega)];exact hW1.h.hw
     ·rw[bJ,J3 (by omega)];exact hW1.h.hq
     ·rw[bJ,J3 (by omega)];exact hW1.hm
     have:=hlt j o' hj
     rw[bJ,J3 (by omega)];exact hsub j o' j1 j2 j3 hj
    clear h
    refine ySk (aB (ySq (yBl 1 (ySq (yRn [0,1,4,9,10] fun K hK=>?_)))))
    simp(disch:=omega) only[go_sem]
    refine hK _ (aB ?_)
    refine ySq (yRg [0,1,4,5,9,10] (aH eVk aO) fun K hK=>?_)
    simp(disch:=omega) only[go_sem,hdl]
    refine hK _ (aB ?_)
    obtain⟨hW2,hsub2⟩:=hX (nx+100+2000*k+1+2+3) (AO.cells (c8 (fHk (ps.drop k))) true) (by omega)
    obtain⟨g2,hg2⟩: ∃y,upd g (nx+100+2000*k+1+2+3) (AO.cells (c8 (fHk (ps.drop k))) true)=y:=⟨_,rfl⟩
    rw[hg2]at hW2 hsub2⊢
    clear hX hg2 hW1 hsub
    have h1:=hW2.h.hw
    have h2:=hW2.h.hq
    have h3:=hW2.hm
    have h4:=hW2.h.ne
    rcases hgk:iK (fHk (ps.drop k)) F1 with _|a
    ·refine ySq (ySq (yRn [0,1,4,5,6,7,9,10] fun K hK=>?_))
     simp(disch:=omega) only[go_sem,h1,h3,fKc,hgk,Option.map_none]
     refine hK _ (aB ?_)
     refine ySq (yRn [27,0,1,4,5,6,9,10] fun K hK=>?_)
     simp(disch:=omega) only[go_sem]
     refine hK _ (aB ?_)
     refine iFd (ySk (aB (ySq (ySq (yRn [38,0,1,4,5,9,10] fun K hK=>?_)))))
     simp(disch:=omega) only[go_sem,h1]
     refine hK _ (aB ?_)
     refine gLb rfl (fun h=>?_) (fun h=>?_)
     ·refine yDr ?_
      have hb14:b1.length<16384:=by omega
      clear h
      refine bB (Γ:=aL) (fun _=>2) [0,1,4,9,10] bZ (aD _ _) rfl rfl rfl (by kernel_rfl) (fun K hK=>?_)
      simp(disch:=omega) only[go_sem,h1,h3,fMa]
      refine hK _ (aB ?_)
      obtain⟨F2,g3,hS3,hW3,hsub3,hg3⟩: ∃F2 g3,wnS (ps.drop (k+1)) (b1++ePy (ps.getD k [])) F2=wnS ps b F∧W3 g3 w q1 m b1 F2∧(∀j o',j≠w→j≠q→j≠m→hp j=some o'→g3 j=some o')∧upd g2 m (AO.mapo (fJe (kT (fHk (List.drop k ps)) b1.length F1)) true)=g3:=
       ⟨kT (fHk (List.drop k ps)) b1.length F1,_,by rw[←hS,hpd,fIg (hpd▸hgk),J4 hb14,←hpd],hW2.upM,fun j o' j1 j2 j3 hj=>by rw[bJ,J3 j3];exact hsub2 j o' j1 j2 j3 hj,rfl⟩
      first|rw[hg3]|(obtain rfl:=hg3)
      clear hS hW2 hsub2 h1 h2 h3 hg3
      have h1:=hW3.h.hw
      have h2:=hW3.h.hq
      have hlab:b1.length+1+(ps.getD k []).length≤900000:=by
       have:=congrArg List.length hwd
       simp only[List.length_append,ePy,List.length_cons]at this
       omega
      refine kU (nx+2000*k+200) (by omega) ?_
      have e6:b1++[BitVec.ofInt 8 ((ps.getD k []).length:Int)]++ps.getD k []=b1++ePy (ps.getD k []):=by simp[ePy]
      have hbl3:(b1++ePy (ps.getD k [])).length=b1.length+1+(ps.getD k []).length:=by simp only[List.length_append,ePy,List.length_cons];omega
      have hlen3:(b1++ePy (ps.getD k [])).length+(eRs (ps.drop (k+1))).length=b.length+(eRs ps).length:=by
       rw[←hlen,hwd,List.length_append,List.length_append,Nat.add_assoc]
      refine bB (Γ:=aL) (fun k=>if k=8 then 1 else if k=16 then 1 else 2) [0,1,9,10] bZ (aD _ _) rfl rfl rfl (by kernel_rfl) (fun K hK=>?_)
      simp(disch:=omega) only[go_sem,h1,h2,e6]
      refine hK _ (bU (aB ?_))
      refine yRn [0,1,9,10] fun K hK=>?_
      simp(disch:=omega) only[go_sem]
      refine hK _ (bT ?_)
      obtain⟨g',hg'⟩: ∃y,upd (upd (del (upd (del (upd g3 (nx+2000*k+200+11) (AO.cells [AV.w8 (BitVec.ofInt 8 ((ps.getD k []).length:Int))] true)) q1) (nx+2000*k+200+12) (AO.cells (c8 (b1++[BitVec.ofInt 8 ((ps.getD k []).length:Int)])) true)) (nx+2000*k+200+12)) (nx+2000*k+200+17) (AO.cells (c8 (b1++ePy (ps.getD k []))) true)) w (AO.cells [AV.os (nx+2000*k+200+17) 0 (b1.length+1+(ps.getD k []).length) 1 true,AV.mp m] true)=y:=⟨_,rfl⟩
      rw[hg']
      refine⟨⟨k+1,g',nx+2000*k+200+17,b1++ePy (ps.getD k []),F2⟩,⟨by simp only;omega,hS3,⟨⟨?_,?_,?_⟩,?_,hW3.n1,?_⟩,fun j o j1 j2 j3 hj=>?_,.inr (by simp only;omega),by simp only;omega,hlen3⟩,by simp only;omega,bD ?_ rfl (by simp only;omega)⟩
      ·simp only;rw[←hg',bJ,J4 rfl,hbl3]
      ·simp only;rw[←hg',bJ,J3 (by omega),bJ,J4 rfl]
      ·simp only;omega
      ·simp only;rw[←hg',bJ,J3 (by omega),bJ,J3 (by omega),eV,J3 (by omega),bJ,J3 (by omega),eV,J3 hW3.n2,bJ,J3 (by omega)];exact hW3.hm
      ·simp only;omega
      ·have:=hlt j o hj
       simp only;rw[←hg',bJ,J3 j1,bJ,J3 (by omega),eV,J3 (by omega),bJ,J3 (by omega),eV,J3 (by omega),bJ,J3 (by omega)];exact hsub3 j o j1 j2 j3 hj
      simp only[Int.natCast_add,Int.natCast_one]
     refine yDr ?_
     have hb14: ¬b1.length<16384:=by omega
     clear h
     refine ySk (aB ?_)
     obtain⟨F2,g3,hS3,hW3,hsub3,hg3⟩: ∃F2 g3,wnS (ps.drop (k+1)) (b1++ePy (ps.getD k [])) F2=wnS ps b F∧W3 g3 w q1 m b1 F2∧(∀j o',j≠w→j≠q→j≠m→hp j=some o'→g3 j=some o')∧g2=g3:=
      ⟨F1,_,by rw[←hS,hpd,fIg (hpd▸hgk),J3 hb14],hW2,hsub2,rfl⟩
     first|rw[hg3]|(obtain rfl:=hg3)
     clear hS hW2 hsub2 h1 h2 h3 hg3
     have h1:=hW3.h.hw
     have h2:=hW3.h.hq
     have hlab:b1.length+1+(ps.getD k []).length≤900000:=by
      have:=congrArg List.length hwd
      simp only[List.length_append,ePy,List.length_cons]at this
      omega
     refine kU (nx+2000*k+200) (by omega) ?_
     have e6:b1++[BitVec.ofInt 8 ((ps.getD k []).length:Int)]++ps.getD k []=b1++ePy (ps.getD k []):=by simp[ePy]
     have hbl3:(b1++ePy (ps.getD k [])).length=b1.length+1+(ps.getD k []).length:=by simp only[List.length_append,ePy,List.length_cons];omega
     have hlen3:(b1++ePy (ps.getD k [])).length+(eRs (ps.drop (k+1))).length=b.length+(eRs ps).length:=by
      rw[←hlen,hwd,List.length_append,List.length_append,Nat.add_assoc]
     refine bB (Γ:=aL) (fun k=>if k=8 then 1 else if k=16 then 1 else 2) [0,1,9,10] bZ (aD _ _) rfl rfl rfl (by kernel_rfl) (fun K hK=>?_)
     simp(disch:=omega) only[go_sem,h1,h2,e6]
     refine hK _ (bU (aB ?_))
     refine yRn [0,1,9,10] fun K hK=>?_
     simp(disch:=omega) only[go_sem]
     refine hK _ (bT ?_)
     obtain⟨g',hg'⟩: ∃y,upd (upd (del (upd (del (upd g3 (nx+2000*k+200+11) (AO.cells [AV.w8 (BitVec.ofInt 8 ((ps.getD k []).length:Int))] true)) q1) (nx+2000*k+200+12) (AO.cells (c8 (b1++[BitVec.ofInt 8 ((ps.getD k []).length:Int)])) true)) (nx+2000*k+200+12)) (nx+2000*k+200+17) (AO.cells (c8 (b1++ePy (ps.getD k []))) true)) w (AO.cells [AV.os (nx+2000*k+200+17) 0 (b1.length+1+(ps.getD k []).length) 1 true,AV.mp m] true)=y:=⟨_,rfl⟩
     rw[hg']
     refine⟨⟨k+1,g',nx+2000*k+200+17,b1++ePy (ps.getD k []),F2⟩,⟨by simp only;omega,hS3,⟨⟨?_,?_,?_⟩,?_,hW3.n1,?_⟩,fun j o j1 j2 j3 hj=>?_,.inr (by simp only;omega),by simp only;omega,hlen3⟩,by simp only;omega,bD ?_ rfl (by simp only;omega)⟩
     ·simp only;rw[←hg',bJ,J4 rfl,hbl3]
     ·simp only;rw[←hg',bJ,J3 (by omega),bJ,J4 rfl]
     ·simp only;omega
     ·simp only;rw[←hg',bJ,J3 (by omega),bJ,J3 (by omega),eV,J3 (by omega),bJ,J3 (by omega),eV,J3 hW3.n2,bJ,J3 (by omega)];exact hW3.hm
     ·simp only;omega
     ·have:=hlt j o hj
      simp only;rw[←hg',bJ,J3 j1,bJ,J3 (by omega),eV,J3 (by omega),bJ,J3 (by omega),eV,J3 (by omega),bJ,J3 (by omega)];exact hsub3 j o j1 j2 j3 hj
     simp only[Int.natCast_add,Int.natCast_one]
    refine ySq (ySq (yRn [0,1,4,5,6,7,9,10] fun K hK=>?_))
    simp(disch:=omega) only[go_sem,h1,h3,fKc,hgk,Option.map_none,Option.map_some]
    refine hK _ (aB ?_)
    refine ySq (yRn [27,0,1,4,5,6,9,10] fun K hK=>?_)
    simp(disch:=omega) only[go_sem]
    refine hK _ (aB ?_)
    refine iTd (kU (nx+2000*k+1000) (by omega) (ySq (yRg [] (aH fHt aO) fun K hK=>?_)))
    simp(disch:=omega) only[go_sem,yQ hW2.h]
    refine hK _ (aB ?_)
    refine aS rfl (bI (bN (bI (dF (bN (bI ?_))))))
    have hS2:wnS ps b F=(b1++beL (49152#32|||BitVec.ofInt 32 (a:Int)) 2 2,F1,(ps.drop (k+1)).length+1):=by rw[←hS,hpd,fJq (hpd▸hgk)]
    rw[hS2]
    have e:wnQ nx ps.length ((ps.drop (k+1)).length+1)=nx+2000*k+1000+5+17+21:=by
     rw[wnQ,J3 (by omega),List.length_drop];omega
    refine⟨rfl,?_,by simp only;omega⟩
    simp only[e,fHr,Nat.mul_one]
    refine fHx (hW2.num (by omega) (by omega)) fun j o j1 j2 j3 hj=>?_
    have hd:=fId hj
    have:=hlt j o hd.2
    rw[fHv j1 j2,eV,J3 (by omega)]
    exact hsub2 j o j1 hd.1 j3 hd.2
   refine yDr ?_
   obtain rfl:k=ps.length:=by omega
   clear h
   refine yEx 0 (aY (aZ (bE (aB ?_))))
   have h1:=hW1.h.hw
   have h2:=hW1.h.hq
   have h4:=hW1.h.ne
   have hb9:b1.length≤900000:=by omega
   refine kU (nx+2000*ps.length+1000) (by omega) (yRn [] fun K hK=>?_)
   simp(disch:=omega) only[go_sem,h1,h2]
   refine hK _ ?_
   have hS2:wnS ps b F=(b1++[0#8],F1,0):=by rw[←hS,List.drop_length];rfl
   have hbl:(b1++[0#8]).length=b1.length+1:=by simp
   rw[hS2]
   obtain⟨g',hg'⟩: ∃y,upd (upd (del (upd g (nx+2000*ps.length+1000+5) (AO.cells [AV.w8 0#8] true)) q1) (nx+2000*ps.length+1000+6) (AO.cells (c8 (b1++[0#8])) true)) w (AO.cells [AV.os (nx+2000*ps.length+1000+6) 0 (b1.length+1) 1 true,AV.mp m] true)=y:=⟨_,rfl⟩
   rw[hg']
   refine⟨rfl,?_,by simp only;omega⟩
   simp only[wnQ,if_true]
   refine fHx ⟨⟨?_,?_,by omega⟩,?_,n1,by omega⟩ fun j o j1 j2 j3 hj=>?_
   ·rw[←hg',bJ,J4 rfl,hbl]
   ·rw[←hg',bJ,J3 (by omega),bJ,J4 rfl]
   ·rw[←hg',bJ,J3 n1,bJ,J3 (by omega),eV,J3 hW1.n2,bJ,J3 (by omega)];exact hW1.hm
   have hd:=fId hj
   have:=hlt j o hd.2
   rw[←hg',bJ,J3 j1,bJ,J3 j2,eV,J3 (by omega),bJ,J3 (by omega)];exact hsub j o j1 hd.1 j3 hd.2
  refine ySq (ySq (yRn [0,1,9,10] fun K hK=>?_))
  simp(disch:=omega) only[go_sem]
  refine hK _ (aB ?_)
  refine yBl 0 (bR (fun k:Nat=> {fr:=[(0,.op w 0),(1,.v (.slice none 0 0)),(9,.i 0),(10,.i 0)],hp:=hp,nx:=0,cx:=nx+100}) (fun k=>k=0) (fun k=>k) rfl ⟨0,rfl,bD rfl rfl (by simp only;omega)⟩ ?_)
  rintro k hk0 n0
  simp only at hk0⊢
  refine ySq (yRn [11,0,1,9,10] fun K hK=>?_)
  simp(disch:=omega) only[go_sem]
  refine hK _ (aB ?_)
  refine ySq (iFd (yEx 0 (aY (aZ (bE (aB ?_))))))
  obtain⟨q1,b1,F1,g,hW1,hS,hq1⟩: ∃q1 b1 F1 g,W3 g w q1 m b1 F1∧g=hp∧q1=q∧b1=b∧F1=F:=⟨q,b,F,hp,hW,rfl,rfl,rfl,rfl⟩
  subst hS
  obtain⟨rfl,rfl,rfl⟩:=hq1
  have hsub: ∀j o,j≠w→j≠q1→j≠m→g j=some o→g j=some o:=fun j o _ _ _ h=>h
  have h1:=hW1.h.hw
  have h2:=hW1.h.hq
  have h4:=hW1.h.ne
  have hb9:b1.length≤900000:=by omega
  refine kU (nx+1000) (by omega) (yRn [] fun K hK=>?_)
  simp(disch:=omega) only[go_sem,h1,h2]
  refine hK _ ?_
  have hS2:wnS [] b1 F1=(b1++[0#8],F1,0):=rfl
  have hbl:(b1++[0#8]).length=b1.length+1:=by simp
  rw[hS2]
  obtain⟨g',hg'⟩: ∃y,upd (upd (del (upd g (nx+1000+5) (AO.cells [AV.w8 0#8] true)) q1) (nx+1000+6) (AO.cells (c8 (b1++[0#8])) true)) w (AO.cells [AV.os (nx+1000+6) 0 (b1.length+1) 1 true,AV.mp m] true)=y:=⟨_,rfl⟩
  rw[hg']
  refine⟨rfl,?_,by simp only;omega⟩
  simp only[wnQ,if_true,List.length_nil,Nat.mul_zero,Nat.add_zero]
  refine fHx ⟨⟨?_,?_,by omega⟩,?_,n1,by omega⟩ fun j o j1 j2 j3 hj=>?_
  ·rw[←hg',bJ,J4 rfl,hbl]
  ·rw[←hg',bJ,J3 (by omega),bJ,J4 rfl]
  ·rw[←hg',bJ,J3 n1,bJ,J3 (by omega),eV,J3 hW1.n2,bJ,J3 (by omega)];exact hW1.hm
  have hd:=fId hj
  have:=hlt j o hd.2
  rw[←hg',bJ,J3 j1,bJ,J3 j2,eV,J3 (by omega),bJ,J3 (by omega)];exact hsub j o j1 hd.1 j3 hd.2
 cases hg
theorem fLu:bX Tryz.prog GLh 28 (.heap fIf):=⟨⟨_,Tryz.func28,rfl,rfl⟩,fLm⟩
end Go.AX
