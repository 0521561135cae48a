/-
  AX, part A: abstract values, what they say of a world, and how that is kept. AX, part B: what plain operations do with abstract values. AX, part C: plain operations on abstract values say what the model's do. AX, part D: what operations do with abstract values and own objects. AX, part E: operations on abstract values say what the model's do: those that write nothing. AX, part F: parts laid into cells; the plain operations. AX, part G: plain operations, and those that read, say what the model's do. AX, part Gm: maps: where a key stands, what is read off them, what is written into them. AX, part H: operations that read say what the model's do. AX, part J: operations that make memory say what the model's do. AX, part K: operations that write say what the model's do. AX, part Km: maps: what is laid into them, deleted, cleared, made.
-/
import Derived.WalkKit
import Derived.MapKept
import Derived.ChangeKeysEq
namespace Go.AX
theorem J0 {α:Type} {a b:α} (h:some a=some b):a=b:=Option.some.inj h
theorem J1 {n m:Nat} (h:Nat.ble n m=true):n≤m:=Nat.le_of_ble_eq_true h
theorem J3 {c:Prop} {h:Decidable c} (hnc: ¬c) {α:Sort _} {t e:α}:ite c t e=e:=if_neg hnc
theorem J4 {c:Prop} {h:Decidable c} (hc:c) {α:Sort _} {t e:α}:ite c t e=t:=if_pos hc
theorem J5 {p:Prop} [h:Decidable p] (hp:p):decide p=true:=_root_.decide_eq_true hp
theorem J6 {p:Prop} [h:Decidable p] (hp: ¬p):decide p=false:=_root_.decide_eq_false hp
theorem J7 {α:Type} (a:α) (l:List α) (i:Nat):(a::l).drop (i+1)=l.drop i:=rfl
theorem J8 {α:Type} (a:α) (l:List α):(a::l).head? =some a:=rfl
theorem J9 {α:Type} (l:List α):l.drop 0=l:=rfl
theorem U0 {α:Type} (a:α) (l:List α) (i:Nat):(a::l).take (i+1)=a::l.take i:=rfl
theorem U1 {α:Type} (l:List α):l.take 0=[]:=rfl
theorem U2 (n:Nat):(n:Int).toNat=n:=rfl
theorem U3 (n:Nat):n≤n:=Nat.le_refl n
theorem z0 {α:Type} (a b:α):(some a).getD b=a:=rfl
theorem z1 {α:Type} (l:List α):l.toArray.size=l.length:=rfl
theorem z2 {α:Type} (a:α) (l:List α):(a::l).length=l.length+1:=rfl
theorem z3 {α:Type}:([]:List α).length=0:=rfl
theorem z4 (n:Nat):0+n=n:=Nat.zero_add n
theorem z5 {α β:Type} (f:α→β) (a:α) (l:List α):(a::l).map f=f a::l.map f:=rfl
theorem z6 {α β:Type} (f:α→β):([]:List α).map f=[]:=rfl
theorem z7 {α β:Type} (f:α→β):(none:Option α).map f=none:=rfl
theorem z8 {α β:Type} (f:α→β) (a:α):(some a).map f=some (f a):=rfl
end Go.AX
namespace Go.AX
open Go
inductive AV where
 |w8 (x:BitVec 8)|w16 (x:BitVec 16)|w32 (x:BitVec 32)|w64 (x:BitVec 64)
 |i (n:Int)|b (x:Bool)|s (l:List (BitVec 8))|v (x:Value)
 |agg (xs:List AV)|tup (xs:List AV)
 |sl (n:Nat) (xs:List AV)|rp (xs:List AV)
 |os (id off n e:Nat) (g:Bool)|op (id off:Nat)|mp (id:Nat)
 |fn (f:FuncId) (cap:List AV)|junk|pin (v:Value) (x:AV)
 deriving Inhabited
inductive Loc where
 |unset|nil|at_ (blk base sz:Nat)
def dA (l:List (BitVec 8)):ByteArray:=⟨(l.map UInt8.ofBitVec).toArray⟩
def AV.isCell:AV→Bool
 | .agg _| .tup _| .junk| .pin _ _=>false
 | .v x=>x.oneCell'
 |_=>true
inductive Rel (σ:Nat→Loc) (I:Nat→Prop) (w:World):AV→Value→Prop
 |w8 (x):Rel σ I w (.w8 x) (.int .u8 x.toNat)
 |w16 (x):Rel σ I w (.w16 x) (.int .u16 x.toNat)
 |w32 (x):Rel σ I w (.w32 x) (.int .u32 x.toNat)
 |w64 (x):Rel σ I w (.w64 x) (.int .u64 x.toNat)
 |i (n):Rel σ I w (.i n) (.int .i64 n)
 |b (x):Rel σ I w (.b x) (.bool x)
 |s (l):Rel σ I w (.s l) (.string (dA l))
 |v (x):Rel σ I w (.v x) x
 |agg (xs:List AV) (vs:Array Value):vs.size=xs.length→(∀i (_h:i<xs.length),xs[i].isCell=true)→
   (∀i (h:i<xs.length),Rel σ I w xs[i] (vs.getD i undef))→Rel σ I w (.agg xs) (.agg vs)
 |tup (xs:List AV) (vs:Array Value):vs.size=xs.length→
   (∀i (h:i<xs.length),Rel σ I w xs[i] (vs.getD i undef))→Rel σ I w (.tup xs) (.tuple vs)
 |sl (n xs blk o cap) (f:Nat→Value):I blk→n≤cap→(∀i (_:i<xs.length),w.cell? ⟨blk,o+i,none⟩=some (f i))→
   (∀i (_h:i<xs.length),xs[i].isCell=true)→(∀i (h:i<xs.length),Rel σ I w xs[i] (f i))→Rel σ I w (.sl n xs) (.slice (some ⟨blk,o,none⟩) n cap)
 |slnil:Rel σ I w (.sl 0 []) (.slice none 0 0)
 |slzero (a:Addr):Rel σ I w (.sl 0 []) (.slice (some a) 0 0)
 |rp (xs blk o) (f:Nat→Value):I blk→(∀i (_:i<xs.length),w.cell? ⟨blk,o+i,none⟩=some (f i))→
   (∀i (_h:i<xs.length),xs[i].isCell=true)→(∀i (h:i<xs.length),Rel σ I w xs[i] (f i))→Rel σ I w (.rp xs) (.pointer (some ⟨blk,o,none⟩))
 |os (id off n e g blk base sz cap):σ id=.at_ blk base sz→n≤cap→(g=true→base+off+cap*e≤sz)→Rel σ I w (.os id off n e g) (.slice (some ⟨blk,base+off,none⟩) n cap)
 |osnil (id e g):σ id=.nil→Rel σ I w (.os id 0 0 e g) (.slice none 0 0)
 |oszero (id off e g) (a:Addr):σ id≠.unset→Rel σ I w (.os id off 0 e g) (.slice (some a) 0 0)
 |op (id off blk base sz):σ id=.at_ blk base sz→Rel σ I w (.op id off) (.pointer (some ⟨blk,base+off,none⟩))
 |mp (id blk):σ id=.at_ blk 0 0→Rel σ I w (.mp id) (.map (some blk))
 |fn (f) (xs:List AV) (vs:Array Value):vs.size=xs.length→(∀i (h:i<xs.length),Rel σ I w xs[i] (vs.getD i undef))→Rel σ I w (.fn f xs) (.func (.func f) #[] vs)
 |junk (x):Rel σ I w .junk x
 |pin (v:Value) (x:AV):Rel σ I w x v→Rel σ I w (.pin v x) v
theorem Rel.mono {σ σ':Nat→Loc} {I I':Nat→Prop} {w w':World} {x:AV} {y:Value} (h:Rel σ I w x y)
  (hσ: ∀id,σ id≠.unset→σ' id=σ id) (hI: ∀k,I k→I' k) (hw: ∀k,I k→w'.heap[k]? =w.heap[k]?):Rel σ' I' w' x y:=by
 induction h with
 |w8=>exact .w8 _
 |w16=>exact .w16 _
 |w32=>exact .w32 _
 |w64=>exact .w64 _
 |i=>exact .i _
 |b=>exact .b _
 |s=>exact .s _
 |v=>exact .v _
 |agg xs vs h1 h2 _ ih=>exact .agg xs vs h1 h2 ih
 |tup xs vs h1 _ ih=>exact .tup xs vs h1 ih
 |sl n xs blk o cap f hb hn hc h2 _ ih=>
  exact .sl n xs blk o cap f (hI _ hb) hn (fun i h=>by rw[World.cell?_of_block (w:=w) (hw _ hb)];exact hc i h) h2 ih
 |slnil=>exact .slnil
 |slzero a=>exact .slzero a
 |rp xs blk o f hb hc h2 _ ih=>
  exact .rp xs blk o f (hI _ hb) (fun i h=>by rw[World.cell?_of_block (w:=w) (hw _ hb)];exact hc i h) h2 ih
 |os id off n e g blk base sz cap h1 h2 h3=>exact .os id off n e g blk base sz cap (by rw[hσ _ (by simp[h1]),h1]) h2 h3
 |osnil id e g h1=>exact .osnil id e g (by rw[hσ _ (by simp[h1]),h1])
 |oszero id off e g a h1=>exact .oszero id off e g a (by rw[hσ _ h1];exact h1)
 |op id off blk base sz h1=>exact .op id off blk base sz (by rw[hσ _ (by simp[h1]),h1])
 |mp id blk h1=>exact .mp id blk (by rw[hσ _ (by simp[h1]),h1])
 |fn f xs vs h1 _ ih=>exact .fn f xs vs h1 ih
 |junk x=>exact .junk x
 |pin v x _ ih=>exact .pin v x ih
def AV.ids:AV→Nat
 | .agg xs| .tup xs| .sl _ xs| .rp xs| .fn _ xs=>idsL xs
 | .os id _ _ _ _| .op id _| .mp id=>id+1
 | .pin _ x=>AV.ids x
 |_=>0
where idsL:List AV→Nat
 |[]=>0
 |x::r=>max (AV.ids x) (idsL r)
theorem AV.ids_get (xs:List AV): ∀i (h:i<xs.length),AV.ids xs[i]≤AV.ids.idsL xs:=by
 induction xs with
 |nil=>intro i h;simp at h
 |cons x r ih=>
  intro i h
  cases i with
  |zero=>simp only[List.getElem_cons_zero,AV.ids.idsL];omega
  |succ k=>simp only[List.getElem_cons_succ,AV.ids.idsL];have:=ih k (by simpa using h);omega
theorem Rel.congr_ids {σ σ':Nat→Loc} {I:Nat→Prop} {w:World} {x:AV} {y:Value} (h:Rel σ I w x y)
  (hσ: ∀id,id<x.ids→σ' id=σ id):Rel σ' I w x y:=by
 induction h with
 |w8=>exact .w8 _
 |w16=>exact .w16 _
 |w32=>exact .w32 _
 |w64=>exact .w64 _
 |i=>exact .i _
 |b=>exact .b _
 |s=>exact .s _
 |v=>exact .v _
 |agg xs vs h1 h2 _ ih=>exact .agg xs vs h1 h2 fun i h=>ih i h fun id hid=>hσ id (Nat.lt_of_lt_of_le hid (AV.ids_get xs i h))
 |tup xs vs h1 _ ih=>exact .tup xs vs h1 fun i h=>ih i h fun id hid=>hσ id (Nat.lt_of_lt_of_le hid (AV.ids_get xs i h))
 |sl n xs blk o cap f hb hn hc h2 _ ih=>
  exact .sl n xs blk o cap f hb hn hc h2 fun i h=>ih i h fun id hid=>hσ id (Nat.lt_of_lt_of_le hid (AV.ids_get xs i h))
 |slnil=>exact .slnil
 |slzero a=>exact .slzero a
 |rp xs blk o f hb hc h2 _ ih=>
  exact .rp xs blk o f hb hc h2 fun i h=>ih i h fun id hid=>hσ id (Nat.lt_of_lt_of_le hid (AV.ids_get xs i h))
 |os id off n e g blk base sz cap h1 h2 h3=>exact .os id off n e g blk base sz cap (by rw[hσ _ (by simp[AV.ids]),h1]) h2 h3
 |osnil id e g h1=>exact .osnil id e g (by rw[hσ _ (by simp[AV.ids]),h1])
 |oszero id off e g a h1=>exact .oszero id off e g a (by rw[hσ _ (by simp[AV.ids])];exact h1)
 |op id off blk base sz h1=>exact .op id off blk base sz (by rw[hσ _ (by simp[AV.ids]),h1])
 |mp id blk h1=>exact .mp id blk (by rw[hσ _ (by simp[AV.ids]),h1])
 |fn f xs vs h1 _ ih=>exact .fn f xs vs h1 fun i h=>ih i h fun id hid=>hσ id (Nat.lt_of_lt_of_le hid (AV.ids_get xs i h))
 |junk x=>exact .junk x
 |pin v x _ ih=>exact .pin v x (ih fun id hid=>hσ id hid)
theorem Rel.oneCell {σ:Nat→Loc} {I:Nat→Prop} {w:World} {x:AV} {y:Value} (h:Rel σ I w x y) (hc:x.isCell=true):y.oneCell'=true:=by
 cases h<;>simp_all [AV.isCell,Value.oneCell']
def AV.noMem:AV→Bool
 | .w8 _| .w16 _| .w32 _| .w64 _| .i _| .b _| .s _| .v _=>true
 | .agg xs| .tup xs=>noMemL xs
 |_=>false
where noMemL:List AV→Bool
 |[]=>true
 |x::r=>AV.noMem x&&noMemL r
theorem AV.noMem_get (xs:List AV):AV.noMem.noMemL xs=true→∀i (h:i<xs.length),AV.noMem xs[i]=true:=by
 induction xs with
 |nil=>intro _ i h;simp at h
 |cons x r ih=>
  intro hn i h
  simp only[AV.noMem.noMemL,Bool.and_eq_true]at hn
  cases i with
  |zero=>exact hn.1
  |succ k=>exact ih hn.2 k (by simpa using h)
theorem Rel.noMem {σ σ':Nat→Loc} {I I':Nat→Prop} {w w':World} {x:AV} {y:Value} (h:Rel σ I w x y) (hn:x.noMem=true):Rel σ' I' w' x y:=by
 induction h with
 |w8=>exact .w8 _
 |w16=>exact .w16 _
 |w32=>exact .w32 _
 |w64=>exact .w64 _
 |i=>exact .i _
 |b=>exact .b _
 |s=>exact .s _
 |v=>exact .v _
 |agg xs vs h1 h2 _ ih=>exact .agg xs vs h1 h2 fun i h=>ih i h (AV.noMem_get xs hn i h)
 |tup xs vs h1 _ ih=>exact .tup xs vs h1 fun i h=>ih i h (AV.noMem_get xs hn i h)
 |_=>simp[AV.noMem]at hn
inductive AO where
 |cells (xs:List AV) (mt:Bool)
 |mapo (es:List (AV×AV)) (mt:Bool)
 deriving Inhabited
def AO.mt:AO→Bool| .cells _ mt=>mt| .mapo _ mt=>mt
abbrev H:=Nat→Option AO
def upd (h:H) (id:Nat) (o:AO):H:=fun k=>if k=id then some o else h k
def del (h:H) (id:Nat):H:=fun k=>if k=id then none else h k
theorem bJ (h:H) (id:Nat) (o:AO) (k:Nat):upd h id o k=if k=id then some o else h k:=rfl
theorem eV (h:H) (id:Nat) (k:Nat):del h id k=if k=id then none else h k:=rfl
structure aUg (lo hi sz:Nat):Prop where
 le:lo≤hi
 out: ∀o,o<sz→¬(lo≤o∧o<hi)
structure uM (σ:Nat→Loc) (I:Nat→Prop) (w:World) (xs:List AV) (blk base sz:Nat):Prop where
 ex: ∃c T lo hi,w.heap[blk]? =some (.cells c T (lo,hi))∧c.size=sz∧base+xs.length≤sz∧aUg lo hi sz∧
  (∀i (h:i<xs.length),Rel σ I w xs[i] (c.getD (base+i) undef))
 cell: ∀i (h:i<xs.length),xs[i].isCell=true
structure eNt (σ:Nat→Loc) (I:Nat→Prop) (w:World) (es:List (AV×AV)) (blk:Nat):Prop where
 ex: ∃(ents:Array MapEntry) (clock:Nat),w.heap[blk]? =some (.map ents clock)∧ents.size=es.length∧Go.MapKept.Stamped ents clock∧
  ∀i (h:i<es.length),es[i].1.noMem=true∧Rel σ I w es[i].1 (ents.getD i default).key∧Rel σ I w es[i].2 (ents.getD i default).val
theorem eNt.mono {σ σ':Nat→Loc} {I I':Nat→Prop} {w w':World} {es:List (AV×AV)} {blk:Nat} (h:eNt σ I w es blk)
  (hσ: ∀id,σ id≠.unset→σ' id=σ id) (hI: ∀k,I k→I' k) (hw: ∀k,I k→w'.heap[k]? =w.heap[k]?) (hb:w'.heap[blk]? =w.heap[blk]?):eNt σ' I' w' es blk:=by
 obtain⟨⟨ents,cl,h1,h2,h3,h5⟩⟩:=h
 exact⟨⟨ents,cl,by rw[hb];exact h1,h2,h3,fun i hi=>⟨(h5 i hi).1,(h5 i hi).2.1.mono hσ hI hw,(h5 i hi).2.2.mono hσ hI hw⟩⟩⟩
def eD (σ:Nat→Loc) (I:Nat→Prop) (w:World) (id:Nat):AO→Prop
 | .mapo es mt=> ∃blk,σ id=.at_ blk 0 0∧eNt σ I w es blk∧(mt=true→¬I blk)∧(mt=false→I blk)
 | .cells xs mt=>match σ id with
  | .unset=>False
  | .nil=>xs=[]
  | .at_ blk base sz=>uM σ I w xs blk base sz∧(mt=true→¬I blk)∧(mt=false→I blk)
structure Ctx where
 w0:World
 σ0:Nat→Loc
 I0:Nat→Prop
 O:Nat→Prop
 GL:Nat→Option (List AV)
 nt:Nat
 u0:Nat→Prop
 df:List Deferred:=[]
structure Inv (c:Ctx) (σ:Nat→Loc) (I:Nat→Prop) (w:World) (hp:H) (un:Nat→Prop):Prop where
 ext: ∀id,c.σ0 id≠.unset→σ id=c.σ0 id
 imm: ∀k,c.I0 k→I k
 iw: ∀k,c.I0 k→w.heap[k]? =c.w0.heap[k]?
 os:w.os=c.w0.os
 tape:w.tape=c.w0.tape
 output:w.output=c.w0.output
 size:c.w0.heap.size≤w.heap.size
 old: ∀k,k<c.w0.heap.size→¬c.O k→w.heap[k]? =c.w0.heap[k]?
 ilt: ∀k,I k→k<w.heap.size
 own: ∀id o,hp id=some o→eD σ I w id o
 inj: ∀id id' o o' blk base sz base' sz',hp id=some o→o.mt=true→hp id'=some o'→id≠id'→σ id=.at_ blk base sz→σ id'≠.at_ blk base' sz'
 lim: ∀id o blk base sz,hp id=some o→o.mt=true→σ id=.at_ blk base sz→c.w0.heap.size≤blk∨c.O blk
 un: ∀id,un id→σ id=.unset
 glob: ∀g xs,c.GL g=some xs→Rel σ I w (.rp xs) (.pointer (some ⟨g,0,none⟩))
 inew: ∀k,I k→c.I0 k∨c.w0.heap.size≤k∨c.O k
theorem Inv.none_un {c:Ctx} {σ:Nat→Loc} {I:Nat→Prop} {w:World} {hp:H} {un:Nat→Prop} (h:Inv c σ I w hp un) {id:Nat} (hu:un id):hp id=none:=by
 cases ho:hp id with
 |none=>rfl
 |some o=>have:=h.own id o ho;cases o<;>simp[eD,h.un id hu]at this
theorem Inv.mono_un {c:Ctx} {σ:Nat→Loc} {I:Nat→Prop} {w:World} {hp:H} {un un':Nat→Prop} (h:Inv c σ I w hp un) (hu: ∀id,un' id→un id):Inv c σ I w hp un':=
 {h with un:=fun id hi=>h.un id (hu id hi)}
theorem uM.mono {σ σ':Nat→Loc} {I I':Nat→Prop} {w w':World} {xs:List AV} {blk base sz:Nat} (h:uM σ I w xs blk base sz)
  (hσ: ∀id,σ id≠.unset→σ' id=σ id) (hI: ∀k,I k→I' k) (hw: ∀k,I k→w'.heap[k]? =w.heap[k]?) (hb:w'.heap[blk]? =w.heap[blk]?):uM σ' I' w' xs blk base sz:=by
 obtain⟨⟨c,T,lo,hi,h1,h2,h3,h4,h5⟩,h6⟩:=h
 exact⟨⟨c,T,lo,hi,by rw[hb];exact h1,h2,h3,h4,fun i hi=>(h5 i hi).mono hσ hI hw⟩,h6⟩
theorem Inv.world {c:Ctx} {σ:Nat→Loc} {I:Nat→Prop} {w w':World} {hp:H} {un:Nat→Prop} (h:Inv c σ I w hp un)
  (h1:w'.heap=w.heap) (h2:w'.os=w.os) (h3:w'.tape=w.tape) (h4:w'.output=w.output):Inv c σ I w' hp un where
 ext:=h.ext
 imm:=h.imm
 iw:=fun k hk=>by rw[h1];exact h.iw k hk
 os:=by rw[h2];exact h.os
 tape:=by rw[h3];exact h.tape
 output:=by rw[h4];exact h.output
 size:=by rw[h1];exact h.size
 old:=fun k a b=>by rw[h1];exact h.old k a b
 ilt:=fun k hk=>by rw[h1];exact h.ilt k hk
 own:=fun id o ho=>by
  have:=h.own id o ho
  cases o with
  |cells xs mt=>
   simp only[eD]at this⊢
   split
   ·rename_i e;simp[e]at this
   ·rename_i e;simpa [e]using this
   ·rename_i blk base sz e
    simp only[e]at this
    exact⟨this.1.mono (fun _ _=>rfl) (fun _ h=>h) (fun k _=>by rw[h1]) (by rw[h1]),this.2⟩
  |mapo es mt=>
   obtain⟨blk,b1,b2,b3⟩:=this
   exact⟨blk,b1,b2.mono (fun _ _=>rfl) (fun _ h=>h) (fun k _=>by rw[h1]) (by rw[h1]),b3⟩
 inj:=h.inj
 lim:=h.lim
 un:=h.un
 glob:=fun g xs hg=>(h.glob g xs hg).mono (fun _ _=>rfl) (fun _ h=>h) (fun k _=>by rw[h1])
 inew:=h.inew
theorem Rel.world {σ:Nat→Loc} {I:Nat→Prop} {w w':World} {x:AV} {y:Value} (h:Rel σ I w x y) (h1:w'.heap=w.heap):Rel σ I w' x y:=
 h.mono (fun _ _=>rfl) (fun _ h=>h) (fun k _=>by rw[h1])
theorem Inv.sub {c:Ctx} {σ:Nat→Loc} {I:Nat→Prop} {w:World} {hp hp':H} {un:Nat→Prop} (h:Inv c σ I w hp un) (hs: ∀id o,hp' id=some o→hp id=some o):Inv c σ I w hp' un:=
 {h with
  own:=fun id o ho=>h.own id o (hs id o ho)
  inj:=fun id id' o o' blk base sz base' sz' a m b=>h.inj id id' o o' blk base sz base' sz' (hs _ _ a) m (hs _ _ b)
  lim:=fun id o blk base sz a=>h.lim id o blk base sz (hs _ _ a)}
def cU (σ:Nat→Loc) (id:Nat) (l:Loc):Nat→Loc:=fun k=>if k=id then l else σ k
theorem dM {σ:Nat→Loc} {id:Nat} {l:Loc} (h:σ id=.unset): ∀k,σ k≠.unset→cU σ id l k=σ k:=by
 intro k hk
 unfold cU
 split
 ·rename_i e;subst e;exact absurd h hk
 rfl
theorem gKu (w:World) (o:Obj) (k:Nat) (h:k<w.heap.size):(w.alloc o).heap[k]? =w.heap[k]?:=Go.RowKit.Below.heap_alloc w o k h
theorem uH (w:World) (o:Obj):(w.alloc o).heap[w.heap.size]? =some o:=by show(w.heap.push o)[w.heap.size]? =_;rw[Array.getElem?_push,J4 rfl]
theorem eD.mono {σ σ':Nat→Loc} {I I':Nat→Prop} {w w':World} {id:Nat} {o:AO} (h:eD σ I w id o)
  (hσ: ∀id,σ id≠.unset→σ' id=σ id) (hI: ∀k,I k→I' k) (hw: ∀k,I k→w'.heap[k]? =w.heap[k]?)
  (hb: ∀blk base sz,σ id=.at_ blk base sz→w'.heap[blk]? =w.heap[blk]?∧(o.mt=true→¬I blk→¬I' blk)):eD σ' I' w' id o:=by
 cases o with
 |cells xs mt=>
  simp only[eD]at h⊢
  cases e:σ id with
  |unset=>simp[e]at h
  |nil=>rw[hσ id (by simp[e]),e];simpa [e]using h
  |at_ blk base sz=>
   rw[hσ id (by simp[e]),e]
   simp only[e]at h
   obtain⟨b1,b2⟩:=hb blk base sz e
   exact⟨h.1.mono hσ hI hw b1,fun hm=>b2 hm (h.2.1 hm),fun hm=>hI _ (h.2.2 hm)⟩
 |mapo es mt=>
  obtain⟨blk,a1,a2,a3,a4⟩:=h
  obtain⟨b1,b2⟩:=hb blk 0 0 a1
  exact⟨blk,by rw[hσ id (by simp[a1]),a1],a2.mono hσ hI hw b1,fun hm=>b2 hm (a3 hm),fun hm=>hI _ (a4 hm)⟩
theorem eD.lt {σ:Nat→Loc} {I:Nat→Prop} {w:World} {id:Nat} {o:AO} (h:eD σ I w id o) {blk base sz:Nat} (e:σ id=.at_ blk base sz):blk<w.heap.size:=by
 cases o with
 |cells xs mt=>
  simp only[eD,e]at h
  obtain⟨⟨⟨c,T,lo,hi,h1,_⟩,_⟩,_⟩:=h
  exact(Array.getElem?_eq_some_iff.1 h1).1
 |mapo es mt=>
  obtain⟨blk',a1,⟨⟨ents,cl,h1,_⟩⟩,_⟩:=h
  rw[a1]at e;cases e
  exact(Array.getElem?_eq_some_iff.1 h1).1
theorem eD.fz {σ:Nat→Loc} {I:Nat→Prop} {w:World} {id:Nat} {o:AO} (h:eD σ I w id o) (hm:o.mt=false) {blk base sz:Nat} (e:σ id=.at_ blk base sz):I blk:=by
 cases o with
 |cells xs mt=>simp only[eD,e]at h;exact h.2.2 hm
 |mapo es mt=>
  obtain⟨blk',a1,_,_,a4⟩:=h
  rw[a1]at e;cases e
  exact a4 hm
theorem Inv.updIL {c:Ctx} {σ:Nat→Loc} {I:Nat→Prop} {w:World} {hp:H} {un:Nat→Prop} (h:Inv c σ I w hp un) {id:Nat} {o:AO} (ho:hp id=some o) (o':AO) (hm:o'.mt=true→o.mt=true):
  (∀k k' o1 o2 blk base sz base' sz',upd hp id o' k=some o1→o1.mt=true→upd hp id o' k'=some o2→k≠k'→σ k=.at_ blk base sz→σ k'≠.at_ blk base' sz')∧
  (∀k o1 blk base sz,upd hp id o' k=some o1→o1.mt=true→σ k=.at_ blk base sz→c.w0.heap.size≤blk∨c.O blk):=by
 have f: ∀k o1,upd hp id o' k=some o1→∃o2,hp k=some o2∧(o1.mt=true→o2.mt=true):=by
  intro k o1 hk
  rw[bJ]at hk
  split at hk
  ·rename_i e;subst e
   obtain rfl:=J0 hk
   exact⟨o,ho,hm⟩
  exact⟨o1,hk,fun h=>h⟩
 refine⟨fun k k' o1 o2 blk base sz base' sz' a m b hne e=>?_,fun k o1 blk base sz a m e=>?_⟩
 ·obtain⟨p,p1,p2⟩:=f k o1 a
  obtain⟨q,q1,_⟩:=f k' o2 b
  exact h.inj k k' p q blk base sz base' sz' p1 (p2 m) q1 hne e
 obtain⟨p,p1,p2⟩:=f k o1 a
 exact h.lim k p blk base sz p1 (p2 m) e
theorem Inv.blkNew {c:Ctx} {σ:Nat→Loc} {I:Nat→Prop} {w:World} {hp:H} {un:Nat→Prop} (h:Inv c σ I w hp un) {id:Nat} {o:AO} {k base sz:Nat} (ho:hp id=some o) (e:σ id=.at_ k base sz):c.I0 k∨c.w0.heap.size≤k∨c.O k:=by
 cases hm:o.mt with
 |true=>exact .inr (h.lim id o k base sz ho hm e)
 |false=>exact h.inew k ((h.own id o ho).fz hm e)
theorem Inv.alloc {c:Ctx} {σ:Nat→Loc} {I:Nat→Prop} {w:World} {hp:H} {un:Nat→Prop} (h:Inv c σ I w hp un) {id:Nat} (hu:un id)
  (cs:Array Value) (T:TypeId) (fr:Nat×Nat) (hfr:aUg fr.1 fr.2 cs.size) (xs:List AV) (hl:xs.length≤cs.size) (hc: ∀i (h:i<xs.length),xs[i].isCell=true) (hr: ∀i (h:i<xs.length),Rel σ I w xs[i] (cs.getD i undef)):
  Inv c (cU σ id (.at_ w.heap.size 0 cs.size)) I (w.alloc (.cells cs T fr)) (upd hp id (.cells xs true)) (fun k=>un k∧k≠id):=by
 have hσ:=dM (l:=.at_ w.heap.size 0 cs.size) (h.un id hu)
 have hw: ∀k,I k→(w.alloc (.cells cs T fr)).heap[k]? =w.heap[k]?:=fun k hk=>gKu w _ k (h.ilt k hk)
 have hnI: ¬I w.heap.size:=fun hk=>Nat.lt_irrefl _ (h.ilt _ hk)
 refine⟨fun k hk=>?_,h.imm,fun k hk=>?_,h.os,h.tape,h.output,by simp only[World.size_alloc];have:=h.size;omega,fun k hk ho=>?_,fun k hk=>by simp only[World.size_alloc];have:=h.ilt k hk;omega,?_,?_,?_,?_,fun g ys hg=>(h.glob g ys hg).mono hσ (fun _ h=>h) hw,h.inew⟩
 ·have:=h.ext k hk
  rw[hσ k (by rw[this];exact hk),this]
 ·rw[hw k (h.imm k hk)];exact h.iw k hk
 ·rw[gKu w _ k (by have:=h.size;omega)];exact h.old k hk ho
 ·intro k o ho
  rw[bJ]at ho
  split at ho
  ·rename_i e;subst e
   obtain rfl:=J0 ho
   simp only[eD,cU,if_true]
   refine⟨⟨⟨cs,T,fr.1,fr.2,uH w _,rfl,by omega,hfr,fun i hi=>?_⟩,hc⟩,fun _=>hnI,fun hm=>by simp at hm⟩
   rw[Nat.zero_add]
   exact(hr i hi).mono hσ (fun _ h=>h) hw
  exact(h.own k o ho).mono hσ (fun _ h=>h) hw fun blk base sz e=>⟨gKu w _ blk ((h.own k o ho).lt e),fun _ h=>h⟩
 ·intro k k' o1 o' blk base sz base' sz' ho hm ho' hne e e'
  have lt: ∀k o blk base sz,k≠id→hp k=some o→cU σ id (.at_ w.heap.size 0 cs.size) k=.at_ blk base sz→σ k=.at_ blk base sz∧blk<w.heap.size:=by
   intro k o blk base sz hk hp e
   simp only[cU,J3 hk]at e
   exact⟨e,(h.own k o hp).lt e⟩
  rw[bJ]at ho ho'
  by_cases ek:k=id
  ·have ek':k'≠id:=fun e2=>hne (by rw[ek,e2])
   rw[J3 ek']at ho'
   have:=(lt k' o' blk base' sz' ek' ho' e').2
   subst ek
   simp only[cU,if_true,Loc.at_.injEq]at e
   omega
  rw[J3 ek]at ho
  have h1:=lt k _ blk base sz ek ho e
  by_cases ek':k'=id
  ·subst ek'
   simp only[cU,if_true,Loc.at_.injEq]at e'
   omega
  rw[J3 ek']at ho'
  have h2:=lt k' _ blk base' sz' ek' ho' e'
  exact h.inj k k' o1 o' blk base sz base' sz' ho hm ho' hne h1.1 h2.1
 ·intro k o1 blk base sz ho hm e
  rw[bJ]at ho
  split at ho
  ·rename_i ek;subst ek
   simp only[cU,if_true,Loc.at_.injEq]at e
   left;have:=h.size;omega
  rename_i ek
  simp only[cU,J3 ek]at e
  exact h.lim k o1 blk base sz ho hm e
 intro k ⟨hk,hne⟩
 simp only[cU,J3 hne]
 exact h.un k hk
theorem Inv.newNil {c:Ctx} {σ:Nat→Loc} {I:Nat→Prop} {w:World} {hp:H} {un:Nat→Prop} (h:Inv c σ I w hp un) {id:Nat} (hu:un id):
  Inv c (cU σ id .nil) I w (upd hp id (.cells [] true)) (fun k=>un k∧k≠id):=by
 have hσ:=dM (l:=.nil) (h.un id hu)
 have hne: ∀k o,hp k=some o→k≠id:=fun k o ho e=>by subst e;rw[h.none_un hu]at ho;cases ho
 refine {h with ext:=fun k hk=>?_,own:=fun k o ho=>?_,inj:=?_,lim:=?_,un:=?_,glob:=fun g ys hg=>(h.glob g ys hg).mono hσ (fun _ h=>h) fun _ _=>rfl}
 ·have:=h.ext k hk
  rw[hσ k (by rw[this];exact hk),this]
 ·rw[bJ]at ho
  split at ho
  ·rename_i e;subst e
   obtain rfl:=J0 ho
   simp[eD,cU]
  exact(h.own k o ho).mono hσ (fun _ h=>h) (fun _ _=>rfl) fun _ _ _ _=>⟨rfl,fun _ h=>h⟩
 ·intro k k' o1 o' blk base sz base' sz' ho hm ho' hn e e'
  by_cases ek:k=id
  ·subst ek;simp[cU]at e
  by_cases ek':k'=id
  ·subst ek';simp[cU]at e'
  simp only[cU,J3 ek,J3 ek']at e e'
  rw[bJ,J3 ek]at ho
  rw[bJ,J3 ek']at ho'
  exact h.inj k k' o1 o' blk base sz base' sz' ho hm ho' hn e e'
 ·intro k o1 blk base sz ho hm e
  by_cases ek:k=id
  ·subst ek;simp[cU]at e
  simp only[cU,J3 ek]at e
  rw[bJ,J3 ek]at ho
  exact h.lim k o1 blk base sz ho hm e
 intro k ⟨hk,hn⟩
 simp only[cU,J3 hn]
 exact h.un k hk
theorem Inv.setRowG {c:Ctx} {σ:Nat→Loc} {I:Nat→Prop} {w w':World} {hp:H} {un:Nat→Prop} (h:Inv c σ I w hp un) {id:Nat} {xs ys:List AV} {blk base sz:Nat}
  (ho:hp id=some (.cells xs true)) (hl:σ id=.at_ blk base sz)
  (hos:w'.os=w.os) (htp:w'.tape=w.tape) (hout:w'.output=w.output) (hsz:w'.heap.size=w.heap.size) (hother: ∀k,k≠blk→w'.heap[k]? =w.heap[k]?)
  (hc: ∀i (h:i<ys.length),ys[i].isCell=true)
  (hnew: ∀cs T lo hi,w.heap[blk]? =some (.cells cs T (lo,hi))→cs.size=sz→aUg lo hi sz→∃cs' lo' hi',w'.heap[blk]? =some (.cells cs' T (lo',hi'))∧cs'.size=sz∧aUg lo' hi' sz∧base+ys.length≤sz∧∀i (h:i<ys.length),Rel σ I w ys[i] (cs'.getD (base+i) undef)):
  Inv c σ I w' (upd hp id (.cells ys true)) un:=by
 have hown:=h.own id _ ho
 simp only[eD,hl]at hown
 obtain⟨⟨⟨cs,T,lo,hi,g1,g2,g3,g4,g5⟩,g6⟩,g7,_⟩:=hown
 have hnI:=g7 trivial
 obtain⟨cs',lo',hi',n1,n2,nu,n3,n4⟩:=hnew cs T lo hi g1 g2 g4
 have hw: ∀k,I k→w'.heap[k]? =w.heap[k]?:=fun k hk=>hother k (fun e=>hnI (e▸hk))
 refine⟨h.ext,h.imm,fun k hk=>?_,by rw[hos];exact h.os,by rw[htp];exact h.tape,by rw[hout];exact h.output,by rw[hsz];exact h.size,fun k hk hO=>?_,fun k hk=>by rw[hsz];exact h.ilt k hk,?_,?_,?_,h.un,fun g zs hg=>(h.glob g zs hg).mono (fun _ _=>rfl) (fun _ h=>h) hw,h.inew⟩
 ·rw[hw k (h.imm k hk)];exact h.iw k hk
 ·by_cases e:k=blk
  ·subst e
   rcases h.lim id _ k base sz ho rfl hl with hlim|hlim
   ·omega
   exact absurd hlim hO
  rw[hother k e];exact h.old k hk hO
 ·intro k o hk
  rw[bJ]at hk
  split at hk
  ·rename_i e;subst e
   obtain rfl:=J0 hk
   simp only[eD,hl]
   exact⟨⟨⟨cs',T,lo',hi',n1,n2,n3,nu,fun i hi=>(n4 i hi).mono (fun _ _=>rfl) (fun _ h=>h) hw⟩,hc⟩,fun _=>hnI,fun hm=>by simp at hm⟩
  rename_i e
  exact(h.own k o hk).mono (fun _ _=>rfl) (fun _ h=>h) hw fun blk' base' sz' e'=>⟨hother blk' (fun eb=>by subst eb;exact h.inj id k _ o blk' base sz base' sz' ho rfl hk (Ne.symm e) hl e'),fun _ h=>h⟩
 ·exact(h.updIL ho (.cells ys true) fun _=>rfl).1
 exact(h.updIL ho (.cells ys true) fun _=>rfl).2
theorem Inv.setRow {c:Ctx} {σ:Nat→Loc} {I:Nat→Prop} {w w':World} {hp:H} {un:Nat→Prop} (h:Inv c σ I w hp un) {id:Nat} {xs ys:List AV} {blk base sz:Nat}
  (ho:hp id=some (.cells xs true)) (hl:σ id=.at_ blk base sz)
  (hos:w'.os=w.os) (htp:w'.tape=w.tape) (hout:w'.output=w.output) (hsz:w'.heap.size=w.heap.size) (hother: ∀k,k≠blk→w'.heap[k]? =w.heap[k]?)
  (hc: ∀i (h:i<ys.length),ys[i].isCell=true)
  (hnew: ∀cs T lo hi,w.heap[blk]? =some (.cells cs T (lo,hi))→cs.size=sz→∃cs',w'.heap[blk]? =some (.cells cs' T (lo,hi))∧cs'.size=sz∧base+ys.length≤sz∧∀i (h:i<ys.length),Rel σ I w ys[i] (cs'.getD (base+i) undef)):
  Inv c σ I w' (upd hp id (.cells ys true)) un:=by
 refine h.setRowG ho hl hos htp hout hsz hother hc fun cs T lo hi h1 h2 h3=>?_
 obtain⟨cs',n1,n2,n3,n4⟩:=hnew cs T lo hi h1 h2
 exact⟨cs',lo,hi,n1,n2,h3,n3,n4⟩
theorem eD.nI {σ:Nat→Loc} {I:Nat→Prop} {w:World} {id:Nat} {o:AO} (h:eD σ I w id o) (hm:o.mt=true) {blk base sz:Nat} (e:σ id=.at_ blk base sz): ¬I blk:=by
 cases o with
 |cells xs mt=>simp only[eD,e]at h;exact h.2.1 hm
 |mapo es mt=>
  obtain⟨blk',a1,_,a3,_⟩:=h
  rw[a1]at e;cases e
  exact a3 hm
theorem Inv.setO {c:Ctx} {σ:Nat→Loc} {I:Nat→Prop} {w w':World} {hp:H} {un:Nat→Prop} (h:Inv c σ I w hp un) {id:Nat} {o:AO} {blk base sz:Nat}
  (ho:hp id=some o) (hm:o.mt=true) (hl:σ id=.at_ blk base sz)
  (hos:w'.os=w.os) (htp:w'.tape=w.tape) (hout:w'.output=w.output) (hsz:w'.heap.size=w.heap.size) (hother: ∀k,k≠blk→w'.heap[k]? =w.heap[k]?)
  (o':AO) (_:o'.mt=true) (hown:eD σ I w' id o'):Inv c σ I w' (upd hp id o') un:=by
 have hnI:=(h.own id o ho).nI hm hl
 have hw: ∀k,I k→w'.heap[k]? =w.heap[k]?:=fun k hk=>hother k (fun e=>hnI (e▸hk))
 have hil:=h.updIL ho o' fun _=>hm
 refine⟨h.ext,h.imm,fun k hk=>?_,by rw[hos];exact h.os,by rw[htp];exact h.tape,by rw[hout];exact h.output,by rw[hsz];exact h.size,fun k hk hO=>?_,fun k hk=>by rw[hsz];exact h.ilt k hk,fun k o1 hk=>?_,hil.1,hil.2,h.un,fun g zs hg=>(h.glob g zs hg).mono (fun _ _=>rfl) (fun _ h=>h) hw,h.inew⟩
 ·rw[hw k (h.imm k hk)];exact h.iw k hk
 ·by_cases e:k=blk
  ·subst e
   rcases h.lim id _ k base sz ho hm hl with hlim|hlim
   ·omega
   exact absurd hlim hO
  rw[hother k e];exact h.old k hk hO
 rw[bJ]at hk
 split at hk
 ·rename_i e;subst e
  obtain rfl:=J0 hk
  exact hown
 rename_i e
 exact(h.own k o1 hk).mono (fun _ _=>rfl) (fun _ h=>h) hw fun blk' base' sz' e'=>⟨hother blk' (fun eb=>by subst eb;exact h.inj id k _ o1 blk' base sz base' sz' ho hm hk (Ne.symm e) hl e'),fun _ h=>h⟩
theorem Inv.allocMap {c:Ctx} {σ:Nat→Loc} {I:Nat→Prop} {w:World} {hp:H} {un:Nat→Prop} (h:Inv c σ I w hp un) {id:Nat} (hu:un id):
  Inv c (cU σ id (.at_ w.heap.size 0 0)) I (w.alloc (.map #[] 0)) (upd hp id (.mapo [] true)) (fun k=>un k∧k≠id):=by
 have hσ:=dM (l:=.at_ w.heap.size 0 0) (h.un id hu)
 have hw: ∀k,I k→(w.alloc (.map #[] 0)).heap[k]? =w.heap[k]?:=fun k hk=>gKu w _ k (h.ilt k hk)
 have hnI: ¬I w.heap.size:=fun hk=>Nat.lt_irrefl _ (h.ilt _ hk)
 refine⟨fun k hk=>?_,h.imm,fun k hk=>?_,h.os,h.tape,h.output,by simp only[World.size_alloc];have:=h.size;omega,fun k hk ho=>?_,fun k hk=>by simp only[World.size_alloc];have:=h.ilt k hk;omega,?_,?_,?_,?_,fun g ys hg=>(h.glob g ys hg).mono hσ (fun _ h=>h) hw,h.inew⟩
 ·have:=h.ext k hk
  rw[hσ k (by rw[this];exact hk),this]
 ·rw[hw k (h.imm k hk)];exact h.iw k hk
 ·rw[gKu w _ k (by have:=h.size;omega)];exact h.old k hk ho
 ·intro k o ho
  rw[bJ]at ho
  split at ho
  ·rename_i e;subst e
   obtain rfl:=J0 ho
   exact⟨w.heap.size,by simp[cU],⟨⟨#[],0,uH w _,rfl,Go.MapKept.stamped_empty 0,fun i hi=>by simp at hi⟩⟩,fun _=>hnI,fun hm=>by simp at hm⟩
  exact(h.own k o ho).mono hσ (fun _ h=>h) hw fun blk base sz e=>⟨gKu w _ blk ((h.own k o ho).lt e),fun _ h=>h⟩
 ·intro k k' o1 o' blk base sz base' sz' ho hm ho' hne e e'
  have lt: ∀k o blk base sz,k≠id→hp k=some o→cU σ id (.at_ w.heap.size 0 0) k=.at_ blk base sz→σ k=.at_ blk base sz∧blk<w.heap.size:=by
   intro k o blk base sz hk hp e
   simp only[cU,J3 hk]at e
   exact⟨e,(h.own k o hp).lt e⟩
  rw[bJ]at ho ho'
  by_cases ek:k=id
  ·have ek':k'≠id:=fun e2=>hne (by rw[ek,e2])
   rw[J3 ek']at ho'
   have:=(lt k' o' blk base' sz' ek' ho' e').2
   subst ek
   simp only[cU,if_true,Loc.at_.injEq]at e
   omega
  rw[J3 ek]at ho
  have h1:=lt k _ blk base sz ek ho e
  by_cases ek':k'=id
  ·subst ek'
   simp only[cU,if_true,Loc.at_.injEq]at e'
   omega
  rw[J3 ek']at ho'
  have h2:=lt k' _ blk base' sz' ek' ho' e'
  exact h.inj k k' o1 o' blk base sz base' sz' ho hm ho' hne h1.1 h2.1
 ·intro k o1 blk base sz ho hm e
  rw[bJ]at ho
  split at ho
  ·rename_i ek;subst ek
   simp only[cU,if_true,Loc.at_.injEq]at e
   left;have:=h.size;omega
  rename_i ek
  simp only[cU,J3 ek]at e
  exact h.lim k o1 blk base sz ho hm e
 intro k ⟨hk,hne⟩
 simp only[cU,J3 hne]
 exact h.un k hk
def AO.fz:AO→AO| .cells xs _=> .cells xs false| .mapo es _=> .mapo es false
theorem AO.fz_mt (o:AO):o.fz.mt=false:=by cases o<;>rfl
theorem Inv.freezeO {c:Ctx} {σ:Nat→Loc} {I:Nat→Prop} {w:World} {hp:H} {un:Nat→Prop} (h:Inv c σ I w hp un) {id:Nat} {o:AO} (ho:hp id=some o) (hm:o.mt=true):
  ∃I',(∀k,I k→I' k)∧(∀k,I' k→I k∨∃base sz,σ id=.at_ k base sz)∧Inv c σ I' w (upd hp id o.fz) un:=by
 have hil:=h.updIL ho o.fz (fun h=>absurd (o.fz_mt.symm.trans h) (by decide))
 cases hl:σ id with
 |unset=>have:=h.own id _ ho;cases o<;>simp[eD,hl]at this
 |nil=>
  refine⟨I,fun _ h=>h,fun k hk=> .inl hk,?_⟩
  refine {h with own:=fun k o1 hk=>?_,inj:=hil.1,lim:=hil.2}
  rw[bJ]at hk
  split at hk
  ·rename_i e;subst e
   obtain rfl:=J0 hk
   have:=h.own k _ ho
   cases o with
   |cells xs mt=>simpa [eD,AO.fz,hl]using this
   |mapo es mt=>obtain⟨blk,e,_⟩:=this;rw[hl]at e;cases e
  exact h.own k o1 hk
 |at_ blk base sz=>
  have hblt:blk<w.heap.size:=(h.own id _ ho).lt hl
  have hI: ∀k,I k→(I k∨k=blk):=fun k hk=> .inl hk
  refine⟨fun k=>I k∨k=blk,hI,fun k hk=>hk.imp (fun h=>h) (fun e=>⟨base,sz,by rw[e]⟩),?_⟩
  refine {h with inew:=fun k hk=>hk.elim (h.inew k) (fun e=>by subst e;exact .inr (h.lim id o k base sz ho hm hl)),imm:=fun k hk=> .inl (h.imm k hk),ilt:=fun k hk=>hk.elim (h.ilt k) (fun e=>e▸hblt),own:=fun k o1 hk=>?_,inj:=hil.1,lim:=hil.2,glob:=fun g ys hg=>(h.glob g ys hg).mono (fun _ _=>rfl) hI fun _ _=>rfl}
  rw[bJ]at hk
  split at hk
  ·rename_i e;subst e
   obtain rfl:=J0 hk
   have:=h.own k _ ho
   cases o with
   |cells xs mt=>
    simp only[eD,AO.fz,hl]at this⊢
    exact⟨this.1.mono (fun _ _=>rfl) hI (fun _ _=>rfl) rfl,fun hm=>by simp at hm,by simp⟩
   |mapo es mt=>
    obtain⟨b,e1,e2,_⟩:=this
    have:b=blk:=by rw[hl]at e1;cases e1;rfl
    subst this
    exact⟨b,e1,e2.mono (fun _ _=>rfl) hI (fun _ _=>rfl) rfl,fun hm=>by simp at hm,by simp⟩
  rename_i e
  refine(h.own k o1 hk).mono (fun _ _=>rfl) hI (fun _ _=>rfl) fun blk' base' sz' e'=>⟨rfl,fun hm' hn hk'=>?_⟩
  rcases hk' with hk'|hk'
  ·exact hn hk'
  subst hk'
  exact h.inj id k o o1 blk' base sz base' sz' ho hm hk (Ne.symm e) hl e'
theorem Inv.freeze {c:Ctx} {σ:Nat→Loc} {I:Nat→Prop} {w:World} {hp:H} {un:Nat→Prop} (h:Inv c σ I w hp un) {id:Nat} {xs:List AV} (ho:hp id=some (.cells xs true)):
  ∃I',(∀k,I k→I' k)∧(∀k,I' k→I k∨∃base sz,σ id=.at_ k base sz)∧Inv c σ I' w (upd hp id (.cells xs false)) un:=h.freezeO ho rfl
end Go.AX

namespace Go.AX
open Go
def W (n:Int):Int:=IntKind.i64.wrap n
theorem mP {n:Int} (h0: -9223372036854775808≤n) (h1:n≤9223372036854775807):W n=n:=by
 have e:(2:Int)^(64-1)=9223372036854775808:=by decide
 have e':(2:Int)^64=18446744073709551616:=by decide
 simp only[W,IntKind.wrap,IntKind.bits,IntKind.signed,Bool.true_and,decide_eq_true_eq,e,e']
 split<;>omega
theorem eKg {n:Int} (h0:0≤n) (h1:n≤9223372036854775807):W n=n:=mP (by omega) h1
def cYz (x y:Int):Int:=W (BitVec.ofInt 64 x&&&BitVec.ofInt 64 y).toNat
def ior (x y:Int):Int:=W (BitVec.ofInt 64 x|||BitVec.ofInt 64 y).toNat
def cYg (x y:Int):Int:=W (BitVec.ofInt 64 x^^^BitVec.ofInt 64 y).toNat
def aEg:Value→AV
 | .int .u8 n=>if 0≤n∧n<256 then .w8 (BitVec.ofInt 8 n)else .v (.int .u8 n)
 | .int .u16 n=>if 0≤n∧n<65536 then .w16 (BitVec.ofInt 16 n)else .v (.int .u16 n)
 | .int .u32 n=>if 0≤n∧n<4294967296 then .w32 (BitVec.ofInt 32 n)else .v (.int .u32 n)
 | .int .u64 n=>if 0≤n∧n<18446744073709551616 then .w64 (BitVec.ofInt 64 n)else .v (.int .u64 n)
 | .int .i64 n=> .i n
 | .bool x=> .b x
 | .string s=> .s (s.data.toList.map UInt8.toBitVec)
 |x=> .v x
def ofV:Value→AV
 | .agg cs=>if cs.toList.all Value.oneCell' then .agg (cs.toList.map aEg)else .v (.agg cs)
 |x=>aEg x
def pI:List (BitVec 8)→List (BitVec 8)→Bool
 |_,[]=>false
 |[],_::_=>true
 |a::x,b::y=>decide (a<b)||(decide (a=b)&&pI x y)
def gAd:AV→Option Nat
 | .i n=>if 0≤n then some n.toNat else none
 | .w8 x=>some x.toNat
 | .w16 x=>some x.toNat
 | .w32 x=>some x.toNat
 | .w64 x=>some x.toNat
 |_=>none
def aLd (op:BinOp) (a b:BitVec 8):Option AV:=
 match op with
 | .add=>some (.w8 (a+b))| .sub=>some (.w8 (a-b))| .mul=>some (.w8 (a*b))
 | .quo=>if b=0#8 then none else some (.w8 (a/b))| .rem=>if b=0#8 then none else some (.w8 (a%b))
 | .and=>some (.w8 (a&&&b))| .or=>some (.w8 (a|||b))| .xor=>some (.w8 (a^^^b))| .andNot=>some (.w8 (a&&& ~~~b))
 | .eql=>some (.b (decide (a=b)))| .neq=>some (.b (!decide (a=b)))
 | .lss=>some (.b (decide (a<b)))| .leq=>some (.b (decide (a≤b)))| .gtr=>some (.b (decide (b<a)))| .geq=>some (.b (decide (b≤a)))
 |_=>none
def aAo (op:BinOp) (a b:BitVec 16):Option AV:=
 match op with
 | .add=>some (.w16 (a+b))| .sub=>some (.w16 (a-b))| .mul=>some (.w16 (a*b))
 | .quo=>if b=0#16 then none else some (.w16 (a/b))| .rem=>if b=0#16 then none else some (.w16 (a%b))
 | .and=>some (.w16 (a&&&b))| .or=>some (.w16 (a|||b))| .xor=>some (.w16 (a^^^b))| .andNot=>some (.w16 (a&&& ~~~b))
 | .eql=>some (.b (decide (a=b)))| .neq=>some (.b (!decide (a=b)))
 | .lss=>some (.b (decide (a<b)))| .leq=>some (.b (decide (a≤b)))| .gtr=>some (.b (decide (b<a)))| .geq=>some (.b (decide (b≤a)))
 |_=>none
def aAn (op:BinOp) (a b:BitVec 32):Option AV:=
 match op with
 | .add=>some (.w32 (a+b))| .sub=>some (.w32 (a-b))| .mul=>some (.w32 (a*b))
 | .quo=>if b=0#32 then none else some (.w32 (a/b))| .rem=>if b=0#32 then none else some (.w32 (a%b))
 | .and=>some (.w32 (a&&&b))| .or=>some (.w32 (a|||b))| .xor=>some (.w32 (a^^^b))| .andNot=>some (.w32 (a&&& ~~~b))
 | .eql=>some (.b (decide (a=b)))| .neq=>some (.b (!decide (a=b)))
 | .lss=>some (.b (decide (a<b)))| .leq=>some (.b (decide (a≤b)))| .gtr=>some (.b (decide (b<a)))| .geq=>some (.b (decide (b≤a)))
 |_=>none
def aAm (op:BinOp) (a b:BitVec 64):Option AV:=
 match op with
 | .add=>some (.w64 (a+b))| .sub=>some (.w64 (a-b))| .mul=>some (.w64 (a*b))
 | .quo=>if b=0#64 then none else some (.w64 (a/b))| .rem=>if b=0#64 then none else some (.w64 (a%b))
 | .and=>some (.w64 (a&&&b))| .or=>some (.w64 (a|||b))| .xor=>some (.w64 (a^^^b))| .andNot=>some (.w64 (a&&& ~~~b))
 | .eql=>some (.b (decide (a=b)))| .neq=>some (.b (!decide (a=b)))
 | .lss=>some (.b (decide (a<b)))| .leq=>some (.b (decide (a≤b)))| .gtr=>some (.b (decide (b<a)))| .geq=>some (.b (decide (b≤a)))
 |_=>none
def aLb (op:BinOp) (a b:Int):Option AV:=
 match op with
 | .add=>some (.i (W (a+b)))| .sub=>some (.i (W (a-b)))| .mul=>some (.i (W (a*b)))
 | .quo=>if b=0 then none else some (.i (W (a.tdiv b)))| .rem=>if b=0 then none else some (.i (a.tmod b))
 | .and=>some (.i (cYz a b))| .or=>some (.i (ior a b))| .xor=>some (.i (cYg a b))
 | .eql=>some (.b (decide (a=b)))| .neq=>some (.b (!decide (a=b)))
 | .lss=>some (.b (decide (a<b)))| .leq=>some (.b (decide (a≤b)))| .gtr=>some (.b (decide (b<a)))| .geq=>some (.b (decide (b≤a)))
 |_=>none
def aTw (op:BinOp) (a b:List (BitVec 8)):Option AV:=
 match op with
 | .add=>if a.length+b.length≤9223372036854775807 then some (.s (a++b))else none
 | .eql=>some (.b (decide (a=b)))| .neq=>some (.b (!decide (a=b)))
 | .lss=>some (.b (pI a b))| .leq=>some (.b (pI a b||decide (a=b)))| .gtr=>some (.b (!(pI a b||decide (a=b))))| .geq=>some (.b (!pI a b))
 |_=>none
def shl (x y:AV):Option AV:=
 match gAd y with
 |none=>none
 |some n=>match x with
  | .w8 a=>some (.w8 (a <<<n))| .w16 a=>some (.w16 (a <<<n))| .w32 a=>some (.w32 (a <<<n))| .w64 a=>some (.w64 (a <<<n))
  | .i a=>some (.i (W (a*2^(min n 64))))
  |_=>none
def shr (x y:AV):Option AV:=
 match gAd y with
 |none=>none
 |some n=>match x with
  | .w8 a=>some (.w8 (a>>>n))| .w16 a=>some (.w16 (a>>>n))| .w32 a=>some (.w32 (a>>>n))| .w64 a=>some (.w64 (a>>>n))
  | .i a=>some (.i (a.fdiv (2^(min n 64))))
  |_=>none
def aGp (x y:AV):Option Bool:=
 match x,y with
 | .v (.pointer none),.v (.pointer none)=>some true
 | .v (.pointer none),.op _ _| .op _ _,.v (.pointer none)=>some false
 | .v (.pointer none),.rp _| .rp _,.v (.pointer none)=>some false
 |_,_=>none
def bin (op:BinOp) (x y:AV):Option AV:=
 match op with
 | .shl=>shl x y
 | .shr=>shr x y
 |op=>match x,y with
  | .w8 a,.w8 b=>aLd op a b
  | .w16 a,.w16 b=>aAo op a b
  | .w32 a,.w32 b=>aAn op a b
  | .w64 a,.w64 b=>aAm op a b
  | .i a,.i b=>aLb op a b
  | .s a,.s b=>aTw op a b
  |_,_=>none
def un (op:UnOp) (x:AV):Option AV:=
 match op,x with
 | .neg,.i a=>some (.i (W (0-a)))
 | .neg,.w8 a=>some (.w8 (0#8-a))| .neg,.w16 a=>some (.w16 (0#16-a))| .neg,.w32 a=>some (.w32 (0#32-a))| .neg,.w64 a=>some (.w64 (0#64-a))
 | .xor,.w8 a=>some (.w8 (~~~a))| .xor,.w16 a=>some (.w16 (~~~a))| .xor,.w32 a=>some (.w32 (~~~a))| .xor,.w64 a=>some (.w64 (~~~a))
 | .not,.b a=>some (.b (!a))
 |_,_=>none
def ix:AV→Option Int
 | .i n=>some n
 | .w8 x=>some (x.toNat:Int)
 | .w16 x=>some (x.toNat:Int)
 | .w32 x=>some (x.toNat:Int)
 | .w64 x=>some (x.toNat:Int)
 |_=>none
def toK (k:IntKind) (x:AV):Option AV:=
 match k with
 | .u8=>match x with
  | .i n=>some (.w8 (BitVec.ofInt 8 n))| .w8 a=>some (.w8 a)| .w16 a=>some (.w8 (a.setWidth 8))| .w32 a=>some (.w8 (a.setWidth 8))| .w64 a=>some (.w8 (a.setWidth 8))|_=>none
 | .u16=>match x with
  | .i n=>some (.w16 (BitVec.ofInt 16 n))| .w8 a=>some (.w16 (a.setWidth 16))| .w16 a=>some (.w16 a)| .w32 a=>some (.w16 (a.setWidth 16))| .w64 a=>some (.w16 (a.setWidth 16))|_=>none
 | .u32=>match x with
  | .i n=>some (.w32 (BitVec.ofInt 32 n))| .w8 a=>some (.w32 (a.setWidth 32))| .w16 a=>some (.w32 (a.setWidth 32))| .w32 a=>some (.w32 a)| .w64 a=>some (.w32 (a.setWidth 32))|_=>none
 | .u64=>match x with
  | .i n=>some (.w64 (BitVec.ofInt 64 n))| .w8 a=>some (.w64 (a.setWidth 64))| .w16 a=>some (.w64 (a.setWidth 64))| .w32 a=>some (.w64 (a.setWidth 64))| .w64 a=>some (.w64 a)|_=>none
 | .i64=>match x with
  | .i n=>some (.i (W n))| .w8 a=>some (.i (a.toNat:Int))| .w16 a=>some (.i (a.toNat:Int))| .w32 a=>some (.i (a.toNat:Int))| .w64 a=>some (.i (W (a.toNat:Int)))|_=>none
 |_=>none
theorem eF {k:IntKind} (hk:k.signed=false) (m:Int):k.wrap m=((BitVec.ofInt k.bits m).toNat:Int):=by
 simp only[IntKind.wrap,hk,Bool.false_and,Bool.false_eq_true,if_false,BitVec.toNat_ofInt]
 rw[Int.toNat_of_nonneg (Int.emod_nonneg _ (by have:=Nat.two_pow_pos k.bits;omega))]
 simp
theorem aU {n:Nat} (x:BitVec n):BitVec.ofInt n (x.toNat:Int)=x:=by
 apply BitVec.eq_of_toNat_eq
 simp[]
theorem ofInt_toNat' {n m:Nat} (x:BitVec n):BitVec.ofInt m (x.toNat:Int)=x.setWidth m:=by
 apply BitVec.eq_of_toNat_eq
 simp[]
theorem ofInt_add' {n:Nat} (x y:Int):BitVec.ofInt n (x+y)=BitVec.ofInt n x+BitVec.ofInt n y:=by
 apply BitVec.eq_of_toInt_eq
 simp[BitVec.toInt_ofInt,BitVec.toInt_add]
theorem ofInt_mul' {n:Nat} (x y:Int):BitVec.ofInt n (x*y)=BitVec.ofInt n x*BitVec.ofInt n y:=by
 apply BitVec.eq_of_toInt_eq
 simp[BitVec.toInt_ofInt,BitVec.toInt_mul]
theorem ofInt_sub' {n:Nat} (x y:Int):BitVec.ofInt n (x-y)=BitVec.ofInt n x-BitVec.ofInt n y:=by
 apply BitVec.eq_of_toInt_eq
 simp[BitVec.toInt_ofInt,BitVec.toInt_sub]
section
variable {σ : Nat → Loc} {I : Nat → Prop} {w : World}
theorem aBy (x:Value):Rel σ I w (aEg x) x:=by
 unfold aEg
 split
 ·split
  ·rename_i n h
   have e:((BitVec.ofInt 8 n).toNat:Int)=n:=by simp[BitVec.toNat_ofInt];omega
   have:=Rel.w8 (σ:=σ) (I:=I) (w:=w) (BitVec.ofInt 8 n);rwa [e]at this
  exact .v _
 ·split
  ·rename_i n h
   have e:((BitVec.ofInt 16 n).toNat:Int)=n:=by simp[BitVec.toNat_ofInt];omega
   have:=Rel.w16 (σ:=σ) (I:=I) (w:=w) (BitVec.ofInt 16 n);rwa [e]at this
  exact .v _
 ·split
  ·rename_i n h
   have e:((BitVec.ofInt 32 n).toNat:Int)=n:=by simp[BitVec.toNat_ofInt];omega
   have:=Rel.w32 (σ:=σ) (I:=I) (w:=w) (BitVec.ofInt 32 n);rwa [e]at this
  exact .v _
 ·split
  ·rename_i n h
   have e:((BitVec.ofInt 64 n).toNat:Int)=n:=by simp[BitVec.toNat_ofInt];omega
   have:=Rel.w64 (σ:=σ) (I:=I) (w:=w) (BitVec.ofInt 64 n);rwa [e]at this
  exact .v _
 ·exact .i _
 ·exact .b _
 ·rename_i s
  have e:dA (s.data.toList.map UInt8.toBitVec)=s:=by
   simp[dA,List.map_map,Function.comp_def]
  have:=Rel.s (σ:=σ) (I:=I) (w:=w) (s.data.toList.map UInt8.toBitVec);rwa [e]at this
 exact .v _
theorem zH {x:Value} (h:x.oneCell'=true):(aEg x).isCell=true:=by
 unfold aEg
 split<;>first|rfl|(split<;>first|rfl|exact h)|exact h
theorem vP (x:Value):Rel σ I w (ofV x) x:=by
 unfold ofV
 split
 ·rename_i cs
  split
  ·rename_i h
   refine .agg _ _ (by simp) (fun i hi=>?_) (fun i hi=>?_)
   ·simp only[List.getElem_map]
    exact zH (List.all_eq_true.1 h _ (List.getElem_mem _))
   simp only[List.length_map,Array.length_toList]at hi
   simp only[List.getElem_map,Array.getElem_toList]
   rw[Array.getD_eq_getD_getElem?,Array.getElem?_eq_getElem hi]
   exact aBy _
  exact .v _
 exact aBy _
end
end Go.AX

namespace Go.AX
open Go
section
variable {P : Program} {σ : Nat → Loc} {I : Nat → Prop} {w : World}
theorem qJ {p:Prop} [Decidable p] {q:Bool} (h:q=true↔p):Value.bool q=Value.bool (decide p):=by
 congr 1;rw[Bool.eq_iff_iff,h];simp
theorem cDb {p:Prop} [Decidable p] {q:Bool} (h:q=true↔¬p):Value.bool q=Value.bool (!decide p):=by
 congr 1;rw[Bool.eq_iff_iff,h];simp
theorem bL {k:IntKind} (hk:k.signed=false) (m:Nat) (h:m<2^k.bits):k.wrap (m:Int)=(m:Int):=by
 rw[eF hk,BitVec.toNat_ofInt]
 rw[←Int.natCast_emod,U2,Nat.mod_eq_of_lt h]
theorem aLc {op:BinOp} {a b:BitVec 8} {z:AV} {t:TypeId} (h:aLd op a b=some z):
  ∃v,(binOp op t (.int .u8 a.toNat) (.int .u8 b.toNat)).run P w=.ok v w∧Rel σ I w z v:=by
 have hs:IntKind.signed .u8=false:=rfl
 cases op with
 |add=>
  obtain rfl:=J0 h
  refine⟨_,by simp only[binOp,Op.intArith,J3 (show¬(IntKind.u8≠IntKind.u8)from fun h=>h rfl),Sem.run_pure];rfl,?_⟩
  rw[show(a.toNat:Int)+b.toNat=((a.toNat+b.toNat:Nat):Int)from by simp,eF hs,show BitVec.ofInt (IntKind.bits .u8) ((a.toNat+b.toNat:Nat):Int)=a+b from by
   rw[Int.natCast_add,ofInt_add'];show BitVec.ofInt 8 _+BitVec.ofInt 8 _=_;rw[aU,aU]]
  exact .w8 _
 |sub=>
  obtain rfl:=J0 h
  refine⟨_,by simp only[binOp,Op.intArith,J3 (show¬(IntKind.u8≠IntKind.u8)from fun h=>h rfl),Sem.run_pure];rfl,?_⟩
  rw[eF hs,show BitVec.ofInt (IntKind.bits .u8) ((a.toNat:Int)-(b.toNat:Int))=a-b from by
   rw[ofInt_sub'];show BitVec.ofInt 8 _-BitVec.ofInt 8 _=_;rw[aU,aU]]
  exact .w8 _
 |mul=>
  obtain rfl:=J0 h
  refine⟨_,by simp only[binOp,Op.intArith,J3 (show¬(IntKind.u8≠IntKind.u8)from fun h=>h rfl),Sem.run_pure];rfl,?_⟩
  rw[eF hs,show BitVec.ofInt (IntKind.bits .u8) ((a.toNat:Int)*(b.toNat:Int))=a*b from by
   rw[ofInt_mul'];show BitVec.ofInt 8 _*BitVec.ofInt 8 _=_;rw[aU,aU]]
  exact .w8 _
 |quo=>
  simp only[aLd]at h
  split at h
  ·cases h
  rename_i hb
  obtain rfl:=J0 h
  have hb': ¬(b.toNat:Int)=0:=by
   intro e;apply hb;apply BitVec.eq_of_toNat_eq;simpa using e
  refine⟨_,by simp only[binOp,Op.intDiv,J3 (show¬(IntKind.u8≠IntKind.u8)from fun h=>h rfl),J3 hb',Sem.run_pure];rfl,?_⟩
  rw[show(a.toNat:Int).tdiv b.toNat=((a.toNat/b.toNat:Nat):Int)from by simp[Int.tdiv],bL hs _ (Nat.lt_of_le_of_lt (Nat.div_le_self _ _) a.isLt),←BitVec.toNat_udiv]
  exact .w8 _
 |rem=>
  simp only[aLd]at h
  split at h
  ·cases h
  rename_i hb
  obtain rfl:=J0 h
  have hb': ¬(b.toNat:Int)=0:=by
   intro e;apply hb;apply BitVec.eq_of_toNat_eq;simpa using e
  refine⟨_,by simp only[binOp,Op.intDiv,J3 (show¬(IntKind.u8≠IntKind.u8)from fun h=>h rfl),J3 hb',Sem.run_pure];rfl,?_⟩
  rw[show(a.toNat:Int).tmod b.toNat=((a.toNat%b.toNat:Nat):Int)from by simp[Int.tmod],←BitVec.toNat_umod]
  exact .w8 _
 |and=>
  obtain rfl:=J0 h
  refine⟨_,by simp only[binOp,Op.intBits,J3 (show¬(IntKind.u8≠IntKind.u8)from fun h=>h rfl),Sem.run_pure];rfl,?_⟩
  rw[show(BitVec.ofInt (IntKind.bits .u8) (a.toNat:Int))=a from aU a,show(BitVec.ofInt (IntKind.bits .u8) (b.toNat:Int))=b from aU b]
  first|(rw[←BitVec.toNat_and,bL hs _ (BitVec.isLt _)];exact .w8 _)|(rw[bL hs _ (BitVec.isLt _)];exact .w8 _)
 |or=>
  obtain rfl:=J0 h
  refine⟨_,by simp only[binOp,Op.intBits,J3 (show¬(IntKind.u8≠IntKind.u8)from fun h=>h rfl),Sem.run_pure];rfl,?_⟩
  rw[show(BitVec.ofInt (IntKind.bits .u8) (a.toNat:Int))=a from aU a,show(BitVec.ofInt (IntKind.bits .u8) (b.toNat:Int))=b from aU b]
  first|(rw[←BitVec.toNat_or,bL hs _ (BitVec.isLt _)];exact .w8 _)|(rw[bL hs _ (BitVec.isLt _)];exact .w8 _)
 |xor=>
  obtain rfl:=J0 h
  refine⟨_,by simp only[binOp,Op.intBits,J3 (show¬(IntKind.u8≠IntKind.u8)from fun h=>h rfl),Sem.run_pure];rfl,?_⟩
  rw[show(BitVec.ofInt (IntKind.bits .u8) (a.toNat:Int))=a from aU a,show(BitVec.ofInt (IntKind.bits .u8) (b.toNat:Int))=b from aU b]
  first|(rw[←BitVec.toNat_xor,bL hs _ (BitVec.isLt _)];exact .w8 _)|(rw[bL hs _ (BitVec.isLt _)];exact .w8 _)
 |andNot=>
  obtain rfl:=J0 h
  refine⟨_,by simp only[binOp,Op.intBits,Sem.run_pure,J3 (show¬(IntKind.u8≠IntKind.u8)from fun h=>h rfl)];rfl,?_⟩
  rw[show(BitVec.ofInt (IntKind.bits .u8) (a.toNat:Int))=a from aU a,show(BitVec.ofInt (IntKind.bits .u8) (b.toNat:Int))=b from aU b,bL hs _ (BitVec.isLt _)]
  exact .w8 _
 |eql=>
  obtain rfl:=J0 h
  refine⟨_,by simp only[binOp,Op.intCmp,Sem.run_pure,J3 (show¬(IntKind.u8≠IntKind.u8)from fun h=>h rfl)];rfl,?_⟩
  rw[qJ (p:=a=b) (by rw[beq_iff_eq,Int.ofNat_inj,BitVec.toNat_inj])]
  exact .b _
 |neq=>
  obtain rfl:=J0 h
  refine⟨_,by simp only[binOp,Op.intCmp,Sem.run_pure,J3 (show¬(IntKind.u8≠IntKind.u8)from fun h=>h rfl)];rfl,?_⟩
  rw[cDb (p:=a=b) (by rw[bne_iff_ne,ne_eq,Int.ofNat_inj,BitVec.toNat_inj])]
  exact .b _
 |lss=>
  obtain rfl:=J0 h
  refine⟨_,by simp only[binOp,Op.intCmp,Sem.run_pure,J3 (show¬(IntKind.u8≠IntKind.u8)from fun h=>h rfl)];rfl,?_⟩
  rw[qJ (p:=a<b) (by rw[decide_eq_true_eq,Int.ofNat_lt,BitVec.lt_def])]
  exact .b _
 |leq=>
  obtain rfl:=J0 h
  refine⟨_,by simp only[binOp,Op.intCmp,Sem.run_pure,J3 (show¬(IntKind.u8≠IntKind.u8)from fun h=>h rfl)];rfl,?_⟩
  rw[qJ (p:=a≤b) (by rw[decide_eq_true_eq,Int.ofNat_le,BitVec.le_def])]
  exact .b _
 |gtr=>
  obtain rfl:=J0 h
  refine⟨_,by simp only[binOp,Op.intCmp,Sem.run_pure,J3 (show¬(IntKind.u8≠IntKind.u8)from fun h=>h rfl)];rfl,?_⟩
  rw[qJ (p:=b<a) (by rw[decide_eq_true_eq,gt_iff_lt,Int.ofNat_lt,BitVec.lt_def])]
  exact .b _
 |geq=>
  obtain rfl:=J0 h
  refine⟨_,by simp only[binOp,Op.intCmp,Sem.run_pure,J3 (show¬(IntKind.u8≠IntKind.u8)from fun h=>h rfl)];rfl,?_⟩
  rw[qJ (p:=b≤a) (by rw[decide_eq_true_eq,ge_iff_le,Int.ofNat_le,BitVec.le_def])]
  exact .b _
 |shl=>cases h
 |shr=>cases h
theorem aFf {op:BinOp} {a b:BitVec 16} {z:AV} {t:TypeId} (h:aAo op a b=some z):
  ∃v,(binOp op t (.int .u16 a.toNat) (.int .u16 b.toNat)).run P w=.ok v w∧Rel σ I w z v:=by
 have hs:IntKind.signed .u16=false:=rfl
 cases op with
 |add=>
  obtain rfl:=J0 h
  refine⟨_,by simp only[binOp,Op.intArith,J3 (show¬(IntKind.u16≠IntKind.u16)from fun h=>h rfl),Sem.run_pure];rfl,?_⟩
  rw[show(a.toNat:Int)+b.toNat=((a.toNat+b.toNat:Nat):Int)from by simp,eF hs,show BitVec.ofInt (IntKind.bits .u16) ((a.toNat+b.toNat:Nat):Int)=a+b from by
   rw[Int.natCast_add,ofInt_add'];show BitVec.ofInt 16 _+BitVec.ofInt 16 _=_;rw[aU,aU]]
  exact .w16 _
 |sub=>
  obtain rfl:=J0 h
  refine⟨_,by simp only[binOp,Op.intArith,J3 (show¬(IntKind.u16≠IntKind.u16)from fun h=>h rfl),Sem.run_pure];rfl,?_⟩
  rw[eF hs,show BitVec.ofInt (IntKind.bits .u16) ((a.toNat:Int)-(b.toNat:Int))=a-b from by
   rw[ofInt_sub'];show BitVec.ofInt 16 _-BitVec.ofInt 16 _=_;rw[aU,aU]]
  exact .w16 _
 |mul=>
  obtain rfl:=J0 h
  refine⟨_,by simp only[binOp,Op.intArith,J3 (show¬(IntKind.u16≠IntKind.u16)from fun h=>h rfl),Sem.run_pure];rfl,?_⟩
  rw[eF hs,show BitVec.ofInt (IntKind.bits .u16) ((a.toNat:Int)*(b.toNat:Int))=a*b from by
   rw[ofInt_mul'];show BitVec.ofInt 16 _*BitVec.ofInt 16 _=_;rw[aU,aU]]
  exact .w16 _
 |quo=>
  simp only[aAo]at h
  split at h
  ·cases h
  rename_i hb
  obtain rfl:=J0 h
  have hb': ¬(b.toNat:Int)=0:=by
   intro e;apply hb;apply BitVec.eq_of_toNat_eq;simpa using e
  refine⟨_,by simp only[binOp,Op.intDiv,J3 (show¬(IntKind.u16≠IntKind.u16)from fun h=>h rfl),J3 hb',Sem.run_pure];rfl,?_⟩
  rw[show(a.toNat:Int).tdiv b.toNat=((a.toNat/b.toNat:Nat):Int)from by simp[Int.tdiv],bL hs _ (Nat.lt_of_le_of_lt (Nat.div_le_self _ _) a.isLt),←BitVec.toNat_udiv]
  exact .w16 _
 |rem=>
  simp only[aAo]at h
  split at h
  ·cases h
  rename_i hb
  obtain rfl:=J0 h
  have hb': ¬(b.toNat:Int)=0:=by
   intro e;apply hb;apply BitVec.eq_of_toNat_eq;simpa using e
  refine⟨_,by simp only[binOp,Op.intDiv,J3 (show¬(IntKind.u16≠IntKind.u16)from fun h=>h rfl),J3 hb',Sem.run_pure];rfl,?_⟩
  rw[show(a.toNat:Int).tmod b.toNat=((a.toNat%b.toNat:Nat):Int)from by simp[Int.tmod],←BitVec.toNat_umod]
  exact .w16 _
 |and=>
  obtain rfl:=J0 h
  refine⟨_,by simp only[binOp,Op.intBits,J3 (show¬(IntKind.u16≠IntKind.u16)from fun h=>h rfl),Sem.run_pure];rfl,?_⟩
  rw[show(BitVec.ofInt (IntKind.bits .u16) (a.toNat:Int))=a from aU a,show(BitVec.ofInt (IntKind.bits .u16) (b.toNat:Int))=b from aU b]
  first|(rw[←BitVec.toNat_and,bL hs _ (BitVec.isLt _)];exact .w16 _)|(rw[bL hs _ (BitVec.isLt _)];exact .w16 _)
 |or=>
  obtain rfl:=J0 h
  refine⟨_,by simp only[binOp,Op.intBits,J3 (show¬(IntKind.u16≠IntKind.u16)from fun h=>h rfl),Sem.run_pure];rfl,?_⟩
  rw[show(BitVec.ofInt (IntKind.bits .u16) (a.toNat:Int))=a from aU a,show(BitVec.ofInt (IntKind.bits .u16) (b.toNat:Int))=b from aU b]
  first|(rw[←BitVec.toNat_or,bL hs _ (BitVec.isLt _)];exact .w16 _)|(rw[bL hs _ (BitVec.isLt _)];exact .w16 _)
 |xor=>
  obtain rfl:=J0 h
  refine⟨_,by simp only[binOp,Op.intBits,J3 (show¬(IntKind.u16≠IntKind.u16)from fun h=>h rfl),Sem.run_pure];rfl,?_⟩
  rw[show(BitVec.ofInt (IntKind.bits .u16) (a.toNat:Int))=a from aU a,show(BitVec.ofInt (IntKind.bits .u16) (b.toNat:Int))=b from aU b]
  first|(rw[←BitVec.toNat_xor,bL hs _ (BitVec.isLt _)];exact .w16 _)|(rw[bL hs _ (BitVec.isLt _)];exact .w16 _)
 |andNot=>
  obtain rfl:=J0 h
  refine⟨_,by simp only[binOp,Op.intBits,Sem.run_pure,J3 (show¬(IntKind.u16≠IntKind.u16)from fun h=>h rfl)];rfl,?_⟩
  rw[show(BitVec.ofInt (IntKind.bits .u16) (a.toNat:Int))=a from aU a,show(BitVec.ofInt (IntKind.bits .u16) (b.toNat:Int))=b from aU b,bL hs _ (BitVec.isLt _)]
  exact .w16 _
 |eql=>
  obtain rfl:=J0 h
  refine⟨_,by simp only[binOp,Op.intCmp,Sem.run_pure,J3 (show¬(IntKind.u16≠IntKind.u16)from fun h=>h rfl)];rfl,?_⟩
  rw[qJ (p:=a=b) (by rw[beq_iff_eq,Int.ofNat_inj,BitVec.toNat_inj])]
  exact .b _
 |neq=>
  obtain rfl:=J0 h
  refine⟨_,by simp only[binOp,Op.intCmp,Sem.run_pure,J3 (show¬(IntKind.u16≠IntKind.u16)from fun h=>h rfl)];rfl,?_⟩
  rw[cDb (p:=a=b) (by rw[bne_iff_ne,ne_eq,Int.ofNat_inj,BitVec.toNat_inj])]
  exact .b _
 |lss=>
  obtain rfl:=J0 h
  refine⟨_,by simp only[binOp,Op.intCmp,Sem.run_pure,J3 (show¬(IntKind.u16≠IntKind.u16)from fun h=>h rfl)];rfl,?_⟩
  rw[qJ (p:=a<b) (by rw[decide_eq_true_eq,Int.ofNat_lt,BitVec.lt_def])]
  exact .b _
 |leq=>
  obtain rfl:=J0 h
  refine⟨_,by simp only[binOp,Op.intCmp,Sem.run_pure,J3 (show¬(IntKind.u16≠IntKind.u16)from fun h=>h rfl)];rfl,?_⟩
  rw[qJ (p:=a≤b) (by rw[decide_eq_true_eq,Int.ofNat_le,BitVec.le_def])]
  exact .b _
 |gtr=>
  obtain rfl:=J0 h
  refine⟨_,by simp only[binOp,Op.intCmp,Sem.run_pure,J3 (show¬(IntKind.u16≠IntKind.u16)from fun h=>h rfl)];rfl,?_⟩
  rw[qJ (p:=b<a) (by rw[decide_eq_true_eq,gt_iff_lt,Int.ofNat_lt,BitVec.lt_def])]
  exact .b _
 |geq=>
  obtain rfl:=J0 h
  refine⟨_,by simp only[binOp,Op.intCmp,Sem.run_pure,J3 (show¬(IntKind.u16≠IntKind.u16)from fun h=>h rfl)];rfl,?_⟩
  rw[qJ (p:=b≤a) (by rw[decide_eq_true_eq,ge_iff_le,Int.ofNat_le,BitVec.le_def])]
  exact .b _
 |shl=>cases h
 |shr=>cases h
theorem aFe {op:BinOp} {a b:BitVec 32} {z:AV} {t:TypeId} (h:aAn op a b=some z):
  ∃v,(binOp op t (.int .u32 a.toNat) (.int .u32 b.toNat)).run P w=.ok v w∧Rel σ I w z v:=by
 have hs:IntKind.signed .u32=false:=rfl
 cases op with
 |add=>
  obtain rfl:=J0 h
  refine⟨_,by simp only[binOp,Op.intArith,J3 (show¬(IntKind.u32≠IntKind.u32)from fun h=>h rfl),Sem.run_pure];rfl,?_⟩
  rw[show(a.toNat:Int)+b.toNat=((a.toNat+b.toNat:Nat):Int)from by simp,eF hs,show BitVec.ofInt (IntKind.bits .u32) ((a.toNat+b.toNat:Nat):Int)=a+b from by
   rw[Int.natCast_add,ofInt_add'];show BitVec.ofInt 32 _+BitVec.ofInt 32 _=_;rw[aU,aU]]
  exact .w32 _
 |sub=>
  obtain rfl:=J0 h
  refine⟨_,by simp only[binOp,Op.intArith,J3 (show¬(IntKind.u32≠IntKind.u32)from fun h=>h rfl),Sem.run_pure];rfl,?_⟩
  rw[eF hs,show BitVec.ofInt (IntKind.bits .u32) ((a.toNat:Int)-(b.toNat:Int))=a-b from by
   rw[ofInt_sub'];show BitVec.ofInt 32 _-BitVec.ofInt 32 _=_;rw[aU,aU]]
  exact .w32 _
 |mul=>
  obtain rfl:=J0 h
  refine⟨_,by simp only[binOp,Op.intArith,J3 (show¬(IntKind.u32≠IntKind.u32)from fun h=>h rfl),Sem.run_pure];rfl,?_⟩
  rw[eF hs,show BitVec.ofInt (IntKind.bits .u32) ((a.toNat:Int)*(b.toNat:Int))=a*b from by
   rw[ofInt_mul'];show BitVec.ofInt 32 _*BitVec.ofInt 32 _=_;rw[aU,aU]]
  exact .w32 _
 |quo=>
  simp only[aAn]at h
  split at h
  ·cases h
  rename_i hb
  obtain rfl:=J0 h
  have hb': ¬(b.toNat:Int)=0:=by
   intro e;apply hb;apply BitVec.eq_of_toNat_eq;simpa using e
  refine⟨_,by simp only[binOp,Op.intDiv,J3 (show¬(IntKind.u32≠IntKind.u32)from fun h=>h rfl),J3 hb',Sem.run_pure];rfl,?_⟩
  rw[show(a.toNat:Int).tdiv b.toNat=((a.toNat/b.toNat:Nat):Int)from by simp[Int.tdiv],bL hs _ (Nat.lt_of_le_of_lt (Nat.div_le_self _ _) a.isLt),←BitVec.toNat_udiv]
  exact .w32 _
 |rem=>
  simp only[aAn]at h
  split at h
  ·cases h
  rename_i hb
  obtain rfl:=J0 h
  have hb': ¬(b.toNat:Int)=0:=by
   intro e;apply hb;apply BitVec.eq_of_toNat_eq;simpa using e
  refine⟨_,by simp only[binOp,Op.intDiv,J3 (show¬(IntKind.u32≠IntKind.u32)from fun h=>h rfl),J3 hb',Sem.run_pure];rfl,?_⟩
  rw[show(a.toNat:Int).tmod b.toNat=((a.toNat%b.toNat:Nat):Int)from by simp[Int.tmod],←BitVec.toNat_umod]
  exact .w32 _
 |and=>
  obtain rfl:=J0 h
  refine⟨_,by simp only[binOp,Op.intBits,J3 (show¬(IntKind.u32≠IntKind.u32)from fun h=>h rfl),Sem.run_pure];rfl,?_⟩
  rw[show(BitVec.ofInt (IntKind.bits .u32) (a.toNat:Int))=a from aU a,show(BitVec.ofInt (IntKind.bits .u32) (b.toNat:Int))=b from aU b]
  first|(rw[←BitVec.toNat_and,bL hs _ (BitVec.isLt _)];exact .w32 _)|(rw[bL hs _ (BitVec.isLt _)];exact .w32 _)
 |or=>
  obtain rfl:=J0 h
  refine⟨_,by simp only[binOp,Op.intBits,J3 (show¬(IntKind.u32≠IntKind.u32)from fun h=>h rfl),Sem.run_pure];rfl,?_⟩
  rw[show(BitVec.ofInt (IntKind.bits .u32) (a.toNat:Int))=a from aU a,show(BitVec.ofInt (IntKind.bits .u32) (b.toNat:Int))=b from aU b]
  first|(rw[←BitVec.toNat_or,bL hs _ (BitVec.isLt _)];exact .w32 _)|(rw[bL hs _ (BitVec.isLt _)];exact .w32 _)
 |xor=>
  obtain rfl:=J0 h
  refine⟨_,by simp only[binOp,Op.intBits,J3 (show¬(IntKind.u32≠IntKind.u32)from fun h=>h rfl),Sem.run_pure];rfl,?_⟩
  rw[show(BitVec.ofInt (IntKind.bits .u32) (a.toNat:Int))=a from aU a,show(BitVec.ofInt (IntKind.bits .u32) (b.toNat:Int))=b from aU b]
  first|(rw[←BitVec.toNat_xor,bL hs _ (BitVec.isLt _)];exact .w32 _)|(rw[bL hs _ (BitVec.isLt _)];exact .w32 _)
 |andNot=>
  obtain rfl:=J0 h
  refine⟨_,by simp only[binOp,Op.intBits,Sem.run_pure,J3 (show¬(IntKind.u32≠IntKind.u32)from fun h=>h rfl)];rfl,?_⟩
  rw[show(BitVec.ofInt (IntKind.bits .u32) (a.toNat:Int))=a from aU a,show(BitVec.ofInt (IntKind.bits .u32) (b.toNat:Int))=b from aU b,bL hs _ (BitVec.isLt _)]
  exact .w32 _
 |eql=>
  obtain rfl:=J0 h
  refine⟨_,by simp only[binOp,Op.intCmp,Sem.run_pure,J3 (show¬(IntKind.u32≠IntKind.u32)from fun h=>h rfl)];rfl,?_⟩
  rw[qJ (p:=a=b) (by rw[beq_iff_eq,Int.ofNat_inj,BitVec.toNat_inj])]
  exact .b _
 |neq=>
  obtain rfl:=J0 h
  refine⟨_,by simp only[binOp,Op.intCmp,Sem.run_pure,J3 (show¬(IntKind.u32≠IntKind.u32)from fun h=>h rfl)];rfl,?_⟩
  rw[cDb (p:=a=b) (by rw[bne_iff_ne,ne_eq,Int.ofNat_inj,BitVec.toNat_inj])]
  exact .b _
 |lss=>
  obtain rfl:=J0 h
  refine⟨_,by simp only[binOp,Op.intCmp,Sem.run_pure,J3 (show¬(IntKind.u32≠IntKind.u32)from fun h=>h rfl)];rfl,?_⟩
  rw[qJ (p:=a<b) (by rw[decide_eq_true_eq,Int.ofNat_lt,BitVec.lt_def])]
  exact .b _
 |leq=>
  obtain rfl:=J0 h
  refine⟨_,by simp only[binOp,Op.intCmp,Sem.run_pure,J3 (show¬(IntKind.u32≠IntKind.u32)from fun h=>h rfl)];rfl,?_⟩
  rw[qJ (p:=a≤b) (by rw[decide_eq_true_eq,Int.ofNat_le,BitVec.le_def])]
  exact .b _
 |gtr=>
  obtain rfl:=J0 h
  refine⟨_,by simp only[binOp,Op.intCmp,Sem.run_pure,J3 (show¬(IntKind.u32≠IntKind.u32)from fun h=>h rfl)];rfl,?_⟩
  rw[qJ (p:=b<a) (by rw[decide_eq_true_eq,gt_iff_lt,Int.ofNat_lt,BitVec.lt_def])]
  exact .b _
 |geq=>
  obtain rfl:=J0 h
  refine⟨_,by simp only[binOp,Op.intCmp,Sem.run_pure,J3 (show¬(IntKind.u32≠IntKind.u32)from fun h=>h rfl)];rfl,?_⟩
  rw[qJ (p:=b≤a) (by rw[decide_eq_true_eq,ge_iff_le,Int.ofNat_le,BitVec.le_def])]
  exact .b _
 |shl=>cases h
 |shr=>cases h
theorem aFd {op:BinOp} {a b:BitVec 64} {z:AV} {t:TypeId} (h:aAm op a b=some z):
  ∃v,(binOp op t (.int .u64 a.toNat) (.int .u64 b.toNat)).run P w=.ok v w∧Rel σ I w z v:=by
 have hs:IntKind.signed .u64=false:=rfl
 cases op with
 |add=>
  obtain rfl:=J0 h
  refine⟨_,by simp only[binOp,Op.intArith,J3 (show¬(IntKind.u64≠IntKind.u64)from fun h=>h rfl),Sem.run_pure];rfl,?_⟩
  rw[show(a.toNat:Int)+b.toNat=((a.toNat+b.toNat:Nat):Int)from by simp,eF hs,show BitVec.ofInt (IntKind.bits .u64) ((a.toNat+b.toNat:Nat):Int)=a+b from by
   rw[Int.natCast_add,ofInt_add'];show BitVec.ofInt 64 _+BitVec.ofInt 64 _=_;rw[aU,aU]]
  exact .w64 _
 |sub=>
  obtain rfl:=J0 h
  refine⟨_,by simp only[binOp,Op.intArith,J3 (show¬(IntKind.u64≠IntKind.u64)from fun h=>h rfl),Sem.run_pure];rfl,?_⟩
  rw[eF hs,show BitVec.ofInt (IntKind.bits .u64) ((a.toNat:Int)-(b.toNat:Int))=a-b from by
   rw[ofInt_sub'];show BitVec.ofInt 64 _-BitVec.ofInt 64 _=_;rw[aU,aU]]
  exact .w64 _
 |mul=>
  obtain rfl:=J0 h
  refine⟨_,by simp only[binOp,Op.intArith,J3 (show¬(IntKind.u64≠IntKind.u64)from fun h=>h rfl),Sem.run_pure];rfl,?_⟩
  rw[eF hs,show BitVec.ofInt (IntKind.bits .u64) ((a.toNat:Int)*(b.toNat:Int))=a*b from by
   rw[ofInt_mul'];show BitVec.ofInt 64 _*BitVec.ofInt 64 _=_;rw[aU,aU]]
  exact .w64 _
 |quo=>
  simp only[aAm]at h
  split at h
  ·cases h
  rename_i hb
  obtain rfl:=J0 h
  have hb': ¬(b.toNat:Int)=0:=by
   intro e;apply hb;apply BitVec.eq_of_toNat_eq;simpa using e
  refine⟨_,by simp only[binOp,Op.intDiv,J3 (show¬(IntKind.u64≠IntKind.u64)from fun h=>h rfl),J3 hb',Sem.run_pure];rfl,?_⟩
  rw[show(a.toNat:Int).tdiv b.toNat=((a.toNat/b.toNat:Nat):Int)from by simp[Int.tdiv],bL hs _ (Nat.lt_of_le_of_lt (Nat.div_le_self _ _) a.isLt),←BitVec.toNat_udiv]
  exact .w64 _
 |rem=>
  simp only[aAm]at h
  split at h
  ·cases h
  rename_i hb
  obtain rfl:=J0 h
  have hb': ¬(b.toNat:Int)=0:=by
   intro e;apply hb;apply BitVec.eq_of_toNat_eq;simpa using e
  refine⟨_,by simp only[binOp,Op.intDiv,J3 (show¬(IntKind.u64≠IntKind.u64)from fun h=>h rfl),J3 hb',Sem.run_pure];rfl,?_⟩
  rw[show(a.toNat:Int).tmod b.toNat=((a.toNat%b.toNat:Nat):Int)from by simp[Int.tmod],←BitVec.toNat_umod]
  exact .w64 _
 |and=>
  obtain rfl:=J0 h
  refine⟨_,by simp only[binOp,Op.intBits,J3 (show¬(IntKind.u64≠IntKind.u64)from fun h=>h rfl),Sem.run_pure];rfl,?_⟩
  rw[show(BitVec.ofInt (IntKind.bits .u64) (a.toNat:Int))=a from aU a,show(BitVec.ofInt (IntKind.bits .u64) (b.toNat:Int))=b from aU b]
  first|(rw[←BitVec.toNat_and,bL hs _ (BitVec.isLt _)];exact .w64 _)|(rw[bL hs _ (BitVec.isLt _)];exact .w64 _)
 |or=>
  obtain rfl:=J0 h
  refine⟨_,by simp only[binOp,Op.intBits,J3 (show¬(IntKind.u64≠IntKind.u64)from fun h=>h rfl),Sem.run_pure];rfl,?_⟩
  rw[show(BitVec.ofInt (IntKind.bits .u64) (a.toNat:Int))=a from aU a,show(BitVec.ofInt (IntKind.bits .u64) (b.toNat:Int))=b from aU b]
  first|(rw[←BitVec.toNat_or,bL hs _ (BitVec.isLt _)];exact .w64 _)|(rw[bL hs _ (BitVec.isLt _)];exact .w64 _)
 |xor=>
  obtain rfl:=J0 h
  refine⟨_,by simp only[binOp,Op.intBits,J3 (show¬(IntKind.u64≠IntKind.u64)from fun h=>h rfl),Sem.run_pure];rfl,?_⟩
  rw[show(BitVec.ofInt (IntKind.bits .u64) (a.toNat:Int))=a from aU a,show(BitVec.ofInt (IntKind.bits .u64) (b.toNat:Int))=b from aU b]
  first|(rw[←BitVec.toNat_xor,bL hs _ (BitVec.isLt _)];exact .w64 _)|(rw[bL hs _ (BitVec.isLt _)];exact .w64 _)
 |andNot=>
  obtain rfl:=J0 h
  refine⟨_,by simp only[binOp,Op.intBits,Sem.run_pure,J3 (show¬(IntKind.u64≠IntKind.u64)from fun h=>h rfl)];rfl,?_⟩
  rw[show(BitVec.ofInt (IntKind.bits .u64) (a.toNat:Int))=a from aU a,show(BitVec.ofInt (IntKind.bits .u64) (b.toNat:Int))=b from aU b,bL hs _ (BitVec.isLt _)]
  exact .w64 _
 |eql=>
  obtain rfl:=J0 h
  refine⟨_,by simp only[binOp,Op.intCmp,Sem.run_pure,J3 (show¬(IntKind.u64≠IntKind.u64)from fun h=>h rfl)];rfl,?_⟩
  rw[qJ (p:=a=b) (by rw[beq_iff_eq,Int.ofNat_inj,BitVec.toNat_inj])]
  exact .b _
 |neq=>
  obtain rfl:=J0 h
  refine⟨_,by simp only[binOp,Op.intCmp,Sem.run_pure,J3 (show¬(IntKind.u64≠IntKind.u64)from fun h=>h rfl)];rfl,?_⟩
  rw[cDb (p:=a=b) (by rw[bne_iff_ne,ne_eq,Int.ofNat_inj,BitVec.toNat_inj])]
  exact .b _
 |lss=>
  obtain rfl:=J0 h
  refine⟨_,by simp only[binOp,Op.intCmp,Sem.run_pure,J3 (show¬(IntKind.u64≠IntKind.u64)from fun h=>h rfl)];rfl,?_⟩
  rw[qJ (p:=a<b) (by rw[decide_eq_true_eq,Int.ofNat_lt,BitVec.lt_def])]
  exact .b _
 |leq=>
  obtain rfl:=J0 h
  refine⟨_,by simp only[binOp,Op.intCmp,Sem.run_pure,J3 (show¬(IntKind.u64≠IntKind.u64)from fun h=>h rfl)];rfl,?_⟩
  rw[qJ (p:=a≤b) (by rw[decide_eq_true_eq,Int.ofNat_le,BitVec.le_def])]
  exact .b _
 |gtr=>
  obtain rfl:=J0 h
  refine⟨_,by simp only[binOp,Op.intCmp,Sem.run_pure,J3 (show¬(IntKind.u64≠IntKind.u64)from fun h=>h rfl)];rfl,?_⟩
  rw[qJ (p:=b<a) (by rw[decide_eq_true_eq,gt_iff_lt,Int.ofNat_lt,BitVec.lt_def])]
  exact .b _
 |geq=>
  obtain rfl:=J0 h
  refine⟨_,by simp only[binOp,Op.intCmp,Sem.run_pure,J3 (show¬(IntKind.u64≠IntKind.u64)from fun h=>h rfl)];rfl,?_⟩
  rw[qJ (p:=b≤a) (by rw[decide_eq_true_eq,ge_iff_le,Int.ofNat_le,BitVec.le_def])]
  exact .b _
 |shl=>cases h
 |shr=>cases h
theorem aLa {op:BinOp} {a b:Int} {z:AV} {t:TypeId} (h:aLb op a b=some z):
  ∃v,(binOp op t (.int .i64 a) (.int .i64 b)).run P w=.ok v w∧Rel σ I w z v:=by
 cases op with
 |add=>obtain rfl:=J0 h;exact⟨_,by simp only[binOp,Op.intArith,Sem.run_pure,J3 (show¬(IntKind.i64≠IntKind.i64)from fun h=>h rfl)];rfl,.i _⟩
 |sub=>obtain rfl:=J0 h;exact⟨_,by simp only[binOp,Op.intArith,Sem.run_pure,J3 (show¬(IntKind.i64≠IntKind.i64)from fun h=>h rfl)];rfl,.i _⟩
 |mul=>obtain rfl:=J0 h;exact⟨_,by simp only[binOp,Op.intArith,Sem.run_pure,J3 (show¬(IntKind.i64≠IntKind.i64)from fun h=>h rfl)];rfl,.i _⟩
 |quo=>
  simp only[aLb]at h
  split at h
  ·cases h
  rename_i hb
  obtain rfl:=J0 h
  exact⟨_,by simp only[binOp,Op.intDiv,Sem.run_pure,J3 (show¬(IntKind.i64≠IntKind.i64)from fun h=>h rfl),J3 hb];rfl,.i _⟩
 |rem=>
  simp only[aLb]at h
  split at h
  ·cases h
  rename_i hb
  obtain rfl:=J0 h
  exact⟨_,by simp only[binOp,Op.intDiv,Sem.run_pure,J3 (show¬(IntKind.i64≠IntKind.i64)from fun h=>h rfl),J3 hb],.i _⟩
 |and=>obtain rfl:=J0 h;exact⟨_,by simp only[binOp,Op.intBits,Sem.run_pure,J3 (show¬(IntKind.i64≠IntKind.i64)from fun h=>h rfl)];rfl,.i _⟩
 |or=>obtain rfl:=J0 h;exact⟨_,by simp only[binOp,Op.intBits,Sem.run_pure,J3 (show¬(IntKind.i64≠IntKind.i64)from fun h=>h rfl)];rfl,.i _⟩
 |xor=>obtain rfl:=J0 h;exact⟨_,by simp only[binOp,Op.intBits,Sem.run_pure,J3 (show¬(IntKind.i64≠IntKind.i64)from fun h=>h rfl)];rfl,.i _⟩
 |andNot=>cases h
 |shl=>cases h
 |shr=>cases h
 |eql=>obtain rfl:=J0 h;exact⟨_,by simp only[binOp,Op.intCmp,Sem.run_pure,J3 (show¬(IntKind.i64≠IntKind.i64)from fun h=>h rfl)];rfl,.b _⟩
 |neq=>obtain rfl:=J0 h;exact⟨_,by simp only[binOp,Op.intCmp,Sem.run_pure,J3 (show¬(IntKind.i64≠IntKind.i64)from fun h=>h rfl)];rfl,.b _⟩
 |lss=>obtain rfl:=J0 h;exact⟨_,by simp only[binOp,Op.intCmp,Sem.run_pure,J3 (show¬(IntKind.i64≠IntKind.i64)from fun h=>h rfl)],.b _⟩
 |leq=>obtain rfl:=J0 h;exact⟨_,by simp only[binOp,Op.intCmp,Sem.run_pure,J3 (show¬(IntKind.i64≠IntKind.i64)from fun h=>h rfl)],.b _⟩
 |gtr=>obtain rfl:=J0 h;exact⟨_,by simp only[binOp,Op.intCmp,Sem.run_pure,J3 (show¬(IntKind.i64≠IntKind.i64)from fun h=>h rfl)],.b _⟩
 |geq=>obtain rfl:=J0 h;exact⟨_,by simp only[binOp,Op.intCmp,Sem.run_pure,J3 (show¬(IntKind.i64≠IntKind.i64)from fun h=>h rfl)],.b _⟩
theorem aLi {n:Nat} (x:BitVec n) (hn:n≤32):W (x.toNat:Int)=x.toNat:=by
 have h:=x.isLt
 have h2:2^n≤2^32:=Nat.pow_le_pow_right (by omega) hn
 exact mP (by omega) (by omega)
theorem fVq (l:List (BitVec 8)):(dA l).toList=l.map UInt8.ofBitVec:=by
 rw[dA,ByteArray.toList_mk]
theorem eU (l:List (BitVec 8)):(dA l).size=l.length:=by simp[dA,ByteArray.size]
theorem aDc {a b:List (BitVec 8)} (h:a.map UInt8.ofBitVec=b.map UInt8.ofBitVec):a=b:=by
 have:=congrArg (List.map UInt8.toBitVec) h
 simpa [List.map_map,Function.comp_def]using this
theorem aPr: ∀a b:List (BitVec 8),Op.bytesLess (a.map UInt8.ofBitVec) (b.map UInt8.ofBitVec)=pI a b
 |a,[]=>by cases a<;>simp[Op.bytesLess,pI]
 |[],_::_=>by simp[Op.bytesLess,pI]
 |a::x,b::y=>by
  simp only[List.map_cons,Op.bytesLess,pI,aPr x y]
  have h1:decide (UInt8.ofBitVec a<UInt8.ofBitVec b)=decide (a<b):=by
   congr 1
  have h2:(UInt8.ofBitVec a==UInt8.ofBitVec b)=decide (a=b):=by
   rw[Bool.eq_iff_iff,beq_iff_eq,decide_eq_true_eq]
   exact⟨fun h=>by simpa using congrArg UInt8.toBitVec h,fun h=>by rw[h]⟩
  rw[h1,h2]
theorem aKz {op:BinOp} {a b:List (BitVec 8)} {z:AV} {t:TypeId} (h:aTw op a b=some z):
  ∃v,(binOp op t (.string (dA a)) (.string (dA b))).run P w=.ok v w∧Rel σ I w z v:=by
 have heq:((dA a).toList==(dA b).toList)=decide (a=b):=by
  rw[Bool.eq_iff_iff,beq_iff_eq,decide_eq_true_eq,fVq,fVq]
  exact⟨aDc,fun h=>by rw[h]⟩
 have hlt:Op.bytesLess (dA a).toList (dA b).toList=pI a b:=by rw[fVq,fVq,aPr]
 cases op with
 |add=>
  simp only[aTw]at h
  split at h
  ·rename_i hl
   obtain rfl:=J0 h
   have hl': ¬((((dA a).size+(dA b).size:Nat):Int)>IntKind.i64.max):=by
    rw[eU,eU];simp only[IntKind.max,IntKind.signed,IntKind.bits,if_true];omega
   refine⟨.string (dA a++dA b),by simp only[binOp,Op.stringOp,J3 hl',Sem.run_pure],?_⟩
   have:dA (a++b)=dA a++dA b:=by
    apply ByteArray.ext
    simp[dA,ByteArray.data_append]
   rw[←this];exact .s _
  cases h
 |eql=>obtain rfl:=J0 h;exact⟨_,by simp only[binOp,Op.stringOp,Sem.run_pure,heq],.b _⟩
 |neq=>obtain rfl:=J0 h;exact⟨_,by simp only[binOp,Op.stringOp,Sem.run_pure,heq],.b _⟩
 |lss=>obtain rfl:=J0 h;exact⟨_,by simp only[binOp,Op.stringOp,Sem.run_pure,hlt],.b _⟩
 |leq=>obtain rfl:=J0 h;exact⟨_,by simp only[binOp,Op.stringOp,Sem.run_pure,hlt,heq],.b _⟩
 |gtr=>obtain rfl:=J0 h;exact⟨_,by simp only[binOp,Op.stringOp,Sem.run_pure,hlt,heq],.b _⟩
 |geq=>obtain rfl:=J0 h;exact⟨_,by simp only[binOp,Op.stringOp,Sem.run_pure,hlt],.b _⟩
 |_=>cases h
theorem eQ (op:BinOp) (t:TypeId) (X Y:Operand) (k k':IntKind) (a b:Int):(eqGuard op t X Y (.int k a) (.int k' b)).run P w=.ok () w:=by
 simp only[eqGuard,Sem.run_ite];split<;>rfl
theorem zN (op:BinOp) (t:TypeId) (X Y:Operand) (a b:ByteArray):(eqGuard op t X Y (.string a) (.string b)).run P w=.ok () w:=by
 simp only[eqGuard,Sem.run_ite];split<;>rfl
theorem xK (op:BinOp) (t:TypeId) (X Y:Operand) (a b:Bool):(eqGuard op t X Y (.bool a) (.bool b)).run P w=.ok () w:=by
 simp only[eqGuard,Sem.run_ite];split<;>rfl
theorem xH {y:AV} {v:Value} {n:Nat} (h:gAd y=some n) (hr:Rel σ I w y v): ∃k m,v=.int k m∧0≤m∧m.toNat=n:=by
 cases y<;>simp only[gAd]at h<;>first|(cases h;done)|skip
 case i m=>
  split at h
  ·rename_i h0;cases hr;exact⟨_,_,rfl,h0,J0 h⟩
  cases h
 all_goals (cases hr;refine⟨_,_,rfl,by omega,?_⟩;simpa using J0 h)
theorem bUc {m n b:Nat} (_h:b<2^m):b*2^(min n m)%2^m=b*2^n%2^m:=by
 rcases Nat.le_total n m with hn|hn
 ·rw[Nat.min_eq_left hn]
 rw[Nat.min_eq_right hn]
 have:2^n=2^m*2^(n-m):=by rw[←Nat.pow_add];congr 1;omega
 rw[this,Nat.mul_left_comm,Nat.mul_mod_right,Nat.mul_mod_left]
theorem bUb {m n b:Nat} (h:b<2^m):b/2^(min n m)=b/2^n:=by
 rcases Nat.le_total n m with hn|hn
 ·rw[Nat.min_eq_left hn]
 rw[Nat.min_eq_right hn,Nat.div_eq_of_lt h,Nat.div_eq_of_lt (Nat.lt_of_lt_of_le h (Nat.pow_le_pow_right (by omega) hn))]
theorem aVb {k:IntKind} (hk:k.signed=false) (a:BitVec k.bits) (n:Nat):k.wrap ((a.toNat:Int)*2^(min n k.bits))=((a <<<n).toNat:Int):=by
 rw[eF hk,show(a.toNat:Int)*2^(min n k.bits)=((a.toNat*2^(min n k.bits):Nat):Int)from by simp]
 rw[BitVec.toNat_ofInt,←Int.natCast_emod,U2,bUc a.isLt,BitVec.toNat_shiftLeft,Nat.shiftLeft_eq]
theorem aUz {k:IntKind} (a:BitVec k.bits) (n:Nat):((a.toNat:Int)).fdiv (2^(min n k.bits))=((a>>>n).toNat:Int):=by
 rw[show(2:Int)^(min n k.bits)=((2^(min n k.bits):Nat):Int)from by simp,Int.fdiv_eq_ediv_of_nonneg _ (Int.natCast_nonneg _),←Int.natCast_ediv,bUb a.isLt,BitVec.toNat_ushiftRight,Nat.shiftRight_eq_div_pow]
theorem aZa {x y z:AV} {a b:Value} {t:TypeId} (h:shl x y=some z) (hx:Rel σ I w x a) (hy:Rel σ I w y b):
  ∃v,(binOp .shl t a b).run P w=.ok v w∧Rel σ I w z v:=by
 unfold shl at h
 split at h
 ·cases h
 rename_i n hn
 obtain⟨k,m,rfl,h0,hm⟩:=xH hn hy
 have h0': ¬m<0:=by omega
 cases x<;>simp only at h<;>first|(cases h;done)|skip
 case w8=>cases hx;obtain rfl:=J0 h;exact⟨_,by simp only[binOp,Op.shift,J3 h0',Sem.run_pure,hm];exact congrArg (fun z=>Result.ok (Value.int .u8 z) w) (aVb (k:=.u8) rfl _ n),.w8 _⟩
 case w16=>cases hx;obtain rfl:=J0 h;exact⟨_,by simp only[binOp,Op.shift,J3 h0',Sem.run_pure,hm];exact congrArg (fun z=>Result.ok (Value.int .u16 z) w) (aVb (k:=.u16) rfl _ n),.w16 _⟩
 case w32=>cases hx;obtain rfl:=J0 h;exact⟨_,by simp only[binOp,Op.shift,J3 h0',Sem.run_pure,hm];exact congrArg (fun z=>Result.ok (Value.int .u32 z) w) (aVb (k:=.u32) rfl _ n),.w32 _⟩
 case w64=>cases hx;obtain rfl:=J0 h;exact⟨_,by simp only[binOp,Op.shift,J3 h0',Sem.run_pure,hm];exact congrArg (fun z=>Result.ok (Value.int .u64 z) w) (aVb (k:=.u64) rfl _ n),.w64 _⟩
 case i=>cases hx;obtain rfl:=J0 h;exact⟨_,by simp only[binOp,Op.shift,J3 h0',Sem.run_pure,hm];rfl,.i _⟩
theorem aYy {x y z:AV} {a b:Value} {t:TypeId} (h:shr x y=some z) (hx:Rel σ I w x a) (hy:Rel σ I w y b):
  ∃v,(binOp .shr t a b).run P w=.ok v w∧Rel σ I w z v:=by
 unfold shr at h
 split at h
 ·cases h
 rename_i n hn
 obtain⟨k,m,rfl,h0,hm⟩:=xH hn hy
 have h0': ¬m<0:=by omega
 cases x<;>simp only at h<;>first|(cases h;done)|skip
 case w8=>cases hx;obtain rfl:=J0 h;exact⟨_,by simp only[binOp,Op.shift,J3 h0',Sem.run_pure,hm];exact congrArg (fun z=>Result.ok (Value.int .u8 z) w) (aUz (k:=.u8) _ n),.w8 _⟩
 case w16=>cases hx;obtain rfl:=J0 h;exact⟨_,by simp only[binOp,Op.shift,J3 h0',Sem.run_pure,hm];exact congrArg (fun z=>Result.ok (Value.int .u16 z) w) (aUz (k:=.u16) _ n),.w16 _⟩
 case w32=>cases hx;obtain rfl:=J0 h;exact⟨_,by simp only[binOp,Op.shift,J3 h0',Sem.run_pure,hm];exact congrArg (fun z=>Result.ok (Value.int .u32 z) w) (aUz (k:=.u32) _ n),.w32 _⟩
 case w64=>cases hx;obtain rfl:=J0 h;exact⟨_,by simp only[binOp,Op.shift,J3 h0',Sem.run_pure,hm];exact congrArg (fun z=>Result.ok (Value.int .u64 z) w) (aUz (k:=.u64) _ n),.w64 _⟩
 case i=>cases hx;obtain rfl:=J0 h;exact⟨_,by simp only[binOp,Op.shift,J3 h0',Sem.run_pure,hm];rfl,.i _⟩
theorem bCv {op:BinOp} {x y z:AV} {a b:Value} {t:TypeId} (X Y:Operand) (h:bin op x y=some z) (hx:Rel σ I w x a) (hy:Rel σ I w y b):
  ∃v,(do eqGuard op t X Y a b;binOp op t a b:Sem Value).run P w=.ok v w∧Rel σ I w z v:=by
 have shift: ∀n,gAd y=some n→(∃k m,b=.int k m):=fun n hn=>by obtain⟨k,m,hb,_⟩:=xH hn hy;exact⟨k,m,hb⟩
 unfold bin at h
 split at h
 ·obtain⟨v,hv,hr⟩:=aZa (P:=P) (t:=t) h hx hy
  exact⟨v,by rw[Sem.run_bind];simp only[eqGuard,Sem.run_ite];exact hv,hr⟩
 ·obtain⟨v,hv,hr⟩:=aYy (P:=P) (t:=t) h hx hy
  exact⟨v,by rw[Sem.run_bind];simp only[eqGuard,Sem.run_ite];exact hv,hr⟩
 split at h
 ·cases hx;cases hy;rw[Sem.run_bind,eQ];exact aLc h
 ·cases hx;cases hy;rw[Sem.run_bind,eQ];exact aFf h
 ·cases hx;cases hy;rw[Sem.run_bind,eQ];exact aFe h
 ·cases hx;cases hy;rw[Sem.run_bind,eQ];exact aFd h
 ·cases hx;cases hy;rw[Sem.run_bind,eQ];exact aLa h
 ·cases hx;cases hy;rw[Sem.run_bind,zN];exact aKz h
 cases h
theorem bFi {op:UnOp} {x z:AV} {a:Value} (h:un op x=some z) (hx:Rel σ I w x a):
  ∃v,(Op.unary op a).run P w=.ok v w∧Rel σ I w z v:=by
 unfold un at h
 split at h<;>first|(cases h;done)|skip
 ·cases hx;obtain rfl:=J0 h;exact⟨_,by simp only[Op.unary,Op.intArith,Sem.run_pure];rfl,.i _⟩
 ·cases hx;obtain rfl:=J0 h
  refine⟨_,by simp only[Op.unary,Op.intArith,Sem.run_pure];rfl,?_⟩
  rename_i a
  rw[eF rfl,show BitVec.ofInt (IntKind.bits .u8) (0-(a.toNat:Int))=0#8-a from by rw[ofInt_sub'];show BitVec.ofInt 8 0-BitVec.ofInt 8 _=_;rw[aU];rfl]
  exact .w8 _
 ·cases hx;obtain rfl:=J0 h
  refine⟨_,by simp only[Op.unary,Op.intArith,Sem.run_pure];rfl,?_⟩
  rename_i a
  rw[eF rfl,show BitVec.ofInt (IntKind.bits .u16) (0-(a.toNat:Int))=0#16-a from by rw[ofInt_sub'];show BitVec.ofInt 16 0-BitVec.ofInt 16 _=_;rw[aU];rfl]
  exact .w16 _
 ·cases hx;obtain rfl:=J0 h
  refine⟨_,by simp only[Op.unary,Op.intArith,Sem.run_pure];rfl,?_⟩
  rename_i a
  rw[eF rfl,show BitVec.ofInt (IntKind.bits .u32) (0-(a.toNat:Int))=0#32-a from by rw[ofInt_sub'];show BitVec.ofInt 32 0-BitVec.ofInt 32 _=_;rw[aU];rfl]
  exact .w32 _
 ·cases hx;obtain rfl:=J0 h
  refine⟨_,by simp only[Op.unary,Op.intArith,Sem.run_pure];rfl,?_⟩
  rename_i a
  rw[eF rfl,show BitVec.ofInt (IntKind.bits .u64) (0-(a.toNat:Int))=0#64-a from by rw[ofInt_sub'];show BitVec.ofInt 64 0-BitVec.ofInt 64 _=_;rw[aU];rfl]
  exact .w64 _
 ·cases hx;obtain rfl:=J0 h
  refine⟨_,by simp only[Op.unary,Op.intBits,Sem.run_pure];rfl,?_⟩
  rename_i a
  have e:(BitVec.ofInt 8 (if IntKind.signed .u8=true then -1 else IntKind.max .u8):BitVec 8)=BitVec.allOnes 8:=by decide
  rw[bL rfl _ (BitVec.isLt _)]
  have e2:((BitVec.ofInt 8 (if IntKind.signed .u8=true then -1 else IntKind.max .u8)^^^BitVec.ofInt 8 (a.toNat:Int)):BitVec 8)= ~~~a:=by rw[e,aU,BitVec.allOnes_xor]
  exact(congrArg (fun(z:BitVec 8)=>Rel σ I w (.w8 (~~~a)) (.int .u8 z.toNat)) e2).mpr (.w8 _)
 ·cases hx;obtain rfl:=J0 h
  refine⟨_,by simp only[Op.unary,Op.intBits,Sem.run_pure];rfl,?_⟩
  rename_i a
  have e:(BitVec.ofInt 16 (if IntKind.signed .u16=true then -1 else IntKind.max .u16):BitVec 16)=BitVec.allOnes 16:=by decide
  rw[bL rfl _ (BitVec.isLt _)]
  have e2:((BitVec.ofInt 16 (if IntKind.signed .u16=true then -1 else IntKind.max .u16)^^^BitVec.ofInt 16 (a.toNat:Int)):BitVec 16)= ~~~a:=by rw[e,aU,BitVec.allOnes_xor]
  exact(congrArg (fun(z:BitVec 16)=>Rel σ I w (.w16 (~~~a)) (.int .u16 z.toNat)) e2).mpr (.w16 _)
 ·cases hx;obtain rfl:=J0 h
  refine⟨_,by simp only[Op.unary,Op.intBits,Sem.run_pure];rfl,?_⟩
  rename_i a
  have e:(BitVec.ofInt 32 (if IntKind.signed .u32=true then -1 else IntKind.max .u32):BitVec 32)=BitVec.allOnes 32:=by decide
  rw[bL rfl _ (BitVec.isLt _)]
  have e2:((BitVec.ofInt 32 (if IntKind.signed .u32=true then -1 else IntKind.max .u32)^^^BitVec.ofInt 32 (a.toNat:Int)):BitVec 32)= ~~~a:=by rw[e,aU,BitVec.allOnes_xor]
  exact(congrArg (fun(z:BitVec 32)=>Rel σ I w (.w32 (~~~a)) (.int .u32 z.toNat)) e2).mpr (.w32 _)
 ·cases hx;obtain rfl:=J0 h
  refine⟨_,by simp only[Op.unary,Op.intBits,Sem.run_pure];rfl,?_⟩
  rename_i a
  have e:(BitVec.ofInt 64 (if IntKind.signed .u64=true then -1 else IntKind.max .u64):BitVec 64)=BitVec.allOnes 64:=by decide
  rw[bL rfl _ (BitVec.isLt _)]
  have e2:((BitVec.ofInt 64 (if IntKind.signed .u64=true then -1 else IntKind.max .u64)^^^BitVec.ofInt 64 (a.toNat:Int)):BitVec 64)= ~~~a:=by rw[e,aU,BitVec.allOnes_xor]
  exact(congrArg (fun(z:BitVec 64)=>Rel σ I w (.w64 (~~~a)) (.int .u64 z.toNat)) e2).mpr (.w64 _)
 cases hx;obtain rfl:=J0 h;exact⟨_,by simp only[Op.unary,Sem.run_pure],.b _⟩
theorem qY {x:AV} {v:Value} {n:Int} (h:ix x=some n) (hr:Rel σ I w x v): ∃k,v=.int k n:=by
 cases x<;>simp only[ix]at h<;>first|(cases h;done)|skip
 all_goals (cases hr;obtain rfl:=J0 h;exact⟨_,rfl⟩)
theorem aYn {k:IntKind} {x z:AV} {a:Value} (h:toK k x=some z) (hx:Rel σ I w x a):
  ∃k' m v,a=.int k' m∧(Conv.intToInt k m).run P w=.ok v w∧Rel σ I w z v:=by
 unfold toK at h
 split at h
 ·split at h<;>first|(cases h;done)|skip
  ·cases hx;obtain rfl:=J0 h;exact⟨_,_,_,rfl,by simp only[Conv.intToInt,Sem.run_pure];rw[eF rfl];rfl,.w8 _⟩
  ·cases hx;obtain rfl:=J0 h;exact⟨_,_,_,rfl,by simp only[Conv.intToInt,Sem.run_pure];rw[eF rfl];exact congrArg (fun z:BitVec 8=>Result.ok (Value.int .u8 z.toNat) w) (aU _),.w8 _⟩
  ·cases hx;obtain rfl:=J0 h;exact⟨_,_,_,rfl,by simp only[Conv.intToInt,Sem.run_pure];rw[eF rfl];exact congrArg (fun z:BitVec 8=>Result.ok (Value.int .u8 z.toNat) w) (ofInt_toNat' _),.w8 _⟩
  ·cases hx;obtain rfl:=J0 h;exact⟨_,_,_,rfl,by simp only[Conv.intToInt,Sem.run_pure];rw[eF rfl];exact congrArg (fun z:BitVec 8=>Result.ok (Value.int .u8 z.toNat) w) (ofInt_toNat' _),.w8 _⟩
  cases hx;obtain rfl:=J0 h;exact⟨_,_,_,rfl,by simp only[Conv.intToInt,Sem.run_pure];rw[eF rfl];exact congrArg (fun z:BitVec 8=>Result.ok (Value.int .u8 z.toNat) w) (ofInt_toNat' _),.w8 _⟩
 ·split at h<;>first|(cases h;done)|skip
  ·cases hx;obtain rfl:=J0 h;exact⟨_,_,_,rfl,by simp only[Conv.intToInt,Sem.run_pure];rw[eF rfl];rfl,.w16 _⟩
  ·cases hx;obtain rfl:=J0 h;exact⟨_,_,_,rfl,by simp only[Conv.intToInt,Sem.run_pure];rw[eF rfl];exact congrArg (fun z:BitVec 16=>Result.ok (Value.int .u16 z.toNat) w) (ofInt_toNat' _),.w16 _⟩
  ·cases hx;obtain rfl:=J0 h;exact⟨_,_,_,rfl,by simp only[Conv.intToInt,Sem.run_pure];rw[eF rfl];exact congrArg (fun z:BitVec 16=>Result.ok (Value.int .u16 z.toNat) w) (aU _),.w16 _⟩
  ·cases hx;obtain rfl:=J0 h;exact⟨_,_,_,rfl,by simp only[Conv.intToInt,Sem.run_pure];rw[eF rfl];exact congrArg (fun z:BitVec 16=>Result.ok (Value.int .u16 z.toNat) w) (ofInt_toNat' _),.w16 _⟩
  cases hx;obtain rfl:=J0 h;exact⟨_,_,_,rfl,by simp only[Conv.intToInt,Sem.run_pure];rw[eF rfl];exact congrArg (fun z:BitVec 16=>Result.ok (Value.int .u16 z.toNat) w) (ofInt_toNat' _),.w16 _⟩
 ·split at h<;>first|(cases h;done)|skip
  ·cases hx;obtain rfl:=J0 h;exact⟨_,_,_,rfl,by simp only[Conv.intToInt,Sem.run_pure];rw[eF rfl];rfl,.w32 _⟩
  ·cases hx;obtain rfl:=J0 h;exact⟨_,_,_,rfl,by simp only[Conv.intToInt,Sem.run_pure];rw[eF rfl];exact congrArg (fun z:BitVec 32=>Result.ok (Value.int .u32 z.toNat) w) (ofInt_toNat' _),.w32 _⟩
  ·cases hx;obtain rfl:=J0 h;exact⟨_,_,_,rfl,by simp only[Conv.intToInt,Sem.run_pure];rw[eF rfl];exact congrArg (fun z:BitVec 32=>Result.ok (Value.int .u32 z.toNat) w) (ofInt_toNat' _),.w32 _⟩
  ·cases hx;obtain rfl:=J0 h;exact⟨_,_,_,rfl,by simp only[Conv.intToInt,Sem.run_pure];rw[eF rfl];exact congrArg (fun z:BitVec 32=>Result.ok (Value.int .u32 z.toNat) w) (aU _),.w32 _⟩
  cases hx;obtain rfl:=J0 h;exact⟨_,_,_,rfl,by simp only[Conv.intToInt,Sem.run_pure];rw[eF rfl];exact congrArg (fun z:BitVec 32=>Result.ok (Value.int .u32 z.toNat) w) (ofInt_toNat' _),.w32 _⟩
 ·split at h<;>first|(cases h;done)|skip
  ·cases hx;obtain rfl:=J0 h;exact⟨_,_,_,rfl,by simp only[Conv.intToInt,Sem.run_pure];rw[eF rfl];rfl,.w64 _⟩
  ·cases hx;obtain rfl:=J0 h;exact⟨_,_,_,rfl,by simp only[Conv.intToInt,Sem.run_pure];rw[eF rfl];exact congrArg (fun z:BitVec 64=>Result.ok (Value.int .u64 z.toNat) w) (ofInt_toNat' _),.w64 _⟩
  ·cases hx;obtain rfl:=J0 h;exact⟨_,_,_,rfl,by simp only[Conv.intToInt,Sem.run_pure];rw[eF rfl];exact congrArg (fun z:BitVec 64=>Result.ok (Value.int .u64 z.toNat) w) (ofInt_toNat' _),.w64 _⟩
  ·cases hx;obtain rfl:=J0 h;exact⟨_,_,_,rfl,by simp only[Conv.intToInt,Sem.run_pure];rw[eF rfl];exact congrArg (fun z:BitVec 64=>Result.ok (Value.int .u64 z.toNat) w) (ofInt_toNat' _),.w64 _⟩
  cases hx;obtain rfl:=J0 h;exact⟨_,_,_,rfl,by simp only[Conv.intToInt,Sem.run_pure];rw[eF rfl];exact congrArg (fun z:BitVec 64=>Result.ok (Value.int .u64 z.toNat) w) (aU _),.w64 _⟩
 ·split at h<;>first|(cases h;done)|skip
  ·cases hx;obtain rfl:=J0 h;exact⟨_,_,_,rfl,by simp only[Conv.intToInt,Sem.run_pure];rfl,.i _⟩
  ·cases hx;obtain rfl:=J0 h;exact⟨_,_,_,rfl,by simp only[Conv.intToInt,Sem.run_pure];exact congrArg (fun z=>Result.ok (Value.int .i64 z) w) (aLi _ (by decide)),.i _⟩
  ·cases hx;obtain rfl:=J0 h;exact⟨_,_,_,rfl,by simp only[Conv.intToInt,Sem.run_pure];exact congrArg (fun z=>Result.ok (Value.int .i64 z) w) (aLi _ (by decide)),.i _⟩
  ·cases hx;obtain rfl:=J0 h;exact⟨_,_,_,rfl,by simp only[Conv.intToInt,Sem.run_pure];exact congrArg (fun z=>Result.ok (Value.int .i64 z) w) (aLi _ (by decide)),.i _⟩
  cases hx;obtain rfl:=J0 h;exact⟨_,_,_,rfl,by simp only[Conv.intToInt,Sem.run_pure];rfl,.i _⟩
 cases h
end
end Go.AX

namespace Go.AX
open Go
def eK (P:Program) (t:TypeId):Option Nat:=(P.info? t).map (·.size)
def dU (P:Program) (t:TypeId):Option Nat:=(P.info? t).map (·.bytes)
def lA (P:Program) (t:TypeId):Option (List AV):=
 match (P.info? t).bind (·.zero)with
 |some z=>if z.cells.toList.all Value.oneCell' then some (z.cells.toList.map aEg)else none
 |none=>none
def fHi (P:Program) (t:TypeId):Option Bool:=
 (P.underlying t).map fun| .struct _=>true| .array _ _=>true|_=>false
def aK {α β:Type} (a:Option α) (f:α→Option β):Option β:=match a with|some x=>f x|none=>none
theorem aX {α β:Type} (x:α) (f:α→Option β):aK (some x) f=f x:=rfl
theorem aJ {α β:Type} {a:Option α} {f:α→Option β} {y:β} (h:aK a f=some y): ∃x,a=some x∧f x=some y:=by
 cases a with
 |none=>cases h
 |some x=>exact⟨x,rfl,h⟩
def aN {α:Type} (p:Prop) [Decidable p] (x:Option α):Option α:=if p then x else none
theorem aP {α:Type} {p:Prop} [Decidable p] {x:Option α} {y:α} (h:aN p x=some y):p∧x=some y:=by
 unfold aN at h
 split at h
 ·exact⟨‹_›,h⟩
 cases h
theorem eE {α:Type} {p:Prop} [Decidable p] (x:Option α) (h:p):aN p x=x:=J4 h
def dC:AV→Option (List AV)
 | .agg xs=>some xs
 | .tup _| .junk| .pin _ _=>none
 | .v x=>if x.oneCell' then some [.v x]else none
 |x=>some [x]
def eG (xs:List AV) (off:Nat) (ys:List AV):List AV:=xs.take off++ys++xs.drop (off+ys.length)
def ldV (P:Program) (t:TypeId) (ys:List AV):Option AV:=
 aK (fHi P t) fun g=>if g then aK (eK P t) fun n=>aN (n≤ys.length) (some (.agg (ys.take n)))else ys.head?
def fZh (place:Nat→Option (Nat×Nat)):List AV→List (Nat×AV)→Option (List AV)
 |cells,[]=>some cells
 |cells,(i,v)::rest=>aK (place i) fun os=>aK (dC v) fun vc=>aN (vc.length=os.2∧os.1+os.2≤cells.length) (fZh place (eG cells os.1 vc) rest)
def aEa:Nat→List (Nat×AV)→Option (List AV)
 |_,[]=>some []
 |k,(i,v)::rest=>aN (i=k) (aK (match dC v with|some [c]=>some c|_=>none) fun c=>aK (aEa (k+1) rest) fun r=>some (c::r))
def pE (P:Program) (t:TypeId):Bool:=match P.underlying t with|some .bool=>true|_=>false
def nO (f:AV→AV→Option Bool) (g:Nat→List AV→Option AV) (xs ys:List AV):List Nat→Option Bool
 |[]=>some true
 |i::r=>aK (g i xs) fun a=>aK (g i ys) fun b=>aK (f a b) fun q=>if q=true then nO f g xs ys r else some false
def oH (P:Program) (f:TypeId→AV→AV→Option Bool) (xs ys:List AV):List Field→Option Bool
 |[]=>some true
 | fd :: r => if fd.name ≠ "_" then aK (ldV P fd.type (xs.drop fd.offset)) fun a => aK (ldV P fd.type (ys.drop fd.offset)) fun b => aK (f fd.type a b) fun q => if q = true then oH P f xs ys r else some false
  else oH P f xs ys r
def eqS (x y:AV):Option Bool:=
 match x,y with
 | .w8 a,.w8 b=>some (decide (a=b))
 | .w16 a,.w16 b=>some (decide (a=b))
 | .w32 a,.w32 b=>some (decide (a=b))
 | .w64 a,.w64 b=>some (decide (a=b))
 | .i a,.i b=>some (decide (a=b))
 |_,_=>none
def eqT (P:Program):Nat→TypeId→AV→AV→Option Bool
 |0,_,_,_=>none
 |d+1,t,x,y=>match P.underlying t with
  |some .bool=>match x,y with| .b a,.b b=>some (a==b)|_,_=>none
  |some (.int _)=>eqS x y
  |some .string=>match x,y with| .s a,.s b=>some (decide (a=b))|_,_=>none
  |some (.array n e)=>aK (eK P e) fun z=>match x,y with
   | .agg xs,.agg ys=>nO (eqT P d e) (fun i cs=>ldV P e (cs.drop (i*z))) xs ys (List.range n)
   |_,_=>none
  |some (.struct fs)=>match x,y with
   | .agg xs,.agg ys=>aN (P.stoodInHeld t=false) (oH P (eqT P d) xs ys fs.toList)
   |_,_=>none
  |_=>none
def fM (P:Program) (t:TypeId):Bool:=match P.underlying t with|some (.pointer _)=>true|_=>false
def uG (P:Program) (t:TypeId):Bool:=match P.underlying t with|some (.interface _)=>true|_=>false
def oQ (P:Program) (t:TypeId):Bool:=match P.underlying t with|some (.slice _)=>true|_=>false
def xD (P:Program) (op:BinOp) (t:TypeId) (n:Nat):Option AV:=
 match op with
 | .eql=>aN (oQ P t=true∧0<n) (some (.b false))
 | .neq=>aN (oQ P t=true∧0<n) (some (.b true))
 |_=>none
def bGo (P:Program) (op:BinOp) (t:TypeId):Option AV:=
 match op with
 | .eql=>aN (oQ P t=true) (some (.b true))
 | .neq=>aN (oQ P t=true) (some (.b false))
 |_=>none
def bM (P:Program) (op:BinOp) (t:TypeId) (x y:AV):Option AV:=
 match x,y with
 | .b a,.b b=>match op with
  | .eql=>aN (pE P t=true) (some (.b (a==b)))
  | .neq=>aN (pE P t=true) (some (.b (!(a==b))))
  |_=>none
 | .agg xs,.agg ys=>match op with
  | .eql=>aN (P.eqGuardType P.depth t=false) (aK (eqT P 6 t (.agg xs) (.agg ys)) fun r=>some (.b r))
  | .neq=>aN (P.eqGuardType P.depth t=false) (aK (eqT P 6 t (.agg xs) (.agg ys)) fun r=>some (.b (!r)))
  |_=>none
 | .v (.iface _ _),.v .nilIface=>match op with
  | .eql=>aN (uG P t=true) (some (.b false))
  | .neq=>aN (uG P t=true) (some (.b true))
  |_=>none
 | .sl n _,.v (.slice none 0 0)=>xD P op t n
 | .os _ _ n _ _,.v (.slice none 0 0)=>xD P op t n
 | .v (.slice none 0 0),.v (.slice none 0 0)=>bGo P op t
 | .v (.pointer none),y=>match op with
  | .eql=>aN (fM P t=true) (aK (aGp (.v (.pointer none)) y) fun r=>some (.b r))
  | .neq=>aN (fM P t=true) (aK (aGp (.v (.pointer none)) y) fun r=>some (.b (!r)))
  |_=>none
 |x,.v (.pointer none)=>match op with
  | .eql=>aN (fM P t=true) (aK (aGp x (.v (.pointer none))) fun r=>some (.b r))
  | .neq=>aN (fM P t=true) (aK (aGp x (.v (.pointer none))) fun r=>some (.b (!r)))
  |_=>none
 |x,y=>bin op x y
def oB (v:Option AV):Option Int:=match v with|none=>some 0|some v=>ix v
def oV (v:Option AV) (n:Nat):Option Int:=match v with|none=>some n|some v=>ix v
def aIe (P:Program) (t:TypeId) (x:AV) (lo hi:Option AV):Option AV:=
 match P.underlying t with
 |some (.slice e)=>aK (eK P e) fun z=>match x with
  | .sl n xs=>aK (oB lo) fun l=>aK (oV hi n) fun h=>aN (0≤l∧l≤h∧h≤n) (some (.sl (h.toNat-l.toNat) ((xs.drop (l.toNat*z)).take ((h.toNat-l.toNat)*z))))
  | .os id off n e' g=>aK (oB lo) fun l=>aK (oV hi n) fun h=>aN (e'=z∧0≤l∧l≤h∧h≤n) (some (.os id (off+l.toNat*z) (h.toNat-l.toNat) z g))
  | .v (.slice none 0 0)=>aK (oB lo) fun l=>aK (oV hi 0) fun h=>aN (0≤l∧l≤h∧h≤0) (some (.v (.slice none 0 0)))
  |_=>none
 |some (.array n e)=>aK (eK P e) fun z=>aK (oB lo) fun l=>aK (oV hi n) fun h=>aN (0≤l∧l≤h∧h≤n) (match x with
  | .rp xs=>some (.sl (h.toNat-l.toNat) ((xs.drop (l.toNat*z)).take ((h.toNat-l.toNat)*z)))
  | .op id off=>some (.os id (off+l.toNat*z) (h.toNat-l.toNat) z false)
  |_=>none)
 |some .string=>match x with
  | .s c=>aK (oB lo) fun l=>aK (oV hi c.length) fun h=>aN (0≤l∧l≤h∧h≤c.length) (some (.s ((c.drop l.toNat).take (h.toNat-l.toNat))))
  |_=>none
 |_=>none
def zY (P:Program) (t:TypeId) (x:AV) (lo hi:Option AV) (mx:AV):Option AV:=
 match P.underlying t with
 |some (.slice e)=>aK (eK P e) fun z=>match x with
  | .os id off n e' g=>aK (oB lo) fun l=>aK (oV hi n) fun h=>aK (ix mx) fun m=>aN (hi.isSome=true∧e'=z∧0≤l∧l≤h∧h≤m∧m≤n) (some (.os id (off+l.toNat*z) (h.toNat-l.toNat) z g))
  |_=>none
 |_=>none
def cMq (P:Program) (t:TypeId) (x:AV):Option AV:=
 match P.underlying t with
 |some (.slice _)=>match x with
  | .sl n _=>some (.i n)
  | .os _ _ n _ _=>some (.i n)
  | .v (.slice none 0 0)=>some (.i 0)
  |_=>none
 |some .string=>match x with| .s l=>some (.i l.length)|_=>none
 |some (.array n _)=>some (.i n)
 |_=>none
def aCh (x y:AV):Option AV:=
 match x,y with
 | .i a,.i b=>some (.i (if b<a then b else a))
 | .w8 a,.w8 b=>some (.w8 (if b<a then b else a))
 | .w16 a,.w16 b=>some (.w16 (if b<a then b else a))
 | .w32 a,.w32 b=>some (.w32 (if b<a then b else a))
 | .w64 a,.w64 b=>some (.w64 (if b<a then b else a))
 |_,_=>none
def aGr (x y:AV):Option AV:=
 match x,y with
 | .i a,.i b=>some (.i (if a<b then b else a))
 | .w8 a,.w8 b=>some (.w8 (if a<b then b else a))
 | .w16 a,.w16 b=>some (.w16 (if a<b then b else a))
 | .w32 a,.w32 b=>some (.w32 (if a<b then b else a))
 | .w64 a,.w64 b=>some (.w64 (if a<b then b else a))
 |_,_=>none
def dBn (P:Program) (t:TypeId) (x:AV):Option AV:=
 match P.underlying t,x with
 |some (.slice _),.v (.slice none 0 0)=>some (.i 0)
 |_,_=>none
def aAi (P:Program) (c:Call) (ρ:Operand→AV):Option AV:=
 match c.callee,c.args.toList,c.argTypes.toList with
 | .builtin .len,[x],t::_=>cMq P t (ρ x)
 | .builtin .min,[x,y],_=>aCh (ρ x) (ρ y)
 | .builtin .max,[x,y],_=>aGr (ρ x) (ρ y)
 | .builtin .cap,[x],t::_=>dBn P t (ρ x)
 |_,_,_=>none
def dI (P:Program) (op:Op) (ρ:Operand→AV):Option AV:=
 match op with
 | .move x=>some (ρ x)
 | .assign x=>some (ρ x)
 | .pick c a b=>match ρ c with| .b t=>some (if t then ρ a else ρ b)|_=>none
 | .nilCheck x=>match ρ x with| .op id off=>some (.op id off)| .rp xs=>some (.rp xs)|_=>none
 | .binOp o t x y _=>bM P o t (ρ x) (ρ y)
 | .unOp o _ x=>un o (ρ x)
 | .convert src dst x=>aK (P.underlying src) fun _=>match P.underlying dst with
  |some (.int k)=>toK k (ρ x)
  |some .string=>match ρ x with| .s l=>some (.s l)|_=>none
  |_=>none
 | .sliceToArrayPointer t x=>match P.underlying t with
  |some (.array n _)=>aN (0<n) (match ρ x with
   | .sl m xs=>aN (n≤m) (some (.rp xs))
   | .os id off m _ _=>aN (n≤m) (some (.op id off))
   |_=>none)
  |_=>none
 | .fieldAddr s x f=>match P.underlying s with
  |some (.struct fs)=>aK fs[f]? fun fd=>aK (eK P fd.type) fun n=>aN (0<n) (match ρ x with
   | .op id off=>some (.op id (off+fd.offset))
   | .rp xs=>some (.rp (xs.drop fd.offset))
   |_=>none)
  |_=>none
 | .field s x f=>match P.underlying s with
  |some (.struct fs)=>aK fs[f]? fun fd=>match ρ x with
   | .agg cs=>ldV P fd.type (cs.drop fd.offset)
   |_=>none
  |_=>none
 | .indexAddr t x j=>aK (ix (ρ j)) fun j=>match P.underlying t with
  |some (.slice e)=>aK (eK P e) fun z=>match ρ x with
   | .sl n xs=>aN (0≤j∧j<n) (some (.rp (xs.drop (j.toNat*z))))
   | .os id off n e' _=>aN (e'=z∧0≤j∧j<n) (some (.op id (off+j.toNat*z)))
   |_=>none
  |some (.array n e)=>aK (eK P e) fun z=>aN (0≤j∧j<n) (match ρ x with
   | .rp xs=>some (.rp (xs.drop (j.toNat*z)))
   | .op id off=>some (.op id (off+j.toNat*z))
   |_=>none)
  |_=>none
 | .index t x j=>aK (ix (ρ j)) fun j=>match P.underlying t with
  |some (.array n e)=>aK (eK P e) fun z=>aN (0≤j∧j<n) (match ρ x with
   | .agg cs=>ldV P e (cs.drop (j.toNat*z))
   |_=>none)
  |some .string=>match ρ x with
   | .s l=>aN (0≤j) (aK l[j.toNat]? fun c=>some (.w8 c))
   |_=>none
  |_=>none
 | .build t parts=>aK (lA P t) fun zs=>match P.underlying t with
  |some (.struct fs)=>aK (fZh (fun k=>aK fs[k]? fun fd=>aK (eK P fd.type) fun n=>some (fd.offset,n)) zs (parts.toList.map fun p=>(p.1,ρ p.2))) fun cs=>
    aN (fs.toList.all (fun fd=>(eK P fd.type).isSome)=true) (some (.agg cs))
  |some (.array n e)=>aK (eK P e) fun z=>match (if z=1∧zs.length=parts.size then aEa 0 (parts.toList.map fun p=>(p.1,ρ p.2))else none)with
   |some cs=>some (.agg cs)
   |none=>aK (fZh (fun k=>some (k*z,z)) zs (parts.toList.map fun p=>(p.1,ρ p.2))) fun cs=>aN (0<n) (some (.agg cs))
  |_=>none
 | .makeFunc (.func f) first captured=>aN (first.size=0) (some (.fn f (captured.toList.map ρ)))
 | .extract t k=>match ρ t with| .tup xs=>xs[k]?|_=>none
 | .slice t x lo hi none=>aIe P t (ρ x) (lo.map ρ) (hi.map ρ)
 | .slice t x lo hi (some mx)=>zY P t (ρ x) (lo.map ρ) (hi.map ρ) (ρ mx)
 | .call c=>aAi P c ρ
 | .typeAssert x _ t true=>match ρ x with
  | .v (.iface t' v)=>aN (t'=t∧uG P t=false∧(P.underlying t).isSome=true) (some (.tup [ofV v,.b true]))
  |_=>none
 |_=>none
def sR (hp:H) (z:Nat) (x:AV):Option (Nat×List AV):=
 match x with
 | .sl n xs=>aN (xs.length=n*z) (some (n,xs))
 | .os id off n e _=>aK (hp id) fun o=>match o with
  | .cells xs _=>aN (e=z∧off+n*z≤xs.length) (some (n,(xs.drop off).take (n*z)))
  |_=>none
 | .v (.slice none 0 0)=>some (0,[])
 |_=>none
def fHq:List AV→Option (List (BitVec 8))
 |[]=>some []
 | .w8 x::r=>aK (fHq r) fun l=>some (x::l)
 |_::_=>none
def kEq:AV→AV→Option Bool
 | .i a,.i b=>some (decide (a=b))| .w8 a,.w8 b=>some (decide (a=b))| .w16 a,.w16 b=>some (decide (a=b))| .w32 a,.w32 b=>some (decide (a=b))| .w64 a,.w64 b=>some (decide (a=b))| .s a,.s b=>some (decide (a=b))
 |_,_=>none
def oP:TypeDesc→AV→Bool
 | .int .i64,.i _=>true| .int .u8,.w8 _=>true| .int .u16,.w16 _=>true| .int .u32,.w32 _=>true| .int .u64,.w64 _=>true| .string,.s _=>true
 |_,_=>false
def aNn (k:AV):List (AV×AV)→Option (Option Nat)
 |[]=>some none
 |p::r=>aK (kEq k p.1) fun b=>match b with|true=>some (some 0)|false=>aK (aNn k r) fun o=>some (o.map (· +1))
def aNp (k:AV) (es:List (AV×AV)):Option (Option AV):=aK (aNn k es) fun o=>some (o.bind fun j=>(es[j]?).map (·.2))
def aEh (k v:AV) (es:List (AV×AV)):Option (List (AV×AV)):=aK (aNn k es) fun o=>some (match o with|none=>es++[(k,v)]|some j=>es.set j (k,v))
def aSd (k:AV) (es:List (AV×AV)):Option (List (AV×AV)):=aK (aNn k es) fun o=>some (match o with|none=>es|some j=>es.eraseIdx j)
def bMn (P:Program) (t:TypeId):Bool:=match P.underlying t with|some (.map _ _)=>true|_=>false
def zvA (P:Program) (t:TypeId):Option AV:=((P.info? t).bind (·.zero)).map ofV
def aEi (hp:H):AV→Option (List (AV×AV))
 | .mp id=>aK (hp id) fun o=>match o with
  | .mapo es _=>some es
  |_=>none
 | .v (.map none)=>some []
 |_=>none
def aCm (z:AV) (ok:Bool):Option AV→AV
 |some v=>if ok=true then .tup [v,.b true]else v
 |none=>if ok=true then .tup [z,.b false]else z
def aWs (P:Program) (t:TypeId) (x k:AV) (ok:Bool) (hp:H):Option AV:=
 match P.underlying t with
 |some (.map kt et)=>aK (P.underlying kt) fun d=>aN (oP d k=true) (aK (zvA P et) fun z=>aK (aEi hp x) fun es=>aK (aNp k es) fun r=>some (aCm z ok r))
 |_=>none
def aWv (P:Program) (t:TypeId) (x:AV) (hp:H):Option AV:=
 match P.underlying t with
 |some (.map _ _)=>aK (aEi hp x) fun es=>some (.i es.length)
 |_=>none
def pP (hp:H) (x:AV):Option (AV×H):=
 match x with
 | .os i off n e _=>aK (hp i) fun o=>match o with
  | .cells xs _=>aN (off+n*e≤xs.length) (some (.sl n ((xs.drop off).take (n*e)),upd hp i (.cells xs false)))
  |_=>none
 | .v (.slice none 0 0)=>some (.sl 0 [],hp)
 |x=>some (x,hp)
def bAp (k x:AV) (id:Nat) (hp:H):AO→Option (AV×H)
 | .mapo es mt=>aN (mt=true) (aK (aEh k x es) fun es'=>some (.junk,upd hp id (.mapo es' true)))
 |_=>none
def aGs (P:Program) (t:TypeId) (m k x:AV) (hp:H):Option (AV×H):=
 match P.underlying t with
 |some (.map kt _)=>aK (P.underlying kt) fun d=>aN (oP d k=true) (match m with
  | .mp id=>aK (pP hp x) fun fx=>aK (fx.2 id) (bAp k fx.1 id fx.2)
  |_=>none)
 |_=>none
def bCa (k:AV) (id:Nat) (hp:H):AO→Option (AV×H)
 | .mapo es mt=>aN (mt=true) (aK (aSd k es) fun es'=>some (.tup [],upd hp id (.mapo es' true)))
 |_=>none
def cAz (P:Program) (t:TypeId) (m k:AV) (hp:H):Option (AV×H):=
 match P.underlying t with
 |some (.map kt _)=>aK (P.underlying kt) fun d=>aN (oP d k=true) (match m with
  | .mp id=>aK (hp id) (bCa k id hp)
  |_=>none)
 |_=>none
def aSz (id:Nat) (hp:H):AO→Option (AV×H)
 | .mapo _ mt=>aN (mt=true) (some (.tup [],upd hp id (.mapo [] true)))
 |_=>none
def eKi (P:Program) (op:Op) (ρ:Operand→AV) (hp:H):Option AV:=
 match op with
 | .load t x=>match ρ x with
  | .rp ys=>ldV P t ys
  | .op id off=>aK (hp id) fun o=>match o with| .cells xs _=>ldV P t (xs.drop off)|_=>none
  |_=>none
 | .lookup t x k ok=>aWs P t (ρ x) (ρ k) ok hp
 | .call c=>match c.callee,c.args.toList,c.argTypes.toList with
  | .builtin .len,[x],[t]=>aWv P t (ρ x) hp
  |_,_,_=>none
 | .convert src dst x=>match P.underlying src,P.underlying dst with
  |some (.slice e),some .string=>match P.underlying e with
   |some (.int .u8)=>aK (sR hp 1 (ρ x)) fun nl=>aK (fHq nl.2) fun l=>some (.s l)
   |_=>none
  |_,_=>none
 |_=>none
def rep (n:Nat) (zs:List AV):List AV:=(List.replicate n zs).flatten
def eEm (P:Program) (op:Op) (ρ:Operand→AV) (id:Nat):Option (AV×List AV):=
 match op with
 | .alloc t=>aK (lA P t) fun zs=>some (.op id 0,zs)
 | .box _ x=>aK (dC (ρ x)) fun cs=>some (.op id 0,cs)
 | .buildSlice t len parts=>match P.underlying t with
  |some (.slice e)=>aK (eK P e) fun z=>aN (0<z∧len*z≤16777216) (aK (lA P e) fun zs=>aN (zs.length=z)
   (aK (fZh (fun k=>some (k*z,z)) (rep len zs) (parts.toList.map fun p=>(p.1,ρ p.2))) fun cs=>some (.os id 0 len z true,cs)))
  |_=>none
 | .makeSlice t l c=>match P.underlying t with
  |some (.slice e)=>aK (eK P e) fun z=>aK (dU P e) fun by_=>aK (lA P e) fun zs=>aK (ix (ρ l)) fun l=>aK (ix (ρ c)) fun c=>
   aN (0<z∧zs.length=z∧0≤l∧l≤c∧c≤140737488355328∧c*by_≤140737488355328) (some (.os id 0 l.toNat z true,rep l.toNat zs))
  |_=>none
 | .convert src dst x=>match P.underlying src,P.underlying dst with
  |some .string,some (.slice e)=>match P.underlying e,ρ x with
   |some (.int .u8),.s l=>aN (l.length≤140737488355328) (some (.os id 0 l.length 1 true,l.map .w8))
   |_,_=>none
  |_,_=>none
 |_=>none
def wG:AV→Bool| .os _ _ _ _ _=>true|_=>false
def fVs (xs:List AV):Bool:= !(xs.any wG)
def gG (hp:H):List AV→Option (List AV×H)
 |[]=>some ([],hp)
 |x::r=>match x with
  | .os i off n e _=>aK (hp i) fun o=>match o with
   | .cells xs _=>aN (off+n*e≤xs.length) (aK (gG (upd hp i (.cells xs false)) r) fun p=>some (.sl n ((xs.drop off).take (n*e))::p.1,p.2))
   |_=>none
  |x=>aK (gG hp r) fun p=>some (x::p.1,p.2)
def uU (hp:H) (xs:List AV):Option (List AV×H):=if fVs xs=true then some (xs,hp)else gG hp xs
def dV (xs:List AV) (off:Nat) (cs:List AV):List AV:=match cs with|[c]=>xs.set off c|cs=>eG xs off cs
def tX (hp:H) (z:Nat) (y:AV):Option (Nat×List AV):=
 match y with
 | .s l=>aN (z=1) (some (l.length,l.map .w8))
 |y=>sR hp z y
def kF (z by_:Nat) (x:AV) (m:Nat) (ys:List AV) (hp:H) (id:Nat):Option (AV×H):=
 match x with
  | .v (.slice none 0 0)=>aN (m≤140737488355328∧m*by_≤140737488355328) (some (.os id 0 m z true,upd hp id (.cells ys true)))
  | .os i off n e' g=>aK (hp i) fun o=>match o with
   | .cells xs mt=>aN (mt=true∧g=true∧e'=z∧off+n*z=xs.length∧n+m≤140737488355328∧(n+m)*by_≤140737488355328)
     (some (.os id 0 (n+m) z true,upd (del hp i) id (.cells (xs.drop off++ys) true)))
   |_=>none
  |_=>none
def eqO {α:Type} (a b:Nat) (x y:Option α):Option α:=if a=b then x else y
def aDp (z by_ i off n e':Nat) (g:Bool) (m:Nat) (ys:List AV) (hp:H) (id:Nat) (xs:List AV) (mt:Bool):Option (AV×H):=
 aN (mt=true∧g=true∧e'=z∧off+n*z≤xs.length∧n+m≤140737488355328∧(n+m)*by_≤140737488355328)
  (some (.os id 0 (n+m) z true,upd (del hp i) id (.cells ((xs.drop off).take (n*z)++ys) true)))
def zV (z by_:Nat) (x:AV) (m:Nat) (ys:List AV) (hp:H) (id:Nat):Option (AV×H):=
 match x with
 | .os i off n e' g=>aK (hp i) fun o=>match o with
  | .cells xs mt=>eqO (off+n*z) xs.length (kF z by_ (.os i off n e' g) m ys hp id) (aDp z by_ i off n e' g m ys hp id xs mt)
  |_=>none
 |x=>kF z by_ x m ys hp id
def pK (P:Program) (t:TypeId) (x y:AV) (hp:H) (id:Nat):Option (AV×H):=
 match P.underlying t with
 |some (.slice e)=>aK (eK P e) fun z=>aK (dU P e) fun by_=>aK (lA P e) fun zs=>aN (0<z∧zs.length=z) (aK (tX hp z y) fun my=>aK (uU hp my.2) fun fy=>zV z by_ x my.1 fy.1 fy.2 id)
 |_=>none
def bCb:AV→Option Nat
 | .i n=>aN (0≤n) (some n.toNat)
 |_=>none
def wX (P:Program) (t:TypeId) (x y:AV) (hp:H) (id:Nat):Option (AV×H):=
 match P.underlying t with
 |some (.slice e)=>aK (eK P e) fun z=>aK (dU P e) fun by_=>aK (lA P e) fun zs=>aN (0<z∧zs.length=z) (aK (bCb y) fun m=>aN (m≤140737488355328∧m*by_≤140737488355328) (kF z by_ x m (rep m zs) hp id))
 |_=>none
def xW (P:Program) (t:TypeId):Bool:=match P.underlying t with|some (.int _)=>true|_=>false
def aXo (P:Program) (t:TypeId) (x y:AV) (hp:H):Option (AV×H):=
 match P.underlying t with
 |some (.slice e)=>aK (eK P e) fun z=>aK (tX hp z y) fun my=>match x with
  | .os i off n e' _=>aK (hp i) fun o=>match o with
   | .cells xs mt=>aN (mt=true∧e'=z∧off+n*z≤xs.length) (some (.i (min my.1 n:Nat),upd hp i (.cells (eG xs off (my.2.take (min my.1 n*z))) true)))
   |_=>none
  |_=>none
 |_=>none
def aKa (P:Program) (t:TypeId) (x:AV) (hp:H):Option (AV×H):=
 match P.underlying t with
 |some (.map _ _)=>match x with
  | .mp id=>aK (hp id) (aSz id hp)
  |_=>none
 |some (.slice e)=>aK (eK P e) fun z=>aK (lA P e) fun zs=>aN (0<z∧zs.length=z) (match x with
  | .os i off n e' _=>aK (hp i) fun o=>match o with
   | .cells xs mt=>aN (mt=true∧e'=z∧off+n*z≤xs.length) (some (.tup [],upd hp i (.cells (eG xs off (rep n zs)) true)))
   |_=>none
  |_=>none)
 |_=>none
def eDw (P:Program) (t:TypeId):Bool:=match P.underlying t with|some (.int _)=>false|some _=>true|none=>false
def aWr (P:Program) (e:TypeId) (x:AV) (hp:H):Option (AV×H):=
 match P.underlying e with
 |some (.int .u8)=>match x with
  | .os i off n e' g=>aK (hp i) fun o=>match o with
   | .cells xs mt=>aN (mt=true∧0<n) (some (.os i off n e' g,upd hp i (.cells xs true)))
   |_=>none
  |_=>none
 |_=>none
def fR (P:Program) (op:Op) (ρ:Operand→AV) (hp:H) (id:Nat):Option (AV×H):=
 match op with
 | .store t a x=>match ρ a with
  | .op i off=>aK (dC (ρ x)) fun cs=>aK (eK P t) fun z=>aK (hp i) fun o=>match o with
   | .cells xs mt=>aN (mt=true∧cs.length=z∧off+z≤xs.length) (some (.junk,upd hp i (.cells (dV xs off cs) true)))
   |_=>none
  |_=>none
 | .convert src dst x=>aN (src=dst) (match P.underlying dst with
  |some (.slice e)=>aWr P e (ρ x) hp
  |_=>none)
 | .makeMap _ none=>some (.mp id,upd hp id (.mapo [] true))
 | .mapUpdate t m k x=>aGs P t (ρ m) (ρ k) (ρ x) hp
 | .insert t m k x=>aGs P t (ρ m) (ρ k) (ρ x) hp
 | .call c=>match c.callee,c.args.toList,c.argTypes.toList with
  | .builtin .append,[x,y],[t,t']=>if eDw P t'=true then pK P t (ρ x) (ρ y) hp id else aN (xW P t'=true) (wX P t (ρ x) (ρ y) hp id)
  | .builtin .copy,[x,y],[t,_]=>aXo P t (ρ x) (ρ y) hp
  | .builtin .clear,[x],[t]=>aKa P t (ρ x) hp
  | .builtin .delete,[x,k],[t,_]=>cAz P t (ρ x) (ρ k) hp
  |_,_,_=>none
 |_=>none
inductive Cls where|pure|read|new|write|call
 deriving DecidableEq
def cls (P:Program):Op→Cls
 | .convert src dst _=>match P.underlying src,P.underlying dst with
  |some (.slice _),some .string=> .read
  |some .string,some (.slice _)=> .new
  |some (.slice _),some (.slice _)=> .write
  |_,_=> .pure
 | .load ..=> .read
 | .lookup ..=> .read
 | .makeMap ..| .mapUpdate ..| .insert ..=> .write
 | .alloc ..| .box ..| .buildSlice ..| .makeSlice ..=> .new
 | .store ..=> .write
 | .call c=>match c.callee with
  | .builtin .append| .builtin .copy| .builtin .clear| .builtin .delete=> .write
  | .builtin .len=>match c.argTypes.toList with
   |[t]=>match bMn P t with
    |true=> .read
    |false=> .pure
   |_=> .pure
  | .builtin _=> .pure
  |_=> .call
 |_=> .pure
end Go.AX

namespace Go.AX
open Go
section
variable {P : Program} {σ : Nat → Loc} {I : Nat → Prop} {w : World}
theorem run_typeInfo' {t:TypeId} {i:TypeInfo} (h:P.info? t=some i) (w:World):(typeInfo t).run P w=.ok i w:=by simp[typeInfo,h]
theorem aLv {t:TypeId} {n:Nat} (h:eK P t=some n): ∃i,P.info? t=some i∧i.size=n:=by
 unfold eK at h;cases hi:P.info? t with
 |none=>simp[hi]at h
 |some i=>exact⟨i,rfl,by simpa [hi]using h⟩
theorem wT {t:TypeId} {n:Nat} (h:dU P t=some n): ∃i,P.info? t=some i∧i.bytes=n:=by
 unfold dU at h;cases hi:P.info? t with
 |none=>simp[hi]at h
 |some i=>exact⟨i,rfl,by simpa [hi]using h⟩
theorem run_sizeOf' {t:TypeId} {n:Nat} (h:eK P t=some n) (w:World):(sizeOf t).run P w=.ok n w:=by
 obtain⟨i,hi,hn⟩:=aLv h
 simp[sizeOf,run_typeInfo' hi,hn]
theorem run_isAgg' {t:TypeId} {g:Bool} (h:fHi P t=some g) (w:World):(isAgg t).run P w=.ok g w:=by
 unfold fHi at h
 cases hu:P.underlying t with
 |none=>simp[hu]at h
 |some d=>
  simp only[hu,Option.map_some,Option.some.injEq]at h
  simp only[isAgg,Sem.run_bind,run_underlying hu,Result.andThen_ok]
  cases d<;>simp_all
theorem run_zeroValue' {t:TypeId} {zs:List AV} (h:lA P t=some zs) (w:World):
  ∃z,(zeroValue t).run P w=.ok z w∧(P.info? t).bind (·.zero)=some z∧zs=z.cells.toList.map aEg∧∀x∈z.cells.toList,x.oneCell'=true:=by
 unfold lA at h
 cases hi:P.info? t with
 |none=>simp[hi]at h
 |some i=>
  cases hz:i.zero with
  |none=>simp[hi,hz]at h
  |some z=>
   simp only[hi,Option.bind_some,hz]at h
   split at h
   ·rename_i hall
    refine⟨z,by simp[zeroValue,run_typeInfo' hi,hz],by simp[hz],(J0 h).symm,fun x hx=>List.all_eq_true.1 hall x hx⟩
   cases h
theorem fVr (b o k:Nat):(⟨b,o,none⟩:Addr).add k=⟨b,o+k,none⟩:=by
 unfold Addr.add;split
 ·rename_i h;subst h;rfl
 rfl
theorem yY {xs:List AV} {vs:Array Value} (h:Rel σ I w (.agg xs) (.agg vs)):vs.size=xs.length∧(∀i (h:i<xs.length),xs[i].isCell=true)∧∀i (h:i<xs.length),Rel σ I w xs[i] (vs.getD i undef):=by
 cases h with|agg _ _ a b c=>exact⟨a,b,c⟩
theorem fI {vs:List Value} {i:Nat} {d:Value}:vs.toArray.getD i d=vs.getD i d:=by
 rw[Array.getD_eq_getD_getElem?,List.getD_eq_getElem?_getD];simp
theorem aTe {x:AV} {cs:List AV} {v:Value} (h:dC x=some cs) (hr:Rel σ I w x v):
  v.cells.size=cs.length∧(∀i (h:i<cs.length),cs[i].isCell=true)∧(∀i (h:i<cs.length),Rel σ I w cs[i] (v.cells.getD i undef)):=by
 have one: ∀(y:AV) (u:Value),Rel σ I w y u→y.isCell=true→u.cells= #[u]→
   u.cells.size=[y].length∧(∀i (h:i<[y].length),[y][i].isCell=true)∧(∀i (h:i<[y].length),Rel σ I w [y][i] (u.cells.getD i undef)):=by
  intro y u hr hc hu
  refine⟨by simp[hu],fun i hi=>?_,fun i hi=>?_⟩
  ·simp only[List.length_singleton]at hi;obtain rfl:i=0:=by omega
   exact hc
  ·simp only[List.length_singleton]at hi;obtain rfl:i=0:=by omega
   rw[hu];exact hr
 cases x with
 |agg xs=>
  obtain rfl:=J0 h
  cases hr with|agg _ vs a b c=>exact⟨a,b,c⟩
 |tup=>cases h
 |junk=>cases h
 |pin=>cases h
 |v x=>
  simp only[dC]at h
  split at h
  ·rename_i hc
   obtain rfl:=J0 h
   cases hr
   refine one _ _ (.v _) hc ?_
   cases v<;>first|rfl|(simp[Value.oneCell']at hc)
  cases h
 |w8=>obtain rfl:=J0 h;cases hr;exact one _ _ (.w8 _) rfl rfl
 |w16=>obtain rfl:=J0 h;cases hr;exact one _ _ (.w16 _) rfl rfl
 |w32=>obtain rfl:=J0 h;cases hr;exact one _ _ (.w32 _) rfl rfl
 |w64=>obtain rfl:=J0 h;cases hr;exact one _ _ (.w64 _) rfl rfl
 |i=>obtain rfl:=J0 h;cases hr;exact one _ _ (.i _) rfl rfl
 |b=>obtain rfl:=J0 h;cases hr;exact one _ _ (.b _) rfl rfl
 |s=>obtain rfl:=J0 h;cases hr;exact one _ _ (.s _) rfl rfl
 |sl=>obtain rfl:=J0 h;refine one _ _ hr rfl ?_;cases hr<;>rfl
 |rp=>obtain rfl:=J0 h;refine one _ _ hr rfl ?_;cases hr<;>rfl
 |os=>obtain rfl:=J0 h;refine one _ _ hr rfl ?_;cases hr<;>rfl
 |op=>obtain rfl:=J0 h;refine one _ _ hr rfl ?_;cases hr<;>rfl
 |mp=>obtain rfl:=J0 h;refine one _ _ hr rfl ?_;cases hr<;>rfl
 |fn=>obtain rfl:=J0 h;refine one _ _ hr rfl ?_;cases hr<;>rfl
theorem getElem_take' {xs:List AV} {n i:Nat} (h:i<(xs.take n).length):(xs.take n)[i]=xs[i]'(by simp at h;omega):=by simp
theorem getElem_drop' {xs:List AV} {n i:Nat} (h:i<(xs.drop n).length):(xs.drop n)[i]=xs[n+i]'(by simp at h;omega):=by simp
theorem aCp {t:TypeId} {ys:List AV} {x:AV} {blk o:Nat} (h:ldV P t ys=some x)
  (hc: ∀i (h:i<ys.length),∃v,w.cell? ⟨blk,o+i,none⟩=some v∧ys[i].isCell=true∧Rel σ I w ys[i] v):
  ∃v,(loadVar t ⟨blk,o,none⟩).run P w=.ok v w∧Rel σ I w x v:=by
 unfold ldV at h
 obtain⟨g,hg,h⟩:=aJ h
 simp only[loadVar,Sem.run_bind,run_isAgg' hg,Result.andThen_ok]
 split at h
 ·rename_i hgt
  obtain⟨n,hn,h⟩:=aJ h
  obtain⟨hle,h⟩:=aP h
  obtain rfl:=J0 h
  simp only[hgt,if_true,Sem.run_bind,run_sizeOf' hn,Result.andThen_ok]
  have hl:=run_loadCells (P:=P) w ⟨blk,o,none⟩ n (fun j=>(w.cell? ⟨blk,o+j,none⟩).getD undef) (fun j hj=>by
   obtain⟨v,hv,_⟩:=hc j (by omega)
   rw[fVr,hv];simp)
  rw[hl]
  simp only[Result.andThen_ok,Sem.run_pure]
  refine⟨_,rfl,.agg _ _ (by simp;omega) (fun i hi=>?_) (fun i hi=>?_)⟩
  ·rw[getElem_take' hi]
   simp at hi
   obtain⟨v,_,hcell,_⟩:=hc i (by omega)
   exact hcell
  have hi':=hi
  rw[getElem_take' hi]
  simp at hi'
  obtain⟨v,hv,_,hr⟩:=hc i (by omega)
  have:(List.map (fun j=>(w.cell? ⟨blk,o+j,none⟩).getD undef) (List.range n)).toArray.getD i undef=v:=by
   rw[fI,List.getD_eq_getElem?_getD,List.getElem?_map,List.getElem?_range (by omega)]
   simp[hv]
  rw[this];exact hr
 rename_i hgf
 simp only[Bool.not_eq_true]at hgf
 simp only[hgf,Bool.false_eq_true,if_false]
 cases ys with
 |nil=>simp at h
 |cons y r=>
  simp at h
  subst h
  obtain⟨v,hv,hcell,hr⟩:=hc 0 (by simp)
  refine⟨v,?_,hr⟩
  simp at hv
  simp[run_load,hv]
theorem qF {t:TypeId} {cs:List AV} {x:AV} {vs:Array Value} {off:Nat} (h:ldV P t (cs.drop off)=some x) (hr:Rel σ I w (.agg cs) (.agg vs)):
  ∃v,(part t vs off).run P w=.ok v w∧Rel σ I w x v:=by
 obtain⟨h1,h2,h3⟩:=yY hr
 unfold ldV at h
 obtain⟨g,hg,h⟩:=aJ h
 simp only[part,Sem.run_bind,run_isAgg' hg,Result.andThen_ok]
 split at h
 ·rename_i hgt
  obtain⟨n,hn,h⟩:=aJ h
  obtain⟨hle,h⟩:=aP h
  obtain rfl:=J0 h
  simp only[hgt,if_true,Sem.run_bind,run_sizeOf' hn,Result.andThen_ok,Sem.run_pure]
  simp at hle
  have hlen:((cs.drop off).take n).length=n:=by simp;omega
  refine⟨_,rfl,.agg _ _ (by rw[hlen];simp;omega) (fun i hi=>?_) (fun i hi=>?_)⟩
  ·rw[getElem_take' hi,getElem_drop'];exact h2 _ _
  have hi':=hi
  rw[hlen]at hi'
  rw[getElem_take' hi,getElem_drop']
  have:(vs.extract off (off+n)).getD i undef=vs.getD (off+i) undef:=by
   rw[Array.getD_eq_getD_getElem?,Array.getD_eq_getD_getElem?,Array.getElem?_extract]
   rw[J4 (by omega)]
  rw[this];exact h3 _ _
 rename_i hgf
 simp only[Bool.not_eq_true]at hgf
 simp only[hgf,Bool.false_eq_true,if_false]
 rw[List.head?_drop]at h
 obtain⟨hlt,he⟩:=List.getElem?_eq_some_iff.1 h
 have hv:vs[off]? =some (vs.getD off undef):=by
  rw[Array.getD_eq_getD_getElem?,Array.getElem?_eq_getElem (by omega)];rfl
 refine⟨_,by rw[hv];rfl,?_⟩
 rw[←he];exact h3 off hlt
theorem sC {xs:List AV} {blk o k:Nat} (h:Rel σ I w (.rp xs) (.pointer (some ⟨blk,o,none⟩))):Rel σ I w (.rp (xs.drop k)) (.pointer (some ⟨blk,o+k,none⟩)):=by
 cases h with
 |rp _ _ _ f hb hc h1 h2=>
  refine .rp _ _ _ (fun i=>f (k+i)) hb (fun i hi=>?_) (fun i hi=>?_) (fun i hi=>?_)
  ·simp at hi
   rw[Nat.add_assoc];exact hc (k+i) (by omega)
  ·rw[getElem_drop'];exact h1 _ _
  rw[getElem_drop'];exact h2 _ _
theorem aBt {xs:List AV} {v:Value} (h:Rel σ I w (.rp xs) v): ∃blk o,v=.pointer (some ⟨blk,o,none⟩):=by cases h;exact⟨_,_,rfl⟩
theorem dZc {id off:Nat} {v:Value} (h:Rel σ I w (.op id off) v): ∃blk base sz,σ id=.at_ blk base sz∧v=.pointer (some ⟨blk,base+off,none⟩):=by cases h;exact⟨_,_,_,‹_›,rfl⟩
theorem bBq {x y:AV} {a b:Value} {r:Bool} (h:eqS x y=some r) (hx:Rel σ I w x a) (hy:Rel σ I w y b): ∃k m n,a=.int k m∧b=.int k n∧(m==n)=r:=by
 unfold eqS at h
 split at h<;>first|(cases h;done)|skip
 all_goals (cases hx;cases hy;obtain rfl:=J0 h;refine⟨_,_,_,rfl,rfl,?_⟩)
 all_goals (rw[Bool.eq_iff_iff,beq_iff_eq,decide_eq_true_eq])
 all_goals first|rw[Int.ofNat_inj,BitVec.toNat_inj]|rfl
theorem fZj {D:Nat} {f:TypeId→AV→AV→Option Bool} (hf: ∀ {t:TypeId} {x y:AV} {a b:Value} {r:Bool},f t x y=some r→Rel σ I w x a→Rel σ I w y b→(Op.equalIn D t a b).run P w=.ok r w)
  {xs ys:List AV} {us vs:Array Value} (hx:Rel σ I w (.agg xs) (.agg us)) (hy:Rel σ I w (.agg ys) (.agg vs)): ∀(fs:List Field) {r:Bool},oH P f xs ys fs=some r→(Op.eqFields D us vs fs).run P w=.ok r w
 |[],r,h=>by obtain rfl:=J0 h;simp[Op.eqFields]
 |fd::fs,r,h=>by
  simp only[oH]at h
  simp only[Op.eqFields,Sem.run_ite]
  split at h
  ·rename_i hn
   rw[J4 hn]
   replace h:=aJ h;obtain⟨a,ha,h⟩:=h
   replace h:=aJ h;obtain⟨b,hb,h⟩:=h
   replace h:=aJ h;obtain⟨q,hq,h⟩:=h
   obtain⟨u,hu,hru⟩:=qF ha hx
   obtain⟨v,hv,hrv⟩:=qF hb hy
   simp only[Sem.run_bind,hu,hv,Result.andThen_ok,hf hq hru hrv,Sem.run_ite]
   cases q
   ·obtain rfl:=J0 h;simp
   ·simpa using fZj hf hx hy fs h
  ·rename_i hn
   rw[J3 hn]
   exact fZj hf hx hy fs h
theorem fIc {D c:Nat} {e:TypeId} {f:AV→AV→Option Bool} (hf: ∀ {x y:AV} {a b:Value} {r:Bool},f x y=some r→Rel σ I w x a→Rel σ I w y b→(Op.equalIn D e a b).run P w=.ok r w)
  {xs ys:List AV} {us vs:Array Value} (hx:Rel σ I w (.agg xs) (.agg us)) (hy:Rel σ I w (.agg ys) (.agg vs)): ∀(is:List Nat) {r:Bool},nO f (fun i cs=>ldV P e (cs.drop (i*c))) xs ys is=some r→(Op.eqItems D e c us vs is).run P w=.ok r w
 |[],r,h=>by obtain rfl:=J0 h;simp[Op.eqItems]
 |i::is,r,h=>by
  simp only[nO]at h
  simp only[Op.eqItems]
  replace h:=aJ h;obtain⟨a,ha,h⟩:=h
  replace h:=aJ h;obtain⟨b,hb,h⟩:=h
  replace h:=aJ h;obtain⟨q,hq,h⟩:=h
  obtain⟨u,hu,hru⟩:=qF ha hx
  obtain⟨v,hv,hrv⟩:=qF hb hy
  simp only[Sem.run_bind,hu,hv,Result.andThen_ok,hf hq hru hrv,Sem.run_ite]
  cases q
  ·obtain rfl:=J0 h;simp
  ·simpa using fIc hf hx hy is h
theorem tV {xs:List AV} {v:Value} (h:Rel σ I w (.agg xs) v): ∃vs,v=.agg vs:=by cases h;exact⟨_,rfl⟩
theorem tO: ∀(d:Nat) {D:Nat} {t:TypeId} {x y:AV} {a b:Value} {r:Bool},d≤D→eqT P d t x y=some r→Rel σ I w x a→Rel σ I w y b→(Op.equalIn D t a b).run P w=.ok r w
 |0,_,_,_,_,_,_,_,_,h,_,_=>by cases h
 |d+1,0,_,_,_,_,_,_,hd,_,_,_=>by omega
 |d+1,D+1,t,x,y,a,b,r,hd,h,hx,hy=>by
  unfold eqT at h
  split at h
  ·rename_i hu
   split at h
   ·cases hx;cases hy;obtain rfl:=J0 h
    exact run_equalIn_bool w D t _ _ hu
   cases h
  ·rename_i k hu
   obtain⟨k',m,n,rfl,rfl,rfl⟩:=bBq h hx hy
   rw[Op.equalIn,Sem.run_bind,run_underlying hu]
   simp only[Result.andThen_ok,if_true,Sem.run_pure]
  ·rename_i hu
   split at h
   ·cases hx;cases hy;obtain rfl:=J0 h
    rename_i a b
    rw[run_equalIn_string w D t _ _ hu]
    congr 1
    rw[Bool.eq_iff_iff,beq_iff_eq,decide_eq_true_eq,fVq,fVq]
    exact⟨aDc,fun e=>by rw[e]⟩
   cases h
  ·rename_i n e hu
   replace h:=aJ h;obtain⟨z,hz,h⟩:=h
   split at h
   ·obtain⟨us,rfl⟩:=tV hx
    obtain⟨vs,rfl⟩:=tV hy
    have hi: ∃i,P.info? e=some i∧P.cellsOf e=z:=by
     unfold eK at hz
     cases hi:P.info? e with
     |none=>simp[hi]at hz
     |some i=>simp[hi]at hz;exact⟨i,rfl,by simp[Program.cellsOf,hi,hz]⟩
    obtain⟨i,hi,hc⟩:=hi
    rw[run_equalIn_array w D us vs hu hi,hc]
    exact fIc (fun h1 h2 h3=>tO d (by omega) h1 h2 h3) hx hy _ h
   cases h
  ·rename_i fs hu
   split at h
   ·obtain⟨us,rfl⟩:=tV hx
    obtain⟨vs,rfl⟩:=tV hy
    obtain⟨hs,h⟩:=aP h
    have hf:P.fieldsOf t=fs:=by simp[Program.fieldsOf,hu]
    rw[run_equalIn_struct w D t us vs (by rw[hf];exact hu) hs,hf]
    exact fZj (fun h1 h2 h3=>tO d (by omega) h1 h2 h3) hx hy _ h
   cases h
  cases h
theorem fZl {x y:AV} {a b:Value} {t:TypeId} {r:Bool} (hp:fM P t=true) (h:aGp x y=some r) (hx:Rel σ I w x a) (hy:Rel σ I w y b):(Op.equal t a b).run P w=.ok r w∧∃p q,a=.pointer p∧b=.pointer q:=by
 unfold fM at hp
 split at hp
 ·rename_i e hu
  have go: ∀(p q:Option Addr),(p=none∨q=none)→(p.isNone&&q.isNone)=r→(Op.equal t (.pointer p) (.pointer q)).run P w=.ok r w:=by
   intro p q hpq hr
   show(Op.equalIn (9999+1) t _ _).run P w=_
   rw[Op.equalIn,Sem.run_bind,run_underlying hu]
   cases p with
   |none=>simp at hr;simp[Result.andThen_ok,hr]
   |some p=>cases q with
    |none=>simp at hr;simp[Result.andThen_ok,hr]
    |some q=>simp at hpq
  unfold aGp at h
  split at h<;>first|(cases h;done)|skip
  all_goals (obtain rfl:=J0 h;cases hx;cases hy)
  all_goals exact⟨go _ _ (by simp) (by simp),_,_,rfl,rfl⟩
 cases hp
theorem yU {op:BinOp} {z:AV} {a:Value} {adr:Addr} {n cap m:Nat} {t:TypeId} (X Y:Operand) (h:xD P op t m=some z) (ha:a=.slice (some adr) n cap):
  ∃v,(do eqGuard op t X Y a (.slice none 0 0);binOp op t a (.slice none 0 0):Sem Value).run P w=.ok v w∧Rel σ I w z v:=by
 subst ha
 have key:oQ P t=true→(Op.equal t (.slice (some adr) n cap) (.slice none 0 0)).run P w=.ok false w:=by
  intro hs
  unfold oQ at hs
  split at hs
  ·rename_i e hu
   show(Op.equalIn (9999+1) t _ _).run P w=_
   rw[Op.equalIn,Sem.run_bind,run_underlying hu];rfl
  cases hs
 unfold xD at h
 split at h
 ·obtain⟨⟨hs,_⟩,h⟩:=aP h
  obtain rfl:=J0 h
  refine⟨.bool false,?_,.b _⟩
  simp only[eqGuard,Sem.run_bind,Sem.run_ite,Sem.run_pure,binOp]
  split<;>simp only[Result.andThen_ok,key hs]
 ·obtain⟨⟨hs,_⟩,h⟩:=aP h
  obtain rfl:=J0 h
  refine⟨.bool (!false),?_,.b _⟩
  simp only[eqGuard,Sem.run_bind,Sem.run_ite,Sem.run_pure,binOp]
  split<;>simp only[Result.andThen_ok,key hs]
 cases h
theorem aBc {op:BinOp} {t:TypeId} {n:Nat} {z:AV} (h:xD P op t n=some z):0<n:=by
 unfold xD at h
 split at h
 ·exact(aP h).1.2
 ·exact(aP h).1.2
 cases h
theorem aTn {op:BinOp} {x y z:AV} {a b:Value} {t:TypeId} (X Y:Operand) (h:bM P op t x y=some z) (hx:Rel σ I w x a) (hy:Rel σ I w y b):
  ∃v,(do eqGuard op t X Y a b;binOp op t a b:Sem Value).run P w=.ok v w∧Rel σ I w z v:=by
 unfold bM at h
 split at h
 ·cases hx;cases hy
  rw[Sem.run_bind,xK]
  have key:pE P t=true→∀a b,(Op.equal t (.bool a) (.bool b)).run P w=.ok (a==b) w:=by
   intro hb a b
   unfold pE at hb
   split at hb
   ·rename_i hu
    show(Op.equalIn (9999+1) t (.bool a) (.bool b)).run P w=_
    rw[Op.equalIn,Sem.run_bind,run_underlying hu];rfl
   cases hb
  split at h
  ·obtain⟨hb,h⟩:=aP h
   obtain rfl:=J0 h
   exact⟨_,by simp only[Result.andThen_ok,binOp,Sem.run_bind,key hb,Sem.run_pure],.b _⟩
  ·obtain⟨hb,h⟩:=aP h
   obtain rfl:=J0 h
   exact⟨_,by simp only[Result.andThen_ok,binOp,Sem.run_bind,key hb,Sem.run_pure],.b _⟩
  cases h
 ·obtain⟨us,rfl⟩:=tV hx
  obtain⟨vs,rfl⟩:=tV hy
  have guard:P.eqGuardType P.depth t=false→(eqGuard op t X Y (.agg us) (.agg vs)).run P w=.ok () w:=by
   intro hg
   simp only[eqGuard,Sem.run_ite,Sem.run_bind,run_program,Result.andThen_ok,hg]
   split<;>simp
  split at h
  ·obtain⟨hg,h⟩:=aP h
   replace h:=aJ h;obtain⟨r,hr,h⟩:=h
   obtain rfl:=J0 h
   refine⟨.bool r,?_,.b _⟩
   rw[Sem.run_bind,guard hg]
   simp only[Result.andThen_ok,binOp,Sem.run_bind,Op.equal,tO 6 (by decide:6≤Op.maxDepth) hr hx hy,Sem.run_pure]
  ·obtain⟨hg,h⟩:=aP h
   replace h:=aJ h;obtain⟨r,hr,h⟩:=h
   obtain rfl:=J0 h
   refine⟨.bool (!r),?_,.b _⟩
   rw[Sem.run_bind,guard hg]
   simp only[Result.andThen_ok,binOp,Sem.run_bind,Op.equal,tO 6 (by decide:6≤Op.maxDepth) hr hx hy,Sem.run_pure]
  cases h
 ·rename_i ti vi
  have ha:a=.iface ti vi:=by cases hx;rfl
  have hb:b=.nilIface:=by cases hy;rfl
  subst ha;subst hb
  have key:uG P t=true→(Op.equal t (.iface ti vi) .nilIface).run P w=.ok false w:=by
   intro hs
   unfold uG at hs
   split at hs
   ·rename_i e hu
    show(Op.equalIn (9999+1) t _ _).run P w=_
    rw[Op.equalIn,Sem.run_bind,run_underlying hu];rfl
   cases hs
  split at h
  ·obtain⟨hs,h⟩:=aP h
   obtain rfl:=J0 h
   refine⟨.bool false,?_,.b _⟩
   simp only[eqGuard,Sem.run_bind,Sem.run_ite,Sem.run_pure,binOp]
   split<;>simp only[Result.andThen_ok,key hs]
  ·obtain⟨hs,h⟩:=aP h
   obtain rfl:=J0 h
   refine⟨.bool (!false),?_,.b _⟩
   simp only[eqGuard,Sem.run_bind,Sem.run_ite,Sem.run_pure,binOp]
   split<;>simp only[Result.andThen_ok,key hs]
  cases h
 ·have hp:=aBc h
  have hb:b=.slice none 0 0:=by cases hy;rfl
  subst hb
  cases hx with
  |sl _ _ blk off cap f h1 h2 h3 h4 h5=>exact yU X Y h rfl
  |slnil=>omega
  |slzero a=>omega
 ·have hp:=aBc h
  have hb:b=.slice none 0 0:=by cases hy;rfl
  subst hb
  cases hx with
  |os _ _ _ _ _ blk base sz cap g1 g2 g3=>exact yU X Y h rfl
  |osnil=>omega
  |oszero=>omega
 ·have ha:a=.slice none 0 0:=by cases hx;rfl
  have hb:b=.slice none 0 0:=by cases hy;rfl
  subst ha;subst hb
  have key:oQ P t=true→(Op.equal t (.slice none 0 0) (.slice none 0 0)).run P w=.ok true w:=by
   intro hs
   unfold oQ at hs
   split at hs
   ·rename_i e hu
    show(Op.equalIn (9999+1) t _ _).run P w=_
    rw[Op.equalIn,Sem.run_bind,run_underlying hu];rfl
   cases hs
  unfold bGo at h
  split at h
  ·obtain⟨hs,h⟩:=aP h
   obtain rfl:=J0 h
   refine⟨.bool true,?_,.b _⟩
   simp only[eqGuard,Sem.run_bind,Sem.run_ite,Sem.run_pure,binOp]
   split<;>simp only[Result.andThen_ok,key hs]
  ·obtain⟨hs,h⟩:=aP h
   obtain rfl:=J0 h
   refine⟨.bool (!true),?_,.b _⟩
   simp only[eqGuard,Sem.run_bind,Sem.run_ite,Sem.run_pure,binOp]
   split<;>simp only[Result.andThen_ok,key hs]
  cases h
 ·split at h
  ·obtain⟨hg,h⟩:=aP h
   replace h:=aJ h;obtain⟨r,hr,h⟩:=h
   obtain rfl:=J0 h
   obtain⟨he,p,q,rfl,rfl⟩:=fZl hg hr hx hy
   refine⟨.bool r,?_,.b _⟩
   simp only[eqGuard,Sem.run_bind,Sem.run_ite,Sem.run_pure,binOp]
   split<;>simp only[Result.andThen_ok,he]
  ·obtain⟨hg,h⟩:=aP h
   replace h:=aJ h;obtain⟨r,hr,h⟩:=h
   obtain rfl:=J0 h
   obtain⟨he,p,q,rfl,rfl⟩:=fZl hg hr hx hy
   refine⟨.bool (!r),?_,.b _⟩
   simp only[eqGuard,Sem.run_bind,Sem.run_ite,Sem.run_pure,binOp]
   split<;>simp only[Result.andThen_ok,he]
  cases h
 ·split at h
  ·obtain⟨hg,h⟩:=aP h
   replace h:=aJ h;obtain⟨r,hr,h⟩:=h
   obtain rfl:=J0 h
   obtain⟨he,p,q,rfl,rfl⟩:=fZl hg hr hx hy
   refine⟨.bool r,?_,.b _⟩
   simp only[eqGuard,Sem.run_bind,Sem.run_ite,Sem.run_pure,binOp]
   split<;>simp only[Result.andThen_ok,he]
  ·obtain⟨hg,h⟩:=aP h
   replace h:=aJ h;obtain⟨r,hr,h⟩:=h
   obtain rfl:=J0 h
   obtain⟨he,p,q,rfl,rfl⟩:=fZl hg hr hx hy
   refine⟨.bool (!r),?_,.b _⟩
   simp only[eqGuard,Sem.run_bind,Sem.run_ite,Sem.run_pure,binOp]
   split<;>simp only[Result.andThen_ok,he]
  cases h
 exact bCv X Y h hx hy
end
end Go.AX

namespace Go.AX
open Go
section
variable {P : Program} {σ : Nat → Loc} {I : Nat → Prop} {w : World}
structure eI (σ:Nat→Loc) (I:Nat→Prop) (w:World) (xs:List AV) (vs:Array Value):Prop where
 size:vs.size=xs.length
 cell: ∀i (h:i<xs.length),xs[i].isCell=true
 rel: ∀i (h:i<xs.length),Rel σ I w xs[i] (vs.getD i undef)
theorem eI.agg {xs:List AV} {vs:Array Value} (h:eI σ I w xs vs):Rel σ I w (.agg xs) (.agg vs):=.agg xs vs h.size h.cell h.rel
theorem fT {x:AV} {cs:List AV} {v:Value} (h:dC x=some cs) (hr:Rel σ I w x v):eI σ I w cs v.cells:=by
 obtain⟨a,b,c⟩:=aTe h hr;exact⟨a,b,c⟩
theorem cY {xs:List AV} {vs:Array Value}:eI σ I w xs vs↔vs.size=xs.length∧∀(i:Nat) (x:AV),xs[i]? =some x→x.isCell=true∧∃v,vs[i]? =some v∧Rel σ I w x v:=by
 constructor
 ·rintro⟨h1,h2,h3⟩
  refine⟨h1,fun i x hx=>?_⟩
  obtain⟨hlt,rfl⟩:=List.getElem?_eq_some_iff.1 hx
  refine⟨h2 i hlt,vs.getD i undef,?_,h3 i hlt⟩
  rw[Array.getD_eq_getD_getElem?,Array.getElem?_eq_getElem (by omega)];rfl
 rintro⟨h1,h2⟩
 refine⟨h1,fun i hi=>(h2 i _ (List.getElem?_eq_getElem hi)).1,fun i hi=>?_⟩
 obtain⟨_,v,hv,hr⟩:=h2 i _ (List.getElem?_eq_getElem hi)
 rw[Array.getD_eq_getD_getElem?,hv];exact hr
theorem fN {xs ys:List AV} {off:Nat} (h:off+ys.length≤xs.length):(eG xs off ys).length=xs.length:=by
 simp[eG];omega
theorem qO {xs ys:List AV} {off i:Nat} (h:off+ys.length≤xs.length):(eG xs off ys)[i]? =if i<off then xs[i]? else if i<off+ys.length then ys[i-off]? else xs[i]?:=by
 unfold eG
 rw[List.getElem?_append,List.getElem?_append]
 simp only[List.length_append,List.length_take,Nat.min_eq_left (show off≤xs.length by omega)]
 by_cases h1:i<off
 ·rw[J4 (show i<off+ys.length by omega),J4 h1,J4 h1,List.getElem?_take_of_lt h1]
 by_cases h2:i<off+ys.length
 ·rw[J4 h2,J3 h1,J3 h1,J4 h2]
 rw[J3 h2,J3 h1,J3 h2,List.getElem?_drop];congr 1;omega
theorem bBo (news:List Value) (off:Nat): ∀(k:Nat) (cur:Array Value),off+k+news.length≤cur.size→
  ((news.zipIdx k).foldl (fun cs p=>cs.setIfInBounds (off+p.2) p.1) cur).size=cur.size∧
  ∀i,((news.zipIdx k).foldl (fun cs p=>cs.setIfInBounds (off+p.2) p.1) cur)[i]? =if i<off+k then cur[i]? else if i<off+k+news.length then news[i-(off+k)]? else cur[i]?:=by
 induction news with
 |nil=>intro k cur _;refine⟨rfl,fun i=>?_⟩;simp;intro a b;omega
 |cons v r ih=>
  intro k cur h
  simp only[List.length_cons]at h
  obtain⟨h1,h2⟩:=ih (k+1) (cur.setIfInBounds (off+k) v) (by simp;omega)
  simp only[List.zipIdx_cons,List.foldl_cons]
  refine⟨by rw[h1];simp,fun i=>?_⟩
  rw[h2 i,Array.getElem?_setIfInBounds]
  simp only[List.length_cons]
  by_cases a:i<off+k
  ·rw[J4 (by omega),J3 (by omega),J4 a]
  by_cases b:i=off+k
  ·subst b
   rw[J4 (by omega),J4 rfl,J4 (by omega),J3 (by omega),J4 (by omega)]
   simp
  rw[J3 (show¬i<off+(k+1)by omega),J3 a]
  by_cases d:i<off+(k+1)+r.length
  ·rw[J4 d,J4 (by omega),show i-(off+k)=i-(off+(k+1))+1 from by omega];simp
  rw[J3 d,J3 (by omega),J3 (by omega)]
theorem foldl_set' (news:Array Value) (off:Nat) (cur:Array Value) (h:off+news.size≤cur.size):
  (news.zipIdx.foldl (fun cs (p:Value×Nat)=>cs.setIfInBounds (off+p.2) p.1) cur).size=cur.size∧
  ∀i,(news.zipIdx.foldl (fun cs (p:Value×Nat)=>cs.setIfInBounds (off+p.2) p.1) cur)[i]? =if i<off then cur[i]? else if i<off+news.size then news[i-off]? else cur[i]?:=by
 have:=bBo news.toList off 0 cur (by simpa using h)
 rw[←Array.foldl_toList,Array.toList_zipIdx]
 simpa using this
theorem eEk {xs ys:List AV} {vs us:Array Value} {off:Nat} (hx:eI σ I w xs vs) (hy:eI σ I w ys us) (h:off+ys.length≤xs.length):
  eI σ I w (eG xs off ys) (us.zipIdx.foldl (fun cs (p:Value×Nat)=>cs.setIfInBounds (off+p.2) p.1) vs):=by
 obtain⟨f1,f2⟩:=foldl_set' us off vs (by rw[hy.size,hx.size];exact h)
 rw[cY]
 refine⟨by rw[f1,fN h,hx.size],fun i x hi=>?_⟩
 rw[qO h]at hi
 rw[f2 i,hy.size]
 split at hi
 ·rename_i h1
  rw[J4 h1];exact(cY.1 hx).2 i x hi
 rename_i h1
 rw[J3 h1]
 split at hi
 ·rename_i h2
  rw[J4 h2];exact(cY.1 hy).2 _ x hi
 rename_i h2
 rw[J3 h2];exact(cY.1 hx).2 i x hi
theorem eEf {place:Nat→Option (Nat×Nat)} {placeM:Nat→Option (Nat×Nat)} (hp: ∀k o,place k=some o→placeM k=some o):
  ∀(parts:List (Nat×AV)) (partsM:List (Nat×Value)) (xs zs:List AV) (vs:Array Value),
   parts.length=partsM.length→(∀(i:Nat) (p:Nat×AV) (q:Nat×Value),parts[i]? =some p→partsM[i]? =some q→p.1=q.1∧Rel σ I w p.2 q.2)→
   eI σ I w xs vs→fZh place xs parts=some zs→∃us,Instr.fill placeM vs partsM=some us∧eI σ I w zs us
 |[],[],xs,zs,vs,_,_,hx,h=>by obtain rfl:=J0 h;exact⟨vs,rfl,hx⟩
 |[],_::_,_,_,_,hl,_,_,_=>by simp at hl
 |_::_,[],_,_,_,hl,_,_,_=>by simp at hl
 |(i,v)::rest,(j,u)::restM,xs,zs,vs,hl,hr,hx,h=>by
  simp only[fZh]at h
  obtain⟨os,hos,h⟩:=aJ h
  obtain⟨vc,hvc,h⟩:=aJ h
  obtain⟨⟨hsz,hle⟩,h⟩:=aP h
  obtain⟨e1,e2⟩:=hr 0 _ _ rfl rfl
  simp only at e1 e2
  subst e1
  have hcs:=fT hvc e2
  obtain⟨us,hus,hrel⟩:=eEf hp rest restM _ zs _ (by simpa using hl) (fun k p q hpk hqk=>hr (k+1) p q (by simpa using hpk) (by simpa using hqk)) (eEk hx hcs (by rw[hsz];exact hle)) h
  refine⟨us,?_,hrel⟩
  have hs: ¬(u.cells.size≠os.2):=by rw[hcs.size,hsz];simp
  have hs2: ¬(os.1+u.cells.size>vs.size):=by rw[hcs.size,hsz,hx.size];omega
  simp only[Instr.fill,hp i os hos]
  rw[J3 (by simp only[Bool.or_eq_true,decide_eq_true_eq];exact fun hh=>hh.elim hs hs2)]
  exact hus
theorem aBi {z:Nat} (hz:z=1) {placeM:Nat→Option (Nat×Nat)} (hp: ∀k,placeM k=some (k*z,z)):
  ∀(parts:List (Nat×AV)) (partsM:List (Nat×Value)) (k:Nat) (cs pre:List AV) (vs:Array Value),
   parts.length=partsM.length→(∀(i:Nat) (p:Nat×AV) (q:Nat×Value),parts[i]? =some p→partsM[i]? =some q→p.1=q.1∧Rel σ I w p.2 q.2)→
   (∃suf,eI σ I w (pre++suf) vs∧suf.length=parts.length)→pre.length=k→aEa k parts=some cs→
   ∃us,Instr.fill placeM vs partsM=some us∧eI σ I w (pre++cs) us
 |[],[],k,cs,pre,vs,_,_,hx,_,h=>by
  obtain rfl:=J0 h
  obtain⟨suf,h1,h2⟩:=hx
  simp at h2;subst h2
  exact⟨vs,rfl,h1⟩
 |[],_::_,_,_,_,_,hl,_,_,_,_=>by simp at hl
 |_::_,[],_,_,_,_,hl,_,_,_,_=>by simp at hl
 |(i,v)::rest,(j,u)::restM,k,cs,pre,vs,hl,hr,hx,hk,h=>by
  simp only[aEa]at h
  obtain⟨hi,h⟩:=aP h
  obtain⟨c,hc,h⟩:=aJ h
  obtain⟨r,hrr,h⟩:=aJ h
  obtain rfl:=J0 h
  have hvc:dC v=some [c]:=by
   split at hc
   ·rename_i c' hc';obtain rfl:=J0 hc;exact hc'
   ·cases hc
  obtain⟨e1,e2⟩:=hr 0 _ _ rfl rfl
  simp only at e1 e2
  subst e1
  have hcs:=fT hvc e2
  obtain⟨suf,hx1,hx2⟩:=hx
  cases suf with
  |nil=>simp at hx2
  |cons s0 suf=>
   have hlen:k+1≤(pre++s0::suf).length:=by simp;omega
   have hsp:=eEk (off:=k) hx1 hcs hlen
   have hsp':eG (pre++s0::suf) k [c]=(pre++[c])++suf:=by
    subst hk
    unfold eG
    have e0:pre++s0::suf=(pre++[s0])++suf:=by simp
    rw[List.take_left' rfl,e0,List.drop_left' (by simp)]
   rw[hsp']at hsp
   obtain⟨us,hus,hrel⟩:=aBi hz hp rest restM (k+1) r (pre++[c]) _ (by simpa using hl) (fun m p q hpk hqk=>hr (m+1) p q (by simpa using hpk) (by simpa using hqk)) ⟨suf,hsp,by simpa using hx2⟩ (by simp[hk]) hrr
   refine⟨us,?_,by simpa using hrel⟩
   subst hi
   have hs: ¬(u.cells.size≠z):=by rw[hcs.size,hz];simp
   have hs2: ¬(i*z+u.cells.size>vs.size):=by rw[hcs.size,hx1.size,hz];simp only[List.length_singleton];omega
   simp only[Instr.fill,hp i]
   rw[J3 (by simp only[Bool.or_eq_true,decide_eq_true_eq];exact fun hh=>hh.elim hs hs2)]
   have e3:i*z=i:=by rw[hz];omega
   rw[e3]
   exact hus
theorem fRq {zs:List AV} {z:Value} (hz:zs=z.cells.toList.map aEg) (h1: ∀x∈z.cells.toList,x.oneCell'=true):eI σ I w zs z.cells:=by
 subst hz
 rw[cY]
 refine⟨by simp,fun i x hx=>?_⟩
 rw[List.getElem?_map]at hx
 obtain⟨v,hv,rfl⟩:=Option.map_eq_some_iff.1 hx
 exact⟨zH (h1 v (List.mem_of_getElem? hv)),v,by simpa using hv,aBy v⟩
theorem dVz {s:Sem Value} {v:Value} {w':World} (h:s.run P w=.ok v w'):(do pure (Next.value (←s)):Sem Next).run P w=.ok (.value v) w':=by
 simp[h]
theorem cHz {s:Sem Unit} {w':World} (h:s.run P w=.ok () w'):(do s;pure Next.skip:Sem Next).run P w=.ok .skip w':=by
 simp[h]
theorem aAc {l:List Operand} {ρA:Operand→AV} {ρ:Operand→Value} (hρ: ∀y,Rel σ I w (ρA y) (ρ y)): ∀i (h:i<(l.map ρA).length),Rel σ I w (l.map ρA)[i] ((l.map ρ).toArray.getD i undef):=by
 intro i hi
 simp at hi
 rw[fI,List.getD_eq_getElem?_getD,List.getElem?_map,List.getElem?_eq_getElem hi,List.getElem_map]
 exact hρ _
theorem tG {parts:Array (Nat×Operand)} {ρA:Operand→AV} {ρ:Operand→Value} (hρ: ∀y,Rel σ I w (ρA y) (ρ y)):
  ∀(i:Nat) (p:Nat×AV) (q:Nat×Value),(parts.toList.map fun p=>(p.1,ρA p.2))[i]? =some p→((parts.map fun(i,x)=>(i,ρ x)).toList)[i]? =some q→p.1=q.1∧Rel σ I w p.2 q.2:=by
 intro i p q hp hq
 rw[List.getElem?_map]at hp
 obtain⟨a,ha,rfl⟩:=Option.map_eq_some_iff.1 hp
 rw[Array.toList_map,List.getElem?_map]at hq
 obtain⟨b,hb,rfl⟩:=Option.map_eq_some_iff.1 hq
 rw[ha]at hb
 obtain rfl:=J0 hb
 exact⟨rfl,hρ _⟩
end
end Go.AX

namespace Go.AX
open Go
section
variable {P : Program} {σ : Nat → Loc} {I : Nat → Prop} {w : World}
theorem bQs {t:Bool} {v:Value} (h:Rel σ I w (.b t) v):v=.bool t:=by cases h;rfl
theorem aFt {l:List (BitVec 8)} {v:Value} (h:Rel σ I w (.s l) v):v=.string (dA l):=by cases h;rfl
theorem bMj {x:AV} {v:Value} {n:Int} (h:ix x=some n) (hr:Rel σ I w x v): ∃k,(asIntOf v).run P w=.ok (k,n) w:=by
 obtain⟨k,rfl⟩:=qY h hr;exact⟨k,rfl⟩
inductive eEi (σ:Nat→Loc) (I:Nat→Prop) (w:World):Option AV→Option Value→Prop
 |none:eEi σ I w .none .none
 |some {x:AV} {y:Value}:Rel σ I w x y→eEi σ I w (.some x) (.some y)
theorem qR {ρA:Operand→AV} {ρ:Operand→Value} (hρ: ∀y,Rel σ I w (ρA y) (ρ y)) (l:Option Operand):eEi σ I w (l.map ρA) (l.map ρ):=by
 cases l with
 |none=>exact .none
 |some x=>exact .some (hρ x)
theorem eP {vl vh:Option AV} {ul uh:Option Value} {isS:Bool} {len cap:Nat} {l h:Int} (hl:oB vl=some l) (hh:oV vh len=some h)
  (rl:eEi σ I w vl ul) (rh:eEi σ I w vh uh)
  (h0:0≤l) (h1:l≤h) (h2:h≤cap):
  (Instr.sliceBounds isS len cap ul uh none).run P w=.ok (l.toNat,h.toNat,cap) w:=by
 have e:(h.toNat:Int)=h:=Int.toNat_of_nonneg (by omega)
 cases rl with
 |none=>
  simp only[oB]at hl
  obtain rfl:=J0 hl
  cases rh with
  |none=>
   simp only[oV]at hh
   obtain rfl:=J0 hh
   rfl
  |some hr=>
   obtain⟨k,rfl⟩:=qY hh hr
   simp only[Instr.sliceBounds,Sem.run_bind,Sem.run_pure,Result.andThen_ok]
   rw[run_sliceBound w k h cap _ (by omega) h2];rfl
 |some hr1=>
  obtain⟨k1,rfl⟩:=qY hl hr1
  cases rh with
  |none=>
   simp only[oV]at hh
   obtain rfl:=J0 hh
   simp only[Instr.sliceBounds,Sem.run_bind,Sem.run_pure,Result.andThen_ok,Option.isSome_none,Bool.false_eq_true,if_false]
   rw[run_sliceBound w k1 l len _ h0 h1];simp only[Result.andThen_ok,U2]
  |some hr=>
   obtain⟨k,rfl⟩:=qY hh hr
   simp only[Instr.sliceBounds,Sem.run_bind,Sem.run_pure,Result.andThen_ok,Option.isSome_none,Bool.false_eq_true,if_false]
   rw[run_sliceBound w k h cap _ (by omega) h2,Result.andThen_ok,run_sliceBound w k1 l h.toNat _ h0 (by omega)];rfl
theorem aBw {xs:List AV} {n blk o cap l h z:Nat} {f:Nat→Value} (hb:I blk) (hc: ∀i (_h:i<xs.length),w.cell? ⟨blk,o+i,none⟩=some (f i))
  (h1: ∀i (_h:i<xs.length),xs[i].isCell=true) (h2: ∀i (_h:i<xs.length),Rel σ I w xs[i] (f i)) (hlh:l≤h) (hn:h≤n) (hcap:n≤cap):
  Rel σ I w (.sl (h-l) ((xs.drop (l*z)).take ((h-l)*z))) (.slice (if cap=l then some ⟨blk,o,none⟩else(some (⟨blk,o,none⟩:Addr)).map (·.add (l*z))) (h-l) (cap-l)):=by
 by_cases e:cap=l
 ·have e0:h-l=0:=by omega
  have e1:cap-l=0:=by omega
  rw[J4 e,e0,e1];simp only[Nat.zero_mul,U1]
  exact .slzero _
 rw[J3 e]
 simp only[Option.map_some,fVr]
 refine .sl _ _ blk (o+l*z) _ (fun i=>f (l*z+i)) hb (by omega) (fun i hi=>?_) (fun i hi=>?_) (fun i hi=>?_)
 ·simp at hi;rw[Nat.add_assoc];exact hc _ (by omega)
 ·rw[getElem_take',getElem_drop'];exact h1 _ _
 rw[getElem_take',getElem_drop'];exact h2 _ _
theorem aIf {t:TypeId} {x y mx:AV} {v um:Value} {vl vh:Option AV} {ul uh:Option Value} (h:zY P t x vl vh mx=some y) (hx:Rel σ I w x v)
  (rl:eEi σ I w vl ul) (rh:eEi σ I w vh uh) (rm:Rel σ I w mx um):
  ∃u,(Instr.sliceAt t v ul uh (some um)).run P w=.ok u w∧Rel σ I w y u:=by
 unfold zY at h
 split at h
 ·rename_i e hu
  obtain⟨z,hz,h⟩:=aJ h
  have start:(Instr.sliceAt t v ul uh (some um)).run P w=(Instr.slice t v ul uh (some um)).run P w:=by
   simp only[Instr.sliceAt,Sem.run_bind,run_underlying hu,Result.andThen_ok]
  cases x with
  |os id off n e' g=>
   obtain⟨l,hl,h⟩:=aJ h
   obtain⟨hh,hhh,h⟩:=aJ h
   obtain⟨m,hm,h⟩:=aJ h
   obtain⟨⟨c9,c0,c1,c2,c3,c4⟩,h⟩:=aP h
   obtain rfl:=J0 h
   obtain⟨km,rfl⟩:=qY hm rm
   have bnd: ∀cap:Nat,n≤cap→(Instr.sliceBounds true n cap ul uh (some (.int km m))).run P w=.ok (l.toNat,hh.toNat,m.toNat) w:=by
    intro cap hcap
    have hm0:(m.toNat:Int)=m:=Int.toNat_of_nonneg (by omega)
    have hh0:(hh.toNat:Int)=hh:=Int.toNat_of_nonneg (by omega)
    cases rh with
    |none=>cases c9
    |some hr=>
     obtain⟨k,rfl⟩:=qY hhh hr
     cases rl with
     |none=>
      simp only[oB]at hl
      obtain rfl:=J0 hl
      simp only[Instr.sliceBounds,Sem.run_bind,Sem.run_pure,Result.andThen_ok]
      rw[run_sliceBound w km m cap _ (by omega) (by omega),Result.andThen_ok,run_sliceBound w k hh m.toNat _ (by omega) (by omega)];rfl
     |some hr1=>
      obtain⟨k1,rfl⟩:=qY hl hr1
      simp only[Instr.sliceBounds,Sem.run_bind,Sem.run_pure]
      rw[run_sliceBound w km m cap _ (by omega) (by omega),Result.andThen_ok,run_sliceBound w k hh m.toNat _ (by omega) (by omega),Result.andThen_ok,run_sliceBound w k1 l hh.toNat _ c1 (by omega)];rfl
   cases hx with
   |os _ _ _ _ _ blk base sz cap g1 g2 g3=>
    have r:=bnd cap g2
    refine⟨_,by rw[start];simp only[Instr.slice,Sem.run_bind,run_underlying hu,Result.andThen_ok,r,run_sizeOf' hz,Sem.run_pure];rfl,?_⟩
    by_cases e:m.toNat=l.toNat
    ·have e0:hh.toNat-l.toNat=0:=by omega
     have e1:m.toNat-l.toNat=0:=by omega
     rw[J4 e,e0,e1]
     exact .oszero _ _ _ _ _ (by rw[g1];simp)
    rw[J3 e]
    simp only[Option.map_some,fVr]
    rw[Nat.add_assoc]
    refine .os _ _ _ _ _ blk base sz (m.toNat-l.toNat) g1 (by omega) (fun hg=>?_)
    replace g3:=g3 hg
    have h5:l.toNat*z≤m.toNat*z:=Nat.mul_le_mul_right _ (by omega)
    have h6:m.toNat*z≤cap*z:=Nat.mul_le_mul_right _ (by omega)
    rw[c0]at g3
    rw[Nat.sub_mul];omega
   |osnil _ _ _ g1=>
    have r:=bnd 0 (U3 _)
    have e1:hh.toNat=0:=by omega
    have e2:l.toNat=0:=by omega
    have e3:m.toNat=0:=by omega
    refine⟨.slice none 0 0,?_,?_⟩
    ·rw[start]
     simp only[Instr.slice,Sem.run_bind,run_underlying hu,Result.andThen_ok,r,run_sizeOf' hz,Sem.run_pure,e1,e2,e3];rfl
    rw[e1,e2];simp only[Nat.sub_self,Nat.zero_mul,Nat.add_zero];exact .osnil _ _ _ g1
   |oszero _ _ _ _ a g1=>
    have r:=bnd 0 (U3 _)
    have e1:hh.toNat=0:=by omega
    have e2:l.toNat=0:=by omega
    have e3:m.toNat=0:=by omega
    refine⟨.slice (some a) 0 0,?_,?_⟩
    ·rw[start]
     simp only[Instr.slice,Sem.run_bind,run_underlying hu,Result.andThen_ok,r,run_sizeOf' hz,Sem.run_pure,e1,e2,e3];rfl
    rw[e1,e2];exact .oszero _ _ _ _ _ g1
  |_=>cases h
 cases h
theorem aMb {t:TypeId} {x y:AV} {v:Value} {vl vh:Option AV} {ul uh:Option Value} (h:aIe P t x vl vh=some y) (hx:Rel σ I w x v)
  (rl:eEi σ I w vl ul) (rh:eEi σ I w vh uh):
  ∃u,(Instr.sliceAt t v ul uh none).run P w=.ok u w∧Rel σ I w y u:=by
 unfold aIe at h
 split at h
 ·rename_i e hu
  obtain⟨z,hz,h⟩:=aJ h
  have start:(Instr.sliceAt t v ul uh none).run P w=(Instr.slice t v ul uh none).run P w:=by
   simp only[Instr.sliceAt,Sem.run_bind,run_underlying hu,Result.andThen_ok]
  split at h
  ·rename_i n xs
   obtain⟨l,hl,h⟩:=aJ h
   obtain⟨hh,hhh,h⟩:=aJ h
   obtain⟨⟨c1,c2,c3⟩,h⟩:=aP h
   obtain rfl:=J0 h
   cases hx with
   |sl _ _ blk o cap f hb hle hc h1 h2=>
    have r:=eP (P:=P) (isS:=true) hl hhh rl rh c1 c2 (cap:=cap) (by omega)
    refine⟨_,?_,aBw (z:=z) hb hc h1 h2 (l:=l.toNat) (h:=hh.toNat) (by omega) (by omega) hle⟩
    rw[start]
    simp only[Instr.slice,Sem.run_bind,run_underlying hu,Result.andThen_ok,r,run_sizeOf' hz,Sem.run_pure]
   |slnil=>
    have r:=eP (P:=P) (isS:=true) hl hhh rl rh c1 c2 (cap:=0) (by omega)
    have e1:hh.toNat=0:=by omega
    have e2:l.toNat=0:=by omega
    refine⟨.slice none 0 0,?_,?_⟩
    ·rw[start]
     simp only[Instr.slice,Sem.run_bind,run_underlying hu,Result.andThen_ok,r,run_sizeOf' hz,Sem.run_pure,e1,e2];rfl
    rw[e1,e2];simp only[Nat.sub_self,Nat.zero_mul,U1];exact .slnil
   |slzero a=>
    have r:=eP (P:=P) (isS:=true) hl hhh rl rh c1 c2 (cap:=0) (by omega)
    have e1:hh.toNat=0:=by omega
    have e2:l.toNat=0:=by omega
    refine⟨.slice (some a) 0 0,?_,?_⟩
    ·rw[start]
     simp only[Instr.slice,Sem.run_bind,run_underlying hu,Result.andThen_ok,r,run_sizeOf' hz,Sem.run_pure,e1,e2];rfl
    rw[e1,e2];simp only[Nat.sub_self,Nat.zero_mul,U1];exact .slzero _
  ·rename_i id off n e' g
   obtain⟨l,hl,h⟩:=aJ h
   obtain⟨hh,hhh,h⟩:=aJ h
   obtain⟨⟨c0,c1,c2,c3⟩,h⟩:=aP h
   obtain rfl:=J0 h
   cases hx with
   |os _ _ _ _ _ blk base sz cap g1 g2 g3=>
    have r:=eP (P:=P) (isS:=true) hl hhh rl rh c1 c2 (cap:=cap) (by omega)
    refine⟨_,by rw[start];simp only[Instr.slice,Sem.run_bind,run_underlying hu,Result.andThen_ok,r,run_sizeOf' hz,Sem.run_pure];rfl,?_⟩
    by_cases e:cap=l.toNat
    ·have e0:hh.toNat-l.toNat=0:=by omega
     have e1:cap-l.toNat=0:=by omega
     rw[J4 e,e0,e1]
     exact .oszero _ _ _ _ _ (by rw[g1];simp)
    rw[J3 e]
    simp only[Option.map_some,fVr]
    rw[Nat.add_assoc]
    refine .os _ _ _ _ _ blk base sz (cap-l.toNat) g1 (by omega) (fun hg=>?_)
    replace g3:=g3 hg
    have h5:l.toNat*z≤cap*z:=Nat.mul_le_mul_right _ (by omega)
    rw[c0]at g3
    rw[Nat.sub_mul];omega
   |osnil _ _ _ g1=>
    have r:=eP (P:=P) (isS:=true) hl hhh rl rh c1 c2 (cap:=0) (by omega)
    have e1:hh.toNat=0:=by omega
    have e2:l.toNat=0:=by omega
    refine⟨.slice none 0 0,?_,?_⟩
    ·rw[start]
     simp only[Instr.slice,Sem.run_bind,run_underlying hu,Result.andThen_ok,r,run_sizeOf' hz,Sem.run_pure,e1,e2];rfl
    rw[e1,e2];simp only[Nat.sub_self,Nat.zero_mul,Nat.add_zero];exact .osnil _ _ _ g1
   |oszero _ _ _ _ a g1=>
    have r:=eP (P:=P) (isS:=true) hl hhh rl rh c1 c2 (cap:=0) (by omega)
    have e1:hh.toNat=0:=by omega
    have e2:l.toNat=0:=by omega
    refine⟨.slice (some a) 0 0,?_,?_⟩
    ·rw[start]
     simp only[Instr.slice,Sem.run_bind,run_underlying hu,Result.andThen_ok,r,run_sizeOf' hz,Sem.run_pure,e1,e2];rfl
    rw[e1,e2];exact .oszero _ _ _ _ _ g1
  ·obtain⟨l,hl,h⟩:=aJ h
   obtain⟨hh,hhh,h⟩:=aJ h
   obtain⟨⟨c1,c2,c3⟩,h⟩:=aP h
   obtain rfl:=J0 h
   cases hx with
   |v _=>
    have r:=eP (P:=P) (isS:=true) hl hhh rl rh c1 c2 (cap:=0) (by omega)
    have e1:hh.toNat=0:=by omega
    have e2:l.toNat=0:=by omega
    refine⟨.slice none 0 0,?_,.v _⟩
    rw[start]
    simp only[Instr.slice,Sem.run_bind,run_underlying hu,Result.andThen_ok,r,run_sizeOf' hz,Sem.run_pure,e1,e2];rfl
  cases h
 ·rename_i n e hu
  obtain⟨z,hz,h⟩:=aJ h
  obtain⟨l,hl,h⟩:=aJ h
  obtain⟨hh,hhh,h⟩:=aJ h
  obtain⟨⟨c1,c2,c3⟩,h⟩:=aP h
  have r:=eP (P:=P) (isS:=false) hl hhh rl rh c1 c2 (cap:=n) (by omega)
  split at h
  ·rename_i xs
   obtain rfl:=J0 h
   obtain⟨blk,o,rfl⟩:=aBt hx
   cases hx with
   |rp _ _ _ f hb hc h1 h2=>
    have:=aBw (σ:=σ) (I:=I) (w:=w) (z:=z) hb hc h1 h2 (l:=l.toNat) (h:=hh.toNat) (n:=n) (cap:=n) (by omega) (by omega) (U3 _)
    refine⟨_,?_,this⟩
    simp only[Instr.sliceAt,Instr.sureAddr,Sem.run_bind,run_underlying hu,Result.andThen_ok,Sem.run_pure,r,run_sizeOf' hz]
    split<;>rfl
  ·rename_i id off
   obtain rfl:=J0 h
   obtain⟨blk,base,sz,g1,rfl⟩:=dZc hx
   refine⟨_,by simp only[Instr.sliceAt,Instr.sureAddr,Sem.run_bind,run_underlying hu,Result.andThen_ok,Sem.run_pure,r,run_sizeOf' hz];rfl,?_⟩
   by_cases e:n=l.toNat
   ·have e0:hh.toNat-l.toNat=0:=by omega
    have e1:n-l.toNat=0:=by omega
    rw[J4 e,e0,e1]
    exact .oszero _ _ _ _ _ (by rw[g1];simp)
   rw[J3 e,fVr,Nat.add_assoc]
   exact .os _ _ _ _ _ blk base sz (n-l.toNat) g1 (by omega) (fun hg=>by cases hg)
  cases h
 ·rename_i hu
  split at h
  ·rename_i c
   obtain⟨l,hl,h⟩:=aJ h
   obtain⟨hh,hhh,h⟩:=aJ h
   obtain⟨⟨c1,c2,c3⟩,h⟩:=aP h
   obtain rfl:=J0 h
   obtain rfl:=aFt hx
   have r:=eP (P:=P) (isS:=false) hl hhh rl rh c1 c2 (cap:=c.length) c3
   refine⟨.string ((dA c).extract l.toNat hh.toNat),?_,?_⟩
   ·simp only[Instr.sliceAt,Sem.run_bind,run_underlying hu,Result.andThen_ok,Instr.slice,Option.isSome_none,Bool.false_eq_true,if_false,eU,r,Sem.run_pure]
   have:(dA c).extract l.toNat hh.toNat=dA ((c.drop l.toNat).take (hh.toNat-l.toNat)):=by
    apply ByteArray.ext
    rw[ByteArray.data_extract]
    apply Array.ext'
    simp[dA,List.map_drop,List.map_take]
   rw[this];exact .s _
  cases h
 cases h
theorem bKv {x y z:AV} {u v:Value} (h:aCh x y=some z) (hx:Rel σ I w x u) (hy:Rel σ I w y v):
  ∃k m n,u=.int k m∧v=.int k n∧Rel σ I w z (.int k (if n<m then n else m)):=by
 unfold aCh at h
 split at h
 ·cases hx;cases hy;obtain rfl:=J0 h;exact⟨_,_,_,rfl,rfl,.i _⟩
 ·rename_i a b
  cases hx;cases hy;obtain rfl:=J0 h;refine⟨_,_,_,rfl,rfl,?_⟩
  have:=Rel.w8 (σ:=σ) (I:=I) (w:=w) (if b<a then b else a)
  rw[apply_ite BitVec.toNat,apply_ite (Nat.cast (R:=Int))]at this
  simpa only[BitVec.lt_def,gt_iff_lt,Int.ofNat_lt]using this
 ·rename_i a b
  cases hx;cases hy;obtain rfl:=J0 h;refine⟨_,_,_,rfl,rfl,?_⟩
  have:=Rel.w16 (σ:=σ) (I:=I) (w:=w) (if b<a then b else a)
  rw[apply_ite BitVec.toNat,apply_ite (Nat.cast (R:=Int))]at this
  simpa only[BitVec.lt_def,gt_iff_lt,Int.ofNat_lt]using this
 ·rename_i a b
  cases hx;cases hy;obtain rfl:=J0 h;refine⟨_,_,_,rfl,rfl,?_⟩
  have:=Rel.w32 (σ:=σ) (I:=I) (w:=w) (if b<a then b else a)
  rw[apply_ite BitVec.toNat,apply_ite (Nat.cast (R:=Int))]at this
  simpa only[BitVec.lt_def,gt_iff_lt,Int.ofNat_lt]using this
 ·rename_i a b
  cases hx;cases hy;obtain rfl:=J0 h;refine⟨_,_,_,rfl,rfl,?_⟩
  have:=Rel.w64 (σ:=σ) (I:=I) (w:=w) (if b<a then b else a)
  rw[apply_ite BitVec.toNat,apply_ite (Nat.cast (R:=Int))]at this
  simpa only[BitVec.lt_def,gt_iff_lt,Int.ofNat_lt]using this
 cases h
theorem bKy {x y z:AV} {u v:Value} (h:aGr x y=some z) (hx:Rel σ I w x u) (hy:Rel σ I w y v):
  ∃k m n,u=.int k m∧v=.int k n∧Rel σ I w z (.int k (if n>m then n else m)):=by
 unfold aGr at h
 split at h
 ·cases hx;cases hy;obtain rfl:=J0 h;exact⟨_,_,_,rfl,rfl,.i _⟩
 ·rename_i a b
  cases hx;cases hy;obtain rfl:=J0 h;refine⟨_,_,_,rfl,rfl,?_⟩
  have:=Rel.w8 (σ:=σ) (I:=I) (w:=w) (if a<b then b else a)
  rw[apply_ite BitVec.toNat,apply_ite (Nat.cast (R:=Int))]at this
  simpa only[BitVec.lt_def,gt_iff_lt,Int.ofNat_lt]using this
 ·rename_i a b
  cases hx;cases hy;obtain rfl:=J0 h;refine⟨_,_,_,rfl,rfl,?_⟩
  have:=Rel.w16 (σ:=σ) (I:=I) (w:=w) (if a<b then b else a)
  rw[apply_ite BitVec.toNat,apply_ite (Nat.cast (R:=Int))]at this
  simpa only[BitVec.lt_def,gt_iff_lt,Int.ofNat_lt]using this
 ·rename_i a b
  cases hx;cases hy;obtain rfl:=J0 h;refine⟨_,_,_,rfl,rfl,?_⟩
  have:=Rel.w32 (σ:=σ) (I:=I) (w:=w) (if a<b then b else a)
  rw[apply_ite BitVec.toNat,apply_ite (Nat.cast (R:=Int))]at this
  simpa only[BitVec.lt_def,gt_iff_lt,Int.ofNat_lt]using this
 ·rename_i a b
  cases hx;cases hy;obtain rfl:=J0 h;refine⟨_,_,_,rfl,rfl,?_⟩
  have:=Rel.w64 (σ:=σ) (I:=I) (w:=w) (if a<b then b else a)
  rw[apply_ite BitVec.toNat,apply_ite (Nat.cast (R:=Int))]at this
  simpa only[BitVec.lt_def,gt_iff_lt,Int.ofNat_lt]using this
 cases h
theorem aRm {o:Oper} {ρA:Operand→AV} {ρ:Operand→Value} {x:AV} (h:dI P o.op ρA=some x) (hρ: ∀y,Rel σ I w (ρA y) (ρ y)):
  ∃v,(execOp ρ o).run P w=.ok (.value v) w∧Rel σ I w x v:=by
 obtain⟨dst,op,type,pos,after,guard⟩:=o
 simp only at h
 unfold dI at h
 split at h
 case h_1 y=>obtain rfl:=J0 h;exact⟨_,rfl,hρ _⟩
 case h_2 y=>obtain rfl:=J0 h;exact⟨_,rfl,hρ _⟩
 case h_3 c a b=>
  split at h
  ·rename_i t ht
   obtain rfl:=J0 h
   have hc:=hρ c;rw[ht]at hc
   have e:ρ c=.bool t:=bQs hc
   refine⟨if t then ρ a else ρ b,?_,?_⟩
   ·simp only[execOp,e,asBool,Sem.run_bind,Sem.run_pure,Result.andThen_ok]
   cases t
   ·exact hρ b
   exact hρ a
  cases h
 case h_4 y=>
  have hy:=hρ y
  split at h
  ·rename_i id off e
   obtain rfl:=J0 h
   rw[e]at hy
   obtain⟨blk,base,sz,_,hv⟩:=dZc hy
   exact⟨ρ y,by simp only[execOp,hv,Sem.run_pure],hy⟩
  ·rename_i xs e
   obtain rfl:=J0 h
   rw[e]at hy
   obtain⟨blk,o,hv⟩:=aBt hy
   exact⟨ρ y,by simp only[execOp,hv,Sem.run_pure],hy⟩
  cases h
 case h_5 op t a b u=>
  obtain⟨v,hv,hr⟩:=aTn (P:=P) a b h (hρ a) (hρ b)
  exact⟨v,dVz hv,hr⟩
 case h_6 op u a=>
  obtain⟨v,hv,hr⟩:=bFi (P:=P) h (hρ a)
  exact⟨v,dVz hv,hr⟩
 case h_7 src dst a=>
  obtain⟨d,hd,h⟩:=aJ h
  split at h
  ·rename_i k hk
   obtain⟨k',m,v,hv,hrun,hr⟩:=aYn (P:=P) h (hρ a)
   refine⟨v,dVz ?_,hr⟩
   rw[hv]
   simp only[convert,Sem.run_bind,run_underlying hd,run_underlying hk,Result.andThen_ok]
   cases d<;>exact hrun
  ·rename_i hk
   split at h
   ·rename_i l e
    obtain rfl:=J0 h
    have ha:=hρ a;rw[e]at ha
    have ev:ρ a=.string (dA l):=aFt ha
    refine⟨ρ a,dVz ?_,ha⟩
    rw[ev]
    simp only[convert,Sem.run_bind,run_underlying hd,run_underlying hk,Result.andThen_ok]
    cases d<;>rfl
   cases h
  cases h
 case h_8 t a=>
  split at h
  ·rename_i n e hu
   obtain⟨hn,h⟩:=aP h
   have ha:=hρ a
   split at h
   ·rename_i m xs eq
    obtain⟨hm,h⟩:=aP h
    obtain rfl:=J0 h
    rw[eq]at ha
    cases hv:ρ a with
    |slice a0 len cap=>
     rw[hv]at ha
     cases ha with
     |sl _ _ blk o _ f hI hle hc h1 h2=>
      refine⟨_,dVz ?_,.rp xs blk o f hI hc h1 h2⟩
      simp only[hv,Instr.arrayAt,Sem.run_bind,run_underlying hu,Result.andThen_ok]
      rw[Sem.run_ite,J3 (by omega)];rfl
     |slnil=>omega
     |slzero=>omega
    |_=>rw[hv]at ha;cases ha
   ·rename_i id off m e' g eq
    obtain⟨hm,h⟩:=aP h
    obtain rfl:=J0 h
    rw[eq]at ha
    cases hv:ρ a with
    |slice a0 len cap=>
     rw[hv]at ha
     cases ha with
     |os _ _ _ _ _ blk base sz _ h1 h2 h3=>
      refine⟨_,dVz ?_,.op id off blk base sz h1⟩
      simp only[hv,Instr.arrayAt,Sem.run_bind,run_underlying hu,Result.andThen_ok]
      rw[Sem.run_ite,J3 (by omega)];rfl
     |osnil=>omega
     |oszero=>omega
    |_=>rw[hv]at ha;cases ha
   cases h
  cases h
 case h_9 s a f=>
  split at h
  ·rename_i fs hu
   obtain⟨fd,hfd,h⟩:=aJ h
   obtain⟨n,hn,h⟩:=aJ h
   obtain⟨hpos,h⟩:=aP h
   have ha:=hρ a
   have hne: ¬n=0:=by omega
   split at h
   ·rename_i id off eq
    obtain rfl:=J0 h
    rw[eq]at ha
    obtain⟨blk,base,sz,hl,hv⟩:=dZc ha
    refine⟨_,dVz ?_,.op id (off+fd.offset) blk base sz hl⟩
    simp only[hv,Instr.fieldAt,Instr.sureAddr,fieldPlace,Sem.run_bind,run_underlying hu,hfd,Result.andThen_ok,Sem.run_pure,run_sizeOf' hn,Sem.run_ite,J3 hne,fVr,Nat.add_assoc]
   ·rename_i xs eq
    obtain rfl:=J0 h
    rw[eq]at ha
    obtain⟨blk,o,hv⟩:=aBt ha
    rw[hv]at ha
    refine⟨_,dVz ?_,sC (k:=fd.offset) ha⟩
    simp only[hv,Instr.fieldAt,Instr.sureAddr,fieldPlace,Sem.run_bind,run_underlying hu,hfd,Result.andThen_ok,Sem.run_pure,run_sizeOf' hn,Sem.run_ite,J3 hne,fVr]
   cases h
  cases h
 case h_10 s a f=>
  split at h
  ·rename_i fs hu
   obtain⟨fd,hfd,h⟩:=aJ h
   have ha:=hρ a
   split at h
   ·rename_i cs eq
    rw[eq]at ha
    cases hv:ρ a with
    |agg vs=>
     rw[hv]at ha
     obtain⟨v,hrun,hr⟩:=qF h ha
     refine⟨v,dVz ?_,hr⟩
     simp only[hv,Instr.field,asAgg,Sem.run_bind,run_underlying hu,hfd,Result.andThen_ok,Sem.run_pure,hrun]
    |_=>rw[hv]at ha;cases ha
   cases h
  cases h
 case h_11 t a j=>
  obtain⟨jn,hj,h⟩:=aJ h
  obtain⟨k,hrj⟩:=bMj (P:=P) hj (hρ j)
  have ha:=hρ a
  split at h
  ·rename_i e hu
   obtain⟨z,hz,h⟩:=aJ h
   split at h
   ·rename_i n xs eq
    obtain⟨hb,h⟩:=aP h
    obtain rfl:=J0 h
    rw[eq]at ha
    cases hv:ρ a with
    |slice a0 len cap=>
     rw[hv]at ha
     cases ha with
     |sl _ _ blk o _ f hI hle hc h1 h2=>
      refine⟨_,dVz ?_,sC (.rp xs blk o f hI hc h1 h2)⟩
      simp only[hv,Instr.indexAt,Sem.run_bind,hrj,Result.andThen_ok,run_underlying hu,Sem.run_pure]
      rw[Sem.run_ite,J4 hb]
      simp only[Sem.run_bind,run_sizeOf' hz,Result.andThen_ok,Sem.run_pure,fVr]
     |slnil=>omega
     |slzero=>omega
    |_=>rw[hv]at ha;cases ha
   ·rename_i id off n e' g eq
    obtain⟨⟨he,hb⟩,h⟩:=aP h
    obtain rfl:=J0 h
    rw[eq]at ha
    cases hv:ρ a with
    |slice a0 len cap=>
     rw[hv]at ha
     cases ha with
     |os _ _ _ _ _ blk base sz _ h1 h2 h3=>
      refine⟨_,dVz ?_,.op id (off+jn.toNat*z) blk base sz h1⟩
      simp only[hv,Instr.indexAt,Sem.run_bind,hrj,Result.andThen_ok,run_underlying hu,Sem.run_pure]
      rw[Sem.run_ite,J4 hb]
      simp only[Sem.run_bind,run_sizeOf' hz,Result.andThen_ok,Sem.run_pure,fVr,Nat.add_assoc]
     |osnil=>omega
     |oszero=>omega
    |_=>rw[hv]at ha;cases ha
   cases h
  ·rename_i n e hu
   obtain⟨z,hz,h⟩:=aJ h
   obtain⟨hb,h⟩:=aP h
   split at h
   ·rename_i xs eq
    obtain rfl:=J0 h
    rw[eq]at ha
    obtain⟨blk,o,hv⟩:=aBt ha
    rw[hv]at ha
    refine⟨_,dVz ?_,sC ha⟩
    simp only[hv,Instr.indexAt,Instr.sureAddr,Sem.run_bind,hrj,Result.andThen_ok,run_underlying hu,Sem.run_pure]
    rw[Sem.run_ite,J4 hb]
    simp only[Sem.run_bind,run_sizeOf' hz,Result.andThen_ok,Sem.run_pure,fVr]
   ·rename_i id off eq
    obtain rfl:=J0 h
    rw[eq]at ha
    obtain⟨blk,base,sz,hl,hv⟩:=dZc ha
    refine⟨_,dVz ?_,.op id (off+jn.toNat*z) blk base sz hl⟩
    simp only[hv,Instr.indexAt,Instr.sureAddr,Sem.run_bind,hrj,Result.andThen_ok,run_underlying hu,Sem.run_pure]
    rw[Sem.run_ite,J4 hb]
    simp only[Sem.run_bind,run_sizeOf' hz,Result.andThen_ok,Sem.run_pure,fVr,Nat.add_assoc]
   cases h
  cases h
 case h_12 t a j=>
  obtain⟨jn,hj,h⟩:=aJ h
  obtain⟨k,hrj⟩:=bMj (P:=P) hj (hρ j)
  have ha:=hρ a
  split at h
  ·rename_i n e hu
   obtain⟨z,hz,h⟩:=aJ h
   obtain⟨hb,h⟩:=aP h
   split at h
   ·rename_i cs eq
    rw[eq]at ha
    cases hv:ρ a with
    |agg vs=>
     rw[hv]at ha
     obtain⟨v,hrun,hr⟩:=qF h ha
     refine⟨v,dVz ?_,hr⟩
     simp only[hv,Instr.index,Sem.run_bind,hrj,Result.andThen_ok,run_underlying hu]
     rw[Sem.run_ite,J4 hb]
     simp only[Sem.run_bind,run_sizeOf' hz,Result.andThen_ok,hrun]
    |_=>rw[hv]at ha;cases ha
   cases h
  ·rename_i hu
   split at h
   ·rename_i l eq
    obtain⟨hb,h⟩:=aP h
    obtain⟨c,hc,h⟩:=aJ h
    obtain rfl:=J0 h
    rw[eq]at ha
    have hv:ρ a=.string (dA l):=aFt ha
    refine⟨_,dVz ?_,.w8 c⟩
    have hget:(dA l)[jn.toNat]? =some (UInt8.ofBitVec c):=by
     show(if h:jn.toNat<(dA l).size then some ((dA l)[jn.toNat])else none)=_
     obtain⟨hlt,hcc⟩:=List.getElem?_eq_some_iff.1 hc
     rw[dif_pos (by rw[eU];exact hlt)]
     congr 1
     show(dA l).data[jn.toNat]'_=_
     simp only[dA,List.getElem_toArray,List.getElem_map,hcc]
    simp only[hv,Instr.index,Sem.run_bind,hrj,Result.andThen_ok,run_underlying hu,J4 hb,hget]
    rfl
   cases h
  cases h
 case h_13 t parts=>
  obtain⟨zs,hzs,h⟩:=aJ h
  obtain⟨z,hz,_,he,h1⟩:=run_zeroValue' hzs w
  have hzc:eI σ I w zs z.cells:=fRq he h1
  split at h
  ·rename_i fs hu
   obtain⟨cs,hcs,h⟩:=aJ h
   obtain⟨hall,h⟩:=aP h
   obtain rfl:=J0 h
   have hmap:(fs.mapM (fun f=>do pure (f.offset,←sizeOf f.type):Field→Sem (Nat×Nat))).run P w=.ok (fs.map fun f=>(f.offset,(eK P f.type).getD 0)) w:=by
    rw[Array.mapM_eq_mapM_toList]
    have hl: ∀(l:List Field),(∀f∈l,(eK P f.type).isSome=true)→(l.mapM (fun f=>do pure (f.offset,←sizeOf f.type):Field→Sem (Nat×Nat))).run P w=.ok (l.map fun f=>(f.offset,(eK P f.type).getD 0)) w:=by
     intro l
     induction l with
     |nil=>intro _;rfl
     |cons f r ih=>
      intro hr
      obtain⟨n,hn⟩:=Option.isSome_iff_exists.1 (hr f (by simp))
      rw[List.mapM_cons]
      simp only[Sem.run_bind,run_sizeOf' hn,Result.andThen_ok,Sem.run_pure,ih (fun g hg=>hr g (by simp[hg])),hn,List.map_cons,Option.getD_some]
    rw[Sem.run_map,hl fs.toList (fun f hf=>List.all_eq_true.1 hall f hf)]
    simp only[Result.andThen_ok,←Array.toList_map,Array.toArray_toList]
   have hplace: ∀(k:Nat) (o:Nat×Nat),(aK fs[k]? fun fd=>aK (eK P fd.type) fun n=>some (fd.offset,n))=some o→(fs.map fun f=>(f.offset,(eK P f.type).getD 0))[k]? =some o:=by
    intro k o hk
    obtain⟨fd,hfd,hk⟩:=aJ hk
    obtain⟨n,hn,hk⟩:=aJ hk
    rw[Array.getElem?_map,hfd]
    simp[hn,J0 hk]
   obtain⟨us,hus,hrel⟩:=eEf hplace _ (parts.map fun(i,x)=>(i,ρ x)).toList _ _ _ (by simp) (tG hρ) hzc hcs
   refine⟨_,dVz ?_,hrel.agg⟩
   simp only[Instr.build,Sem.run_bind,hz,Result.andThen_ok,run_underlying hu,hmap,hus,Sem.run_pure]
  ·rename_i n e hu
   obtain⟨z1,hz1,h⟩:=aJ h
   have fin: ∀cs,(∃us,Instr.fill (fun i=>some (i*z1,z1)) z.cells (parts.map fun(i,x)=>(i,ρ x)).toList=some us∧eI σ I w cs us)→x=.agg cs→
     ∃v,(execOp ρ {dst:=dst,op:=.build t parts,type:=type,pos:=pos,after:=after,guard:=guard}).run P w=.ok (.value v) w∧Rel σ I w x v:=by
    rintro cs ⟨us,hus,hrel⟩ rfl
    refine⟨_,dVz ?_,hrel.agg⟩
    simp only[Instr.build,Sem.run_bind,hz,Result.andThen_ok,run_underlying hu,run_sizeOf' hz1,hus,Sem.run_pure]
   split at h
   ·rename_i cs hcs
    obtain rfl:=J0 h
    split at hcs
    ·rename_i hc
     refine fin cs ?_ rfl
     obtain⟨us,hus,hrel⟩:=aBi hc.1 (placeM:=fun i=>some (i*z1,z1)) (fun k=>rfl) _ (parts.map fun(i,x)=>(i,ρ x)).toList 0 cs [] z.cells (by simp) (tG hρ) ⟨zs,by simpa using hzc,by simp[hc.2]⟩ rfl hcs
     exact⟨us,hus,by simpa using hrel⟩
    cases hcs
   obtain⟨cs,hcs,h⟩:=aJ h
   obtain⟨_,h⟩:=aP h
   obtain rfl:=J0 h
   refine fin cs ?_ rfl
   exact eEf (placeM:=fun i=>some (i*z1,z1)) (fun k o hk=>hk) _ (parts.map fun(i,x)=>(i,ρ x)).toList _ _ _ (by simp) (tG hρ) hzc hcs
  cases h
 case h_14 f first captured=>
  obtain⟨h0,h⟩:=aP h
  obtain rfl:=J0 h
  have e0:first= #[]:=Array.eq_empty_of_size_eq_zero h0
  subst e0
  have hm:captured.map ρ=(captured.toList.map ρ).toArray:=by rw[←Array.toList_map,Array.toArray_toList]
  refine⟨.func (.func f) #[] (captured.map ρ),dVz (by simp[Instr.makeFunc]),?_⟩
  rw[hm]
  exact .fn f _ _ (by simp) (aAc hρ)
 case h_15 t k=>
  split at h
  ·rename_i xs eq
   have ha:=hρ t
   rw[eq]at ha
   cases hv:ρ t with
   |tuple vs=>
    rw[hv]at ha
    cases ha with
    |tup _ _ h1 h2=>
     obtain⟨hlt,rfl⟩:=List.getElem?_eq_some_iff.1 h
     have hg:vs[k]? =some (vs.getD k undef):=by rw[Array.getD_eq_getD_getElem?,Array.getElem?_eq_getElem (by omega)];rfl
     refine⟨_,dVz ?_,h2 k hlt⟩
     simp only[hv,Instr.extract,hg,Sem.run_pure]
   |_=>rw[hv]at ha;cases ha
  cases h
 case h_16 t y lo hi=>
  obtain⟨u,hrun,hr⟩:=aMb (P:=P) (ul:=lo.map ρ) (uh:=hi.map ρ) h (hρ y)
   (qR hρ lo) (qR hρ hi)
  exact⟨u,dVz hrun,hr⟩
 case h_17 t y lo hi mx=>
  obtain⟨u,hrun,hr⟩:=aIf (P:=P) (ul:=lo.map ρ) (uh:=hi.map ρ) h (hρ y)
   (qR hρ lo) (qR hρ hi) (hρ mx)
  exact⟨u,dVz hrun,hr⟩
 case h_18 c=>
  unfold aAi at h
  obtain⟨callee,args,argTypes⟩:=c
  simp only at h
  split at h
  ·rename_i y t ts e1 e2
   have ea:args= #[y]:=by rw[←Array.toArray_toList (xs:=args),e1]
   have et:argTypes[0]? =some t:=by rw[←Array.getElem?_toList,e2];rfl
   subst ea
   have hy:=hρ y
   have start: ∀v,(Builtin.len_ argTypes type #[ρ y]).run P w=.ok v w→
     (execOp ρ {dst:=dst,op:=.call {callee:=.builtin .len,args:= #[y],argTypes:=argTypes},type:=type,pos:=pos,after:=after,guard:=guard}).run P w=.ok (.value v) w:=by
    intro v hv
    simp only[execOp,resolve,invoke,builtin,Sem.run_bind,Sem.run_pure,Result.andThen_ok,List.map_toArray,List.map_cons,List.map_nil,hv]
   unfold cMq at h
   split at h
   ·rename_i e hu
    have fin: ∀n cap (a:Option Addr),ρ y=.slice a n cap→x=.i n→∃v,(execOp ρ {dst:=dst,op:=.call {callee:=.builtin .len,args:= #[y],argTypes:=argTypes},type:=type,pos:=pos,after:=after,guard:=guard}).run P w=.ok (.value v) w∧Rel σ I w x v:=by
     rintro n cap a hv rfl
     refine⟨_,start _ ?_,.i n⟩
     simp only[Builtin.len_,et,List.getElem?_toArray,List.getElem?_cons_zero,hv,Sem.run_bind,run_underlying hu,Result.andThen_ok,Sem.run_pure,goInt]
    split at h
    ·rename_i n xs eq
     rw[eq]at hy
     obtain rfl:=J0 h
     cases hv:ρ y with
     |slice a len cap=>
      rw[hv]at hy
      have:len=n:=by cases hy<;>rfl
      exact fin n cap a (by rw[hv,this]) rfl
     |_=>rw[hv]at hy;cases hy
    ·rename_i id off n e' g eq
     rw[eq]at hy
     obtain rfl:=J0 h
     cases hv:ρ y with
     |slice a len cap=>
      rw[hv]at hy
      have:len=n:=by cases hy<;>rfl
      exact fin n cap a (by rw[hv,this]) rfl
     |_=>rw[hv]at hy;cases hy
    ·rename_i eq
     rw[eq]at hy
     obtain rfl:=J0 h
     have hv:ρ y=.slice none 0 0:=by generalize ρ y=u at hy;cases hy;rfl
     exact fin 0 0 none hv rfl
    cases h
   ·rename_i hu
    split at h
    ·rename_i l eq
     rw[eq]at hy
     obtain rfl:=J0 h
     refine⟨_,start _ ?_,.i _⟩
     simp only[Builtin.len_,et,List.getElem?_toArray,List.getElem?_cons_zero,aFt hy,Sem.run_bind,run_underlying hu,Result.andThen_ok,Sem.run_pure,goInt,eU]
    cases h
   ·rename_i n e hu
    obtain rfl:=J0 h
    refine⟨_,start _ ?_,.i _⟩
    simp only[Builtin.len_,et,List.getElem?_toArray,List.getElem?_cons_zero,Sem.run_bind,run_underlying hu,Result.andThen_ok,Sem.run_pure,goInt]
   cases h
  ·rename_i a b e1
   have ea:args= #[a,b]:=by rw[←Array.toArray_toList (xs:=args),e1]
   subst ea
   obtain⟨k,m,n,h1,h2,hr⟩:=bKv h (hρ a) (hρ b)
   refine⟨_,?_,hr⟩
   simp only[execOp,resolve,invoke,builtin,Sem.run_bind,Sem.run_pure,Result.andThen_ok,List.map_toArray,List.map_cons,List.map_nil,h1,h2]
   rw[run_min_int2];rfl
  ·rename_i a b e1
   have ea:args= #[a,b]:=by rw[←Array.toArray_toList (xs:=args),e1]
   subst ea
   obtain⟨k,m,n,h1,h2,hr⟩:=bKy h (hρ a) (hρ b)
   refine⟨_,?_,hr⟩
   simp only[execOp,resolve,invoke,builtin,Sem.run_bind,Sem.run_pure,Result.andThen_ok,List.map_toArray,List.map_cons,List.map_nil,h1,h2]
   rw[run_max_int2];rfl
  ·rename_i y t ts e1 e2
   have ea:args= #[y]:=by rw[←Array.toArray_toList (xs:=args),e1]
   have et:argTypes[0]? =some t:=by rw[←Array.getElem?_toList,e2];rfl
   subst ea
   have hy:=hρ y
   unfold dBn at h
   split at h
   ·rename_i e hu eq
    rw[eq]at hy
    obtain rfl:=J0 h
    have hv:ρ y=.slice none 0 0:=by generalize ρ y=u at hy;cases hy;rfl
    refine⟨_,?_,.i 0⟩
    simp only[execOp,resolve,invoke,builtin,Sem.run_bind,Sem.run_pure,Result.andThen_ok,List.map_toArray,List.map_cons,List.map_nil,hv,Builtin.cap_,et,List.getElem?_toArray,List.getElem?_cons_zero,run_underlying hu,goInt]
    rfl
   cases h
  cases h
 case h_19 y _ t=>
  split at h
  ·rename_i t' v' hy
   replace h:=aP h;obtain⟨⟨rfl,hif,hun⟩,h⟩:=h
   obtain rfl:=J0 h
   have hv:=hρ y;rw[hy]at hv
   have e:ρ y=.iface t' v':=by generalize ρ y=u at hv;cases hv;rfl
   obtain⟨u,hu⟩:=Option.isSome_iff_exists.1 hun
   refine⟨.tuple #[v',.bool true],?_,.tup _ _ rfl (fun i hi=>?_)⟩
   ·simp only[execOp,e,Instr.typeAssert,Sem.run_bind,run_underlying hu,Result.andThen_ok]
    unfold uG at hif
    rw[hu]at hif
    cases u<;>first|(simp at hif;done)|(simp only[if_true,Sem.run_pure,Result.andThen_ok])
   match i,hi with
   |0,_=>exact vP _
   |1,_=>exact .b _
  cases h
 case h_20=>cases h
end
end Go.AX

namespace Go.AX
open Go
open Go.MapKept (IsKey bytes_beq sameNow_of_keys run_checkKey run_findKey)
section
variable {P : Program} {σ : Nat → Loc} {I : Nat → Prop} {w : World}
theorem cAj {a b:List (BitVec 8)} (h:dA a=dA b):a=b:=aDc (by rw[←fVq,←fVq,h])
theorem oO {d:TypeDesc} {x:AV} {a:Value} (h:oP d x=true) (hx:Rel σ I w x a):IsKey d a:=by
 unfold oP at h
 split at h<;>first|(cases h;done)|(cases hx;first|rfl|trivial)
theorem bMi {x y:AV} {r:Bool} (h:kEq x y=some r) {d:TypeDesc} (hd:oP d x=true):oP d y=true:=by
 unfold kEq at h
 split at h
 all_goals first|(cases h;done)|skip
 all_goals (cases d with
  |int k=>cases k<;>first|exact hd|(cases hd;done)
  |_=>first|exact hd|(cases hd;done))
theorem bYo {x y:AV} {a b:Value} {r:Bool} (h:kEq x y=some r) (hx:Rel σ I w x a) (hy:Rel σ I w y b):r=true↔a=b:=by
 unfold kEq at h
 split at h
 all_goals first|(cases h;done)|(obtain rfl:=J0 h;cases hx;cases hy;rw[decide_eq_true_eq])
 ·exact⟨fun h=>by rw[h],fun h=>by cases h;rfl⟩
 ·exact⟨fun h=>by rw[h],fun h=>BitVec.eq_of_toNat_eq (Int.ofNat.inj (Value.int.inj h).2)⟩
 ·exact⟨fun h=>by rw[h],fun h=>BitVec.eq_of_toNat_eq (Int.ofNat.inj (Value.int.inj h).2)⟩
 ·exact⟨fun h=>by rw[h],fun h=>BitVec.eq_of_toNat_eq (Int.ofNat.inj (Value.int.inj h).2)⟩
 ·exact⟨fun h=>by rw[h],fun h=>BitVec.eq_of_toNat_eq (Int.ofNat.inj (Value.int.inj h).2)⟩
 exact⟨fun h=>by rw[h],fun h=>cAj (Value.string.inj h)⟩
theorem bYn {x y:AV} {a b:Value} {r:Bool} (h:kEq x y=some r) (hx:Rel σ I w x a) (hy:Rel σ I w y b) {d:TypeDesc} (hd:oP d x=true):Instr.sameNow d a b=some r∧(r=true↔a=b):=by
 obtain⟨r',h1,h2⟩:=sameNow_of_keys (oO hd hx) (oO (bMi h hd) hy)
 have h3:=bYo h hx hy
 have:r'=r:=by rw[Bool.eq_iff_iff,h2,h3]
 rw[←this];exact⟨h1,h2⟩
theorem eDz {d:TypeDesc} {k:AV} {key:Value} (hd:oP d k=true) (hk:Rel σ I w k key): ∀(es:List (AV×AV)) (l:List MapEntry) (i:Nat) (r:Option Nat),l.length=es.length→
  (∀j (h:j<es.length),Rel σ I w es[j].1 (l.getD j default).key)→aNn k es=some r→
  (r=none∧Instr.findNow d key l i=some none∧∀x∈l,x.key≠key)∨∃j e,r=some j∧j<es.length∧Instr.findNow d key l i=some (some (i+j,e.val))∧l[j]? =some e∧e.key=key
 |[],[],i,r,_,_,h=>by
  obtain rfl:=J0 h
  exact .inl ⟨rfl,rfl,fun x hx=>by cases hx⟩
 |p::es,e::l,i,r,hl,hr,h=>by
  rw[aNn]at h
  replace h:=aJ h;obtain⟨b,hb,h⟩:=h
  have h0:=hr 0 (by simp)
  obtain⟨s1,s2⟩:=bYn hb hk h0 hd
  cases b with
  |true=>
   obtain rfl:=J0 h
   exact .inr ⟨0,e,rfl,by simp,by simp only[Instr.findNow];rw[show Instr.sameNow d key e.key=some true from s1];rfl,rfl,(s2.1 rfl).symm⟩
  |false=>
   simp only at h
   replace h:=aJ h;obtain⟨o,ho,h⟩:=h
   obtain rfl:=J0 h
   have hne:e.key≠key:=fun q=>by have:=s2.2 q.symm;cases this
   have hf:Instr.findNow d key (e::l) i=Instr.findNow d key l (i+1):=by
    simp only[Instr.findNow];rw[show Instr.sameNow d key e.key=some false from s1]
   rcases eDz hd hk es l (i+1) o (by simpa using hl) (fun j hj=>by have:=hr (j+1) (by simpa using hj);simpa using this) ho with⟨rfl,f1,f2⟩|⟨j,e',rfl,f1,f2,f3,f4⟩
   ·refine .inl ⟨rfl,by rw[hf];exact f1,fun x hx=>?_⟩
    rcases List.mem_cons.1 hx with rfl|hx
    ·exact hne
    ·exact f2 x hx
   ·exact .inr ⟨j+1,e',rfl,by simpa using f1,by rw[hf,f2];congr 3;omega,by simpa using f3,f4⟩
theorem bKo {hp:H} {x:AV} {v:Value} {es:List (AV×AV)} (h:aEi hp x=some es) (hx:Rel σ I w x v) (hown: ∀id o,hp id=some o→eD σ I w id o):
  (v=.map none∧es=[])∨∃blk,v=.map (some blk)∧eNt σ I w es blk:=by
 unfold aEi at h
 split at h
 ·rename_i id
  replace h:=aJ h;obtain⟨o,ho,h⟩:=h
  cases o with
  |cells xs mt=>cases h
  |mapo es' mt=>
   obtain rfl:=J0 h
   obtain⟨blk,b1,b2,_⟩:=hown id _ ho
   cases hx with
   |mp _ blk' e=>
    rw[e]at b1;cases b1
    exact .inr ⟨blk,rfl,b2⟩
 ·obtain rfl:=J0 h
  cases hx
  exact .inl ⟨rfl,rfl⟩
 cases h
theorem pF (a:Array MapEntry) (i:Nat):a.toList.getD i default=a.getD i default:=by
 rw[Array.getD_eq_getD_getElem?,List.getD_eq_getElem?_getD,Array.getElem?_toList]
theorem cGf {t:TypeId} {z:AV} (h:zvA P t=some z) (w:World): ∃v,(zeroValue t).run P w=.ok v w∧∀(σ:Nat→Loc) (I:Nat→Prop) (w:World),Rel σ I w z v:=by
 unfold zvA at h
 cases hi:P.info? t with
 |none=>simp[hi]at h
 |some i=>
  cases hz:i.zero with
  |none=>simp[hi,hz]at h
  |some v=>
   simp only[hi,Option.bind_some,hz,Option.map_some,Option.some.injEq]at h
   subst h
   exact⟨v,by simp[zeroValue,run_typeInfo' hi,hz],fun σ I w=>vP v⟩
theorem aBx {x:AV} {v:Value} {b:Bool} (h:Rel σ I w x v):Rel σ I w (.tup [x,.b b]) (.tuple #[v,.bool b]):=by
 refine .tup _ _ rfl fun i hi=>?_
 match i,hi with
 |0,_=>exact h
 |1,_=>exact .b b
theorem aJj {t:TypeId} {x k y:AV} {ok:Bool} {hp:H} {a key:Value} (h:aWs P t x k ok hp=some y) (hx:Rel σ I w x a) (hk:Rel σ I w k key) (hown: ∀id o,hp id=some o→eD σ I w id o):
  ∃v,(Instr.lookup t a key ok).run P w=.ok v w∧Rel σ I w y v:=by
 unfold aWs at h
 split at h
 rotate_left
 ·cases h
 rename_i kt et hm
 replace h:=aJ h;obtain⟨d,hd,h⟩:=h
 replace h:=aP h;obtain⟨hkd,h⟩:=h
 replace h:=aJ h;obtain⟨z,hz,h⟩:=h
 replace h:=aJ h;obtain⟨es,hes,h⟩:=h
 replace h:=aJ h;obtain⟨r,hr,h⟩:=h
 obtain rfl:=J0 h
 obtain⟨zv,hzr,hzrel⟩:=cGf (P:=P) hz w
 have hik:=oO hkd hk
 unfold aNp at hr
 replace hr:=aJ hr;obtain⟨o,ho,hr⟩:=hr
 obtain rfl:=J0 hr
 have hck:=fun e=>run_checkKey (w:=w) hd hik e 9999
 rcases bKo hes hx hown with⟨rfl,rfl⟩|⟨blk,rfl,⟨⟨ents,cl,g1,g2,g3,g4⟩⟩⟩
 ·obtain rfl:=J0 ho
  have hf:(Instr.findKey kt key []).run P w=.ok none w:=run_findKey hd rfl
  cases ok with
  |true=>
   refine⟨.tuple #[zv,.bool false],?_,aBx (hzrel _ _ _)⟩
   simp[Instr.lookup,run_underlying hm,hck,hf,hzr,Result.andThen]
  |false=>
   refine⟨zv,?_,hzrel _ _ _⟩
   simp[Instr.lookup,run_underlying hm,hck,hf,hzr,Result.andThen]
 have hl:ents.toList.length=es.length:=by simpa using g2
 rcases eDz hkd hk es ents.toList 0 o hl (fun j hj=>by rw[pF];exact(g4 j hj).2.1) ho with⟨rfl,f1,f2⟩|⟨j,e,rfl,hj,f1,f2,f3⟩
 ·have hf:=run_findKey (P:=P) (w:=w) hd f1
  cases ok with
  |true=>
   refine⟨.tuple #[zv,.bool false],?_,aBx (hzrel _ _ _)⟩
   simp[Instr.lookup,run_underlying hm,Go.MapKept.run_getObj_map g1,hck,hf,hzr,Result.andThen]
  |false=>
   refine⟨zv,?_,hzrel _ _ _⟩
   simp[Instr.lookup,run_underlying hm,Go.MapKept.run_getObj_map g1,hck,hf,hzr,Result.andThen]
 have hf:=run_findKey (P:=P) (w:=w) hd f1
 have hv:Rel σ I w es[j].2 e.val:=by
  have:=(g4 j hj).2.2
  rw[←pF,List.getD_eq_getElem?_getD,f2]at this
  exact this
 have e1:(Option.bind (some j) fun j=>(es[j]?).map (·.2))=some es[j].2:=by
  show(es[j]?).map (·.2)=_
  rw[List.getElem?_eq_getElem hj];rfl
 rw[e1]
 cases ok with
 |true=>
  refine⟨.tuple #[e.val,.bool true],?_,aBx hv⟩
  simp[Instr.lookup,run_underlying hm,Go.MapKept.run_getObj_map g1,hck,hf,Result.andThen]
 |false=>
  refine⟨e.val,?_,hv⟩
  simp[Instr.lookup,run_underlying hm,Go.MapKept.run_getObj_map g1,hck,hf,Result.andThen]
theorem aSi {t ty:TypeId} {x y:AV} {hp:H} {a:Value} (h:aWv P t x hp=some y) (hx:Rel σ I w x a) (hown: ∀id o,hp id=some o→eD σ I w id o):
  ∃v,(Builtin.len_ #[t] ty #[a]).run P w=.ok v w∧Rel σ I w y v:=by
 unfold aWv at h
 split at h
 rotate_left
 ·cases h
 rename_i kt et hm
 replace h:=aJ h;obtain⟨es,hes,h⟩:=h
 obtain rfl:=J0 h
 rcases bKo hes hx hown with⟨rfl,rfl⟩|⟨blk,rfl,⟨⟨ents,cl,g1,g2,g3,g4⟩⟩⟩
 ·exact⟨goInt 0,by simp[Builtin.len_,run_underlying hm,Result.andThen],.i 0⟩
 refine⟨goInt ents.size,by simp[Builtin.len_,run_underlying hm,Go.MapKept.run_getObj_map g1,Result.andThen],?_⟩
 rw[g2];exact .i _
end
end Go.AX

namespace Go.AX
open Go
section
variable {P : Program} {σ : Nat → Loc} {I : Nat → Prop} {w : World}
theorem uM.get {xs:List AV} {blk base sz:Nat} (h:uM σ I w xs blk base sz) (i:Nat) (hi:i<xs.length):
  ∃v,w.cell? ⟨blk,base+i,none⟩=some v∧xs[i].isCell=true∧Rel σ I w xs[i] v:=by
 obtain⟨⟨c,T,lo,hi',h1,h2,h3,_,h5⟩,h6⟩:=h
 have hlt:base+i<c.size:=by omega
 refine⟨c.getD (base+i) undef,?_,h6 i hi,h5 i hi⟩
 simp only[World.cell?,h1,Option.isSome_none,Bool.false_eq_true,if_false]
 rw[Array.getElem?_eq_getElem hlt,Array.getD_eq_getD_getElem?,Array.getElem?_eq_getElem hlt];rfl
theorem fPc {id:Nat} {xs:List AV} {mt:Bool} {blk base sz:Nat} (h:eD σ I w id (.cells xs mt)) (e:σ id=.at_ blk base sz):uM σ I w xs blk base sz:=by
 simp only[eD,e]at h;exact h.1
theorem aVu {id:Nat} {xs:List AV} {mt:Bool} {blk base sz:Nat} (h:eD σ I w id (.cells xs mt)) (e:σ id=.at_ blk base sz):base+xs.length≤sz:=by
 obtain⟨⟨_,_,_,_,_,_,h3,_⟩,_⟩:=fPc h e;exact h3
theorem bVq {id:Nat} {xs:List AV} {mt:Bool} (h:eD σ I w id (.cells xs mt)) (e:σ id=.nil):xs=[]:=by
 simpa only[eD,e]using h
theorem cIg {xs:List AV} {blk o:Nat} (h:Rel σ I w (.rp xs) (.pointer (some ⟨blk,o,none⟩))) (i:Nat) (hi:i<xs.length):
  ∃v,w.cell? ⟨blk,o+i,none⟩=some v∧xs[i].isCell=true∧Rel σ I w xs[i] v:=by
 cases h with
 |rp _ _ _ f hb hc h1 h2=>exact⟨f i,hc i hi,h1 i hi,h2 i hi⟩
theorem bW: ∀ {xs:List AV} {l:List (BitVec 8)},fHq xs=some l→xs=l.map .w8
 |[],l,h=>by obtain rfl:=J0 h;rfl
 | .w8 x::r,l,h=>by
  simp only[fHq]at h
  obtain⟨l',h1,h⟩:=aJ h
  obtain rfl:=J0 h
  rw[bW h1];rfl
 | .w16 _::_,_,h| .w32 _::_,_,h| .w64 _::_,_,h| .i _::_,_,h| .b _::_,_,h| .s _::_,_,h| .v _::_,_,h| .agg _::_,_,h| .tup _::_,_,h| .sl _ _::_,_,h
 | .rp _::_,_,h| .os _ _ _ _ _::_,_,h| .op _ _::_,_,h| .mp _::_,_,h| .fn _ _::_,_,h| .junk::_,_,h=>by cases h
theorem rY {hp:H} {z n:Nat} {x:AV} {xs:List AV} {v:Value} (h:sR hp z x=some (n,xs)) (hx:Rel σ I w x v) (hown: ∀id o,hp id=some o→eD σ I w id o):
  xs.length=n*z∧(∀i (_h:i<xs.length),xs[i].isCell=true)∧∃(a:Option Addr) (cap:Nat) (vs:Array Value),v=.slice a n cap∧vs.size=xs.length∧(∀i (_h:i<xs.length),Rel σ I w xs[i] (vs.getD i undef))∧
   (match a with|some a=> ∀k (vv:Value),vs.toList[k]? =some vv→w.cell? (a.add k)=some vv|none=>n=0):=by
 have mk: ∀(blk o:Nat) (hc: ∀i (_h:i<xs.length),∃v,w.cell? ⟨blk,o+i,none⟩=some v∧xs[i].isCell=true∧Rel σ I w xs[i] v),
   ∃vs:Array Value,vs.size=xs.length∧(∀i (_h:i<xs.length),Rel σ I w xs[i] (vs.getD i undef))∧∀k (vv:Value),vs.toList[k]? =some vv→w.cell? ((⟨blk,o,none⟩:Addr).add k)=some vv:=by
  intro blk o hc
  refine⟨((List.range xs.length).map fun i=>(w.cell? ⟨blk,o+i,none⟩).getD undef).toArray,by simp,fun i hi=>?_,fun k vv hk=>?_⟩
  ·obtain⟨v,hv,_,hr⟩:=hc i hi
   rw[fI,List.getD_eq_getElem?_getD,List.getElem?_map,List.getElem?_range hi]
   simp[hv,hr]
  ·simp only[List.getElem?_map]at hk
   obtain⟨m,hm,rfl⟩:=Option.map_eq_some_iff.1 hk
   rw[List.getElem?_eq_some_iff]at hm
   obtain⟨hlt,hm⟩:=hm
   simp at hlt hm
   subst hm
   obtain⟨v,hv,_,_⟩:=hc k hlt
   rw[fVr,hv];rfl
 unfold sR at h
 split at h
 ·rename_i n' ys
  obtain⟨hl,h⟩:=aP h
  obtain⟨rfl,rfl⟩:=Prod.mk.inj (J0 h)
  cases hx with
  |sl _ _ blk o cap f hb hle hc h1 h2=>
   obtain⟨vs,e1,e2,e3⟩:=mk blk o (fun i hi=>⟨f i,hc i hi,h1 i hi,h2 i hi⟩)
   exact⟨hl,h1,_,cap,vs,rfl,e1,e2,e3⟩
  |slnil=>exact⟨hl,fun i hi=>by simp at hi,_,0,#[],rfl,rfl,fun i hi=>by simp at hi,rfl⟩
  |slzero a=>exact⟨hl,fun i hi=>by simp at hi,_,0,#[],rfl,rfl,fun i hi=>by simp at hi,fun k vv hk=>by simp at hk⟩
 ·rename_i id off n' e g
  obtain⟨o,ho,h⟩:=aJ h
  split at h
  rotate_left
  ·cases h
  rename_i ys mt
  obtain⟨⟨he,hl⟩,h⟩:=aP h
  obtain⟨rfl,rfl⟩:=Prod.mk.inj (J0 h)
  have hlen:((ys.drop off).take (n'*z)).length=n'*z:=by simp;omega
  cases hx with
  |os _ _ _ _ _ blk base sz cap g1 g2 g3=>
   have hrow:=fPc (hown id _ ho) g1
   have hget: ∀i (_h:i<((ys.drop off).take (n'*z)).length),∃v,w.cell? ⟨blk,base+off+i,none⟩=some v∧((ys.drop off).take (n'*z))[i].isCell=true∧Rel σ I w ((ys.drop off).take (n'*z))[i] v:=by
    intro i hi
    rw[getElem_take',getElem_drop']
    rw[hlen]at hi
    have:=hrow.get (off+i) (by omega)
    rwa [←Nat.add_assoc]at this
   obtain⟨vs,e1,e2,e3⟩:=mk blk (base+off) hget
   exact⟨hlen,fun i hi=>(hget i hi).choose_spec.2.1,_,cap,vs,rfl,e1,e2,e3⟩
  |osnil=>exact⟨hlen,fun i hi=>by simp at hi,_,0,#[],rfl,by simp,fun i hi=>by simp at hi,rfl⟩
  |oszero _ _ _ _ a=>exact⟨hlen,fun i hi=>by simp at hi,_,0,#[],rfl,by simp,fun i hi=>by simp at hi,fun k vv hk=>by simp at hk⟩
 ·obtain⟨rfl,rfl⟩:=Prod.mk.inj (J0 h)
  cases hx
  exact⟨by simp,fun i hi=>by simp at hi,_,0,#[],rfl,rfl,fun i hi=>by simp at hi,rfl⟩
 cases h
theorem aPn {hp:H} {x:AV} {n:Nat} {xs:List AV} {l:List (BitVec 8)} {v:Value} (h:sR hp 1 x=some (n,xs)) (hu:fHq xs=some l) (hx:Rel σ I w x v)
  (hown: ∀id o,hp id=some o→eD σ I w id o):(Conv.bytesToString v).run P w=.ok (.string (dA l)) w:=by
 obtain⟨hl,_,a,cap,vs,rfl,hs,hr,hc⟩:=rY h hx hown
 have hxs:=bW hu
 have hlen:l.length=n:=by rw[hxs]at hl;simpa using hl
 cases a with
 |none=>
  simp only at hc
  have:l=[]:=List.eq_nil_of_length_eq_zero (by omega)
  subst this;rfl
 |some a=>
  simp only at hc
  have hvs:vs.toList=(l.map fun x=>((x.toNat:Nat):Int)).map (Value.int .u8):=by
   apply List.ext_getElem
   ·simp[hs,hxs]
   intro i h1 h2
   have hi:i<xs.length:=by simpa [hs]using h1
   have:=hr i hi
   have hil:i<l.length:=by rw[hxs]at hi;simpa using hi
   have hx':xs[i]=.w8 l[i]:=by simp[hxs]
   rw[hx']at this
   have e:vs.getD i undef=.int .u8 (l[i].toNat:Int):=by
    generalize vs.getD i undef=u at this
    cases this;rfl
   rw[Array.getD_eq_getD_getElem?,Array.getElem?_eq_getElem (by rw[hs];exact hi)]at e
   simp only[Option.getD_some]at e
   rw[Array.getElem_toList,e];simp
  have hload:=run_loadCells_list (P:=P) w a vs.toList hc
  rw[Array.length_toList,hs,hl,Nat.mul_one]at hload
  rw[hvs]at hload
  rw[run_bytesToString w a n cap _ hload,foldl_push_bytes]
  simp only[ByteArray.data_empty,List.map_map,Function.comp_def,U2]
  have:(fun x:BitVec 8=>UInt8.ofNat x.toNat)=UInt8.ofBitVec:=by
   funext x
   apply UInt8.toBitVec_inj.1
   simp
  rw[this];simp[dA]
theorem aRk {o:Oper} {ρA:Operand→AV} {ρ:Operand→Value} {hp:H} {x:AV} (h:eKi P o.op ρA hp=some x) (hρ: ∀y,Rel σ I w (ρA y) (ρ y))
  (hown: ∀id o,hp id=some o→eD σ I w id o):
  ∃v,(execOp ρ o).run P w=.ok (.value v) w∧Rel σ I w x v:=by
 obtain⟨dst,op,type,pos,after,guard⟩:=o
 simp only at h
 unfold eKi at h
 split at h
 ·rename_i t y
  have hy:=hρ y
  split at h
  ·rename_i ys e
   rw[e]at hy
   obtain⟨blk,o,hv⟩:=aBt hy
   rw[hv]at hy
   obtain⟨v,hrun,hr⟩:=aCp (P:=P) h (fun i hi=>cIg hy i hi)
   exact⟨v,dVz (by simp only[Instr.loadAt,Instr.sureAddr,hv,Sem.run_bind,Sem.run_pure,Result.andThen_ok,hrun]),hr⟩
  ·rename_i id off e
   obtain⟨o,ho,h⟩:=aJ h
   split at h
   rotate_left
   ·cases h
   rename_i xs mt
   rw[e]at hy
   obtain⟨blk,base,sz,g1,hv⟩:=dZc hy
   have hrow:=fPc (hown id _ ho) g1
   obtain⟨v,hrun,hr⟩:=aCp (P:=P) (blk:=blk) (o:=base+off) h (fun i hi=>by
    rw[getElem_drop']
    simp at hi
    have:=hrow.get (off+i) (by omega)
    rwa [←Nat.add_assoc]at this)
   exact⟨v,dVz (by simp only[Instr.loadAt,Instr.sureAddr,hv,Sem.run_bind,Sem.run_pure,Result.andThen_ok,hrun]),hr⟩
  cases h
 ·rename_i t y k ok
  obtain⟨v,h1,h2⟩:=aJj (P:=P) h (hρ y) (hρ k) hown
  exact⟨v,dVz h1,h2⟩
 ·rename_i cl
  obtain⟨callee,args,argTypes⟩:=cl
  simp only at h
  split at h
  ·rename_i a t e1 e2
   have ea:args= #[a]:=by rw[←Array.toArray_toList (xs:=args),e1]
   have et:argTypes= #[t]:=by rw[←Array.toArray_toList (xs:=argTypes),e2]
   subst ea;subst et
   obtain⟨v,h1,h2⟩:=aSi (P:=P) (ty:=type) h (hρ a) hown
   refine⟨v,?_,h2⟩
   simp only[execOp,resolve,invoke,builtin,Sem.run_bind,Sem.run_pure,Result.andThen_ok,List.map_toArray,List.map_cons,List.map_nil,h1]
  cases h
 ·rename_i src dst' y
  split at h
  ·rename_i e hs hd
   split at h
   ·rename_i he
    obtain⟨nl,hnl,h⟩:=aJ h
    obtain⟨l,hl,h⟩:=aJ h
    obtain rfl:=J0 h
    have hrun:=aPn (P:=P) hnl hl (hρ y) hown
    refine⟨_,dVz ?_,.s l⟩
    obtain⟨_,_,a,cap,vs,hv,_⟩:=rY hnl (hρ y) hown
    rw[hv]at hrun⊢
    rw[run_convert_bytes_string w src dst' e a _ cap hs he hd,hrun]
   cases h
  cases h
 cases h
end
end Go.AX

namespace Go.AX
open Go
structure Grow (σ:Nat→Loc) (I:Nat→Prop) (w:World) (σ':Nat→Loc) (I':Nat→Prop) (w':World):Prop where
 loc: ∀id,σ id≠.unset→σ' id=σ id
 imm: ∀k,I k→I' k
 heap: ∀k,I k→w'.heap[k]? =w.heap[k]?
theorem Grow.refl (σ:Nat→Loc) (I:Nat→Prop) (w:World):Grow σ I w σ I w:=⟨fun _ _=>rfl,fun _ h=>h,fun _ _=>rfl⟩
theorem Grow.trans {σ σ' σ'':Nat→Loc} {I I' I'':Nat→Prop} {w w' w'':World} (a:Grow σ I w σ' I' w') (b:Grow σ' I' w' σ'' I'' w''):Grow σ I w σ'' I'' w'':=
 ⟨fun id h=>by have:=a.loc id h;rw[b.loc id (by rw[this];exact h),this],fun k h=>b.imm k (a.imm k h),fun k h=>by rw[b.heap k (a.imm k h),a.heap k h]⟩
theorem Rel.grow {σ σ':Nat→Loc} {I I':Nat→Prop} {w w':World} {x:AV} {y:Value} (h:Rel σ I w x y) (g:Grow σ I w σ' I' w'):Rel σ' I' w' x y:=h.mono g.loc g.imm g.heap
section
variable {P : Program} {c : Ctx} {σ : Nat → Loc} {I : Nat → Prop} {w : World} {hp : H} {un : Nat → Prop}
theorem qD (h:Inv c σ I w hp un) {id:Nat} (hu:un id) (w0:World) (hw0:w0.heap=w.heap∧w0.os=w.os∧w0.tape=w.tape∧w0.output=w.output)
  (cs:Array Value) (T:TypeId) (fr:Nat×Nat) (hfr:aUg fr.1 fr.2 cs.size) (xs:List AV) (hl:xs.length≤cs.size)
  (hr: ∀(i:Nat) (x:AV),xs[i]? =some x→x.isCell=true∧∃v,cs[i]? =some v∧Rel σ I w x v):
  ∃σ',Inv c σ' I (w0.alloc (.cells cs T fr)) (upd hp id (.cells xs true)) (fun k=>un k∧k≠id)∧σ' id=.at_ w.heap.size 0 cs.size∧Grow σ I w σ' I (w0.alloc (.cells cs T fr)):=by
 have h0:=h.world (w':=w0) hw0.1 hw0.2.1 hw0.2.2.1 hw0.2.2.2
 have key:=h0.alloc hu cs T fr hfr xs hl (fun i hi=>(hr i _ (List.getElem?_eq_getElem hi)).1) (fun i hi=>by
  obtain⟨_,v,hv,hrel⟩:=hr i _ (List.getElem?_eq_getElem hi)
  rw[Array.getD_eq_getD_getElem?,hv];exact hrel.world hw0.1)
 refine⟨_,key,by simp[cU,hw0.1],⟨dM (h.un id hu),fun _ h=>h,fun k hk=>?_⟩⟩
 rw[gKu _ _ k (by rw[hw0.1];exact h.ilt k hk),hw0.1]
theorem zZ {zs:List AV} {z:Nat} (hz:zs.length=z) (hpos:0<z): ∀(n i:Nat),i<n*z→(rep n zs)[i]? =zs[i%z]?
 |0,i,h=>by simp at h
 |n+1,i,h=>by
  have ih:=zZ hz hpos n
  unfold rep at ih⊢
  rw[List.replicate_succ,List.flatten_cons,List.getElem?_append]
  split
  ·rename_i hlt;rw[hz]at hlt;rw[Nat.mod_eq_of_lt hlt]
  rename_i hge
  rw[hz]at hge⊢
  rw[Nat.add_mul,Nat.one_mul]at h
  rw[ih (i-z) (by omega),Nat.mod_eq_sub_mod (a:=i) (by omega)]
theorem mU {zs:List AV} (n:Nat):(rep n zs).length=n*zs.length:=by
 unfold rep;simp
theorem bLa {z:Array Value} {n i:Nat} (h:i<n) (hz:0<z.size):(Go.madeCells z n)[i]? =z[i%z.size]?:=by
 unfold Go.madeCells
 rw[Array.getElem?_map,Array.getElem?_range,J4 h]
 simp only[Option.map_some]
 rw[Array.getElem?_eq_getElem (Nat.mod_lt _ hz),getElem!_pos z (i%z.size) (Nat.mod_lt _ hz)]
theorem aMr {zs:List AV} {z:Array Value} (hzc:eI σ I w zs z) (hpos:0<zs.length) (n m:Nat) (hm:n*zs.length≤m):
  ∀(i:Nat) (x:AV),(rep n zs)[i]? =some x→x.isCell=true∧∃v,(Go.madeCells z m)[i]? =some v∧Rel σ I w x v:=by
 intro i x hx
 have hlt:i<n*zs.length:=by
  have:=(List.getElem?_eq_some_iff.1 hx).1;rwa [mU]at this
 rw[zZ rfl hpos n i hlt]at hx
 rw[bLa (by omega) (by rw[hzc.size];exact hpos),hzc.size]
 exact(cY.1 hzc).2 _ x hx
theorem bAh {o:Oper} {ρA:Operand→AV} {ρ:Operand→Value} {id:Nat} {x:AV} {xs:List AV} (h:eEm P o.op ρA id=some (x,xs)) (hρ: ∀y,Rel σ I w (ρA y) (ρ y))
  (hi:Inv c σ I w hp un) (hu:un id):
  ∃v w' σ',(execOp ρ o).run P w=.ok (.value v) w'∧Inv c σ' I w' (upd hp id (.cells xs true)) (fun k=>un k∧k≠id)∧Rel σ' I w' x v∧Grow σ I w σ' I w':=by
 obtain⟨dst,op,type,pos,after,guard⟩:=o
 simp only at h
 unfold eEm at h
 split at h
 ·rename_i t
  obtain⟨zs,hzs,h⟩:=aJ h
  obtain⟨rfl,rfl⟩:=Prod.mk.inj (J0 h)
  obtain⟨z,hz,_,he,h1⟩:=run_zeroValue' hzs w
  have hzc:eI σ I w zs z.cells:=fRq he h1
  obtain⟨σ',hinv,hloc,hg⟩:=qD hi hu w ⟨rfl,rfl,rfl,rfl⟩ z.cells t (0,0) ⟨U3 _,fun _ _=>by omega⟩ zs (by rw[hzc.size];omega) (cY.1 hzc).2
  refine⟨.pointer (some ⟨w.heap.size,0,none⟩),_,σ',dVz ?_,hinv,.op id 0 _ _ _ hloc,hg⟩
  simp only[Instr.alloc,newVar,newRow,Sem.run_bind,hz,Result.andThen_ok,run_newObj,Sem.run_pure]
  rfl
 ·rename_i t y
  obtain⟨cs,hcs,h⟩:=aJ h
  obtain⟨rfl,rfl⟩:=Prod.mk.inj (J0 h)
  have hc:=fT hcs (hρ y)
  obtain⟨σ',hinv,hloc,hg⟩:=qD hi hu w ⟨rfl,rfl,rfl,rfl⟩ (ρ y).cells t (0,0) ⟨U3 _,fun _ _=>by omega⟩ cs (by rw[hc.size];omega) (cY.1 hc).2
  refine⟨.pointer (some ⟨w.heap.size,0,none⟩),_,σ',dVz ?_,hinv,.op id 0 _ _ _ hloc,hg⟩
  simp only[Instr.box,newVar,newRow,Sem.run_bind,Result.andThen_ok,run_newObj,Sem.run_pure]
  rfl
 ·rename_i t len parts
  split at h
  ·rename_i e hue
   obtain⟨z,hz,h⟩:=aJ h
   obtain⟨⟨hpos,hlim⟩,h⟩:=aP h
   obtain⟨zs,hzs,h⟩:=aJ h
   obtain⟨hzl,h⟩:=aP h
   obtain⟨cs,hcs,h⟩:=aJ h
   obtain⟨rfl,rfl⟩:=Prod.mk.inj (J0 h)
   obtain⟨zv,hzv,_,he,h1⟩:=run_zeroValue' hzs w
   have hzc:eI σ I w zs zv.cells:=fRq he h1
   have hmade:eI σ I w (rep len zs) (Go.madeCells zv.cells (len*z)):=by
    rw[cY]
    exact⟨by rw[Go.size_madeCells,mU,hzl],aMr hzc (by omega) len (len*z) (by rw[hzl];exact U3 _)⟩
   obtain⟨us,hus,hrel⟩:=eEf (placeM:=fun i=>some (i*z,z)) (fun k o hk=>hk) _ (parts.map fun(i,x)=>(i,ρ x)).toList _ _ _ (by simp) (tG hρ) hmade hcs
   have hlen:cs.length=len*z:=by
    have h2: ∀(parts:List (Nat×AV)) (place:Nat→Option (Nat×Nat)) (a b:List AV),fZh place a parts=some b→b.length=a.length:=by
     intro parts
     induction parts with
     |nil=>intro place a b hh;obtain rfl:=J0 hh;rfl
     |cons p r ih=>
      intro place a b hh
      obtain⟨k,v⟩:=p
      simp only[fZh]at hh
      obtain⟨os,_,hh⟩:=aJ hh
      obtain⟨vc,_,hh⟩:=aJ hh
      obtain⟨⟨g1,g2⟩,hh⟩:=aP hh
      rw[ih _ _ _ hh,fN (by omega)]
    rw[h2 _ _ _ _ hcs,mU,hzl]
   obtain⟨σ',hinv,hloc,hg⟩:=qD hi hu w ⟨rfl,rfl,rfl,rfl⟩ us e (0,0) ⟨U3 _,fun _ _=>by omega⟩ cs (by rw[hrel.size];omega) (cY.1 hrel).2
   have hne: ¬(len*z>2^24):=by
     have:(2:Nat)^24=16777216:=by decide
     omega
   refine⟨.slice (some ⟨w.heap.size,0,none⟩) len len,_,σ',dVz ?_,hinv,?_,hg⟩
   ·simp only[Instr.buildSlice,newRow,Sem.run_bind,run_underlying hue,Result.andThen_ok,run_sizeOf' hz,J3 hne]
    by_cases h0:len*z=0
    ·have hm0:Go.madeCells zv.cells (len*z)=(Array.range (len*z)).map (fun i=>(#[]:Array Value)[i%(#[]:Array Value).size]!):=by
      rw[h0];simp[Go.madeCells]
     simp only[J4 h0]
     rw[hm0]at hus
     simp only[hus,Sem.run_bind,run_newObj,Result.andThen_ok,Sem.run_pure]
     rfl
    simp only[J3 h0,Sem.run_bind,hzv,Result.andThen_ok,Sem.run_pure]
    unfold Go.madeCells at hus
    simp only[hus,Sem.run_bind,run_newObj,Result.andThen_ok,Sem.run_pure]
    rfl
   refine .os id 0 len z true _ 0 _ len hloc (U3 _) (fun _=>?_)
   rw[hrel.size,hlen];omega
  cases h
 ·rename_i t l' c'
  split at h
  ·rename_i e hue
   obtain⟨z,hz,h⟩:=aJ h
   obtain⟨by_,hby,h⟩:=aJ h
   obtain⟨zs,hzs,h⟩:=aJ h
   obtain⟨l,hl,h⟩:=aJ h
   obtain⟨cc,hcc,h⟩:=aJ h
   obtain⟨⟨hpos,hzl,h0,hlc,hc1,hc2⟩,h⟩:=aP h
   obtain⟨rfl,rfl⟩:=Prod.mk.inj (J0 h)
   obtain⟨zv,_,hzero,he,h1⟩:=run_zeroValue' hzs w
   have hzc:eI σ I w zs zv.cells:=fRq he h1
   obtain⟨i,hinfo,hsz⟩:=aLv hz
   obtain⟨i',hinfo',hbz⟩:=wT hby
   rw[hinfo]at hinfo'
   obtain rfl:=J0 hinfo'
   have hiz:i.zero=some zv:=by rw[hinfo]at hzero;exact hzero
   obtain⟨k1,hk1⟩:=qY hl (hρ l')
   obtain⟨k2,hk2⟩:=qY hcc (hρ c')
   have hle:l.toNat*zs.length≤cc.toNat*i.size:=by rw[hzl,hsz];exact Nat.mul_le_mul_right _ (by omega)
   obtain⟨σ',hinv,hloc,hg⟩:=qD hi hu w ⟨rfl,rfl,rfl,rfl⟩ (Go.madeCells zv.cells (cc.toNat*i.size)) e (0,0) ⟨U3 _,fun _ _=>by omega⟩ (rep l.toNat zs)
    (by rw[Go.size_madeCells,mU];exact hle) (aMr hzc (by omega) _ _ hle)
   refine⟨.slice (some ⟨w.heap.size,0,none⟩) l.toNat cc.toNat,_,σ',dVz (s:=Instr.makeSlice t (ρ l') (ρ c')) ?_,hinv,?_,hg⟩
   ·rw[hk1,hk2,run_make w t e i zv hue hinfo hiz k1 k2 l cc h0 hlc (by rw[hbz,Int.mul_comm];omega) (by omega)]
   refine .os id 0 l.toNat z true _ 0 _ cc.toNat hloc (by omega) (fun _=>?_)
   rw[Go.size_madeCells,hsz];omega
  cases h
 ·rename_i src dst' y
  split at h
  ·rename_i e hs hd
   split at h
   ·rename_i l he eq
    obtain⟨hlen,h⟩:=aP h
    obtain⟨rfl,rfl⟩:=Prod.mk.inj (J0 h)
    have hy:=hρ y
    rw[eq]at hy
    have hsv:=aFt hy
    have hrun:=run_bytes_of_string (P:=P) w src dst' e (dA l) hs hd he
    have hge:l.length≤grownCap w (dA l).size 0 e:=by have:=grownCap_ge w (dA l).size 0 e;have e2:=eU l;omega
    have hbs:(bytesRow (dA l) (grownCap w (dA l).size 0 e)).size=grownCap w (dA l).size 0 e:=by
     simp only[bytesRow,Array.size_append,Array.size_map,Array.size_replicate,eU]
     have:(dA l).data.size=l.length:=by simp[dA]
     rw[this];simp only[eU]at hge⊢;omega
    obtain⟨σ',hinv,hloc,hg⟩:=qD hi hu w.drew ⟨rfl,rfl,rfl,rfl⟩ (bytesRow (dA l) (grownCap w (dA l).size 0 e)) e ((bytesRow (dA l) (grownCap w (dA l).size 0 e)).size,(bytesRow (dA l) (grownCap w (dA l).size 0 e)).size+1) ⟨Nat.le_succ _,fun _ _=>by omega⟩ (l.map .w8)
     (by rw[hbs,List.length_map];exact hge) (fun i x hx=>by
      rw[List.getElem?_map]at hx
      obtain⟨b,hb,rfl⟩:=Option.map_eq_some_iff.1 hx
      obtain⟨hlt,rfl⟩:=List.getElem?_eq_some_iff.1 hb
      refine⟨rfl,.int .u8 (l[i].toNat:Int),?_,.w8 _⟩
      simp only[bytesRow]
      rw[Array.getElem?_append_left (by simp[dA];exact hlt)]
      simp[dA,List.getElem?_eq_getElem hlt])
    refine⟨_,_,σ',dVz (s:=convert src dst' (ρ y)) (by rw[hsv];exact hrun),hinv,?_,hg⟩
    have:=Rel.os (σ:=σ') (I:=I) (w:=(w.drew.alloc (.cells (bytesRow (dA l) (grownCap w (dA l).size 0 e)) e ((bytesRow (dA l) (grownCap w (dA l).size 0 e)).size,(bytesRow (dA l) (grownCap w (dA l).size 0 e)).size+1)))) id 0 l.length 1 true _ 0 _ (grownCap w (dA l).size 0 e) hloc hge (fun _=>by rw[hbs];omega)
    rw[eU]at this⊢
    exact this
   cases h
  cases h
 cases h
end
end Go.AX

namespace Go.AX
open Go
section
variable {P : Program} {c : Ctx} {σ : Nat → Loc} {I : Nat → Prop} {w : World} {hp : H} {un : Nat → Prop}
theorem fY (g o:Nat) (t:TypeId) (lo hi:Nat): ∀(vs:List Value) (i:Nat) (cur:Array Value) (w:World),w.heap[g]? =some (.cells cur t (lo,hi))→(∀k,k<cur.size→¬(lo≤k∧k<hi))→
  o+i+vs.length≤cur.size→(∀v∈vs,v.oneCell'=true)→
  ∃w',(storeCells ⟨g,o,none⟩ vs i).run P w=.ok () w'∧w'.os=w.os∧w'.tape=w.tape∧w'.output=w.output∧w'.heap.size=w.heap.size∧(∀k,k≠g→w'.heap[k]? =w.heap[k]?)∧
   ∃cur',w'.heap[g]? =some (.cells cur' t (lo,hi))∧cur'.size=cur.size∧∀k,cur'[k]? =if k<o+i then cur[k]? else if k<o+i+vs.length then vs[k-(o+i)]? else cur[k]?
 |[],i,cur,w,hg,_,_,_=>⟨w,rfl,rfl,rfl,rfl,rfl,fun _ _=>rfl,cur,hg,rfl,fun k=>by
   by_cases h1:k<o+i
   ·rw[J4 h1]
   ·rw[J3 h1,J3 (by simpa using h1)]⟩
 |v::rest,i,cur,w,hg,hm,hl,h1=>by
  simp only[List.length_cons]at hl
  have hi':o+i<cur.size:=by omega
  have hcell:w.cell? ⟨g,o+i,none⟩=some cur[o+i]:=by simp[World.cell?,hg,hi']
  have hfro:w.frozen? ⟨g,o+i,none⟩=false:=by
   have:=hm (o+i) hi'
   simp only[World.frozen?,hg]
   rw[Bool.and_eq_false_iff,decide_eq_false_iff_not,decide_eq_false_iff_not]
   rcases Nat.lt_or_ge (o+i) lo with h|h
   ·left;omega
   ·right;intro h2;exact this ⟨h,h2⟩
  have hst:(store ((⟨g,o,none⟩:Addr).add i) v).run P w=.ok () (w.setCell ⟨g,o+i,none⟩ v):=by
   rw[fVr,run_store P w _ v _ (h1 v (by simp)),hcell]
   simp[hfro]
  have hset:(w.setCell ⟨g,o+i,none⟩ v).heap[g]? =some (.cells (cur.setIfInBounds (o+i) v) t (lo,hi)):=by
   simp only[World.setCell,Array.getElem?_modify,if_true,hg,Option.map_some];rfl
  obtain⟨w',r1,r2,r3,r4,r5,r6,cur',r7,r8,r9⟩:=fY g o t lo hi rest (i+1) (cur.setIfInBounds (o+i) v) (w.setCell ⟨g,o+i,none⟩ v) hset (by simpa using hm) (by simp;omega) (fun x hx=>h1 x (by simp[hx]))
  refine⟨w',?_,r2,r3,r4,by rw[r5];simp,fun k hk=>?_,cur',r7,by rw[r8];simp,fun k=>?_⟩
  ·simp only[storeCells,Sem.run_bind,hst,Result.andThen_ok,r1]
  ·rw[r6 k hk];exact Go.RowKit.Below.heap_setCell _ _ _ _ hk
  ·rw[r9 k,Array.getElem?_setIfInBounds]
   simp only[List.length_cons]
   by_cases a:k<o+i
   ·rw[J4 (by omega),J3 (by omega),J4 a]
   ·by_cases b:k=o+i
    ·subst b
     rw[J4 (by omega),J4 rfl,J4 hi',J3 (by omega),J4 (by omega)];simp
    ·rw[J3 (show¬k<o+(i+1)by omega),J3 a]
     by_cases d:k<o+(i+1)+rest.length
     ·rw[J4 d,J4 (by omega),show k-(o+i)=k-(o+(i+1))+1 from by omega];simp
     ·rw[J3 d,J3 (by omega),J3 (by omega)]
theorem aDw {xs cs:List AV} {off:Nat} (h:off+cs.length≤xs.length):(dV xs off cs).length=xs.length:=by
 unfold dV
 split
 ·simp
 exact fN h
theorem aQt {xs cs:List AV} {off i:Nat} (h:off+cs.length≤xs.length):(dV xs off cs)[i]? =if i<off then xs[i]? else if i<off+cs.length then cs[i-off]? else xs[i]?:=by
 unfold dV
 split
 ·rename_i c
  simp only[List.length_singleton]at h⊢
  rw[List.getElem?_set]
  by_cases a:i<off
  ·rw[J4 a,J3 (by omega)]
  by_cases b:off=i
  ·subst b;rw[J4 rfl,J4 (by omega),J3 a,J4 (by omega)];simp
  rw[J3 b,J3 a,J3 (by omega)]
 exact qO h
theorem xC (h:Inv c σ I w hp un) {id off:Nat} {xs ys zs:List AV} {us:List Value} (ho:hp id=some (.cells xs true)) {blk base sz:Nat} (hl:σ id=.at_ blk base sz)
  (hfit:off+ys.length≤xs.length) (hu:us.length=ys.length) (hc: ∀i (_h:i<ys.length),ys[i].isCell=true) (hr: ∀i (_h:i<ys.length),Rel σ I w ys[i] (us.getD i undef))
  (hzl:zs.length=xs.length) (hz: ∀i:Nat,zs[i]? =if i<off then xs[i]? else if i<off+ys.length then ys[i-off]? else xs[i]?):
  ∃w',(storeCells ⟨blk,base+off,none⟩ us 0).run P w=.ok () w'∧Inv c σ I w' (upd hp id (.cells zs true)) un∧Grow σ I w σ I w':=by
 have hown:=h.own id _ ho
 have hrow:=fPc hown hl
 simp only[eD,hl]at hown
 obtain⟨⟨⟨cs,T,lo,hi,g1,g2,g3,g4,g5⟩,g6⟩,g7,_⟩:=hown
 have hnI:=g7 trivial
 have h1: ∀v∈us,v.oneCell'=true:=by
  intro v hv
  obtain⟨i,hi,rfl⟩:=List.getElem_of_mem hv
  have:=hr i (by omega)
  rw[List.getD_eq_getElem?_getD,List.getElem?_eq_getElem hi]at this
  exact this.oneCell (hc i (by omega))
 obtain⟨w',r1,r2,r3,r4,r5,r6,cur',r7,r8,r9⟩:=fY (P:=P) blk (base+off) T lo hi us 0 cs w g1 (by rw[g2];exact g4.out) (by omega) h1
 have hw: ∀k,I k→w'.heap[k]? =w.heap[k]?:=fun k hk=>r6 k (fun e=>hnI (e▸hk))
 refine⟨w',r1,h.setRow ho hl r2 r3 r4 r5 r6 (fun i hi=>?_) (fun cs2 T2 lo2 hi2 e1 e2=>?_),⟨fun _ _=>rfl,fun _ h=>h,hw⟩⟩
 ·have:=hz i
  rw[List.getElem?_eq_getElem hi]at this
  split at this
  ·obtain⟨hlt,e⟩:=List.getElem?_eq_some_iff.1 this.symm
   rw[←e];exact g6 i hlt
  split at this
  ·obtain⟨hlt,e⟩:=List.getElem?_eq_some_iff.1 this.symm
   rw[←e];exact hc _ hlt
  obtain⟨hlt,e⟩:=List.getElem?_eq_some_iff.1 this.symm
  rw[←e];exact g6 i hlt
 rw[g1]at e1
 obtain⟨rfl,rfl,e3⟩:=Obj.cells.inj (J0 e1)
 obtain⟨rfl,rfl⟩:=Prod.mk.inj e3
 refine⟨cur',r7,by rw[r8];exact e2,by omega,fun i hi=>?_⟩
 have:=hz i
 rw[List.getElem?_eq_getElem hi]at this
 rw[Array.getD_eq_getD_getElem?,r9 (base+i)]
 have old: ∀(hlt:i<xs.length),zs[i]=xs[i]→(base+i<base+off+0∨¬base+i<base+off+0+us.length)→Rel σ I w zs[i] ((if base+i<base+off+0 then cs[base+i]? else if base+i<base+off+0+us.length then us[base+i-(base+off+0)]? else cs[base+i]?).getD undef):=by
  intro hlt e hh
  have g:=g5 i hlt
  rw[Array.getD_eq_getD_getElem?]at g
  rw[e]
  rcases hh with hh|hh
  ·rw[J4 hh];exact g
  rw[J3 (by omega),J3 hh];exact g
 split at this
 ·obtain⟨hlt,e⟩:=List.getElem?_eq_some_iff.1 this.symm
  exact old hlt e.symm (.inl (by omega))
 split at this
 ·obtain⟨hlt,e⟩:=List.getElem?_eq_some_iff.1 this.symm
  have g:=hr _ hlt
  rw[List.getD_eq_getElem?_getD]at g
  rw[J3 (by omega),J4 (by omega),show base+i-(base+off+0)=i-off from by omega,←e];exact g
 obtain⟨hlt,e⟩:=List.getElem?_eq_some_iff.1 this.symm
 exact old hlt e.symm (.inr (by omega))
theorem aAh (hp:H) (id:Nat): ∀k o,del hp id k=some o→hp k=some o:=by
 intro k o h;rw[eV]at h;split at h
 ·cases h
 exact h
theorem tM: ∀(ys:List AV) {hp:H} {I:Nat→Prop} (us:Nat→Value) {p:List AV×H},gG hp ys=some p→Inv c σ I w hp un→(∀i (_h:i<ys.length),ys[i].isCell=true∧Rel σ I w ys[i] (us i))→
  ∃I',Inv c σ I' w p.2 un∧Grow σ I w σ I' w∧p.1.length=ys.length∧(∀i (_h:i<p.1.length),p.1[i].isCell=true∧Rel σ I' w p.1[i] (us i))∧(∀k,I' k→I k∨∃id xs mt base sz,hp id=some (.cells xs mt)∧σ id=.at_ k base sz)∧(∀id,p.2 id=none→hp id=none)
 |[],hp,I,us,p,h,hi,hr=>by
  obtain rfl:=J0 h
  exact⟨I,hi,Grow.refl _ _ _,rfl,hr,fun k hk=> .inl hk,fun _ h=>h⟩
 |x::r,hp,I,us,p,h,hi,hr=>by
  simp only[gG]at h
  have h0:=hr 0 (by simp)
  simp only[List.getElem_cons_zero]at h0
  have other: ∀(hx:aK (gG hp r) (fun p=>some (x::p.1,p.2))=some p),∃I',Inv c σ I' w p.2 un∧Grow σ I w σ I' w∧p.1.length=(x::r).length∧(∀i (_h:i<p.1.length),p.1[i].isCell=true∧Rel σ I' w p.1[i] (us i))∧(∀k,I' k→I k∨∃id xs mt base sz,hp id=some (.cells xs mt)∧σ id=.at_ k base sz)∧(∀id,p.2 id=none→hp id=none):=by
   intro hx
   obtain⟨q,hq,hx⟩:=aJ hx
   obtain rfl:=J0 hx
   obtain⟨I',a1,a2,a3,a4,a5,a6⟩:=tM r (fun i=>us (i+1)) hq hi (fun i hi=>by have:=hr (i+1) (by simpa using hi);simpa using this)
   refine⟨I',a1,a2,by simp[a3],fun i hi=>?_,a5,a6⟩
   cases i with
   |zero=>exact⟨h0.1,h0.2.grow a2⟩
   |succ k=>exact a4 k (by simpa using hi)
  split at h
  ·rename_i id off n e g
   obtain⟨o,ho,h⟩:=aJ h
   obtain⟨xs,mt,rfl⟩: ∃a b,o=AO.cells a b:=by cases o<;>first|exact⟨_,_,rfl⟩|(simp at h)
   simp only at h
   obtain⟨hfit,h⟩:=aP h
   obtain⟨q,hq,h⟩:=aJ h
   obtain rfl:=J0 h
   have hfz: ∃I1,(∀k,I k→I1 k)∧(∀k,I1 k→I k∨∃base sz,σ id=.at_ k base sz)∧Inv c σ I1 w (upd hp id (.cells xs false)) un:=by
    cases mt with
    |true=>exact hi.freeze ho
    |false=>
     refine⟨I,fun _ h=>h,fun k hk=> .inl hk,?_⟩
     have:upd hp id (.cells xs false)=hp:=by
       funext k;rw[bJ];split
       ·rename_i e;rw[e,ho]
       ·rfl
     rw[this];exact hi
   obtain⟨I1,f1,f2,f3⟩:=hfz
   have hg1:Grow σ I w σ I1 w:=⟨fun _ _=>rfl,f1,fun _ _=>rfl⟩
   obtain⟨I',a1,a2,a3,a4,a5,a6⟩:=tM r (fun i=>us (i+1)) hq f3 (fun i hi=>by
    have:=hr (i+1) (by simpa using hi)
    simp only[List.getElem_cons_succ]at this
    exact⟨this.1,this.2.grow hg1⟩)
   refine⟨I',a1,hg1.trans a2,by simp[a3],fun i hi=>?_,fun k hk=>?_,fun k hk=>?_⟩
   ·cases i with
    |succ k=>exact a4 k (by simpa using hi)
    |zero=>
     refine⟨rfl,?_⟩
     simp only[List.getElem_cons_zero]
     have hown:=f3.own id (.cells xs false) (by rw[bJ,J4 rfl])
     have hlen:((xs.drop off).take (n*e)).length=n*e:=by simp;omega
     generalize hus:us 0=u0 at h0⊢
     cases h0.2 with
     |os _ _ _ _ _ blk base sz cap g1 g2 g3=>
      have hrow:=fPc hown g1
      simp only[eD,g1]at hown
      have hI1:=hown.2.2 trivial
      refine Rel.grow (.sl n _ blk (base+off) cap (fun i=>(w.cell? ⟨blk,base+off+i,none⟩).getD undef) hI1 g2 (fun i hi=>?_) (fun i hi=>?_) (fun i hi=>?_)) a2
      ·rw[hlen]at hi
       obtain⟨v,hv,_⟩:=hrow.get (off+i) (by omega)
       rw[←Nat.add_assoc]at hv;rw[hv];rfl
      ·rw[hlen]at hi
       rw[getElem_take',getElem_drop'];exact(hrow.get (off+i) (by omega)).choose_spec.2.1
      ·rw[hlen]at hi
       rw[getElem_take',getElem_drop']
       obtain⟨v,hv,_,hrel⟩:=hrow.get (off+i) (by omega)
       rw[←Nat.add_assoc]at hv;rw[hv];exact hrel
     |osnil _ _ _ g1=>simp only[Nat.zero_mul,U1];exact .slnil
     |oszero _ _ _ _ a g1=>simp only[Nat.zero_mul,U1];exact .slzero a
   ·rcases a5 k hk with hk|⟨id',xs',mt',base,sz,e1,e2⟩
    ·rcases f2 k hk with hk|⟨base,sz,e2⟩
     ·exact .inl hk
     ·exact .inr ⟨id,xs,mt,base,sz,ho,e2⟩
    ·rw[bJ]at e1
     split at e1
     ·rename_i e;subst e;exact .inr ⟨id',xs,mt,base,sz,ho,e2⟩
     ·exact .inr ⟨id',xs',mt',base,sz,e1,e2⟩
   ·have:=a6 k hk
    rw[bJ]at this
    split at this
    ·cases this
    ·exact this
  ·exact other h
end
end Go.AX

namespace Go.AX
open Go
open Go.MapKept (run_checkKey run_findKey run_keyThatStays stamped_push stamped_modify stamped_erase stamped_empty Stamped)
section
variable {P : Program} {c : Ctx} {σ : Nat → Loc} {I : Nat → Prop} {w : World} {hp : H} {un : Nat → Prop}
theorem aCs {d:TypeDesc} {x:AV} (h:oP d x=true):x.noMem=true:=by
 unfold oP at h
 split at h<;>first|(cases h;done)|rfl
theorem aSq {x:AV} {v:Value} {p:AV×H} (h:pP hp x=some p) (hi:Inv c σ I w hp un) (hx:Rel σ I w x v):
  ∃I',Inv c σ I' w p.2 un∧Grow σ I w σ I' w∧Rel σ I' w p.1 v:=by
 unfold pP at h
 split at h
 ·rename_i i off n e g
  replace h:=aJ h;obtain⟨o,ho,h⟩:=h
  obtain⟨xs,mt,rfl⟩: ∃a b,o=AO.cells a b:=by cases o<;>first|exact⟨_,_,rfl⟩|(simp at h)
  simp only at h
  replace h:=aP h;obtain⟨hfit,h⟩:=h
  obtain rfl:=J0 h
  have hf:gG hp [.os i off n e g]=some ([.sl n ((xs.drop off).take (n*e))],upd hp i (.cells xs false)):=by
   simp[gG,ho,aK,aN,hfit]
  obtain⟨I',a1,a2,a3,a4,_,_⟩:=tM [.os i off n e g] (fun _=>v) hf hi (fun j hj=>by
   obtain rfl:j=0:=by simpa using hj
   exact⟨rfl,hx⟩)
  exact⟨I',a1,a2,(a4 0 (by simp)).2⟩
 ·obtain rfl:=J0 h
  cases hx
  exact⟨I,hi,Grow.refl _ _ _,.slnil⟩
 obtain rfl:=J0 h
 exact⟨I,hi,Grow.refl _ _ _,hx⟩
theorem aBf (h:Inv c σ I w hp un) {id blk:Nat} {es es':List (AV×AV)} {ents':Array MapEntry} {cl':Nat} {o:Obj} (ho:hp id=some (.mapo es true)) (hl:σ id=.at_ blk 0 0) (hb:w.heap[blk]? =some o)
  (hs:ents'.size=es'.length) (hst:Stamped ents' cl') (hr: ∀i (h:i<es'.length),es'[i].1.noMem=true∧Rel σ I w es'[i].1 (ents'.getD i default).key∧Rel σ I w es'[i].2 (ents'.getD i default).val):
  Inv c σ I {w with heap:=w.heap.setIfInBounds blk (.map ents' cl')} (upd hp id (.mapo es' true)) un∧Grow σ I w σ I {w with heap:=w.heap.setIfInBounds blk (.map ents' cl')}:=by
 have hnI:=(h.own id _ ho).nI rfl hl
 obtain⟨e1,e2⟩:=Go.MapKept.heap_set (o':=.map ents' cl') hb
 have hw: ∀k,I k→(w.heap.setIfInBounds blk (.map ents' cl'))[k]? =w.heap[k]?:=fun k hk=>e2 k (fun e=>hnI (e▸hk))
 refine⟨h.setO (w':= {w with heap:=w.heap.setIfInBounds blk (.map ents' cl')}) ho rfl hl rfl rfl rfl (by simp) e2 (.mapo es' true) rfl ?_,⟨fun _ _=>rfl,fun _ h=>h,hw⟩⟩
 exact⟨blk,hl,⟨⟨ents',cl',e1,hs,hst,fun i hi=>⟨(hr i hi).1,(hr i hi).2.1.mono (fun _ _=>rfl) (fun _ h=>h) hw,(hr i hi).2.2.mono (fun _ _=>rfl) (fun _ h=>h) hw⟩⟩⟩,fun _=>hnI,fun h=>by cases h⟩
theorem aWp {id blk:Nat} {a:Value} {σ:Nat→Loc} {I:Nat→Prop} {w:World} (hx:Rel σ I w (.mp id) a) (hl:σ id=.at_ blk 0 0):a=.map (some blk):=by
 cases hx with
 |mp _ blk' e=>rw[e]at hl;cases hl;rfl
theorem zF {t:TypeId} {m k x y:AV} {hp':H} {a key v:Value} (h:aGs P t m k x hp=some (y,hp')) (hm:Rel σ I w m a) (hk:Rel σ I w k key) (hx:Rel σ I w x v) (hi:Inv c σ I w hp un):
  ∃w' I',(Instr.mapUpdate t a key v).run P w=.ok () w'∧y=.junk∧Inv c σ I' w' hp' un∧Grow σ I w σ I' w':=by
 unfold aGs at h
 split at h
 rotate_left
 ·cases h
 rename_i kt et ht
 replace h:=aJ h;obtain⟨d,hd,h⟩:=h
 replace h:=aP h;obtain⟨hkd,h⟩:=h
 split at h
 rotate_left
 ·cases h
 rename_i id
 replace h:=aJ h;obtain⟨⟨x1,hp1⟩,hf,h⟩:=h
 obtain⟨I1,i1,g1,r1⟩:=aSq hf hi hx
 simp only at i1 r1 h
 replace h:=aJ h;obtain⟨o,ho,h⟩:=h
 obtain⟨es,mt,rfl⟩: ∃a b,o=AO.mapo a b:=by cases o<;>first|exact⟨_,_,rfl⟩|(simp[bAp]at h)
 simp only[bAp]at h
 replace h:=aP h;obtain⟨rfl,h⟩:=h
 replace h:=aJ h;obtain⟨es',he,h⟩:=h
 obtain⟨rfl,rfl⟩:=Prod.mk.inj (J0 h)
 obtain⟨blk,b1,⟨⟨ents,cl,q1,q2,q3,q4⟩⟩,_⟩:=i1.own id _ ho
 obtain rfl:=aWp hm b1
 have hk1:=hk.grow g1
 have hik:=oO hkd hk
 unfold aEh at he
 replace he:=aJ he;obtain⟨oj,hj,he⟩:=he
 obtain rfl:=J0 he
 have hl:ents.toList.length=es.length:=by simpa using q2
 rcases eDz hkd hk1 es ents.toList 0 oj hl (fun j hj=>by rw[pF];exact(q4 j hj).2.1) hj with⟨rfl,f1,f2⟩|⟨j,e,rfl,hj',f1,f2,f3⟩
 ·obtain⟨n1,n2⟩:=aBf i1 (es':=es++[(k,x1)]) (ents':=ents.push {key:=key,val:=v,born:=cl}) (cl':=cl+1) ho b1 q1 (by simp[q2]) (stamped_push q3 f2) (fun i hi=>by
   by_cases hlt:i<es.length
   ·have e1:(ents.push {key:=key,val:=v,born:=cl}).getD i default=ents.getD i default:=by
     rw[Array.getD_eq_getD_getElem?,Array.getD_eq_getD_getElem?,Array.getElem?_push,J3 (by omega)]
    rw[List.getElem_append_left hlt,e1];exact q4 i hlt
   have hi':i=es.length:=by simp at hi;omega
   subst hi'
   have e1:(ents.push {key:=key,val:=v,born:=cl}).getD es.length default= {key:=key,val:=v,born:=cl}:=by
    rw[Array.getD_eq_getD_getElem?,Array.getElem?_push,J4 q2.symm];rfl
   rw[e1]
   simp only[List.getElem_concat_length]
   exact⟨aCs hkd,hk1,r1⟩)
  refine⟨_,I1,?_,rfl,n1,g1.trans n2⟩
  simp[Instr.mapUpdate,run_underlying ht,Go.MapKept.run_getObj_map q1,run_checkKey hd hik,run_findKey hd f1,Go.MapKept.run_setObj_map _ q1,Result.andThen]
 have hj1:ents[j]? =some e:=by simpa using f2
 have hjs:j<ents.size:=by omega
 obtain⟨n1,n2⟩:=aBf i1 (es':=es.set j (k,x1)) (ents':=ents.modify j fun e=> {e with key:=key,val:=v}) (cl':=cl) ho b1 q1 (by simp[q2]) (stamped_modify q3 _ _ (fun _ _=>rfl) (fun e' _ he'=>by rw[hj1]at he';cases he';exact f3.symm)) (fun i hi=>by
  have hlt:i<es.length:=by simpa using hi
  rw[List.getElem_set]
  have e1:(ents.modify j fun e=> {e with key:=key,val:=v}).getD i default=if j=i then {(ents.getD i default)with key:=key,val:=v} else ents.getD i default:=by
   rw[Array.getD_eq_getD_getElem?,Array.getD_eq_getD_getElem?,Array.getElem?_modify]
   split
   ·rw[Array.getElem?_eq_getElem (by omega)];rfl
   rfl
  rw[e1]
  by_cases hji:j=i
  ·rw[J4 hji,J4 hji];exact⟨aCs hkd,hk1,r1⟩
  rw[J3 hji,J3 hji];exact q4 i hlt)
 refine⟨_,I1,?_,rfl,n1,g1.trans n2⟩
 have f1':Instr.findNow d key ents.toList 0=some (some (j,e.val)):=by rw[f1];simp
 simp[Instr.mapUpdate,run_underlying ht,Go.MapKept.run_getObj_map q1,run_checkKey hd hik,run_findKey hd f1',hj1,f3,run_keyThatStays hik,Go.MapKept.run_setObj_map _ q1,Result.andThen]
theorem aSx {t t' ty:TypeId} {m k y:AV} {hp':H} {a key:Value} (h:cAz P t m k hp=some (y,hp')) (hm:Rel σ I w m a) (hk:Rel σ I w k key) (hi:Inv c σ I w hp un):
  ∃v w',(Builtin.delete_ #[t,t'] ty #[a,key]).run P w=.ok v w'∧Rel σ I w' y v∧Inv c σ I w' hp' un∧Grow σ I w σ I w':=by
 unfold cAz at h
 split at h
 rotate_left
 ·cases h
 rename_i kt et ht
 replace h:=aJ h;obtain⟨d,hd,h⟩:=h
 replace h:=aP h;obtain⟨hkd,h⟩:=h
 split at h
 rotate_left
 ·cases h
 rename_i id
 replace h:=aJ h;obtain⟨o,ho,h⟩:=h
 obtain⟨es,mt,rfl⟩: ∃a b,o=AO.mapo a b:=by cases o<;>first|exact⟨_,_,rfl⟩|(simp[bCa]at h)
 simp only[bCa]at h
 replace h:=aP h;obtain⟨rfl,h⟩:=h
 replace h:=aJ h;obtain⟨es',he,h⟩:=h
 obtain⟨rfl,rfl⟩:=Prod.mk.inj (J0 h)
 obtain⟨blk,b1,⟨⟨ents,cl,q1,q2,q3,q4⟩⟩,_⟩:=hi.own id _ ho
 obtain rfl:=aWp hm b1
 have hik:=oO hkd hk
 unfold aSd at he
 replace he:=aJ he;obtain⟨oj,hj,he⟩:=he
 obtain rfl:=J0 he
 have hl:ents.toList.length=es.length:=by simpa using q2
 rcases eDz hkd hk es ents.toList 0 oj hl (fun j hj=>by rw[pF];exact(q4 j hj).2.1) hj with⟨rfl,f1,f2⟩|⟨j,e,rfl,hj',f1,f2,f3⟩
 ·obtain⟨n1,n2⟩:=aBf hi (es':=es) (ents':=ents) (cl':=cl) ho b1 q1 q2 q3 q4
  refine⟨.tuple #[],_,?_,.tup [] #[] rfl (fun j hj=>by simp at hj),n1,n2⟩
  simp[Builtin.delete_,run_underlying ht,Go.MapKept.run_getObj_map q1,run_checkKey hd hik,run_findKey hd f1,Go.MapKept.run_setObj_map _ q1,Result.andThen]
 have hjs:j<ents.size:=by omega
 have f1':Instr.findNow d key ents.toList 0=some (some (j,e.val)):=by rw[f1];simp
 have hers:ents.eraseIdxIfInBounds j=ents.eraseIdx j hjs:=by unfold Array.eraseIdxIfInBounds;rw[dif_pos hjs]
 obtain⟨n1,n2⟩:=aBf hi (es':=es.eraseIdx j) (ents':=ents.eraseIdxIfInBounds j) (cl':=cl) ho b1 q1 (by rw[hers];simp[List.length_eraseIdx,hj',q2]) (stamped_erase q3 j) (fun i hi=>by
  have hil:i<es.length-1:=by simpa [List.length_eraseIdx,hj']using hi
  have e1:(ents.eraseIdxIfInBounds j).getD i default=if i<j then ents.getD i default else ents.getD (i+1) default:=by
   rw[hers,Array.getD_eq_getD_getElem?,Array.getElem?_eraseIdx]
   split<;>rw[Array.getD_eq_getD_getElem?]
  rw[e1,List.getElem_eraseIdx]
  split
  ·exact q4 i _
  exact q4 (i+1) _)
 refine⟨.tuple #[],_,?_,.tup [] #[] rfl (fun j hj=>by simp at hj),n1,n2⟩
 simp[Builtin.delete_,run_underlying ht,Go.MapKept.run_getObj_map q1,run_checkKey hd hik,run_findKey hd f1',Go.MapKept.run_setObj_map _ q1,Result.andThen]
theorem aTa {t ty kt et:TypeId} {id:Nat} {o:AO} {y:AV} {a:Value} {hp':H} (ht:P.underlying t=some (.map kt et)) (h:aSz id hp o=some (y,hp')) (ho:hp id=some o) (hm:Rel σ I w (.mp id) a) (hi:Inv c σ I w hp un):
  ∃v w',(Builtin.clear_ #[t] ty #[a]).run P w=.ok v w'∧Rel σ I w' y v∧Inv c σ I w' hp' un∧Grow σ I w σ I w':=by
 obtain⟨es,mt,rfl⟩: ∃a b,o=AO.mapo a b:=by cases o<;>first|exact⟨_,_,rfl⟩|(simp[aSz]at h)
 simp only[aSz]at h
 replace h:=aP h;obtain⟨rfl,h⟩:=h
 obtain⟨rfl,rfl⟩:=Prod.mk.inj (J0 h)
 obtain⟨blk,b1,⟨⟨ents,cl,q1,q2,q3,q4⟩⟩,_⟩:=hi.own id _ ho
 obtain rfl:=aWp hm b1
 obtain⟨n1,n2⟩:=aBf hi (es':=[]) (ents':= #[]) (cl':=cl) ho b1 q1 rfl (stamped_empty cl) (fun i hi=>by simp at hi)
 refine⟨.tuple #[],_,?_,.tup [] #[] rfl (fun j hj=>by simp at hj),n1,n2⟩
 simp[Builtin.clear_,run_underlying ht,Go.MapKept.run_getObj_map q1,Go.MapKept.run_setObj_map _ q1,Result.andThen]
theorem aNs {t:TypeId} {id:Nat} (hi:Inv c σ I w hp un) (hu:un id):
  ∃v w' σ',(Instr.makeMap t none).run P w=.ok v w'∧Rel σ' I w' (.mp id) v∧Inv c σ' I w' (upd hp id (.mapo [] true)) (fun k=>un k∧k≠id)∧Grow σ I w σ' I w':=by
 refine⟨.map (some w.heap.size),w.alloc (.map #[] 0),cU σ id (.at_ w.heap.size 0 0),?_,.mp id _ (by simp[cU]),hi.allocMap hu,⟨dM (hi.un id hu),fun _ h=>h,fun k hk=>gKu w _ k (hi.ilt k hk)⟩⟩
 simp[Instr.makeMap,Result.andThen]
end
end Go.AX
