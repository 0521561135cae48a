/-
  Once, part E: the reference's public keys. Once, part F: signatures. Once, part G: opening signatures. Once, part H: the reference's opening. Once, part I: a signature opens to its public key; what the statements of layer 7 ask ahead of all. Tree, part B: one-time keys in plain numbers. Digest, part A: the tag, as the program and the reference tell it; a place. Tree, part C: scopes and labels; nil slices in own objects; trees as values; nodes, roots, leaves. Tree, part D: a tree is made. Tree, part E: the reference's nodes and root. Tree, part F: a tree signs; which leaf signed. Tree, part G: which leaf signed; signatures verified, as the program and the reference do it. Tree, part H: a signature verifies; what the statements of layer 8 ask ahead of all, in plain numbers. Keys, part A: what a ring is in memory. Keys, part B: settings; a DNSKEY's bytes; a new ring. Keys, part C: how many leaves are left; keys made; leaves passed over. Keys, part D: a key's tree. Keys, part E: a key signs; its DNSKEY. Keys, part F: a key's DNSKEY. Sort, part A: rows of numbers of 32 bits, as the sort's plain text has them. Sort, part B: comparing, sorting by insertion, at numbers of 32 bits. Sort, part C: the heap's sort, at numbers of 32 bits. Sort, part D: choosing a pivot, at numbers of 32 bits. Sort, part E: turning a range about, breaking patterns, at numbers of 32 bits. Sort, part F: parting a range, at numbers of 32 bits.
-/
import Derived.Test.YthemkfbedajmpaaGreatDoorBC
import Derived.Scope
import Derived.Sort.AssemblyPlain
namespace Go.AX
open Go Go.Proofs
structure KVIC where
 v:Nat
 id:Nat
 c:Nat
set_option maxHeartbeats 4000000 in
theorem bUl:cL Tryz.prog GLh 79 aIw:=by
 refine cC Tryz.func79 (aT rfl) ?_
 intro args r hg
 unfold aIw at hg
 split at hg
 ·rename_i xs leaf
  replace hg:=aJ hg;obtain⟨seed,hb,hg⟩:=hg
  replace hg:=aP hg;obtain⟨hn,hg⟩:=hg
  obtain rfl:=J0 hg
  have:=iX _ hb;subst this
  clear hg hb
  refine⟨J1 rfl,fun nx=>?_⟩
  have hs:=oZ seed leaf
  refine aA rfl (bA [1,2,4] rfl rfl rfl fun K hK=>?_)
  simp(failIfUnchanged:=false) (disch:=omega) only[Tryz.f79,go_sem,↓reduceIte]
  refine hK _ ?_
  refine aB (aA rfl (bA [1,2,4,5] rfl rfl rfl fun K hK=>?_))
  simp(failIfUnchanged:=false) (disch:=omega) only[Tryz.f79,go_sem,↓reduceIte]
  refine hK _ ?_
  refine aB (aA rfl (aA rfl (bA [1,2,4,5,6] rfl rfl rfl fun K hK=>?_)))
  simp(failIfUnchanged:=false) (disch:=omega) only[Tryz.f79,go_sem,↓reduceIte]
  refine hK _ ?_
  refine aB (aR 0 rfl rfl (iE 5 1 rfl (fF [1,2,4,5,6] ?_)))
  simp(failIfUnchanged:=false) only[iB,fU,eB,↓reduceIte,Nat.reduceEqDiff]
  refine bR (fun p:KIC=> {fr:=[(1,.w32 leaf),(2,.op nx 0),(4,.op (nx+1) 0),(5,.os p.id 0 (16*p.k) 1 true),(6,.i p.k)],hp:=upd (upd (upd (fun _=>none) nx (.cells (c8 seed) true)) (nx+1) (.cells (c8 (List.replicate 8 0#8)) true)) p.id (.cells (c8 (fl (lk2 seed leaf) p.k)) true),nx:=0,cx:=p.c}) (fun p=>p.k≤32∧nx+2≤p.id∧p.id<p.c) (fun p=>32-p.k) rfl ⟨⟨0,_,_⟩,⟨Nat.zero_le _,by simp only;omega,by simp only;omega⟩,bD rfl rfl (U3 _)⟩ ?_
  rintro⟨k,id,c⟩ ⟨hk,hid,hc⟩ n0
  simp only at hk hid hc⊢
  refine aA rfl (aA rfl (bA [11,1,2,4,5,6] rfl rfl rfl fun K hK=>?_))
  simp(failIfUnchanged:=false) (disch:=omega) only[Tryz.f79,go_sem,↓reduceIte]
  refine hK _ ?_
  refine aB (aW (.tmp 11) rfl rfl rfl (fun h=>?_) (fun h=>?_))
  ·refine aI rfl (aQ rfl (aB (aA rfl (aR 1 rfl rfl (aA rfl (bA [1,2,4,5,6,7] rfl rfl rfl fun K hK=>?_))))))
   simp(failIfUnchanged:=false) (disch:=omega) only[Tryz.f79,go_sem,↓reduceIte]
   refine hK _ ?_
   refine aB (aR 2 rfl rfl ?_)
   refine bR (fun p:KVIC=> {fr:=[(1,.w32 leaf),(2,.op nx 0),(4,.op (nx+1) 0),(5,.os p.id 0 (16*k+8*p.v) 1 true),(6,.i k),(7,.i p.v)],hp:=upd (upd (upd (fun _=>none) nx (.cells (c8 seed) true)) (nx+1) (.cells (c8 (List.replicate 8 0#8)) true)) p.id (.cells (c8 (xT seed leaf k p.v)) true),nx:=0,cx:=p.c}) (fun p=>p.v≤2∧nx+2≤p.id∧p.id<p.c) (fun p=>2-p.v) rfl ⟨⟨0,id,_⟩,⟨Nat.zero_le _,hid,by simp only;omega⟩,bD rfl (by rw[←tL]) (U3 _)⟩ ?_
   rintro⟨v,id,c⟩ ⟨hv,hid,hc⟩ n0
   simp only at hv hid hc⊢
   have hl:=aCl seed leaf k v hv
   refine aA rfl (aA rfl (bA [15,1,2,4,5,6,7] rfl rfl rfl fun K hK=>?_))
   simp(failIfUnchanged:=false) (disch:=omega) only[Tryz.f79,go_sem,↓reduceIte]
   refine hK _ ?_
   refine aB (aW (.tmp 15) rfl rfl rfl (fun h=>?_) (fun h=>?_))
   ·refine aI rfl ?_
    have hsl:=kL seed leaf (BitVec.ofInt 8 (k:Int)) (BitVec.ofInt 8 (v:Int))
    have hll:lP (jO seed leaf (BitVec.ofInt 8 (k:Int)) (BitVec.ofInt 8 (v:Int)))=lkv seed leaf k (BitVec.ofInt 8 (v:Int)):=rfl
    have hkl:=lB seed leaf k (BitVec.ofInt 8 (v:Int))
    refine aQ rfl (aB (aA rfl (aR 3 rfl rfl (aA rfl (aC (Γ:=bC [(91,.pure true oL)]) [1,2,4,5,6,7,8] (aH cKr aO) rfl rfl rfl (fun K hK=>?_))))))
    simp(failIfUnchanged:=false) (disch:=omega) only[Tryz.f79,go_sem,↓reduceIte,hn]
    refine hK _ ?_
    refine aB (aA rfl (aC (Γ:=bC [(92,.pure true pD)]) [1,2,4,5,6,7,9] (aH cKq aO) rfl rfl rfl (fun K hK=>?_)))
    simp(failIfUnchanged:=false) (disch:=omega) only[Tryz.f79,go_sem,↓reduceIte,hll]
    refine hK _ ?_
    refine aB (bA [1,2,4,5,6,7] rfl rfl rfl fun K hK=>?_)
    simp(failIfUnchanged:=false) (disch:=omega) only[Tryz.f79,go_sem,↓reduceIte,hl]
    refine hK _ ?_
    refine bU (aB (bA [1,2,4,5,6,7] rfl rfl rfl fun K hK=>?_))
    simp(failIfUnchanged:=false) (disch:=omega) only[Tryz.f79,go_sem,↓reduceIte]
    refine hK _ ?_
    refine bT ?_
    have e5:16*k+8*(v+1)=16*k+8*v+8:=by omega
    refine⟨⟨v+1,c+2+9+4+2,_⟩,⟨by simp only;omega,?_,?_⟩,by simp only;omega,⟨fun _=> .inr ?_,fun j o h=>?_,U3 _⟩⟩
    ·simp only;omega
    ·simp only;omega
    ·simp only[e5,Int.natCast_add,Int.natCast_one]
    simp only[aGt seed leaf k v (by omega)]at h
    grind [bJ,eV]
   refine aI rfl (bF 2 rfl rfl (aY (aZ (bE (bU (aB ?_))))))
   obtain rfl:v=2:=by omega
   rw[aNv]
   refine bA [1,2,4,5,6] rfl rfl rfl fun K hK=>?_
   simp(failIfUnchanged:=false) (disch:=omega) only[Tryz.f79,go_sem,↓reduceIte]
   refine hK _ ?_
   refine bT ?_
   refine⟨⟨k+1,id,_⟩,⟨by simp only;omega,hid,by simp only;omega⟩,by simp only;omega,bD ?_ rfl (U3 _)⟩
   simp(failIfUnchanged:=false) only[Int.natCast_add,Int.natCast_one];rfl
  refine aI rfl (bF 0 rfl rfl (aY (aZ (bE (aB (aA rfl ?_))))))
  obtain rfl:k=32:=by omega
  have hl:=aJk seed leaf
  have hq:fl (lk2 seed leaf) 32=lks seed leaf:=rfl
  rw[hq]
  have hf:jD 3#8 [lks seed leaf]=lT seed leaf:=rfl
  refine aC (Γ:=bC [(93,.pure true kS)]) [4] (aH bJh aO) rfl rfl rfl (fun K hK=>?_)
  simp(failIfUnchanged:=false) (disch:=omega) only[Tryz.f79,go_sem,↓reduceIte,hf]
  refine hK _ ?_
  refine aB (aS rfl ?_)
  simp(failIfUnchanged:=false) (disch:=omega) only[cN,bV,bK,bQ,Tryz.f79,go_sem,↓reduceIte,ldV,kQ,hs]
 cases hg
theorem ok34:bX Tryz.prog GLh 79 (.pure true aIw):=⟨⟨_,Tryz.func79,rfl,rfl⟩,bUl⟩
end Go.AX

namespace Go.AX
open Go Go.Proofs
attribute [go_sem] iA
end Go.AX

namespace Go.AX
open Go Go.Proofs
end Go.AX

namespace Go.AX
open Go Go.Proofs
end Go.AX

namespace Go.AX
open Go Go.Proofs
theorem wL (f:Nat→List B8) (n:Nat) (hf: ∀i,(f i).length=n) (k:Nat): ∀i,i<k→((fl f k).drop (n*i)).take n=f i:=by
 induction k with
 |zero=>intro i hi;omega
 |succ k ih=>
  intro i hi
  have hl:=nA f n hf k
  rw[fl]
  by_cases e:i=k
  ·subst e
   rw[List.drop_append,List.drop_of_length_le (by omega),List.nil_append,hl,Nat.sub_self,J9,List.take_of_length_le (by rw[hf];exact U3 _)]
  have hm:n*i+n≤n*k:=by
   have:n*(i+1)≤n*k:=Nat.mul_le_mul_left _ (by omega)
   rwa [Nat.mul_succ]at this
  rw[List.drop_append_of_le_length (by omega),List.take_append_of_le_length (by rw[List.length_drop];omega)]
  exact ih i (by omega)
end Go.AX

namespace Go.AX
open Go Go.Proofs
set_option maxRecDepth 100000
noncomputable def ct (ps:List (Nat×Nat)):Nat→Nat:=
 List.rec (motive:=fun _=>Nat→Nat) (fun n=>n) (fun p _ ih n=>ih (Nat.add (Nat.mul (Nat.add (Nat.mul n 4294967296) p.1) (Nat.pow 256 p.1)) p.2)) ps
noncomputable def ctl (ps:List (Nat×Nat)):Nat→Nat:=
 List.rec (motive:=fun _=>Nat→Nat) (fun n=>n) (fun p _ ih n=>ih (Nat.add (Nat.add n 4) p.1)) ps
def pn (p:List B8):Nat×Nat:=(p.length,big p)
theorem cRc (n:Nat) (h:n<4294967296):big (b4 n)=n:=by
 have e: ∀k:Nat,0<k→((n:Int).fdiv (k:Int))=((n/k:Nat):Int):=fun k _=>by
  rw[Int.fdiv_eq_ediv_of_nonneg _ (by omega)];rfl
 have e1:=e 16777216 (by omega)
 have e2:=e 65536 (by omega)
 have e3:=e 256 (by omega)
 simp(failIfUnchanged:=false) only[show((16777216:Nat):Int)=16777216 from rfl,show((65536:Nat):Int)=65536 from rfl,show((256:Nat):Int)=256 from rfl]at e1 e2 e3
 simp(failIfUnchanged:=false) only[b4,big,List.foldl_cons,List.foldl_nil,BitVec.toNat_ofInt]
 rw[e1,e2,e3]
 omega
theorem aPj (l p:List B8) (ps:List (List B8)):cat l (p::ps)=cat (l++zA p) ps:=by simp[cat]
theorem cBm (ps:List (List B8)): ∀l:List B8,(∀p∈ps,p.length<4294967296)→big (cat l ps)=ct (ps.map pn) (big l):=by
 induction ps with
 |nil=>intro l _;simp[cat,ct]
 |cons p ps ih=>
  intro l h
  rw[aPj,ih _ (fun q hq=>h q (by simp[hq]))]
  have hb:=cRc p.length (h p (by simp))
  have:big (l++zA p)=(big l*4294967296+p.length)*256^p.length+big p:=by
   rw[zA,oD,oD,hb,List.length_append,Nat.pow_add,Nat.add_mul,show(b4 p.length).length=4 from rfl,show(256:Nat)^4=4294967296 by simp only[Nat.reducePow],Nat.mul_assoc,Nat.add_assoc]
  rw[this]
  rfl
theorem sS (ps:List (List B8)): ∀l:List B8,(cat l ps).length=ctl (ps.map pn) l.length:=by
 induction ps with
 |nil=>intro l;simp[cat,ctl]
 |cons p ps ih=>
  intro l
  rw[aPj,ih,List.length_append,xN,show l.length+(p.length+4)=l.length+4+p.length by omega]
  rfl
noncomputable def xE (tag:Nat) (ps:List (Nat×Nat)):Nat:=bTi (ct ps tag) (ctl ps 1)
theorem tB (tag:B8) (ps:List (List B8)) (h: ∀p∈ps,p.length<4294967296) (hl:(cat [tag] ps).length<1000000000):big (jD tag ps)=xE tag.toNat (ps.map pn):=by
 rw[jD,aYq _ hl,cBm _ _ h,sS,aKg]
 rfl
noncomputable def cUb (s leaf i v:Nat):Nat:=xE 1 [(8,s),(4,leaf),(1,i),(1,v)]
noncomputable def cXy (x:Nat):Nat:=xE 2 [(8,x)]
noncomputable def lkN (s leaf i v:Nat):Nat:=frc (cUb s leaf i v) cXy
theorem bPq (n:W32):big (w4 n)=n.toNat:=by
 have h: ∀k,k≤56→((n>>>k).setWidth 8:B8).toNat=n.toNat/2^k%256:=by
  intro k _;rw[BitVec.toNat_setWidth,BitVec.toNat_ushiftRight,Nat.shiftRight_eq_div_pow]
 simp(failIfUnchanged:=false) only[w4,big,List.foldl_cons,List.foldl_nil,h 24 (by omega),h 16 (by omega),h 8 (by omega),BitVec.toNat_setWidth]
 have:=n.isLt
 omega
theorem bUh (seed:List B8) (hs:seed.length=8) (leaf:W32) (i v:B8):big (jO seed leaf i v)=cUb (big seed) leaf.toNat i.toNat v.toNat:=by
 have hw:(w4 leaf).length=4:=rfl
 rw[jO,tB]
 ·simp only[List.map_cons,List.map_nil,pn,hs,bPq,aKg,hw,List.length_cons,List.length_nil];rfl
 ·intro p hp
  simp(failIfUnchanged:=false) only[List.mem_cons,List.not_mem_nil,or_false]at hp
  rcases hp with rfl|rfl|rfl|rfl
  ·omega
  ·rw[hw];omega
  ·simp
  simp
 rw[sS]
 simp(failIfUnchanged:=false) only[List.map_cons,List.map_nil,pn,hs,hw,List.length_cons,List.length_nil,ctl]
 decide
theorem bYa (x:List B8) (hx:x.length=8):big (lP x)=cXy (big x):=by
 rw[lP,tB]
 ·simp only[List.map_cons,List.map_nil,pn,hx];rfl
 ·intro p hp
  simp(failIfUnchanged:=false) only[List.mem_cons,List.not_mem_nil,or_false]at hp
  subst hp;omega
 rw[sS]
 simp(failIfUnchanged:=false) only[List.map_cons,List.map_nil,pn,hx,List.length_cons,List.length_nil,ctl]
 decide
theorem bLj (seed:List B8) (hs:seed.length=8) (leaf:W32) (i:Nat) (hi:i<256) (v:B8):big (lkv seed leaf i v)=lkN (big seed) leaf.toNat i v.toNat:=by
 have e:(BitVec.ofInt 8 (i:Int)).toNat=i:=by rw[BitVec.toNat_ofInt];omega
 rw[lkv,bYa _ (kL _ _ _ _),bUh seed hs,e,lkN,rA]
noncomputable def cJd (s leaf:Nat) (o:Nat→Nat) (k:Nat):Nat:=
 Nat.rec 0 (fun k ih=>frc ih fun a=>frc (o k) fun z=>frc (lkN s leaf k z) fun x=>frc (lkN s leaf k (Nat.sub 1 z)) fun y=>Nat.add (Nat.mul a 340282366920938463463374607431768211456) (Nat.add (Nat.mul x 18446744073709551616) y)) k
noncomputable def aEd (s leaf:Nat) (o:Nat→Nat):Nat:=frc (cJd s leaf o 32) fun a=>xE 3 [(512,a)]
theorem aVq (seed:List B8) (hs:seed.length=8) (leaf:W32) (o:Nat→B8) (ho: ∀i,o i=0#8∨o i=1#8) (k:Nat) (hk:k≤32):big (fl (fun i=>lkv seed leaf i (o i)++lkv seed leaf i (1#8-o i)) k)=cJd (big seed) leaf.toNat (fun i=>(o i).toNat) k:=by
 induction k with
 |zero=>rfl
 |succ k ih=>
  have e:(1#8-o k).toNat=1-(o k).toNat:=by rcases ho k with h|h<;>rw[h]<;>rfl
  rw[fl,oD,ih (by omega),oD,bLj seed hs leaf k (by omega),bLj seed hs leaf k (by omega),List.length_append,lB,lB,e]
  simp(failIfUnchanged:=false) only[cJd,rA]
  rw[show(256:Nat)^(8+8)=340282366920938463463374607431768211456 by simp only[Nat.reduceAdd,Nat.reducePow],show(256:Nat)^8=18446744073709551616 by simp only[Nat.reducePow]]
  rfl
theorem aFp (x:List B8) (hx:x.length=512):big (jD 3#8 [x])=xE 3 [(512,big x)]:=by
 rw[tB]
 ·simp only[List.map_cons,List.map_nil,pn,hx];rfl
 ·intro p hp
  simp(failIfUnchanged:=false) only[List.mem_cons,List.not_mem_nil,or_false]at hp
  subst hp;omega
 rw[sS]
 simp(failIfUnchanged:=false) only[List.map_cons,List.map_nil,pn,hx,List.length_cons,List.length_nil,ctl]
 decide
theorem bVd (seed:List B8) (hs:seed.length=8) (leaf:W32):big (lT seed leaf)=aEd (big seed) leaf.toNat (fun _=>0):=by
 rw[lT,aFp _ (aJk seed leaf),aEd,rA,lks]
 have:=aVq seed hs leaf (fun _=>0#8) (fun _=> .inl rfl) 32 (U3 _)
 have e:(fun i=>lkv seed leaf i 0#8++lkv seed leaf i (1#8-0#8))=lk2 seed leaf:=by funext i;rfl
 rw[e]at this
 rw[this]
 rfl
end Go.AX

namespace Go.AX
open Go Go.Proofs
def nF:List B8→Nat→Nat
 |_,0=>0
 |l,k+1=>nF l k+(if k%2=0 then 256*(l.getD k 0#8).toNat else(l.getD k 0#8).toNat)
theorem aUr (l:List B8) (k:Nat):nF l k≤65280*k:=by
 induction k with
 |zero=>simp[nF]
 |succ k ih=>
  have:=(l.getD k 0#8).isLt
  rw[nF]
  split<;>omega
def pL (l:List B8):BitVec 16:=BitVec.ofNat 16 (nF l l.length+nF l l.length/65536%65536)
def aIc:List AV→Option AV
 |[.sl n xs]=>aK (un8 xs) fun b=>aN (b.length=n∧n≤60000) (some (.w16 (pL b)))
 |_=>none
theorem bTd (n:Nat) (xs:List AV):aIc [.sl n xs]=aK (un8 xs) fun b=>aN (b.length=n∧n≤60000) (some (.w16 (pL b))):=(rfl)
attribute [go_sem] bTd
theorem te64 (s:Nat) (x:B8):BitVec.ofNat 64 s+BitVec.setWidth 64 x <<<8=BitVec.ofNat 64 (s+256*x.toNat):=by
 apply BitVec.eq_of_toNat_eq
 have:=x.isLt
 simp(failIfUnchanged:=false) only[BitVec.toNat_add,BitVec.toNat_ofNat,BitVec.toNat_shiftLeft,BitVec.toNat_setWidth,Nat.shiftLeft_eq];omega
theorem to64 (s:Nat) (x:B8):BitVec.ofNat 64 s+BitVec.setWidth 64 x=BitVec.ofNat 64 (s+x.toNat):=by
 apply BitVec.eq_of_toNat_eq
 have:=x.isLt
 simp(failIfUnchanged:=false) only[BitVec.toNat_add,BitVec.toNat_ofNat,BitVec.toNat_setWidth];omega
theorem te32 (s:Nat) (x:B8):BitVec.ofNat 32 s+BitVec.setWidth 32 x <<<8=BitVec.ofNat 32 (s+256*x.toNat):=by
 apply BitVec.eq_of_toNat_eq
 have:=x.isLt
 simp(failIfUnchanged:=false) only[BitVec.toNat_add,BitVec.toNat_ofNat,BitVec.toNat_shiftLeft,BitVec.toNat_setWidth,Nat.shiftLeft_eq];omega
theorem to32 (s:Nat) (x:B8):BitVec.ofNat 32 s+BitVec.setWidth 32 x=BitVec.ofNat 32 (s+x.toNat):=by
 apply BitVec.eq_of_toNat_eq
 have:=x.isLt
 simp(failIfUnchanged:=false) only[BitVec.toNat_add,BitVec.toNat_ofNat,BitVec.toNat_setWidth];omega
theorem aLu (l:List B8) (k:Nat) (h:k%2=0):nF l (k+1)=nF l k+256*(l.getD k 0#8).toNat:=by rw[nF,J4 h]
theorem aUq (l:List B8) (k:Nat) (h: ¬k%2=0):nF l (k+1)=nF l k+(l.getD k 0#8).toNat:=by rw[nF,J3 h]
theorem cGd (a:Nat):a&&&65535=a%65536:=Nat.and_two_pow_sub_one_eq_mod a 16
theorem dAd (s:Nat) (_:s<4294967296):BitVec.setWidth 16 (BitVec.ofNat 64 s+(BitVec.ofNat 64 s>>>16&&&65535#64))=BitVec.ofNat 16 (s+s/65536%65536):=by
 apply BitVec.eq_of_toNat_eq
 have e:(65535#64:BitVec 64).toNat=65535:=rfl
 simp(failIfUnchanged:=false) only[BitVec.toNat_setWidth,BitVec.toNat_add,BitVec.toNat_and,BitVec.toNat_ushiftRight,BitVec.toNat_ofNat,Nat.shiftRight_eq_div_pow,cGd,e];omega
theorem dAe (s:Nat) (_:s<4294900000):BitVec.setWidth 16 (BitVec.ofNat 32 s+(BitVec.ofNat 32 s>>>16&&&65535#32))=BitVec.ofNat 16 (s+s/65536%65536):=by
 apply BitVec.eq_of_toNat_eq
 have e:(65535#32:BitVec 32).toNat=65535:=rfl
 simp(failIfUnchanged:=false) only[BitVec.toNat_setWidth,BitVec.toNat_add,BitVec.toNat_and,BitVec.toNat_ushiftRight,BitVec.toNat_ofNat,Nat.shiftRight_eq_div_pow,cGd,e];omega
set_option maxHeartbeats 1000000 in
theorem cGu:cL Tryz.prog GLh 33 aIc:=by
 refine cC Tryz.func33 (aT rfl) ?_
 intro args r hg
 unfold aIc at hg
 split at hg
 ·rename_i n xs
  replace hg:=aJ hg;obtain⟨b,hb,hg⟩:=hg
  replace hg:=aP hg;obtain⟨⟨hn,hbig⟩,hg⟩:=hg
  obtain rfl:=J0 hg
  have:=iX _ hb;subst this
  subst hn
  clear hg hb
  refine⟨J1 rfl,fun nx=>?_⟩
  refine aA rfl (bA [0] rfl rfl rfl fun K hK=>?_)
  simp(failIfUnchanged:=false) (disch:=omega) only[Tryz.f33,go_sem,↓reduceIte]
  refine hK _ ?_
  refine aB (aA rfl (bA [0,3] rfl rfl rfl fun K hK=>?_))
  simp(failIfUnchanged:=false) (disch:=omega) only[Tryz.f33,go_sem,↓reduceIte]
  refine hK _ ?_
  refine aB (aA rfl (aA rfl (bA [3,6,7,8] rfl rfl rfl fun K hK=>?_)))
  simp(failIfUnchanged:=false) (disch:=omega) only[Tryz.f33,go_sem,↓reduceIte]
  refine hK _ ?_
  refine aB (aR 0 rfl rfl (bR (fun p:KC=> {fr:=[(3,.w64 (BitVec.ofNat 64 (nF b p.k))),(6,.sl b.length (c8 b)),(7,.i b.length),(8,.i p.k)],hp:=fun _=>none,nx:=0,cx:=p.c}) (fun p=>p.k≤b.length) (fun p=>b.length-p.k) rfl ⟨⟨0,_⟩,Nat.zero_le _,bD rfl rfl (U3 _)⟩ ?_))
  rintro⟨k,c⟩ hk n0
  simp only at hk⊢
  refine aA rfl (bA [9,3,6,7,8] rfl rfl rfl fun K hK=>?_)
  simp(failIfUnchanged:=false) (disch:=omega) only[Tryz.f33,go_sem,↓reduceIte]
  refine hK _ ?_
  refine aB (aA rfl (aW (.tmp 9) rfl rfl rfl (fun h=>?_) (fun h=>?_)))
  ·refine aI rfl (aQ rfl (aB (aA rfl (aR 1 rfl rfl (aA rfl (bA [3,4,5,6,7,8] rfl rfl rfl fun K hK=>?_))))))
   simp(failIfUnchanged:=false) (disch:=omega) only[Tryz.f33,go_sem,↓reduceIte]
   refine hK _ ?_
   refine aB ?_
   have e2:(k:Int).tmod 2=((k%2:Nat):Int):=by rw[Int.tmod_eq_emod_of_nonneg (by omega)];omega
   have hkl:k<b.length:=by omega
   refine aA rfl (bA [15,3,5,6,7,8] rfl rfl rfl fun K hK=>?_)
   simp(failIfUnchanged:=false) (disch:=omega) only[Tryz.f33,go_sem,↓reduceIte,e2]
   refine hK _ ?_
   refine aB (aW (.tmp 15) rfl rfl rfl (fun h=>?_) (fun h=>?_))
   ·refine aI rfl ?_
    have hs:BitVec.ofNat 64 (nF b k)+BitVec.setWidth 64 (b.getD k 0#8) <<<8=BitVec.ofNat 64 (nF b (k+1)):=by rw[te64,aLu _ _ (by omega)]
    refine bA [3,6,7,8] rfl rfl rfl fun K hK=>?_
    simp(failIfUnchanged:=false) (disch:=omega) only[Tryz.f33,go_sem,↓reduceIte,hs]
    refine hK _ ?_
    refine bU (aB (bA [3,6,7,8] rfl rfl rfl fun K hK=>?_))
    simp(failIfUnchanged:=false) (disch:=omega) only[Tryz.f33,go_sem,↓reduceIte]
    refine hK _ ?_
    refine bT ?_
    refine⟨⟨k+1,_⟩,by simp only;omega,by simp only;omega,bD ?_ rfl (U3 _)⟩
    simp(failIfUnchanged:=false) only[Int.natCast_add,Int.natCast_one]
   refine aI rfl ?_
   have hs:BitVec.ofNat 64 (nF b k)+BitVec.setWidth 64 (b.getD k 0#8)=BitVec.ofNat 64 (nF b (k+1)):=by rw[to64,aUq _ _ (by omega)]
   refine bA [3,6,7,8] rfl rfl rfl fun K hK=>?_
   simp(failIfUnchanged:=false) (disch:=omega) only[Tryz.f33,go_sem,↓reduceIte,hs]
   refine hK _ ?_
   refine bU (aB (bA [3,6,7,8] rfl rfl rfl fun K hK=>?_))
   simp(failIfUnchanged:=false) (disch:=omega) only[Tryz.f33,go_sem,↓reduceIte]
   refine hK _ ?_
   refine bT ?_
   refine⟨⟨k+1,_⟩,by simp only;omega,by simp only;omega,bD ?_ rfl (U3 _)⟩
   simp(failIfUnchanged:=false) only[Int.natCast_add,Int.natCast_one]
  refine aI rfl (bF 0 rfl rfl (aY (aZ (bE (aB (aA rfl ?_))))))
  obtain rfl:k=b.length:=by omega
  have ht:=aUr b b.length
  have hf:BitVec.setWidth 16 (BitVec.ofNat 64 (nF b b.length)+(BitVec.ofNat 64 (nF b b.length)>>>16&&&65535#64))=pL b:=dAd _ (by omega)
  refine bA [2] rfl rfl rfl fun K hK=>?_
  simp(failIfUnchanged:=false) (disch:=omega) only[Tryz.f33,go_sem,↓reduceIte,hf]
  refine hK _ ?_
  refine aB (aS rfl ?_)
  simp(failIfUnchanged:=false) (disch:=omega) only[cN,bV,bK,bQ,Tryz.f33,go_sem,↓reduceIte]
 cases hg
theorem ok40:bX Tryz.prog GLh 33 (.pure true aIc):=⟨⟨_,Tryz.func33,rfl,rfl⟩,cGu⟩
set_option maxHeartbeats 1000000 in
theorem bUk:cL Tryz.prog GLh 31 aIc:=by
 refine cC Tryz.func31 (aT rfl) ?_
 intro args r hg
 unfold aIc at hg
 split at hg
 ·rename_i n xs
  replace hg:=aJ hg;obtain⟨b,hb,hg⟩:=hg
  replace hg:=aP hg;obtain⟨⟨hn,hbig⟩,hg⟩:=hg
  obtain rfl:=J0 hg
  have:=iX _ hb;subst this
  subst hn
  clear hg hb
  refine⟨J1 rfl,fun nx=>?_⟩
  refine aA rfl (bA [0] rfl rfl rfl fun K hK=>?_)
  simp(failIfUnchanged:=false) (disch:=omega) only[Tryz.f31,go_sem,↓reduceIte]
  refine hK _ ?_
  refine aB (aA rfl (bA [0,3] rfl rfl rfl fun K hK=>?_))
  simp(failIfUnchanged:=false) (disch:=omega) only[Tryz.f31,go_sem,↓reduceIte]
  refine hK _ ?_
  refine aB (aA rfl (aA rfl (bA [0,3,4] rfl rfl rfl fun K hK=>?_)))
  simp(failIfUnchanged:=false) (disch:=omega) only[Tryz.f31,go_sem,↓reduceIte]
  refine hK _ ?_
  refine aB (aR 0 rfl rfl (bR (fun p:KC=> {fr:=[(0,.sl b.length (c8 b)),(3,.w32 (BitVec.ofNat 32 (nF b p.k))),(4,.i p.k)],hp:=fun _=>none,nx:=0,cx:=p.c}) (fun p=>p.k≤b.length) (fun p=>b.length-p.k) rfl ⟨⟨0,_⟩,Nat.zero_le _,bD rfl rfl (U3 _)⟩ ?_))
  rintro⟨k,c⟩ hk n0
  simp only at hk⊢
  refine aA rfl (aA rfl (bA [8,0,3,4] rfl rfl rfl fun K hK=>?_))
  simp(failIfUnchanged:=false) (disch:=omega) only[Tryz.f31,go_sem,↓reduceIte]
  refine hK _ ?_
  refine aB (aW (.tmp 8) rfl rfl rfl (fun h=>?_) (fun h=>?_))
  ·refine aI rfl ?_
   have e2:(k:Int).tmod 2=((k%2:Nat):Int):=by rw[Int.tmod_eq_emod_of_nonneg (by omega)];omega
   have hkl:k<b.length:=by omega
   refine aQ rfl (aB (aA rfl (aR 1 rfl rfl (aA rfl (bA [13,0,3,4] rfl rfl rfl fun K hK=>?_)))))
   simp(failIfUnchanged:=false) (disch:=omega) only[Tryz.f31,go_sem,↓reduceIte,e2]
   refine hK _ ?_
   refine aB (aW (.tmp 13) rfl rfl rfl (fun h=>?_) (fun h=>?_))
   ·refine aI rfl ?_
    have hs:BitVec.ofNat 32 (nF b k)+BitVec.setWidth 32 (b.getD k 0#8) <<<8=BitVec.ofNat 32 (nF b (k+1)):=by rw[te32,aLu _ _ (by omega)]
    refine bA [0,3,4] rfl rfl rfl fun K hK=>?_
    simp(failIfUnchanged:=false) (disch:=omega) only[Tryz.f31,go_sem,↓reduceIte,hs]
    refine hK _ ?_
    refine bU (aB (bA [0,3,4] rfl rfl rfl fun K hK=>?_))
    simp(failIfUnchanged:=false) (disch:=omega) only[Tryz.f31,go_sem,↓reduceIte]
    refine hK _ ?_
    refine bT ?_
    refine⟨⟨k+1,_⟩,by simp only;omega,by simp only;omega,bD ?_ rfl (U3 _)⟩
    simp(failIfUnchanged:=false) only[Int.natCast_add,Int.natCast_one]
   refine aI rfl ?_
   have hs:BitVec.ofNat 32 (nF b k)+BitVec.setWidth 32 (b.getD k 0#8)=BitVec.ofNat 32 (nF b (k+1)):=by rw[to32,aUq _ _ (by omega)]
   refine bA [0,3,4] rfl rfl rfl fun K hK=>?_
   simp(failIfUnchanged:=false) (disch:=omega) only[Tryz.f31,go_sem,↓reduceIte,hs]
   refine hK _ ?_
   refine bU (aB (bA [0,3,4] rfl rfl rfl fun K hK=>?_))
   simp(failIfUnchanged:=false) (disch:=omega) only[Tryz.f31,go_sem,↓reduceIte]
   refine hK _ ?_
   refine bT ?_
   refine⟨⟨k+1,_⟩,by simp only;omega,by simp only;omega,bD ?_ rfl (U3 _)⟩
   simp(failIfUnchanged:=false) only[Int.natCast_add,Int.natCast_one]
  refine aI rfl (bF 0 rfl rfl (aY (aZ (bE (aB (aA rfl ?_))))))
  obtain rfl:k=b.length:=by omega
  have ht:=aUr b b.length
  have hf:BitVec.setWidth 16 (BitVec.ofNat 32 (nF b b.length)+(BitVec.ofNat 32 (nF b b.length)>>>16&&&65535#32))=pL b:=dAe _ (by omega)
  refine bA [3] rfl rfl rfl fun K hK=>?_
  simp(failIfUnchanged:=false) (disch:=omega) only[Tryz.f31,go_sem,↓reduceIte]
  refine hK _ ?_
  refine aB (aA rfl (bA [2] rfl rfl rfl fun K hK=>?_))
  simp(failIfUnchanged:=false) (disch:=omega) only[Tryz.f31,go_sem,↓reduceIte,hf]
  refine hK _ ?_
  refine aB (aS rfl ?_)
  simp(failIfUnchanged:=false) (disch:=omega) only[cN,bV,bK,bQ,Tryz.f31,go_sem,↓reduceIte]
 cases hg
theorem ok41:bX Tryz.prog GLh 31 (.pure true aIc):=⟨⟨_,Tryz.func31,rfl,rfl⟩,bUk⟩
end Go.AX

namespace Go.AX
open Go Go.Proofs
section
variable {P : Program} {GL : Nat → Option (List AV)} {nt : Nat} {code : Code} {Q : Exit → S → Prop} {s t : S}
end
def upL (a b:List B8):List B8:=jD 4#8 [a,b]
theorem sZ (a b:List B8):(upL a b).length=8:=jG _ _
def iR (seed:List B8):Nat→Nat→List B8
 |0,i=>lT seed (BitVec.ofNat 32 i)
 |j+1,i=>upL (iR seed j (2*i)) (iR seed j (2*i+1))
theorem iW (seed:List B8) (j i:Nat):(iR seed j i).length=8:=by
 cases j with
 |zero=>exact oZ _ _
 |succ j=>exact sZ _ _
def mO (seed:List B8) (h j:Nat):List B8:=fl (iR seed j) (2^(h-j))
theorem qE (seed:List B8) (h j:Nat):(mO seed h j).length=8*2^(h-j):=nA _ 8 (iW seed j) _
def lvS (seed:List B8) (h:Nat):Nat→List AV
 |0=>[]
 |n+1=>lvS seed h n++[.sl (2^(h-n)) (c8 (mO seed h n))]
theorem nE (seed:List B8) (h n:Nat):(lvS seed h n).length=n:=by
 induction n with
 |zero=>rfl
 |succ n ih=>rw[lvS,List.length_append,ih];rfl
theorem cMl (seed:List B8) (h n j:Nat) (hj:j<n):(lvS seed h n)[j]? =some (.sl (2^(h-j)) (c8 (mO seed h j))):=by
 induction n with
 |zero=>omega
 |succ n ih=>
  rw[lvS]
  by_cases e:j<n
  ·rw[List.getElem?_append_left (by rw[nE];exact e)];exact ih e
  obtain rfl:j=n:=by omega
  rw[List.getElem?_append_right (by rw[nE];exact U3 _),nE,Nat.sub_self];rfl
theorem aNt (seed:List B8) (h n j:Nat) (hj:j<n):((lvS seed h n).drop j).head? =some (.sl (2^(h-j)) (c8 (mO seed h j))):=by
 rw[List.head?_drop];exact cMl seed h n j hj
theorem bAq (seed:List B8) (h n:Nat):dB (lvS seed h n)=true:=by
 induction n with
 |zero=>rfl
 |succ n ih=>rw[lvS];simp only[dB,List.all_append,Bool.and_eq_true];exact⟨ih,rfl⟩
def trC (seed:List B8) (h:Nat):List AV:=c8 seed++[.sl (h+1) (lvS seed h (h+1))]
theorem aTj {a b:List B8} (h:c8 a=c8 b):a=b:=by
 have:=congrArg cI h
 rw[iA,iA]at this
 exact J0 this
theorem aAw (seed:List B8) (h:Nat) (hs:seed.length=8):(trC seed h).drop 8=[.sl (h+1) (lvS seed h (h+1))]:=by
 rw[trC,List.drop_append,List.drop_of_length_le (by rw[iM];omega),iM,hs];rfl
theorem aAv (seed:List B8) (h:Nat) (hs:seed.length=8):(trC seed h).take 8=c8 seed:=by
 rw[trC,List.take_append_of_le_length (by rw[iM];omega),List.take_of_length_le (by rw[iM];omega)]
theorem aUn {s t:List B8} {h k:Nat} (hs:s.length=8) (ht:t.length=8) (e:trC s h=trC t k):s=t∧h=k:=by
 have e1:=congrArg (List.take 8) e
 rw[aAv s h hs,aAv t k ht]at e1
 have e2:=congrArg (List.drop 8) e
 rw[aAw s h hs,aAw t k ht]at e2
 simp(failIfUnchanged:=false) only[List.cons.injEq,AV.sl.injEq]at e2
 exact⟨aTj e1,by omega⟩
open Classical in
noncomputable def unT (ts:List AV):Option (List B8×Nat):=
 if h: ∃p:List B8×Nat,p.1.length=8∧p.2≤10∧ts=trC p.1 p.2 then some (Classical.choose h)else none
theorem aIa {ts:List AV} {p:List B8×Nat} (h:unT ts=some p):p.1.length=8∧p.2≤10∧ts=trC p.1 p.2:=by
 unfold unT at h
 split at h
 ·rename_i hx
  have:=Classical.choose_spec hx
  rw[J0 h]at this
  exact this
 cases h
theorem aHz (seed:List B8) (h:Nat) (hs:seed.length=8) (hh:h≤10):unT (trC seed h)=some (seed,h):=by
 have hx: ∃p:List B8×Nat,p.1.length=8∧p.2≤10∧trC seed h=trC p.1 p.2:=⟨(seed,h),hs,hh,rfl⟩
 have h1:unT (trC seed h)=some (Classical.choose hx):=dif_pos hx
 obtain⟨a1,a2,a3⟩:=Classical.choose_spec hx
 obtain⟨e1,e2⟩:=aUn hs a1 a3
 rw[h1]
 congr 1
 exact Prod.ext e1.symm e2.symm
attribute [go_sem] sZ iW qE nE aNt bAq aAw aHz
def nD:List AV→Option AV
 |[.agg xs,.agg ys]=>aK (un8 xs) fun a=>aK (un8 ys) fun b=>aN (a.length=8∧b.length=8) (some (.agg (c8 (upL a b))))
 |_=>none
theorem bFa (xs ys:List AV):nD [.agg xs,.agg ys]=aK (un8 xs) fun a=>aK (un8 ys) fun b=>aN (a.length=8∧b.length=8) (some (.agg (c8 (upL a b)))):=(rfl)
attribute [go_sem] bFa
set_option maxHeartbeats 4000000 in
theorem bSf:cL Tryz.prog GLh 67 nD:=by
 refine cC Tryz.func67 (aT rfl) ?_
 intro args r hg
 unfold nD at hg
 split at hg
 ·rename_i xs ys
  replace hg:=aJ hg;obtain⟨a,hb,hg⟩:=hg
  replace hg:=aJ hg;obtain⟨b,hb2,hg⟩:=hg
  replace hg:=aP hg;obtain⟨⟨ha,hbl⟩,hg⟩:=hg
  obtain rfl:=J0 hg
  have:=iX _ hb;subst this
  have:=iX _ hb2;subst this
  clear hg hb hb2
  refine⟨J1 rfl,fun nx=>?_⟩
  have hs:=sZ a b
  have hf:jD 4#8 [a,b]=upL a b:=rfl
  refine aA rfl (bA [2,3,4] rfl rfl rfl fun K hK=>?_)
  simp(failIfUnchanged:=false) (disch:=omega) only[Tryz.f67,go_sem,↓reduceIte]
  refine hK _ ?_
  refine aB (aA rfl (bB (Γ:=bC [(84,.pure true kS)]) (fun k=>if k=3 then 0 else 2) [4] bZ (aH bWa aO) rfl rfl rfl (by kernel_rfl) (fun K hK=>?_)))
  simp(failIfUnchanged:=false) (disch:=omega) only[Tryz.f67,go_sem,↓reduceIte,ha,hbl,hf]
  refine hK _ ?_
  refine aB (aS rfl ?_)
  simp(failIfUnchanged:=false) (disch:=omega) only[cN,bV,bK,bQ,Tryz.f67,go_sem,↓reduceIte,ldV,kQ,hs]
 cases hg
theorem cKp:bX Tryz.prog GLh 67 (.pure true nD):=⟨⟨_,Tryz.func67,rfl,rfl⟩,bSf⟩
set_option maxHeartbeats 4000000 in
theorem cSy:cL Tryz.prog GLh 80 nD:=by
 refine cC Tryz.func80 (aT rfl) ?_
 intro args r hg
 unfold nD at hg
 split at hg
 ·rename_i xs ys
  replace hg:=aJ hg;obtain⟨a,hb,hg⟩:=hg
  replace hg:=aJ hg;obtain⟨b,hb2,hg⟩:=hg
  replace hg:=aP hg;obtain⟨⟨ha,hbl⟩,hg⟩:=hg
  obtain rfl:=J0 hg
  have:=iX _ hb;subst this
  have:=iX _ hb2;subst this
  clear hg hb hb2
  refine⟨J1 rfl,fun nx=>?_⟩
  have hs:=sZ a b
  have hf:jD 4#8 [a,b]=upL a b:=rfl
  refine aA rfl (bA [2,3,4] rfl rfl rfl fun K hK=>?_)
  simp(failIfUnchanged:=false) (disch:=omega) only[Tryz.f80,go_sem,↓reduceIte]
  refine hK _ ?_
  refine aB (aA rfl (bB (Γ:=bC [(93,.pure true kS)]) (fun k=>if k=3 then 0 else 2) [4] bZ (aH bJh aO) rfl rfl rfl (by kernel_rfl) (fun K hK=>?_)))
  simp(failIfUnchanged:=false) (disch:=omega) only[Tryz.f80,go_sem,↓reduceIte,ha,hbl,hf]
  refine hK _ ?_
  refine aB (aS rfl ?_)
  simp(failIfUnchanged:=false) (disch:=omega) only[cN,bV,bK,bQ,Tryz.f80,go_sem,↓reduceIte,ldV,kQ,hs]
 cases hg
theorem cKo:bX Tryz.prog GLh 80 (.pure true nD):=⟨⟨_,Tryz.func80,rfl,rfl⟩,cSy⟩
attribute [go_sem] aXg aXh
noncomputable def aMp:List AV→Option AV
 |[.rp ts]=>aK (unT ts) fun p=>some (.agg (c8 (iR p.1 p.2 0)))
 |_=>none
theorem bHr (ts:List AV):aMp [.rp ts]=aK (unT ts) fun p=>some (.agg (c8 (iR p.1 p.2 0))):=(rfl)
attribute [go_sem] bHr
theorem aNx (seed:List B8) (h:Nat):mO seed h h=iR seed h 0:=by
 rw[mO,Nat.sub_self];show fl _ 1=_;rw[fl,fl];rfl
set_option maxHeartbeats 4000000 in
theorem bUn:cL Tryz.prog GLh 50 aMp:=by
 refine cC Tryz.func50 (aT rfl) ?_
 intro args r hg
 unfold aMp at hg
 split at hg
 ·rename_i ts
  replace hg:=aJ hg;obtain⟨⟨seed,h⟩,hb,hg⟩:=hg
  obtain rfl:=J0 hg
  obtain⟨hs,hh,rfl⟩:=aIa hb
  simp only at hs hh
  clear hg hb
  refine⟨J1 rfl,fun nx=>?_⟩
  have hnl:=iW seed h 0
  have hlt:=aNx seed h
  refine aA rfl (bA [0,2] rfl rfl rfl fun K hK=>?_)
  simp(failIfUnchanged:=false) (disch:=omega) only[Tryz.f50,go_sem,↓reduceIte]
  refine hK _ ?_
  refine aB ?_
  have e1:(((h+1:Nat):Int)-1).toNat=h:=by omega
  refine aA rfl (bB (Γ:=aL) (fun k=>if k=11 then 0 else if k=13 then 0 else 2) [2] bZ (aD _ _) rfl rfl rfl (by kernel_rfl) (fun K hK=>?_))
  simp(failIfUnchanged:=false) (disch:=omega) only[Tryz.f50,go_sem,↓reduceIte,hlt,e1,Nat.sub_self,Nat.pow_zero,J8,Int.cast_ofNat_Int]
  refine hK _ ?_
  refine aB (aS rfl ?_)
  simp(failIfUnchanged:=false) (disch:=omega) only[cN,bV,bK,bQ,Tryz.f50,go_sem,↓reduceIte,ldV,kQ,hnl]
 cases hg
theorem ok52:bX Tryz.prog GLh 50 (.pure true aMp):=⟨⟨_,Tryz.func50,rfl,rfl⟩,bUn⟩
end Go.AX

namespace Go.AX
open Go Go.Proofs
def aRy (s:List B8) (h:Int):AV:=if 0≤h∧h≤10 then .tup [.rp (trC s h.toNat),.i 0]else .tup [.v (.pointer none),.i 70]
theorem bKe (s:List B8) (h:Nat) (hh:h≤10):aRy s (h:Int)=.tup [.rp (trC s h),.i 0]:=by
 unfold aRy;rw[J4 ⟨by omega,by omega⟩];rfl
theorem bKf (s:List B8) (h:Int) (hh:h<0∨10<h):aRy s h=.tup [.v (.pointer none),.i 70]:=by
 unfold aRy;rw[J3 (by omega)]
def bKg:List AV→Option AV
 |[.agg xs,.i h]=>aK (un8 xs) fun s=>aN (s.length=8) (some (aRy s h))
 |_=>none
theorem bWx (xs:List AV) (h:Int):bKg [.agg xs,.i h]=aK (un8 xs) fun s=>aN (s.length=8) (some (aRy s h)):=(rfl)
attribute [go_sem] bWx
theorem zc119:cG Tryz.prog 119=some (c8 (List.replicate 8 0#8)++[.v (.slice none 0 0)]):=by kernel_rfl
theorem cGq (seed:List B8) (hs:seed.length=8):cK (c8 (List.replicate 8 0#8)++[.v (.slice none 0 0)]) 0 (c8 seed)=c8 seed++[.v (.slice none 0 0)]:=by
 unfold cK
 rw[U1,List.nil_append,iM,hs]
 rfl
theorem aUl (seed:List B8) (hs:seed.length=8) (x:AV):(c8 seed++[x]).length=9:=by rw[List.length_append,iM,hs];rfl
theorem bFr (seed:List B8) (hs:seed.length=8) (x:AV):(c8 seed++[x]).drop 8=[x]:=by
 rw[List.drop_append,List.drop_of_length_le (by rw[iM];omega),iM,hs];rfl
theorem bSx (seed:List B8) (hs:seed.length=8) (x y:AV):(c8 seed++[x]).set 8 y=c8 seed++[y]:=by
 rw[List.set_append_right _ _ (by rw[iM];omega),iM,hs];rfl
theorem sE (h:Nat) (hh:h≤10):2^h≤1024:=by
 have:2^h≤2^10:=Nat.pow_le_pow_right (by omega) hh
 simpa using this
theorem bVu (h:Nat) (hh:h≤10):1#32 <<<(BitVec.ofInt 64 (h:Int)).toNat=BitVec.ofNat 32 (2^h):=by
 have e:(BitVec.ofInt 64 (h:Int)).toNat=h:=by rw[BitVec.toNat_ofInt];omega
 rw[e]
 apply BitVec.eq_of_toNat_eq
 simp[BitVec.toNat_shiftLeft,Nat.shiftLeft_eq]
theorem cGj (a b:Nat) (ha:a<4294967296) (hb:b<4294967296):(BitVec.ofNat 32 a<BitVec.ofNat 32 b)=(a<b):=by
 rw[BitVec.lt_def,BitVec.toNat_ofNat,BitVec.toNat_ofNat,Nat.mod_eq_of_lt ha,Nat.mod_eq_of_lt hb]
theorem bSo (a:Nat):BitVec.ofNat 32 a+1#32=BitVec.ofNat 32 (a+1):=by
 apply BitVec.eq_of_toNat_eq
 simp[BitVec.toNat_add]
theorem cXd:dB [.v (.pointer none),.i 70]=true:=(rfl)
theorem spl8 (l:List B8) (h:l.length=8):cK (c8 (List.replicate 8 0#8)) 0 (c8 l)=c8 l:=by
 unfold cK
 rw[U1,List.nil_append,iM,h]
 simp[c8]
theorem bPj (f:Nat→List B8):c8 (fl f 0)=[]:=(rfl)
attribute [go_sem] zc119 aXx aVn spl8 xX aSp
theorem aGv (seed:List B8) (h:Nat):fl (iR seed 0) (2^h)=mO seed h 0:=by rw[mO,Nat.sub_zero]
theorem bLc (seed:List B8) (h n:Nat):lvS seed h n++[.sl (2^(h-n)) (c8 (mO seed h n))]=lvS seed h (n+1):=rfl
theorem aCn (seed:List B8) (h j i:Nat) (hi:i<2^(h-j)):((mO seed h j).drop (i*8)).take 8=iR seed j i:=by
 rw[Nat.mul_comm,mO];exact wL _ 8 (iW seed j) _ i hi
theorem aWg (seed:List B8) (j i:Nat):upL (iR seed j (2*i)) (iR seed j (2*i+1))=iR seed (j+1) i:=rfl
theorem cFp (seed:List B8) (k:Nat):lT seed (BitVec.ofNat 32 k)=iR seed 0 k:=rfl
set_option maxHeartbeats 4000000 in
theorem cLn:cL Tryz.prog GLh 59 bKg:=by
 refine cC Tryz.func59 (aT rfl) ?_
 intro args r hg
 unfold bKg at hg
 split at hg
 ·rename_i xs h0
  replace hg:=aJ hg;obtain⟨seed,hb,hg⟩:=hg
  replace hg:=aP hg;obtain⟨hs,hg⟩:=hg
  obtain rfl:=J0 hg
  have:=iX _ hb;subst this
  clear hg hb
  refine⟨J1 rfl,fun nx=>?_⟩
  refine aA rfl (bA [1,2] rfl rfl rfl fun K hK=>?_)
  simp(failIfUnchanged:=false) (disch:=omega) only[Tryz.f59,go_sem,↓reduceIte]
  refine hK _ ?_
  refine aB (aTs rfl (aA rfl (aA rfl ?_)))
  by_cases hneg:h0<0
  ·have hd1:decide (h0<0)=true:=J5 hneg
   have hr:=bKf seed h0 (.inl hneg)
   refine bA [16,1,2] rfl rfl rfl fun K hK=>?_
   simp(failIfUnchanged:=false) (disch:=omega) only[Tryz.f59,go_sem,↓reduceIte,hd1]
   refine hK _ ?_
   refine aB (eC (.tmp 16) rfl rfl rfl (fun h=>?_) (fun h=>?_))
   ·refine aI rfl (aA rfl (bA [4,5] rfl rfl rfl fun K hK=>?_))
    simp(failIfUnchanged:=false) (disch:=omega) only[Tryz.f59,go_sem,↓reduceIte]
    refine hK _ ?_
    refine aB (aS rfl (bI (qT ?_)))
    simp(failIfUnchanged:=false) (disch:=omega) only[cN,bV,bK,bQ,Tryz.f59,go_sem,↓reduceIte,hr,cXd,bMu]
   refine aI rfl ?_
   cases h
  have hd1:decide (h0<0)=false:=J6 hneg
  by_cases hbig:10<h0
  ·have hd2:decide (10<h0)=true:=J5 hbig
   have hr:=bKf seed h0 (.inr hbig)
   refine bA [16,1,2] rfl rfl rfl fun K hK=>?_
   simp(failIfUnchanged:=false) (disch:=omega) only[Tryz.f59,go_sem,↓reduceIte,hd1,hd2]
   refine hK _ ?_
   refine aB (eC (.tmp 16) rfl rfl rfl (fun h=>?_) (fun h=>?_))
   ·refine aI rfl (aA rfl (bA [4,5] rfl rfl rfl fun K hK=>?_))
    simp(failIfUnchanged:=false) (disch:=omega) only[Tryz.f59,go_sem,↓reduceIte]
    refine hK _ ?_
    refine aB (aS rfl (bI (qT ?_)))
    simp(failIfUnchanged:=false) (disch:=omega) only[cN,bV,bK,bQ,Tryz.f59,go_sem,↓reduceIte,hr,cXd,bMu]
   refine aI rfl ?_
   cases h
  have hd2:decide (10<h0)=false:=J6 hbig
  refine bA [16,1,2] rfl rfl rfl fun K hK=>?_
  simp(failIfUnchanged:=false) (disch:=omega) only[Tryz.f59,go_sem,↓reduceIte,hd1,hd2]
  refine hK _ ?_
  refine aB (eC (.tmp 16) rfl rfl rfl (fun h=>?_) (fun h=>?_))
  ·refine aI rfl ?_
   cases h
  refine aI rfl ?_
  clear h
  obtain⟨ht,rfl⟩: ∃ht:Nat,h0=(ht:Int):=⟨h0.toNat,by omega⟩
  have hh:ht≤10:=by omega
  have hr:=bKe seed ht hh
  rw[hr]
  clear hneg hbig hd1 hd2 hr
  have hp:=sE ht hh
  refine aQ rfl (aB (aA rfl (bA [1,2,6] rfl rfl rfl fun K hK=>?_)))
  simp(failIfUnchanged:=false) (disch:=omega) only[Tryz.f59,go_sem,↓reduceIte,hs,cGq seed hs,List.all_cons,List.all_nil,Option.isSome_some,Bool.and_self]
  refine hK _ ?_
  refine aB (aA rfl (bA [1,2,6,7] rfl rfl rfl fun K hK=>?_))
  simp(failIfUnchanged:=false) (disch:=omega) only[Tryz.f59,go_sem,↓reduceIte]
  refine hK _ ?_
  refine aB ?_
  have hsh:=bVu ht hh
  refine aA rfl (aA rfl (bA [2,6,7,22,23] rfl rfl rfl fun K hK=>?_))
  simp(failIfUnchanged:=false) (disch:=omega) only[Tryz.f59,go_sem,↓reduceIte,hsh]
  refine hK _ ?_
  refine aB (iE 7 8 rfl (fF [2,6,7,22,23] ?_))
  simp(failIfUnchanged:=false) only[iB,fU,eB,↓reduceIte,Nat.reduceEqDiff]
  obtain⟨T,hT⟩: ∃T,nx+3+6+2=T:=⟨_,rfl⟩
  rw[hT]
  refine aR 0 rfl rfl ?_
  refine bR (fun p:KIC=> {fr:=[(2,.op nx 0),(6,.op T 0),(7,.os p.id 0 p.k 8 true),(22,.w32 (BitVec.ofNat 32 (2^ht))),(23,.w32 (BitVec.ofNat 32 p.k))],hp:=upd (upd (upd (fun _=>none) nx (.cells (c8 seed) true)) T (.cells (c8 seed++[.v (.slice none 0 0)]) true)) p.id (.cells (c8 (fl (iR seed 0) p.k)) true),nx:=0,cx:=p.c}) (fun p=>p.k≤2^ht∧T<p.id∧p.id<p.c) (fun p=>2^ht-p.k) rfl ⟨⟨0,_,_⟩,⟨Nat.zero_le _,by simp only;omega,by simp only;omega⟩,bD rfl rfl (U3 _)⟩ ?_
  rintro⟨k,id,c⟩ ⟨hk,hid,hc⟩ n0
  simp only at hk hid hc⊢
  have hlt:=cGj k (2^ht) (by omega) (by omega)
  refine aA rfl (bA [24,2,6,7,22,23] rfl rfl rfl fun K hK=>?_)
  simp(failIfUnchanged:=false) (disch:=omega) only[Tryz.f59,go_sem,↓reduceIte,hlt]
  refine hK _ ?_
  refine aB (aA rfl (aW (.tmp 24) rfl rfl rfl (fun h=>?_) (fun h=>?_)))
  ·refine aI rfl ?_
   have hfl:=nA _ 8 (iW seed 0) k
   have hn0:=cFp seed k
   have hnl:=iW seed 0 k
   have hsu:=bSo k
   refine aQ rfl (aB (aA rfl (aR 1 rfl rfl (aA rfl (bA [2,6,7,8,22,23] rfl rfl rfl fun K hK=>?_)))))
   simp(failIfUnchanged:=false) (disch:=omega) only[Tryz.f59,go_sem,↓reduceIte]
   refine hK _ ?_
   refine aB (aC (Γ:=bC [(66,.pure true aIw)]) [2,6,7,22,23] (aH ok33 aO) rfl rfl rfl (fun K hK=>?_))
   simp(failIfUnchanged:=false) (disch:=omega) only[Tryz.f59,go_sem,↓reduceIte,hs,hn0,hnl,hfl]
   refine hK _ ?_
   refine bU (aB (bA [2,6,7,22,23] rfl rfl rfl fun K hK=>?_))
   simp(failIfUnchanged:=false) (disch:=omega) only[Tryz.f59,go_sem,↓reduceIte,hsu]
   refine hK _ ?_
   refine bT ?_
   have hfs:fl (iR seed 0) (k+1)=fl (iR seed 0) k++iR seed 0 k:=rfl
   refine⟨⟨k+1,c+1+2+5,_⟩,⟨by simp only;omega,by simp only;omega,by simp only;omega⟩,by simp only;omega,⟨fun _=> .inr rfl,fun j o h=>?_,U3 _⟩⟩
   simp only at h
   exact bS (by simp(failIfUnchanged:=false) (disch:=omega) only[aV,↓reduceIte,eq_self,hfs]) (bS (by simp(disch:=omega) only[aV,kE,bY,↓reduceIte,eq_self]) (bS (by simp(disch:=omega) only[aV,kE,bY,↓reduceIte,eq_self]) (cB))) j o h
  refine aI rfl (bF 0 rfl rfl (aY (aZ (bE (aB (aA rfl (aTu rfl (aB (aA rfl (aR 2 rfl rfl ?_))))))))))
  obtain rfl:k=2^ht:=by omega
  rw[aGv seed ht]
  refine aDn T 1 (c8 seed) [] true (by simp(failIfUnchanged:=false) (disch:=omega) only[aV,bY,↓reduceIte,eq_self]) (by omega) ?_
  refine fF [6,7] ?_
  simp(failIfUnchanged:=false) only[iB,fU,eB,↓reduceIte,Nat.reduceEqDiff]
  refine bR (fun p:KIV=> {fr:=[(6,.op T 0),(7,.os p.id 0 (2^(ht-p.k)) 8 true)],hp:=upd (upd (upd (fun _=>none) T (.cells (c8 seed++[.os p.iv 0 p.k 1 true]) true)) p.iv (.cells (lvS seed ht p.k) true)) p.id (.cells (c8 (mO seed ht p.k)) true),nx:=0,cx:=p.c}) (fun p=>p.k≤ht∧T<p.id∧T<p.iv∧p.id≠p.iv∧p.id<p.c∧p.iv<p.c) (fun p=>ht-p.k) rfl ⟨⟨0,id,c+1,_⟩,⟨Nat.zero_le _,by simp only;omega,by simp only;omega,by simp only;omega,by simp only;omega,by simp only;omega⟩,⟨fun _=> .inr rfl,bS (by simp(failIfUnchanged:=false) (disch:=omega) only[aV,bY,↓reduceIte,eq_self]) (bS (by simp(disch:=omega) only[aV,bY,↓reduceIte,eq_self,lvS]) (bS (by simp(disch:=omega) only[aV,↓reduceIte,eq_self]) cB)),U3 _⟩⟩ ?_
  rintro⟨j,id2,iv,c2⟩ ⟨hj,hid2,hiv,hne,hc2,hc3⟩ n0
  simp only at hj hid2 hiv hne hc2 hc3⊢
  have hpw:=sE (ht-j) (by omega)
  have hll:=qE seed ht j
  have hvs:=bLc seed ht j
  have hvl:=nE seed ht j
  have hb1:=aUl seed hs
  have hb2:=bFr seed hs
  have hb3:=bSx seed hs
  obtain⟨N,hN⟩: ∃N,2^(ht-j)=N:=⟨_,rfl⟩
  rw[hN]at hpw hll hvs⊢
  have htk:List.take (N*8) (mO seed ht j)=mO seed ht j:=List.take_of_length_le (by omega)
  refine aR 3 rfl rfl (aA rfl (bA [6,7] rfl rfl rfl fun K hK=>?_))
  simp(failIfUnchanged:=false) (disch:=omega) only[Tryz.f59,go_sem,↓reduceIte,hb1,hb2,hb3,hll,hvs,hvl,htk,J8]
  refine hK _ ?_
  refine aB (aA rfl (aA rfl (bA [45,6,7] rfl rfl rfl fun K hK=>?_)))
  simp(failIfUnchanged:=false) (disch:=omega) only[Tryz.f59,go_sem,↓reduceIte]
  refine hK _ ?_
  refine aB (aW (.tmp 45) rfl rfl rfl (fun h=>?_) (fun h=>?_))
  ·refine aI rfl ?_
   obtain rfl:j=ht:=by
    rcases Nat.eq_zero_or_pos (ht-j)with h0|h0
    ·omega
    have h2:2^1≤2^(ht-j):=Nat.pow_le_pow_right (by omega) h0
    omega
   have htv:List.take (j+1) (lvS seed j (j+1))=lvS seed j (j+1):=List.take_of_length_le (by rw[nE];exact U3 _)
   refine bF 2 rfl rfl (aY (mW (aZ (bE ?_)) rfl))
   refine aB (aA rfl (bA [4,5] rfl rfl rfl fun K hK=>?_))
   simp(failIfUnchanged:=false) (disch:=omega) only[Tryz.f59,go_sem,↓reduceIte]
   refine hK _ ?_
   refine aB (aS rfl (qT ?_))
   simp(failIfUnchanged:=false) (disch:=omega) only[cN,bV,bK,bQ,Tryz.f59,go_sem,↓reduceIte,bMt,bYx,aGn,Bool.and_false,cFv,trC,htv]
  refine aI rfl ?_
  obtain⟨M,hM⟩: ∃M,2^(ht-(j+1))=M:=⟨_,rfl⟩
  have hjt:j+1≤ht:=by
   rcases Nat.eq_zero_or_pos (ht-j)with h0|h0
   ·rw[h0]at hN;simp at hN;omega
   omega
  have hNM:N=2*M:=by
   rw[←hN,←hM,show ht-j=ht-(j+1)+1 by omega,Nat.pow_succ];omega
  subst hNM
  refine aQ rfl (aB (aA rfl (bA [6,7,9] rfl rfl rfl fun K hK=>?_)))
  simp(failIfUnchanged:=false) (disch:=omega) only[Tryz.f59,go_sem,↓reduceIte]
  refine hK _ ?_
  refine aB (aA rfl (aA rfl (bA [6,7,9,10] rfl rfl rfl fun K hK=>?_)))
  simp(failIfUnchanged:=false) (disch:=omega) only[Tryz.f59,go_sem,↓reduceIte]
  refine hK _ ?_
  refine aB (iE 9 8 rfl (fF [6,7,9,10] ?_))
  simp(failIfUnchanged:=false) only[iB,fU,eB,↓reduceIte,Nat.reduceEqDiff]
  refine aR 4 rfl rfl ?_
  refine bR (fun p:KIC=> {fr:=[(6,.op T 0),(7,.os id2 0 (2*M) 8 true),(9,.os p.id 0 p.k 8 true),(10,.i (2*(p.k:Int)))],hp:=upd (upd (upd (upd (fun _=>none) T (.cells (c8 seed++[.os (c2+7) 0 (j+1) 1 true]) true)) (c2+7) (.cells (lvS seed ht (j+1)) true)) id2 (.cells (c8 (mO seed ht j)) false)) p.id (.cells (c8 (fl (iR seed (j+1)) p.k)) true),nx:=0,cx:=p.c}) (fun p=>p.k≤M∧c2+7<p.id∧p.id<p.c) (fun p=>M-p.k) rfl ⟨⟨0,_,_⟩,⟨Nat.zero_le _,by simp only;omega,by simp only;omega⟩,⟨fun _=> .inr rfl,bS (by simp(failIfUnchanged:=false) (disch:=omega) only[aV,↓reduceIte,eq_self,bPj]) (bS (by simp(disch:=omega) only[aV,kE,bY,↓reduceIte,eq_self]) (bS (by simp(disch:=omega) only[aV,bY,↓reduceIte,eq_self]) (bS (by simp(disch:=omega) only[aV,bY,↓reduceIte,eq_self]) cB))),U3 _⟩⟩ ?_
  rintro⟨k,id3,c3⟩ ⟨hk3,hid3,hc4⟩ n0
  simp only at hk3 hid3 hc4⊢
  refine aA rfl (aA rfl (bA [49,6,7,9,10] rfl rfl rfl fun K hK=>?_))
  simp(failIfUnchanged:=false) (disch:=omega) only[Tryz.f59,go_sem,↓reduceIte]
  refine hK _ ?_
  refine aB (aW (.tmp 49) rfl rfl rfl (fun h=>?_) (fun h=>?_))
  ·refine aI rfl ?_
   have hfl:=nA _ 8 (iW seed (j+1)) k
   have e1:(2*(k:Int)).toNat=2*k:=by omega
   have e2:(2*(k:Int)+1).toNat=2*k+1:=by omega
   have ha1:=aCn seed ht j (2*k) (by omega)
   have ha2:=aCn seed ht j (2*k+1) (by omega)
   have hn1:=iW seed j (2*k)
   have hn2:=iW seed j (2*k+1)
   have hn3:=aWg seed j k
   have hn4:=iW seed (j+1) k
   refine aQ rfl (aB (aA rfl (aR 5 rfl rfl (bB (Γ:=bC [(67,.pure true nD)]) (fun k=>if k=10 then 0 else if k=12 then 4098 else 2) [6,7,9,10] bZ (aH cKp aO) rfl rfl rfl (by kernel_rfl) (fun K hK=>?_)))))
   simp(failIfUnchanged:=false) (disch:=omega) only[Tryz.f59,go_sem,↓reduceIte,e1,e2,ha1,ha2,hn1,hn2,hn3,hn4,hfl,hll,List.length_drop]
   refine hK _ ?_
   refine bU (aB (bA [6,7,9,10] rfl rfl rfl fun K hK=>?_))
   simp(failIfUnchanged:=false) (disch:=omega) only[Tryz.f59,go_sem,↓reduceIte]
   refine hK _ ?_
   refine bT ?_
   have hfs:fl (iR seed (j+1)) (k+1)=fl (iR seed (j+1)) k++iR seed (j+1) k:=rfl
   refine⟨⟨k+1,c3+4+12,_⟩,⟨by simp only;omega,by simp only;omega,by simp only;omega⟩,by simp only;omega,⟨fun _=> .inr ?_,fun j o h=>?_,U3 _⟩⟩
   ·simp only[show(2*((k+1:Nat):Int))=2*(k:Int)+2 by omega]
   simp only at h
   exact bS (by simp(failIfUnchanged:=false) (disch:=omega) only[aV,↓reduceIte,eq_self,hfs]) (bS (by simp(disch:=omega) only[aV,kE,bY,↓reduceIte,eq_self]) (bS (by simp(disch:=omega) only[aV,kE,bY,↓reduceIte,eq_self]) (bS (by simp(disch:=omega) only[aV,kE,bY,↓reduceIte,eq_self]) (cB)))) j o h
  refine aI rfl (bF 4 rfl rfl (aY (aZ (bE (aB ?_)))))
  obtain rfl:k=M:=by omega
  refine bA [6,7] rfl rfl rfl fun K hK=>?_
  simp(failIfUnchanged:=false) (disch:=omega) only[Tryz.f59,go_sem,↓reduceIte]
  refine hK _ ?_
  refine bU (bT ?_)
  have hlv:mO seed ht (j+1)=fl (iR seed (j+1)) k:=by rw[mO,hM]
  refine⟨⟨j+1,id3,c2+7,_⟩,⟨by simp only;omega,by simp only;omega,by simp only;omega,by simp only;omega,by simp only;omega,by simp only;omega⟩,by simp only;omega,⟨fun _=> .inr ?_,fun j o h=>?_,U3 _⟩⟩
  ·simp only[hM]
  simp only at h
  exact bS (by simp(failIfUnchanged:=false) (disch:=omega) only[aV,↓reduceIte,eq_self,hlv]) (bS (by simp(disch:=omega) only[aV,bY,↓reduceIte,eq_self]) (bS (by simp(disch:=omega) only[aV,bY,↓reduceIte,eq_self]) (cB))) j o h
 cases hg
theorem ok51:bX Tryz.prog GLh 59 (.pure false bKg):=⟨⟨_,Tryz.func59,rfl,rfl⟩,cLn⟩
end Go.AX

namespace Go.AX
open Go Go.Proofs
def aCe:List AV→Option AV
 |[.agg xs,.i h]=>aK (un8 xs) fun s=>aN (s.length=8∧0≤h∧h≤10) (some (.sl (h.toNat+1) (lvS s h.toNat (h.toNat+1))))
 |_=>none
theorem bAb (xs:List AV) (h:Int):aCe [.agg xs,.i h]=aK (un8 xs) fun s=>aN (s.length=8∧0≤h∧h≤10) (some (.sl (h.toNat+1) (lvS s h.toNat (h.toNat+1)))):=(rfl)
attribute [go_sem] bAb
theorem bWi (k:Nat):BitVec.ofInt 32 (k:Int)=BitVec.ofNat 32 k:=by
 apply BitVec.eq_of_toNat_eq;rw[BitVec.toNat_ofInt,BitVec.toNat_ofNat];omega
theorem shI (h:Nat) (hh:h≤10):W (1*2^min h 64)=((2^h:Nat):Int):=by
 have e: ∀h:Fin 11,W (1*2^min h.1 64)=((2^h.1:Nat):Int):=by decide
 exact e ⟨h,by omega⟩
theorem bXp (seed:List B8) (h:Nat):[AV.sl (2^h) (c8 (mO seed h 0))]=lvS seed h 1:=rfl
set_option maxHeartbeats 4000000 in
theorem bJs:cL Tryz.prog GLh 65 aCe:=by
 refine cC Tryz.func65 (aT rfl) ?_
 intro args r hg
 unfold aCe at hg
 split at hg
 ·rename_i xs h0
  replace hg:=aJ hg;obtain⟨seed,hb,hg⟩:=hg
  replace hg:=aP hg;obtain⟨⟨hs,hh0,hh⟩,hg⟩:=hg
  obtain rfl:=J0 hg
  have:=iX _ hb;subst this
  obtain⟨ht,rfl⟩:=Int.eq_ofNat_of_zero_le hh0
  simp(failIfUnchanged:=false) only[U2]at*
  clear hg hb hh0
  have hh:ht≤10:=by omega
  refine⟨J1 rfl,fun nx=>?_⟩
  have hp:=sE ht hh
  refine aA rfl (bA [1,2] rfl rfl rfl fun K hK=>?_)
  simp(failIfUnchanged:=false) (disch:=omega) only[Tryz.f65,go_sem,↓reduceIte]
  refine hK _ ?_
  refine aB (aA rfl (bA [1,2,5] rfl rfl rfl fun K hK=>?_))
  simp(failIfUnchanged:=false) (disch:=omega) only[Tryz.f65,go_sem,↓reduceIte]
  refine hK _ ?_
  refine aB (aA rfl (aA rfl (bA [1,2,5,6] rfl rfl rfl fun K hK=>?_)))
  simp(failIfUnchanged:=false) (disch:=omega) only[Tryz.f65,go_sem,↓reduceIte]
  refine hK _ ?_
  refine aB (iE 5 8 rfl (fF [1,2,5,6] ?_))
  simp(failIfUnchanged:=false) only[iB,fU,eB,↓reduceIte,Nat.reduceEqDiff]
  refine aR 0 rfl rfl ?_
  refine bR (fun p:KIC=> {fr:=[(1,.i ht),(2,.op nx 0),(5,.os p.id 0 p.k 8 true),(6,.i p.k)],hp:=upd (upd (fun _=>none) nx (.cells (c8 seed) true)) p.id (.cells (c8 (fl (iR seed 0) p.k)) true),nx:=0,cx:=p.c}) (fun p=>p.k≤2^ht∧nx<p.id∧p.id<p.c) (fun p=>2^ht-p.k) rfl ⟨⟨0,_,_⟩,⟨Nat.zero_le _,by simp only;omega,by simp only;omega⟩,bD rfl rfl (U3 _)⟩ ?_
  rintro⟨k,id,c⟩ ⟨hk,hid,hc⟩ n0
  simp only at hk hid hc⊢
  have hsh:=shI ht hh
  refine aA rfl (aA rfl (bA [13,1,2,5,6] rfl rfl rfl fun K hK=>?_))
  simp(failIfUnchanged:=false) (disch:=omega) only[Tryz.f65,go_sem,↓reduceIte,hsh]
  refine hK _ ?_
  refine aB (aW (.tmp 13) rfl rfl rfl (fun h=>?_) (fun h=>?_))
  ·refine aI rfl ?_
   have hfl:=nA _ 8 (iW seed 0) k
   have hn0:=cFp seed k
   have hnl:=iW seed 0 k
   have ho:=bWi k
   refine aQ rfl (aB (aA rfl (aR 1 rfl rfl (aC (Γ:=bC [(79,.pure true aIw)]) [1,2,5,6] (aH ok34 aO) rfl rfl rfl (fun K hK=>?_)))))
   simp(failIfUnchanged:=false) (disch:=omega) only[Tryz.f65,go_sem,↓reduceIte,hs,hn0,hnl,hfl,ho]
   refine hK _ ?_
   refine bU (aB (bA [1,2,5,6] rfl rfl rfl fun K hK=>?_))
   simp(failIfUnchanged:=false) (disch:=omega) only[Tryz.f65,go_sem,↓reduceIte]
   refine hK _ ?_
   refine bT ?_
   have hfs:fl (iR seed 0) (k+1)=fl (iR seed 0) k++iR seed 0 k:=rfl
   refine⟨⟨k+1,c+4+6,_⟩,⟨by simp only;omega,by simp only;omega,by simp only;omega⟩,by simp only;omega,⟨fun _=> .inr rfl,fun j o h=>?_,U3 _⟩⟩
   simp only at h
   exact bS (by simp(failIfUnchanged:=false) (disch:=omega) only[aV,↓reduceIte,eq_self,hfs]) (bS (by simp(disch:=omega) only[aV,kE,bY,↓reduceIte,eq_self]) (cB)) j o h
  refine aI rfl (bF 0 rfl rfl (aY (aZ (bE (aB (aA rfl ?_))))))
  obtain rfl:k=2^ht:=by omega
  rw[aGv seed ht]
  have hll0:=qE seed ht 0
  rw[Nat.sub_zero]at hll0
  refine bA [5,7] rfl rfl rfl fun K hK=>?_
  simp(failIfUnchanged:=false) (disch:=omega) only[Tryz.f65,go_sem,↓reduceIte]
  refine hK _ ?_
  refine aB ?_
  have htk0:List.take (2^ht*8) (mO seed ht 0)=mO seed ht 0:=List.take_of_length_le (by omega)
  refine cDw (c+4+1) [AV.os id 0 (2^ht) 8 true] (lvS seed ht 1) (by simp(failIfUnchanged:=false) (disch:=omega) only[aV,↓reduceIte])
   (by
    simp(failIfUnchanged:=false) (disch:=omega) only[uU,gH,List.any_cons,wG,Bool.true_or,Bool.not_true,Bool.false_eq_true,xX,aV,bY,↓reduceIte,aX,aSp,iM,hll0]
    rw[cU _ (by omega),J9,rH,htk0,bXp])
   (by simp(failIfUnchanged:=false) (disch:=omega) only[aV,bY,↓reduceIte]) ?_
  refine aA rfl (aR 2 rfl rfl ?_)
  refine bR (fun p:KIV=> {fr:=[(5,.os p.id 0 (2^(ht-p.k)) 8 true),(7,.os p.iv 0 (p.k+1) 1 true)],hp:=upd (upd (fun _=>none) p.iv (.cells (lvS seed ht (p.k+1)) true)) p.id (.cells (c8 (mO seed ht p.k)) false),nx:=0,cx:=p.c}) (fun p=>p.k≤ht∧p.id≠p.iv∧p.id<p.c∧p.iv<p.c) (fun p=>ht-p.k) rfl ⟨⟨0,id,c+4+1,_⟩,⟨Nat.zero_le _,by simp only;omega,by simp only;omega,by simp only;omega⟩,⟨fun _=> .inr rfl,bS (by simp(failIfUnchanged:=false) (disch:=omega) only[aV,bY,↓reduceIte,eq_self]) (bS (by simp(disch:=omega) only[aV,↓reduceIte,eq_self]) cB),U3 _⟩⟩ ?_
  rintro⟨j,id2,iv,c2⟩ ⟨hj,hne,hc2,hc3⟩ n0
  simp only at hj hne hc2 hc3⊢
  have hpw:=sE (ht-j) (by omega)
  have hll:=qE seed ht j
  have hvl:=nE seed ht (j+1)
  obtain⟨N,hN⟩: ∃N,2^(ht-j)=N:=⟨_,rfl⟩
  rw[hN]at hpw hll⊢
  refine aA rfl (aA rfl (bA [27,5,7] rfl rfl rfl fun K hK=>?_))
  simp(failIfUnchanged:=false) (disch:=omega) only[Tryz.f65,go_sem,↓reduceIte]
  refine hK _ ?_
  refine aB (aW (.tmp 27) rfl rfl rfl (fun h=>?_) (fun h=>?_))
  ·refine aI rfl ?_
   obtain⟨M,hM⟩: ∃M,2^(ht-(j+1))=M:=⟨_,rfl⟩
   have hjt:j+1≤ht:=by
    rcases Nat.eq_zero_or_pos (ht-j)with h0|h0
    ·rw[h0]at hN;simp at hN;omega
    omega
   have hNM:N=2*M:=by
    rw[←hN,←hM,show ht-j=ht-(j+1)+1 by omega,Nat.pow_succ];omega
   subst hNM
   have hll1:=qE seed ht (j+1)
   rw[hM]at hll1
   have hvs:lvS seed ht (j+1)++[.sl M (c8 (mO seed ht (j+1)))]=lvS seed ht (j+2):=by rw[←hM];rfl
   have hlv:mO seed ht (j+1)=fl (iR seed (j+1)) M:=by rw[mO,hM]
   refine aQ rfl (aB (aR 3 rfl rfl (aA rfl (bA [5,7,8] rfl rfl rfl fun K hK=>?_))))
   simp(failIfUnchanged:=false) (disch:=omega) only[Tryz.f65,go_sem,↓reduceIte]
   refine hK _ ?_
   refine aB (aA rfl (aA rfl (bA [5,7,8,9] rfl rfl rfl fun K hK=>?_)))
   simp(failIfUnchanged:=false) (disch:=omega) only[Tryz.f65,go_sem,↓reduceIte]
   refine hK _ ?_
   refine aB (iE 8 8 rfl (fF [5,7,8,9] ?_))
   simp(failIfUnchanged:=false) only[iB,fU,eB,↓reduceIte,Nat.reduceEqDiff]
   refine aR 4 rfl rfl ?_
   refine bR (fun p:KIC=> {fr:=[(5,.os id2 0 (2*M) 8 true),(7,.os iv 0 (j+1) 1 true),(8,.os p.id 0 p.k 8 true),(9,.i (2*(p.k:Int)))],hp:=upd (upd (upd (fun _=>none) iv (.cells (lvS seed ht (j+1)) true)) id2 (.cells (c8 (mO seed ht j)) false)) p.id (.cells (c8 (fl (iR seed (j+1)) p.k)) true),nx:=0,cx:=p.c}) (fun p=>p.k≤M∧c2≤p.id∧p.id<p.c) (fun p=>M-p.k) rfl ⟨⟨0,_,_⟩,⟨Nat.zero_le _,by simp only;omega,by simp only;omega⟩,⟨fun _=> .inr rfl,bS (by simp(failIfUnchanged:=false) (disch:=omega) only[aV,↓reduceIte,eq_self,bPj]) (bS (by simp(disch:=omega) only[aV,bY,↓reduceIte,eq_self]) (bS (by simp(disch:=omega) only[aV,bY,↓reduceIte,eq_self]) cB)),U3 _⟩⟩ ?_
   rintro⟨k,id3,c3⟩ ⟨hk3,hid3,hc4⟩ n0
   simp only at hk3 hid3 hc4⊢
   refine aA rfl (aA rfl (bA [31,5,7,8,9] rfl rfl rfl fun K hK=>?_))
   simp(failIfUnchanged:=false) (disch:=omega) only[Tryz.f65,go_sem,↓reduceIte]
   refine hK _ ?_
   refine aB (aW (.tmp 31) rfl rfl rfl (fun h=>?_) (fun h=>?_))
   ·refine aI rfl ?_
    have hfl:=nA _ 8 (iW seed (j+1)) k
    have e1:(2*(k:Int)).toNat=2*k:=by omega
    have e2:(2*(k:Int)+1).toNat=2*k+1:=by omega
    have ha1:=aCn seed ht j (2*k) (by omega)
    have ha2:=aCn seed ht j (2*k+1) (by omega)
    have hn1:=iW seed j (2*k)
    have hn2:=iW seed j (2*k+1)
    have hn3:=aWg seed j k
    have hn4:=iW seed (j+1) k
    refine aQ rfl (aB (aA rfl (aR 5 rfl rfl (bB (Γ:=bC [(80,.pure true nD)]) (fun k=>if k=10 then 0 else if k=12 then 4098 else 2) [5,7,8,9] bZ (aH cKo aO) rfl rfl rfl (by kernel_rfl) (fun K hK=>?_)))))
    simp(failIfUnchanged:=false) (disch:=omega) only[Tryz.f65,go_sem,↓reduceIte,e1,e2,ha1,ha2,hn1,hn2,hn3,hn4,hfl,hll,List.length_drop]
    refine hK _ ?_
    refine bU (aB (bA [5,7,8,9] rfl rfl rfl fun K hK=>?_))
    simp(failIfUnchanged:=false) (disch:=omega) only[Tryz.f65,go_sem,↓reduceIte]
    refine hK _ ?_
    refine bT ?_
    have hfs:fl (iR seed (j+1)) (k+1)=fl (iR seed (j+1)) k++iR seed (j+1) k:=rfl
    refine⟨⟨k+1,c3+4+12,_⟩,⟨by simp only;omega,by simp only;omega,by simp only;omega⟩,by simp only;omega,⟨fun _=> .inr ?_,fun j o h=>?_,U3 _⟩⟩
    ·simp only[show(2*((k+1:Nat):Int))=2*(k:Int)+2 by omega]
    simp only at h
    exact bS (by simp(failIfUnchanged:=false) (disch:=omega) only[aV,↓reduceIte,eq_self,hfs]) (bS (by simp(disch:=omega) only[aV,kE,bY,↓reduceIte,eq_self]) (bS (by simp(disch:=omega) only[aV,kE,bY,↓reduceIte,eq_self]) (cB))) j o h
   refine aI rfl (bF 4 rfl rfl (aY (aZ (bE (aB (aA rfl ?_))))))
   obtain rfl:k=M:=by omega
   rw[←hlv]
   have htk:List.take (k*8) (mO seed ht (j+1))=mO seed ht (j+1):=List.take_of_length_le (by omega)
   refine bA [7,8] rfl rfl rfl fun K hK=>?_
   simp(failIfUnchanged:=false) (disch:=omega) only[Tryz.f65,go_sem,↓reduceIte,hll1,hvs,hvl,htk]
   refine hK _ ?_
   refine aB (bA [5,7] rfl rfl rfl fun K hK=>?_)
   simp(failIfUnchanged:=false) (disch:=omega) only[Tryz.f65,go_sem,↓reduceIte]
   refine hK _ ?_
   refine bU (bT ?_)
   trace_state
   refine⟨⟨j+1,id3,c3+4+3,_⟩,⟨by simp only;omega,by simp only;omega,by simp only;omega,by simp only;omega⟩,by simp only;omega,⟨fun _=> .inr ?_,fun j o h=>?_,U3 _⟩⟩
   ·simp only[hM]
   simp only at h
   exact bS (by simp(failIfUnchanged:=false) (disch:=omega) only[aV,kE,bY,↓reduceIte,eq_self]) (bS (by simp(disch:=omega) only[aV,↓reduceIte,eq_self]) (cB)) j o h
  refine aI rfl ?_
  obtain rfl:j=ht:=by
   rcases Nat.eq_zero_or_pos (ht-j)with h0|h0
   ·omega
   have h2:2^1≤2^(ht-j):=Nat.pow_le_pow_right (by omega) h0
   omega
  refine bF 2 rfl rfl (aY (aZ (bE (aB (aA rfl ?_)))))
  have htv:List.take (j+1) (lvS seed j (j+1))=lvS seed j (j+1):=List.take_of_length_le (by omega)
  refine bA [4] rfl rfl rfl fun K hK=>?_
  simp(failIfUnchanged:=false) (disch:=omega) only[Tryz.f65,go_sem,↓reduceIte]
  refine hK _ ?_
  refine aB (aS rfl ?_)
  simp(failIfUnchanged:=false) (disch:=omega) only[cN,bV,bK,bQ,Tryz.f65,go_sem,↓reduceIte,htv,hvl]
 cases hg
theorem ok59:bX Tryz.prog GLh 65 (.pure false aCe):=⟨⟨_,Tryz.func65,rfl,rfl⟩,bJs⟩
def xM:List AV→Option AV
 |[.agg xs,.i h]=>aK (un8 xs) fun s=>aN (s.length=8∧0≤h∧h≤10) (some (.agg (c8 (iR s h.toNat 0))))
 |_=>none
theorem aZn (xs:List AV) (h:Int):xM [.agg xs,.i h]=aK (un8 xs) fun s=>aN (s.length=8∧0≤h∧h≤10) (some (.agg (c8 (iR s h.toNat 0)))):=(rfl)
attribute [go_sem] aZn
set_option maxHeartbeats 4000000 in
theorem bHm:cL Tryz.prog GLh 57 xM:=by
 refine cC Tryz.func57 (aT rfl) ?_
 intro args r hg
 unfold xM at hg
 split at hg
 ·rename_i xs h0
  replace hg:=aJ hg;obtain⟨seed,hb,hg⟩:=hg
  replace hg:=aP hg;obtain⟨⟨hs,hh0,hh⟩,hg⟩:=hg
  obtain rfl:=J0 hg
  have:=iX _ hb;subst this
  obtain⟨h,rfl⟩:=Int.eq_ofNat_of_zero_le hh0
  simp(failIfUnchanged:=false) only[U2]at*
  clear hg hb hh0
  refine⟨J1 rfl,fun nx=>?_⟩
  have hnl:=iW seed h 0
  have hlt:=aNx seed h
  have e1:(((h+1:Nat):Int)-1).toNat=h:=by omega
  refine aA rfl (bA [1,2,4] rfl rfl rfl fun K hK=>?_)
  simp(failIfUnchanged:=false) (disch:=omega) only[Tryz.f57,go_sem,↓reduceIte]
  refine hK _ ?_
  refine aB (aA rfl (aC (Γ:=bC [(65,.pure false aCe)]) [4,5] (aH ok59 aO) rfl rfl rfl (fun K hK=>?_)))
  simp(failIfUnchanged:=false) (disch:=omega) only[Tryz.f57,go_sem,↓reduceIte,hs,U2]
  refine hK _ ?_
  refine aB (aA rfl (bA [4] rfl rfl rfl fun K hK=>?_))
  simp(failIfUnchanged:=false) (disch:=omega) only[Tryz.f57,go_sem,↓reduceIte,hlt,e1,Nat.sub_self,Nat.pow_zero,Int.cast_ofNat_Int]
  refine hK _ ?_
  refine aB (aS rfl ?_)
  simp(failIfUnchanged:=false) (disch:=omega) only[cN,bV,bK,bQ,Tryz.f57,go_sem,↓reduceIte,ldV,kQ,hnl]
 cases hg
theorem cWo:bX Tryz.prog GLh 57 (.pure true xM):=⟨⟨_,Tryz.func57,rfl,rfl⟩,bHm⟩
end Go.AX

namespace Go.AX
open Go Go.Proofs
end Go.AX

namespace Go.AX
open Go Go.Proofs
open Classical in
attribute [go_sem] List.getElem?_cons_zero List.getElem?_cons_succ Bool.and_true Bool.true_and Bool.and_self
end Go.AX

namespace Go.AX
open Go Go.Proofs
set_option maxRecDepth 100000
def lO:List B8:=[5#8,0#8,0#8,0#8,0#8,0#8,0#8,0#8]
theorem aFr:lO.length=8:=rfl
theorem aFs:big lO=360287970189639680:=by decide
theorem k8p0:aEd 360287970189639680 0 (fun _=>0)=13613509030940369981:=by kernel_rfl
theorem k8p1:aEd 360287970189639680 1 (fun _=>0)=879223787661787384:=by kernel_rfl
theorem k8p2:aEd 360287970189639680 2 (fun _=>0)=5694164919684500121:=by kernel_rfl
theorem k8p3:aEd 360287970189639680 3 (fun _=>0)=217742532806062200:=by kernel_rfl
theorem nb (i:Nat) (hi:i<4294967296):big (iR lO 0 i)=aEd 360287970189639680 i (fun _=>0):=by
 rw[iR,bVd lO aFr,aFs,BitVec.toNat_ofNat,Nat.mod_eq_of_lt hi]
theorem n0:big (iR lO 0 0)=13613509030940369981:=by rw[nb 0 (by omega),k8p0]
theorem n1:big (iR lO 0 1)=879223787661787384:=by rw[nb 1 (by omega),k8p1]
theorem n2:big (iR lO 0 2)=5694164919684500121:=by rw[nb 2 (by omega),k8p2]
theorem n3:big (iR lO 0 3)=217742532806062200:=by rw[nb 3 (by omega),k8p3]
end Go.AX

namespace Go.AX
open Go Go.Proofs
structure S8 where
 a:B8
 b:B8
 c:B8
 d:B8
 e:B8
 f:B8
 g:B8
 h:B8
def S8.l (s:S8):List B8:=[s.a,s.b,s.c,s.d,s.e,s.f,s.g,s.h]
theorem S8.len (s:S8):s.l.length=8:=rfl
theorem S8.inj {s t:S8} (h:s.l=t.l):s=t:=by
 obtain⟨_,_,_,_,_,_,_,_⟩:=s
 obtain⟨_,_,_,_,_,_,_,_⟩:=t
 simp only[S8.l,List.cons.injEq,and_true]at h
 obtain⟨rfl,rfl,rfl,rfl,rfl,rfl,rfl,rfl⟩:=h
 rfl
theorem S8.of {l:List B8} (h:l.length=8): ∃s:S8,l=s.l:=by
 match l,h with
 |[a,b,c,d,e,f,g,h],_=>exact⟨⟨a,b,c,d,e,f,g,h⟩,rfl⟩
structure KY where
 id:W32
 role:Int
 st:Int
 seed:S8
 h:Nat
 next:W32
 since:W32
 seen:W32
def kyC (k:KY):List AV:=[.w32 k.id,.i k.role,.i k.st,.w8 k.seed.a,.w8 k.seed.b,.w8 k.seed.c,.w8 k.seed.d,.w8 k.seed.e,.w8 k.seed.f,.w8 k.seed.g,.w8 k.seed.h,.i k.h,.w32 k.next,.w32 k.since,.w32 k.seen]
theorem aJn {a b:KY} (h:kyC a=kyC b):a=b:=by
 obtain⟨_,_,_,⟨_,_,_,_,_,_,_,_⟩,_,_,_,_⟩:=a
 obtain⟨_,_,_,⟨_,_,_,_,_,_,_,_⟩,_,_,_,_⟩:=b
 simp only[kyC,List.cons.injEq,AV.w32.injEq,AV.i.injEq,AV.w8.injEq,and_true]at h
 obtain⟨rfl,rfl,rfl,rfl,rfl,rfl,rfl,rfl,rfl,rfl,rfl,h1,rfl,rfl,rfl⟩:=h
 obtain rfl:=Int.ofNat.inj h1
 rfl
def uV (k:KY):AV:=.agg (kyC k)
theorem bNq {a b:KY} (h:uV a=uV b):a=b:=aJn (AV.agg.inj h)
structure TK where
 seed:S8
 h:Nat
def aOt (t:TK):AV:=.rp (trC t.seed.l t.h)
theorem bNp {a b:TK} (h:aOt a=aOt b):a=b:=by
 obtain⟨e1,e2⟩:=aUn a.seed.len b.seed.len (AV.rp.inj h)
 obtain⟨s,n⟩:=a
 obtain⟨t,m⟩:=b
 obtain rfl:=S8.inj e1
 cases e2
 rfl
structure CF where
 apx:List (List B8)
 kt:W32
 pr:W32
 dt:W32
 dp:W32
 va:W32
 le:W32
 ga:W32
 mx:W32
 salt:List B8
 iter:BitVec 16
 h:Nat
 size:BitVec 16
def cfC (c:CF):List AV:=[.sl c.apx.length (cS c.apx),.w32 c.kt,.w32 c.pr,.w32 c.dt,.w32 c.dp,.w32 c.va,.w32 c.le,.w32 c.ga,.w32 c.mx,.sl c.salt.length (c8 c.salt),.w16 c.iter,.i c.h,.w16 c.size]
theorem jI (c:CF):cfC c=[.sl c.apx.length (cS c.apx),.w32 c.kt,.w32 c.pr,.w32 c.dt,.w32 c.dp,.w32 c.va,.w32 c.le,.w32 c.ga,.w32 c.mx,.sl c.salt.length (c8 c.salt),.w16 c.iter,.i c.h,.w16 c.size]:=rfl
theorem cQp {a b:List (List B8)} (h:cS a=cS b):a=b:=by
 have h1:=aQr a
 rw[h,aQr]at h1
 exact(J0 h1).symm
theorem aKb {a b:CF} (h:cfC a=cfC b):a=b:=by
 obtain⟨_,_,_,_,_,_,_,_,_,_,_,_,_⟩:=a
 obtain⟨_,_,_,_,_,_,_,_,_,_,_,_,_⟩:=b
 simp only[cfC,List.cons.injEq,AV.w32.injEq,AV.i.injEq,AV.w16.injEq,AV.sl.injEq,and_true]at h
 obtain⟨⟨_,h1⟩,rfl,rfl,rfl,rfl,rfl,rfl,rfl,rfl,⟨_,h2⟩,rfl,h3,rfl⟩:=h
 obtain rfl:=cQp h1
 obtain rfl:=aTj h2
 obtain rfl:=Int.ofNat.inj h3
 rfl
open Classical in
noncomputable def oW (xs:List AV):Option CF:=if h: ∃c,xs=cfC c then some (Classical.choose h)else none
theorem aDi (c:CF):oW (cfC c)=some c:=by
 have hx: ∃c',cfC c=cfC c':=⟨c,rfl⟩
 unfold oW
 rw[dif_pos hx]
 exact congrArg some (aKb (Classical.choose_spec hx)).symm
theorem lF {xs:List AV} {c:CF} (h:oW xs=some c):xs=cfC c:=by
 unfold oW at h
 split at h
 ·rename_i hx
  rw[←J0 h]
  exact Classical.choose_spec hx
 cases h
structure RC where
 c:CF
 by':List (W32×KY)
 last:W32
 tr:List (W32×TK)
def rD (l:List (W32×KY)):List (AV×AV):=l.map fun p=>(.w32 p.1,uV p.2)
def pG (l:List (W32×TK)):List (AV×AV):=l.map fun p=>(.w32 p.1,aOt p.2)
theorem aCk {α β:Type} {f:α→β} (hf: ∀a b,f a=f b→a=b): ∀ {l l':List α},l.map f=l'.map f→l=l'
 |[],[],_=>rfl
 |[],_::_,h=>by cases h
 |_::_,[],h=>by cases h
 |a::r,b::r',h=>by
  simp only[List.map_cons,List.cons.injEq]at h
  rw[hf a b h.1,aCk hf h.2]
theorem bNr {a b:List (W32×KY)} (h:rD a=rD b):a=b:=aCk (fun p q e=>by
 obtain⟨e1,e2⟩:=Prod.mk.inj e
 exact Prod.ext (AV.w32.inj e1) (bNq e2)) h
theorem bBr {a b:List (W32×TK)} (h:pG a=pG b):a=b:=aCk (fun p q e=>by
 obtain⟨e1,e2⟩:=Prod.mk.inj e
 exact Prod.ext (AV.w32.inj e1) (bNp e2)) h
def rgC (s m:Nat) (C:RC):List AV:=[.sl C.c.apx.length (cS C.c.apx),.w32 C.c.kt,.w32 C.c.pr,.w32 C.c.dt,.w32 C.c.dp,.w32 C.c.va,.w32 C.c.le,.w32 C.c.ga,.w32 C.c.mx,.sl C.c.salt.length (c8 C.c.salt),.w16 C.c.iter,.i C.c.h,.w16 C.c.size,.mp s,.w32 C.last,.mp m]
theorem jA (s m:Nat) (C:RC):rgC s m C=[.sl C.c.apx.length (cS C.c.apx),.w32 C.c.kt,.w32 C.c.pr,.w32 C.c.dt,.w32 C.c.dp,.w32 C.c.va,.w32 C.c.le,.w32 C.c.ga,.w32 C.c.mx,.sl C.c.salt.length (c8 C.c.salt),.w16 C.c.iter,.i C.c.h,.w16 C.c.size,.mp s,.w32 C.last,.mp m]:=rfl
theorem bUp {s m s' m':Nat} {C C':RC} (h:rgC s m C=rgC s' m' C'):s=s'∧m=m'∧C.c=C'.c∧C.last=C'.last:=by
 have e:rgC s m C=cfC C.c++[.mp s,.w32 C.last,.mp m]:=rfl
 have e':rgC s' m' C'=cfC C'.c++[.mp s',.w32 C'.last,.mp m']:=rfl
 rw[e,e']at h
 obtain⟨h1,h2⟩:=List.append_inj h rfl
 simp only[List.cons.injEq,AV.mp.injEq,AV.w32.injEq,and_true]at h2
 exact⟨h2.1,h2.2.2,aKb h1,h2.2.1⟩
structure aDt (hp:H) (d s m:Nat) (C:RC):Prop where
 hd:hp d=some (.cells (rgC s m C) true)
 hs:hp s=some (.mapo (rD C.by') true)
 hm:hp m=some (.mapo (pG C.tr) true)
 ne:d≠s∧d≠m∧s≠m∧s≠d∧m≠d∧m≠s
def iL (d s m:Nat) (C:RC) (hp:H):H:=upd (upd (upd hp s (.mapo (rD C.by') true)) m (.mapo (pG C.tr) true)) d (.cells (rgC s m C) true)
theorem aDt.uniq {hp:H} {d s m s' m':Nat} {C C':RC} (h:aDt hp d s m C) (h':aDt hp d s' m' C'):s=s'∧m=m'∧C=C':=by
 have e:=h.hd.symm.trans h'.hd
 obtain⟨rfl,rfl,ec,el⟩:=bUp (AO.cells.inj (J0 e)).1
 have eb:=bNr (AO.mapo.inj (J0 (h.hs.symm.trans h'.hs))).1
 have et:=bBr (AO.mapo.inj (J0 (h.hm.symm.trans h'.hm))).1
 obtain⟨c1,b1,l1,t1⟩:=C
 obtain⟨c2,b2,l2,t2⟩:=C'
 simp only at ec el eb et
 subst ec;subst el;subst eb;subst et
 exact⟨rfl,rfl,rfl⟩
structure RT where
 s:Nat
 m:Nat
 C:RC
open Classical in
noncomputable def iN (hp:H) (d:Nat):Option RT:=if h: ∃t:RT,aDt hp d t.s t.m t.C then some (Classical.choose h)else none
theorem aFy {hp:H} {d s m:Nat} {C:RC} (h:aDt hp d s m C):iN hp d=some ⟨s,m,C⟩:=by
 have hx: ∃t:RT,aDt hp d t.s t.m t.C:=⟨⟨s,m,C⟩,h⟩
 unfold iN
 rw[dif_pos hx]
 have h2:=Classical.choose_spec hx
 obtain⟨e1,e2,e3⟩:=h2.uniq h
 congr 1
 generalize Classical.choose hx=t at e1 e2 e3
 cases t;simp only at e1 e2 e3;rw[e1,e2,e3]
theorem iV {hp:H} {d:Nat} {t:RT} (h:iN hp d=some t):aDt hp d t.s t.m t.C:=by
 unfold iN at h
 split at h
 ·rename_i hx
  obtain rfl:=J0 h
  exact Classical.choose_spec hx
 cases h
theorem bGx {hp:H} {d s m:Nat} {C:RC} (h1:d≠s) (h2:d≠m) (h3:s≠m):aDt (iL d s m C hp) d s m C:=
 ⟨by simp[iL,bJ],by simp[iL,bJ,Ne.symm h1,h3],by simp[iL,bJ,Ne.symm h2],⟨h1,h2,h3,Ne.symm h1,Ne.symm h2,Ne.symm h3⟩⟩
theorem aVk (hp:H) (d s m:Nat) (C:RC) (h1:d≠s) (h2:d≠m) (h3:s≠m):iN (iL d s m C hp) d=some ⟨s,m,C⟩:=aFy (bGx h1 h2 h3)
theorem rZ (hp:H) (d s m:Nat) (C C':RC):iL d s m C' (iL d s m C hp)=iL d s m C' hp:=by
 funext k
 simp only[iL,bJ]
 by_cases h1:k=d
 ·simp[h1]
 by_cases h2:k=m
 ·simp[h2]
 by_cases h3:k=s
 ·simp[h3]
 simp[h1,h2,h3]
theorem jN (hp:H) (d s m:Nat) (C:RC) (k:Nat) (h1:k≠d) (h2:k≠s) (h3:k≠m):iL d s m C hp k=hp k:=by simp[iL,bJ,h1,h2,h3]
theorem jJ (hp:H) (d s m:Nat) (C:RC) (k:Nat) (o:AO) (h1:k≠d) (h2:k≠s) (h3:k≠m):upd (iL d s m C hp) k o=iL d s m C (upd hp k o):=by
 funext j
 simp only[iL,bJ]
 by_cases e:j=k
 ·subst e;simp[h1,h2,h3]
 simp[e]
theorem pY (hp:H) (d s m:Nat) (C:RC) (k:Nat) (h1:k≠d) (h2:k≠s) (h3:k≠m):del (iL d s m C hp) k=iL d s m C (del hp k):=by
 funext j
 simp only[iL,bJ,eV]
 by_cases e:j=k
 ·subst e;simp[h1,h2,h3]
 simp[e]
theorem iQ {hp:H} {d s m:Nat} {C:RC} (h:aDt hp d s m C):iL d s m C hp=hp:=by
 funext k
 simp only[iL,bJ]
 by_cases h1:k=d
 ·subst h1;rw[J4 rfl,h.hd]
 rw[J3 h1]
 by_cases h2:k=m
 ·subst h2;rw[J4 rfl,h.hm]
 rw[J3 h2]
 by_cases h3:k=s
 ·subst h3;rw[J4 rfl,h.hs]
 rw[J3 h3]
theorem oK {hp t:H} {d s m:Nat} {C:RC} (h1:t d=some (.cells (rgC s m C) true)) (h2:t s=some (.mapo (rD C.by') true)) (h3:t m=some (.mapo (pG C.tr) true))
  (h: ∀k o,k≠d→k≠s→k≠m→hp k=some o→t k=some o) (k:Nat) (o:AO) (hk:iL d s m C hp k=some o):t k=some o:=by
 simp only[iL,bJ]at hk
 by_cases e1:k=d
 ·subst e1;rw[J4 rfl]at hk;rw[h1];exact hk
 ·rw[J3 e1]at hk
  by_cases e2:k=m
  ·subst e2;rw[J4 rfl]at hk;rw[h3];exact hk
  ·rw[J3 e2]at hk
   by_cases e3:k=s
   ·subst e3;rw[J4 rfl]at hk;rw[h2];exact hk
   ·rw[J3 e3]at hk;exact h k o e1 e3 e2 hk
theorem hU {hp hp2:H} {d s m:Nat} {C:RC} (h: ∀j o,hp j=some o→hp2 j=some o) (k:Nat) (o:AO) (hk:iL d s m C hp k=some o):iL d s m C hp2 k=some o:=by
 simp only[iL,bJ]at hk⊢
 by_cases e1:k=d
 ·rw[J4 e1]at hk⊢;exact hk
 rw[J3 e1]at hk⊢
 by_cases e2:k=m
 ·rw[J4 e2]at hk⊢;exact hk
 rw[J3 e2]at hk⊢
 by_cases e3:k=s
 ·rw[J4 e3]at hk⊢;exact hk
 rw[J3 e3]at hk⊢;exact h k o hk
theorem lI {hp:H} {nx d:Nat} {o:AO} (hn: ∀id,nx≤id→hp id=none) (h:hp d=some o):d<nx:=by
 rcases Nat.lt_or_ge d nx with e|e
 ·exact e
 rw[hn d e]at h;cases h
theorem bNs (k:W32) (l:List (W32×KY)):aNp (.w32 k) (rD l)=some ((iK k l).map uV):=aNo (kc:=.w32) xV uV k l
theorem aOu (k:W32) (v:KY) (l:List (W32×KY)):aEh (.w32 k) (uV v) (rD l)=some (rD (kT k v l)):=aNm (kc:=.w32) xV uV k v l
theorem bNt (k:W32) (l:List (W32×KY)):aSd (.w32 k) (rD l)=some (rD (rE k l)):=aNq (kc:=.w32) xV uV k l
theorem bBs (k:W32) (l:List (W32×TK)):aNp (.w32 k) (pG l)=some ((iK k l).map aOt):=aNo (kc:=.w32) xV aOt k l
theorem aHl (k:W32) (v:TK) (l:List (W32×TK)):aEh (.w32 k) (.rp (trC v.seed.l v.h)) (pG l)=some (pG (kT k v l)):=aNm (kc:=.w32) xV aOt k v l
theorem bBt (k:W32) (l:List (W32×TK)):aSd (.w32 k) (pG l)=some (pG (rE k l)):=aNq (kc:=.w32) xV aOt k l
theorem aOv (l:List (W32×KY)):(rD l).length=l.length:=List.length_map _
attribute [go_sem] aVk rZ jN jJ pY aDi bNs bNt bBs aHl bBt aOv
end Go.AX

namespace Go.AX
open Go Go.Proofs
set_option maxRecDepth 8000
theorem bTl (a0 a1 a2 a3 b0 b1 b2 b3:AV):dV [a0,a1,a2,a3] 0 [b0,b1,b2,b3]=[b0,b1,b2,b3]:=(rfl)
theorem bGc (a0 a1 a2 a3 a4 a5 a6 a7 a8 a9 a10 a11 a12 b0 b1 b2 b3 b4 b5 b6 b7 b8 b9 b10 b11 b12:AV):dV [a0,a1,a2,a3,a4,a5,a6,a7,a8,a9,a10,a11,a12] 0 [b0,b1,b2,b3,b4,b5,b6,b7,b8,b9,b10,b11,b12]=[b0,b1,b2,b3,b4,b5,b6,b7,b8,b9,b10,b11,b12]:=(rfl)
theorem bGb (a0 a1 a2 a3 a4 a5 a6 a7 a8 a9 a10 a11 a12 a13 a14 b0 b1 b2 b3 b4 b5 b6 b7 b8 b9 b10 b11 b12 b13 b14:AV):dV [a0,a1,a2,a3,a4,a5,a6,a7,a8,a9,a10,a11,a12,a13,a14] 0 [b0,b1,b2,b3,b4,b5,b6,b7,b8,b9,b10,b11,b12,b13,b14]=[b0,b1,b2,b3,b4,b5,b6,b7,b8,b9,b10,b11,b12,b13,b14]:=(rfl)
attribute [go_sem] bTl bGc bGb
def apN:List B8:=[101#8,120#8,97#8,109#8,112#8,108#8,101#8]
def aHr:List AV→Option (Nat×Nat×List AV)
 |[]=>some (1,1,cS [apN])
 |_=>none
theorem bRp:aHr []=some (1,1,cS [apN]):=(rfl)
attribute [go_sem] bRp
theorem cEa:dH Tryz.prog GLh 43 aHr:=by
 refine cT Tryz.func43 (aT rfl) ?_
 intro args r hg
 unfold aHr at hg
 split at hg
 ·obtain rfl:=J0 hg
  refine⟨J1 rfl,fun nx=>?_⟩
  refine aA rfl (bA [] rfl rfl rfl fun K hK=>?_)
  simp(disch:=omega) only[Tryz.f43,go_sem]
  refine hK _ ?_
  refine aB (aA rfl (bA [0] rfl rfl rfl fun K hK=>?_))
  simp(disch:=omega) only[Tryz.f43,go_sem]
  refine hK _ ?_
  refine aB (aS rfl ?_)
  simp(disch:=omega) only[fE,eO,bV,bK,bQ,Tryz.f43,go_sem,↓reduceIte]
  rfl
 cases hg
theorem cFf:bX Tryz.prog GLh 43 (.fresh true aHr):=⟨⟨_,Tryz.func43,rfl,rfl⟩,cEa⟩
def cBk:CF:=⟨[apN],10#32,0#32,8#32,0#32,300#32,100#32,20#32,60#32,[],0#16,6,1400#16⟩
def bOj:List AV→Option AV
 |[.w16 k]=>aN (k=0#16) (some (.agg (cfC cBk)))
 |_=>none
def aIu:List AV→Option (Nat×Nat×List AV)
 |[.v (.slice none 0 0),.w32 n,.i k]=>aN (0≤k∧k≤8) (some (k.toNat,1,c8 (beL n k.toNat k.toNat)))
 |_=>none
theorem bVb (n:W32) (k:Int):aIu [.v (.slice none 0 0),.w32 n,.i k]=aN (0≤k∧k≤8) (some (k.toNat,1,c8 (beL n k.toNat k.toNat))):=(rfl)
attribute [go_sem] bVb
set_option maxHeartbeats 4000000 in
theorem bUz:dH Tryz.prog GLh 60 aIu:=by
 refine cT Tryz.func60 (aT rfl) ?_
 intro args r hg
 unfold aIu at hg
 split at hg
 ·rename_i n k0
  replace hg:=aP hg;obtain⟨⟨hk1,hk8⟩,hg⟩:=hg
  obtain rfl:=J0 hg
  obtain⟨k,rfl⟩:=Int.eq_ofNat_of_zero_le (show 0≤k0 by omega)
  simp only[U2]at*
  clear hg
  refine⟨J1 rfl,fun nx=>?_⟩
  refine aA rfl (bA [0,1,2] rfl rfl rfl fun K hK=>?_)
  simp(disch:=omega) only[Tryz.f60,go_sem,↓reduceIte]
  refine hK _ ?_
  refine aB (aA rfl (aA rfl (bA [0,1,7] rfl rfl rfl fun K hK=>?_)))
  simp(disch:=omega) only[Tryz.f60,go_sem,↓reduceIte]
  refine hK _ ?_
  refine aB (iE 0 1 rfl (fF [0,1,7] ?_))
  simp only[iB,fU,eB,↓reduceIte,Nat.reduceEqDiff]
  refine aR 0 rfl rfl ?_
  refine bR (fun p:KIC=> {fr:=[(0,.os p.id 0 p.k 1 true),(1,.w32 n),(7,.i ((k:Int)-1-(p.k:Int)))],hp:=upd (fun _=>none) p.id (.cells (c8 (beL n k p.k)) true),nx:=0,cx:=p.c}) (fun p=>p.k≤k∧p.id<p.c) (fun p=>k-p.k) rfl ⟨⟨0,_,_⟩,⟨Nat.zero_le _,by simp only;omega⟩,bD (by simp only[Int.natCast_zero,Int.sub_zero]) rfl (U3 _)⟩ ?_
  rintro⟨j,id,c⟩ ⟨hj,hid⟩ n0
  simp only at hj hid⊢
  refine aA rfl (aA rfl (bA [11,0,1,7] rfl rfl rfl fun K hK=>?_))
  simp(disch:=omega) only[Tryz.f60,go_sem,↓reduceIte]
  refine hK _ ?_
  refine aB (aW (.tmp 11) rfl rfl rfl (fun h=>?_) (fun h=>?_))
  ·refine aI rfl ?_
   have e1:(BitVec.ofInt 64 (8*((k:Int)-1-(j:Int)))).toNat=8*(k-1-j):=by rw[BitVec.toNat_ofInt];omega
   have hl:=cZ n k j
   refine aQ rfl (aB (aA rfl (aR 1 rfl rfl (bA [0,1,7] rfl rfl rfl fun K hK=>?_))))
   simp(disch:=omega) only[Tryz.f60,go_sem,↓reduceIte,e1,hl]
   refine hK _ ?_
   refine bU (aB (bA [0,1,7] rfl rfl rfl fun K hK=>?_))
   simp(disch:=omega) only[Tryz.f60,go_sem,↓reduceIte]
   refine hK _ ?_
   refine bT ?_
   have e2:(k:Int)-1-((j:Int)+1)=(k:Int)-1-(j:Int)-1:=by omega
   have e4:beL n k (j+1)=beL n k j++[(n>>>(8*(k-1-j))).setWidth 8]:=rfl
   refine⟨⟨j+1,c+2+8,_⟩,⟨by simp only;omega,by simp only;omega⟩,by simp only;omega,⟨fun _=> .inr ?_,fun j o h=>?_,U3 _⟩⟩
   ·simp only[Int.natCast_add,Int.natCast_one,e2]
   simp only at h
   exact bS (by simp(disch:=omega) only[aV,↓reduceIte,eq_self,e4]) (cB) j o h
  refine aI rfl (bF 0 rfl rfl (aY (aZ (bE (aB (aA rfl ?_))))))
  obtain rfl:j=k:=by omega
  have hl:=cZ n j j
  refine bA [6] rfl rfl rfl fun K hK=>?_
  simp(disch:=omega) only[Tryz.f60,go_sem,↓reduceIte]
  refine hK _ ?_
  refine aB (aS rfl ?_)
  simp(disch:=omega) only[fE,eO,bV,bK,bQ,Tryz.f60,go_sem,↓reduceIte,fQ,hl]
 cases hg
theorem cVz:bX Tryz.prog GLh 60 (.fresh false aIu):=⟨⟨_,Tryz.func60,rfl,rfl⟩,bUz⟩
theorem cTh (t:BitVec 16):beL (t.setWidth 32) 2 2=[(t>>>8).setWidth 8,t.setWidth 8]:=by
 have e:(t.setWidth 32>>>8).setWidth 8=(t>>>8).setWidth 8:=by
  apply BitVec.eq_of_toNat_eq
  have:=t.isLt
  simp only[BitVec.toNat_setWidth,BitVec.toNat_ushiftRight,Nat.shiftRight_eq_div_pow];omega
 have e2:(t.setWidth 32>>>0).setWidth 8=t.setWidth 8:=by
  apply BitVec.eq_of_toNat_eq
  have:=t.isLt
  simp only[BitVec.toNat_setWidth,BitVec.toNat_ushiftRight,Nat.shiftRight_eq_div_pow];omega
 simp only[beL,List.nil_append,List.cons_append,Nat.reduceSub,Nat.reduceMul,e,e2]
theorem bOx (f:FuncId) (args:List AV) (nx n:Nat) (hp:H) (id cx:Nat) (g:List AV→Option (Nat×Nat×List AV)):uI f args 2 nx n hp id cx (some (.fresh false g))=aK (fW (fun _=>none) args) fun as_=>aK (g as_) fun r=>some (.os id 0 r.1 r.2.1 true,upd hp id (.cells r.2.2 true),cx):=(rfl)
theorem dr_s (x:AV) (l:List AV) (k:Nat):List.drop (k+1) (x::l)=List.drop k l:=(rfl)
attribute [go_sem] bOx dr_s
def wF (f:BitVec 16) (p a:B8) (k:List B8):List B8:=[(f>>>8).setWidth 8,f.setWidth 8]++[p,a]++k
def qG:List AV→Option (Nat×Nat×List AV)
 |[.agg [.w16 f,.w8 p,.w8 a,.sl n xs]]=>aK (cI xs) fun k=>aN (k.length=n∧n≤100000) (some ((wF f p a k).length,1,c8 (wF f p a k)))
 |_=>none
theorem bMg (f:BitVec 16) (p a:B8) (n:Nat) (xs:List AV):qG [.agg [.w16 f,.w8 p,.w8 a,.sl n xs]]=aK (cI xs) fun k=>aN (k.length=n∧n≤100000) (some ((wF f p a k).length,1,c8 (wF f p a k))):=(rfl)
attribute [go_sem] bMg
set_option maxHeartbeats 4000000 in
theorem bYm:dH Tryz.prog GLh 51 qG:=by
 refine cT Tryz.func51 (aT rfl) ?_
 intro args r hg
 unfold qG at hg
 split at hg
 ·rename_i f p a n xs
  replace hg:=aJ hg;obtain⟨k,hk,hg⟩:=hg
  replace hg:=aP hg;obtain⟨⟨rfl,hn⟩,hg⟩:=hg
  obtain rfl:=J0 hg
  have:=bW hk;subst this
  clear hg hk
  refine⟨J1 rfl,fun nx=>?_⟩
  have e2:=cTh f
  have ekb:[(f>>>8).setWidth 8,f.setWidth 8]++[p,a]++k=wF f p a k:=rfl
  have ekl:(wF f p a k).length=4+k.length:=by rw[←ekb];simp;omega
  refine aA rfl (bA [1] rfl rfl rfl fun K hK=>?_)
  simp(disch:=omega) only[Tryz.f51,go_sem,↓reduceIte]
  refine hK _ ?_
  refine aB (lW 1 nx 0 rfl (by simp only[aV,if_true];rfl) ?_)
  refine aA rfl (bB (Γ:=bC [(60,.fresh false aIu)]) (fun k=>if k=1 then 1 else if k=5 then 1 else if k=7 then 1 else if k=11 then 1 else 2) [2] bZ (aH cVz aO) rfl rfl rfl (by kernel_rfl) (fun K hK=>?_))
  simp(disch:=omega) only[Tryz.f51,go_sem,↓reduceIte,e2,J8,U0,U1,J7,J9]
  refine hK _ ?_
  refine aB (aS rfl ?_)
  simp(disch:=omega) only[fE,eO,bV,bK,bQ,Tryz.f51,go_sem,↓reduceIte,ekl]
  rfl
 cases hg
theorem cFg:bX Tryz.prog GLh 51 (.fresh true qG):=⟨⟨_,Tryz.func51,rfl,rfl⟩,bYm⟩
noncomputable def aMq:List AV→H→Nat→Option (AV×H×Nat)
 |[.agg xs],hp,nx=>aK (oW xs) fun c=>some (.op (nx+6) 0,iL (nx+6) (nx+3) (nx+4) ⟨c,[],0#32,[]⟩ hp,nx+20)
 |_,_,_=>none
theorem bHs (xs:List AV) (hp:H) (nx:Nat):aMq [.agg xs] hp nx=aK (oW xs) fun c=>some (.op (nx+6) 0,iL (nx+6) (nx+3) (nx+4) ⟨c,[],0#32,[]⟩ hp,nx+20):=(rfl)
attribute [go_sem] bHs
theorem bUo:cQ Tryz.prog GLh 24 aMq:=by
 refine gF Tryz.func24 (aT rfl) ?_
 intro args hp nx r hp' nx' hg
 unfold aMq at hg
 split at hg
 ·rename_i xs
  replace hg:=aJ hg;obtain⟨c,hc,hg⟩:=hg
  have:=lF hc;subst this
  simp only[Option.some.injEq,Prod.mk.injEq]at hg;obtain⟨rfl,rfl,rfl⟩:=hg
  refine⟨J1 rfl,by omega,fun hnone=>?_⟩
  refine aA rfl (bA [1] rfl rfl rfl fun K hK=>?_)
  simp(disch:=omega) only[Tryz.f24,go_sem,↓reduceIte,jI]
  refine hK _ ?_
  refine aB (aA rfl (bA [2] rfl rfl rfl fun K hK=>?_))
  simp(disch:=omega) only[Tryz.f24,go_sem,↓reduceIte,cK,List.nil_append,List.cons_append,U0,U1,J7,J9,List.all_cons,List.all_nil,Option.isSome_some,Bool.and_self]
  refine hK _ ?_
  refine aB (aS rfl ?_)
  have hlt: ∀k o,hp k=some o→k<nx:=fun k o hk=>lI hnone hk
  refine⟨rfl,fun j o hj=>oK (C:=⟨c,[],0#32,[]⟩) ?_ ?_ ?_ ?_ j o hj,by simp only;omega⟩
  ·simp only[bJ,rgC,Nat.add_assoc,Nat.reduceAdd,if_true]
  ·simp only[bJ,Nat.add_assoc,Nat.reduceAdd]
   rw[J3 (by omega),J3 (by omega),J4 trivial];rfl
  ·simp only[bJ,Nat.add_assoc,Nat.reduceAdd]
   rw[J3 (by omega),J4 trivial];rfl
  intro k o k1 k2 k3 hk
  have:=hlt k o hk
  simp only[bJ]
  rw[J3 (by omega),J3 (by omega),J3 (by omega),J3 (by omega)];exact hk
 cases hg
theorem okd7:bX Tryz.prog GLh 24 (.heap aMq):=⟨⟨_,Tryz.func24,rfl,rfl⟩,bUo⟩
end Go.AX

namespace Go.AX
open Go Go.Proofs
set_option maxRecDepth 8000
structure ROk (C:RC):Prop where
 key: ∀id k,iK id C.by'=some k→k.id=id∧k.h≤10∧k.next.toNat≤2^k.h∧id.toNat≤C.last.toNat
 tree: ∀id t,iK id C.tr=some t→∃k,iK id C.by'=some k∧t=⟨k.seed,k.h⟩
 nb:(C.by'.map (·.1)).Nodup
 nt:(C.tr.map (·.1)).Nodup
theorem aMu {β:Type} (a:W32) (v:β): ∀l:List (W32×β),(kT a v l).map (·.1)=if a∈l.map (·.1)then l.map (·.1)else l.map (·.1)++[a]
 |[]=>by simp[kT]
 |p::r=>by
  simp only[kT]
  by_cases h:a=p.1
  ·subst h;simp
  rw[J3 h]
  simp only[List.map_cons,aMu a v r,List.mem_cons]
  by_cases h2:a∈r.map (·.1)
  ·rw[J4 h2,J4 (.inr h2)]
  rw[J3 h2,J3 (fun e=>e.elim h h2),List.cons_append]
theorem tF {β:Type} (a:W32) (v:β) (l:List (W32×β)) (h:(l.map (·.1)).Nodup):((kT a v l).map (·.1)).Nodup:=by
 rw[aMu]
 split
 ·exact h
 rename_i h2
 rw[List.nodup_append]
 exact⟨h,by simp,fun x hx y hy=>by simp at hy;subst hy;exact fun e=>h2 (e▸hx)⟩
theorem aOk {β:Type} (a:W32): ∀l:List (W32×β),a∉l.map (·.1)→iK a l=none
 |[],_=>rfl
 |p::r,h=>by
  simp only[iK]
  rw[J3 (fun e=>h (by simp[e])),aOk a r (fun e=>h (by simp only[List.map_cons,List.mem_cons];exact .inr e))]
theorem aPd {β:Type} (a:W32): ∀l:List (W32×β),∀x,x∈(rE a l).map (·.1)→x∈l.map (·.1)
 |[],x,h=>h
 |p::r,x,h=>by
  simp only[rE]at h
  split at h
  ·rw[List.map_cons,List.mem_cons];exact .inr h
  rw[List.map_cons,List.mem_cons]at h⊢
  exact h.imp id (aPd a r x)
theorem yA {β:Type} (a:W32): ∀l:List (W32×β),(l.map (·.1)).Nodup→((rE a l).map (·.1)).Nodup
 |[],h=>h
 |p::r,h=>by
  rw[List.map_cons,List.nodup_cons]at h
  simp only[rE]
  split
  ·exact h.2
  rw[List.map_cons,List.nodup_cons]
  exact⟨fun e=>h.1 (aPd a r _ e),yA a r h.2⟩
theorem sP {β:Type} (a b:W32): ∀l:List (W32×β),(l.map (·.1)).Nodup→iK a (rE b l)=if a=b then none else iK a l
 |[],_=>by simp[rE,iK]
 |p::r,h=>by
  rw[List.map_cons,List.nodup_cons]at h
  simp only[rE]
  by_cases hb:b=p.1
  ·rw[J4 hb]
   by_cases ha:a=b
   ·rw[J4 ha]
    exact aOk a r (by rw[ha,hb];exact h.1)
   rw[J3 ha]
   simp only[iK]
   rw[J3 (fun e=>ha (e.trans hb.symm))]
  rw[J3 hb]
  simp only[iK]
  rw[sP a b r h.2]
  by_cases ha:a=p.1
  ·rw[J4 ha,J4 ha,J3 (fun e=>hb (e.symm.trans ha))]
  rw[J3 ha,J3 ha]
theorem jK {β:Type} (a b:W32) (v:β): ∀l:List (W32×β),iK a (kT b v l)=if a=b then some v else iK a l
 |[]=>by
  simp only[kT,iK]
 |p::r=>by
  simp only[kT]
  by_cases h:b=p.1
  ·rw[J4 h]
   simp only[iK]
   by_cases h2:a=b
   ·simp[h2]
   rw[J3 h2,J3 h2,J3 (fun e=>h2 (e.trans h.symm))]
  rw[J3 h]
  simp only[iK,jK a b v r]
  by_cases h2:a=p.1
  ·subst h2
   rw[J4 rfl,J3 (Ne.symm h),J4 rfl]
  rw[J3 h2,J3 h2]
theorem ROk.new (c:CF):ROk ⟨c,[],0#32,[]⟩:=⟨fun _ _ h=>(nomatch h),fun _ _ h=>(nomatch h),List.nodup_nil,List.nodup_nil⟩
noncomputable instance (C:RC):Decidable (ROk C):=Classical.propDecidable _
def nlv (h:Nat):W32:=BitVec.ofNat 32 (2^h)
def lfV (C:RC) (id:W32):W32:=match iK id C.by' with
 |none=>0#32
 |some k=>nlv k.h-k.next
noncomputable def aNy:List AV→H→Nat→Option (AV×H×Nat)
 |[.op d 0,.w32 id],hp,nx=>aK (iN hp d) fun t=>aN (ROk t.C) (some (.w32 (lfV t.C id),hp,nx+50))
 |_,_,_=>none
theorem lV (k:KY):uV k=.agg [.w32 k.id,.i k.role,.i k.st,.w8 k.seed.a,.w8 k.seed.b,.w8 k.seed.c,.w8 k.seed.d,.w8 k.seed.e,.w8 k.seed.f,.w8 k.seed.g,.w8 k.seed.h,.i k.h,.w32 k.next,.w32 k.since,.w32 k.seen]:=rfl
theorem zv50:zvA Tryz.prog 50=some (.agg [.w32 0#32,.i 0,.i 0,.w8 0#8,.w8 0#8,.w8 0#8,.w8 0#8,.w8 0#8,.w8 0#8,.w8 0#8,.w8 0#8,.i 0,.w32 0#32,.w32 0#32,.w32 0#32]):=by kernel_rfl
theorem zcK:cG Tryz.prog 50=some [.w32 0#32,.i 0,.i 0,.w8 0#8,.w8 0#8,.w8 0#8,.w8 0#8,.w8 0#8,.w8 0#8,.w8 0#8,.w8 0#8,.i 0,.w32 0#32,.w32 0#32,.w32 0#32]:=by kernel_rfl
attribute [go_sem] zv50 zcK
theorem jB {hp:H} {nx i:Nat} {a:AO} (hn: ∀id,nx≤id→hp id=none) (hi:nx≤i): ∀j o,hp j=some o→upd hp i a j=some o:=by
 intro j o h
 rw[bJ]
 split
 ·rename_i e;subst e;rw[hn j hi]at h;cases h
 exact h
def aRx (C:RC) (role:Int) (seed:S8) (st:Int) (now:W32):KY:=⟨C.last+1#32,role,st,seed,C.c.h,0#32,now,0#32⟩
def mkC (C:RC) (k:KY):RC:= {C with last:=C.last+1#32,by':=kT (C.last+1#32) k C.by'}
def mkV (C:RC) (role:Int) (seed:S8) (st:Int) (now:W32):W32×Int×RC:=
 if(role≠0∧role≠1)∨st<0∨3<st then(0#32,131,C)
 else if 16≤C.by'.length then(0#32,133,C)
 else(C.last+1#32,0,mkC C (aRx C role seed st now))
theorem bLw {C:RC} (h:C.last.toNat<1000000):(C.last+1#32).toNat=C.last.toNat+1:=by
 rw[BitVec.toNat_add]
 show(C.last.toNat+1)%2^32=_
 omega
theorem ROk.mk' {C:RC} (h:ROk C) (hl:C.last.toNat<1000000) (hh:C.c.h≤10) (role:Int) (seed:S8) (st:Int) (now:W32):ROk (mkC C (aRx C role seed st now)):=by
 have hs:=bLw hl
 have hno:iK (C.last+1#32) C.by'=none:=by
  rcases e:iK (C.last+1#32) C.by' with _|k
  ·rfl
  have:=(h.key _ _ e).2.2.2
  omega
 refine⟨fun id k hk=>?_,fun id t ht=>?_,tF _ _ _ h.nb,h.nt⟩
 ·simp only[mkC,jK]at hk
  split at hk
  ·rename_i e
   obtain rfl:=J0 hk
   subst e
   refine⟨rfl,hh,?_,?_⟩
   ·show(0#32).toNat≤_
    exact Nat.zero_le _
   exact U3 _
  obtain⟨a1,a2,a3,a4⟩:=h.key _ _ hk
  refine⟨a1,a2,a3,?_⟩
  show id.toNat≤(C.last+1#32).toNat
  omega
 obtain⟨k,a1,a2⟩:=h.tree _ _ ht
 refine⟨k,?_,a2⟩
 simp only[mkC,jK]
 rw[J3 (fun e=>by subst e;rw[hno]at a1;cases a1)]
 exact a1
theorem ROk.mkV {C:RC} (h:ROk C) (hl:C.last.toNat<1000000) (hh:C.c.h≤10) (role:Int) (seed:S8) (st:Int) (now:W32):ROk (mkV C role seed st now).2.2:=by
 unfold AX.mkV
 split
 ·exact h
 split
 ·exact h
 exact h.mk' hl hh role seed st now
def s8L:List B8→Option S8
 |[a,b,c,d,e,f,g,h]=>some ⟨a,b,c,d,e,f,g,h⟩
 |_=>none
theorem vN {l:List B8} {s:S8} (h:s8L l=some s):l=s.l:=by
 unfold s8L at h
 split at h
 ·obtain rfl:=J0 h;rfl
 cases h
noncomputable def uF:List AV→H→Nat→Option (AV×H×Nat)
 |[.op d 0,.i role,.agg xs,.i st,.w32 now],hp,nx=>aK (iN hp d) fun t=>aK (un8 xs) fun l=>aK (s8L l) fun sd=>aN (ROk t.C∧t.C.last.toNat<1000000∧t.C.c.h≤10)
   (some (.tup [.w32 (mkV t.C role sd st now).1,.i (mkV t.C role sd st now).2.1],iL d t.s t.m (mkV t.C role sd st now).2.2 hp,nx+100))
 |_,_,_=>none
theorem bKz (d:Nat) (role st:Int) (now:W32) (xs:List AV) (hp:H) (nx:Nat):uF [.op d 0,.i role,.agg xs,.i st,.w32 now] hp nx=aK (iN hp d) fun t=>aK (un8 xs) fun l=>aK (s8L l) fun sd=>aN (ROk t.C∧t.C.last.toNat<1000000∧t.C.c.h≤10)
   (some (.tup [.w32 (mkV t.C role sd st now).1,.i (mkV t.C role sd st now).2.1],iL d t.s t.m (mkV t.C role sd st now).2.2 hp,nx+100)):=(rfl)
attribute [go_sem] bKz
theorem aHm (k id:W32) (role st:Int) (a b c d e f g h:B8) (hh:Nat) (n s se:W32) (l:List (W32×KY)):aEh (.w32 k) (.agg [.w32 id,.i role,.i st,.w8 a,.w8 b,.w8 c,.w8 d,.w8 e,.w8 f,.w8 g,.w8 h,.i hh,.w32 n,.w32 s,.w32 se]) (rD l)=some (rD (kT k ⟨id,role,st,⟨a,b,c,d,e,f,g,h⟩,hh,n,s,se⟩ l)):=aOu k ⟨id,role,st,⟨a,b,c,d,e,f,g,h⟩,hh,n,s,se⟩ l
attribute [go_sem] aHm
theorem bXn {Q:Exit→S→Prop} {fr0:AV} {role st:Int} {now:W32} {x7:AV} {hp:H} {nx cx:Nat} (hQ:Q .normal {fr:=[(12,.b (decide ((role≠0∧role≠1)∨st<0∨3<st))),(0,fr0),(1,.i role),(3,.i st),(4,.w32 now),(7,x7)],hp:=hp,nx:=cx,cx:=cx+15}):
  Awp Tryz.prog GLh Tryz.f25.ntmps (cl (cl (cl (cr (aE Tryz.f25))))) {fr:=[(0,fr0),(1,.i role),(3,.i st),(4,.w32 now),(7,x7)],hp:=hp,nx:=nx,cx:=cx} Q:=by
 by_cases h0:role=0
 ·have d0:decide (role=0)=true:=J5 h0
  by_cases h2:st<0
  ·have d2:decide (st<0)=true:=J5 h2
   rw[J5 (by omega)]at hQ
   refine bA [12,0,1,3,4,7] rfl rfl rfl fun K hK=>?_
   simp(disch:=omega) only[Tryz.f25,go_sem,↓reduceIte,d0,d2,Bool.not_true,beq_self_eq_true]
   refine hK _ ?_
   exact hQ
  ·have d2:decide (st<0)=false:=J6 h2
   by_cases h3:3<st
   ·have d3:decide (3<st)=true:=J5 h3
    rw[J5 (by omega)]at hQ
    refine bA [12,0,1,3,4,7] rfl rfl rfl fun K hK=>?_
    simp(disch:=omega) only[Tryz.f25,go_sem,↓reduceIte,d0,d2,d3,Bool.not_true,beq_self_eq_true]
    refine hK _ ?_
    exact hQ
   ·have d3:decide (3<st)=false:=J6 h3
    rw[J6 (by omega)]at hQ
    refine bA [12,0,1,3,4,7] rfl rfl rfl fun K hK=>?_
    simp(disch:=omega) only[Tryz.f25,go_sem,↓reduceIte,d0,d2,d3,Bool.not_true,beq_self_eq_true]
    refine hK _ ?_
    exact hQ
 ·have d0:decide (role=0)=false:=J6 h0
  by_cases h1:role=1
  ·have d1:decide (role=1)=true:=J5 h1
   by_cases h2:st<0
   ·have d2:decide (st<0)=true:=J5 h2
    rw[J5 (by omega)]at hQ
    refine bA [12,0,1,3,4,7] rfl rfl rfl fun K hK=>?_
    simp(disch:=omega) only[Tryz.f25,go_sem,↓reduceIte,d0,d1,d2,Bool.not_true,Bool.not_false,beq_self_eq_true]
    refine hK _ ?_
    exact hQ
   ·have d2:decide (st<0)=false:=J6 h2
    by_cases h3:3<st
    ·have d3:decide (3<st)=true:=J5 h3
     rw[J5 (by omega)]at hQ
     refine bA [12,0,1,3,4,7] rfl rfl rfl fun K hK=>?_
     simp(disch:=omega) only[Tryz.f25,go_sem,↓reduceIte,d0,d1,d2,d3,Bool.not_true,Bool.not_false,beq_self_eq_true]
     refine hK _ ?_
     exact hQ
    ·have d3:decide (3<st)=false:=J6 h3
     rw[J6 (by omega)]at hQ
     refine bA [12,0,1,3,4,7] rfl rfl rfl fun K hK=>?_
     simp(disch:=omega) only[Tryz.f25,go_sem,↓reduceIte,d0,d1,d2,d3,Bool.not_true,Bool.not_false,beq_self_eq_true]
     refine hK _ ?_
     exact hQ
  ·have d1:decide (role=1)=false:=J6 h1
   rw[J5 (by omega)]at hQ
   refine bA [12,0,1,3,4,7] rfl rfl rfl fun K hK=>?_
   simp(disch:=omega) only[Tryz.f25,go_sem,↓reduceIte,d0,d1,Bool.not_false,beq_self_eq_true]
   refine hK _ ?_
   exact hQ
set_option maxHeartbeats 1000000 in
theorem bXo:cQ Tryz.prog GLh 25 uF:=by
 refine gF Tryz.func25 (aT rfl) ?_
 intro args hp nx r hp' nx' hg
 unfold uF at hg
 split at hg
 ·rename_i d role xs st now
  replace hg:=aJ hg;obtain⟨⟨s,m,C⟩,hD0,hg⟩:=hg
  have hD:=iV hD0
  replace hg:=aJ hg;obtain⟨l,hl8,hg⟩:=hg
  have:=iX _ hl8;subst this
  replace hg:=aJ hg;obtain⟨S,hS8,hg⟩:=hg
  have:=vN hS8;subst this
  have e0:c8 S.l=[.w8 S.a,.w8 S.b,.w8 S.c,.w8 S.d,.w8 S.e,.w8 S.f,.w8 S.g,.w8 S.h]:=rfl
  rw[e0]
  replace hg:=aP hg;obtain⟨⟨hok,hl,hc⟩,hg⟩:=hg
  simp only[Option.some.injEq,Prod.mk.injEq]at hg hD hok hl hc;obtain⟨rfl,rfl,rfl⟩:=hg
  refine⟨J1 rfl,by omega,fun hnone=>?_⟩
  have h1:=hD.hd;have h2:=hD.hs;have h3:=hD.hm
  obtain⟨n1,n2,n3,n4,n5,n6⟩:=hD.ne
  have hlt: ∀k o,hp k=some o→k<nx:=fun k o hk=>lI hnone hk
  have hd:=hlt _ _ h1
  have hs:=hlt _ _ h2
  have hm:=hlt _ _ h3
  refine aA rfl (bA [0,1,3,4,7] rfl rfl rfl fun K hK=>?_)
  simp(disch:=omega) only[Tryz.f25,go_sem,↓reduceIte]
  refine hK _ ?_
  refine aB (aA rfl (aR 0 rfl rfl (aA rfl (bXn (aB (aW (.tmp 12) rfl rfl rfl (fun h=>?_) (fun h=>?_)))))))
  ·have e:mkV C role S st now=(0#32,131,C):=J4 h
   rw[e]
   refine aA rfl (bA [10,11] rfl rfl rfl fun K hK=>?_)
   simp(disch:=omega) only[Tryz.f25,go_sem,↓reduceIte]
   refine hK _ ?_
   refine aB (aS rfl (bN (bI ?_)))
   rw[iQ hD]
   exact⟨rfl,fun j o h=>jB hnone (by omega) j o h,by simp only;omega⟩
  have hbad:=h
  clear h
  refine aA rfl (bA [27,0,1,3,4,7] rfl rfl rfl fun K hK=>?_)
  simp(disch:=omega) only[Tryz.f25,go_sem,↓reduceIte,h1,h2,jA,J8,J7,J9,aOv]
  refine hK _ ?_
  refine aB (aW (.tmp 27) rfl rfl rfl (fun h=>?_) (fun h=>?_))
  ·refine aI rfl ?_
   have e:mkV C role S st now=(0#32,133,C):=by unfold mkV;rw[J3 hbad,J4 (by omega)]
   rw[e]
   refine aA rfl (bA [10,11] rfl rfl rfl fun K hK=>?_)
   simp(disch:=omega) only[Tryz.f25,go_sem,↓reduceIte]
   refine hK _ ?_
   refine aB (aS rfl (bN (bI ?_)))
   rw[iQ hD]
   exact⟨rfl,fun j o h=>jB hnone (by omega) j o h,by simp only;omega⟩
  refine aI rfl ?_
  have e:mkV C role S st now=(C.last+1#32,0,mkC C (aRx C role S st now)):=by unfold mkV;rw[J3 hbad,J3 (by omega)]
  rw[e]
  refine aQ rfl (bU (aB (aA rfl (bA [0,1,3,4,7] rfl rfl rfl fun K hK=>?_))))
  simp(disch:=omega) only[Tryz.f25,go_sem,↓reduceIte,h1,jA,J8,List.set_cons_succ,List.set_cons_zero,J7,J9]
  refine hK _ ?_
  refine aB (aA rfl (bB (Γ:=aL) (fun _=>2) [0] bZ (aD _ _) rfl rfl rfl (by kernel_rfl) (fun K hK=>?_)))
  simp(disch:=omega) only[Tryz.f25,go_sem,↓reduceIte,h2,J8,U0,U1,J7,J9,List.all_cons,List.all_nil,Option.isSome_some,Bool.and_self,cK,List.nil_append,List.cons_append,aHm]
  refine hK _ ?_
  refine aB (aA rfl (bA [10,11] rfl rfl rfl fun K hK=>?_))
  simp(disch:=omega) only[Tryz.f25,go_sem,↓reduceIte,J8,J7,J9]
  refine hK _ ?_
  refine aB (aS rfl ?_)
  refine⟨rfl,fun j o hj=>oK (C:=mkC C (aRx C role S st now)) ?_ ?_ ?_ ?_ j o hj,by simp only;omega⟩
  ·simp(disch:=omega) only[aV,bY,↓reduceIte,eq_self]<;>rfl
  ·simp(disch:=omega) only[aV,↓reduceIte,eq_self]<;>rfl
  ·simp(disch:=omega) only[aV,bY,↓reduceIte]<;>first|exact h3|rfl
  intro k o k1 k2 k3 hk
  have:=hlt k o hk
  simp(disch:=omega) only[aV,bY,↓reduceIte]
  exact hk
 cases hg
theorem aZx:bX Tryz.prog GLh 25 (.heap uF):=⟨⟨_,Tryz.func25,rfl,rfl⟩,bXo⟩
end Go.AX

namespace Go.AX
open Go Go.Proofs
set_option maxRecDepth 8000
open Classical in
noncomputable def zT (xs:List AV):Option KY:=if h: ∃k,xs=kyC k then some (Classical.choose h)else none
theorem sM (k:KY):zT (kyC k)=some k:=by
 have hx: ∃k',kyC k=kyC k':=⟨k,rfl⟩
 unfold zT
 rw[dif_pos hx]
 exact congrArg some (aJn (Classical.choose_spec hx)).symm
theorem aOb {xs:List AV} {k:KY} (h:zT xs=some k):xs=kyC k:=by
 unfold zT at h
 split at h
 ·rename_i hx
  rw[←J0 h]
  exact Classical.choose_spec hx
 cases h
theorem aSt (k:W32) (s:S8) (h:Nat) (l:List (W32×TK)):aEh (.w32 k) (.rp (trC s.l h)) (pG l)=some (pG (kT k ⟨s,h⟩ l)):=aHl k ⟨s,h⟩ l
attribute [go_sem] aSt
noncomputable instance:DecidableEq KY:=fun _ _=>Classical.propDecidable _
def trP (C:RC) (k:KY):List (W32×TK):=match iK k.id C.tr with
 |some _=>C.tr
 |none=>kT k.id ⟨k.seed,k.h⟩ C.tr
theorem cEk {C:RC} {k:KY} {t:TK} (h:iK k.id C.tr=some t):trP C k=C.tr:=by rw[trP,h]
theorem cEl {C:RC} {k:KY} (h:iK k.id C.tr=none):trP C k=kT k.id ⟨k.seed,k.h⟩ C.tr:=by rw[trP,h]
theorem ROk.trP {C:RC} (h:ROk C) {k:KY} (hk:iK k.id C.by'=some k):ROk {C with tr:=trP C k}:=by
 rcases e:iK k.id C.tr with _|t
 ·rw[cEl e]
  refine⟨h.key,fun i t ht=>?_,h.nb,tF _ _ _ h.nt⟩
  simp only[jK]at ht
  split at ht
  ·rename_i e2
   obtain rfl:=J0 ht
   subst e2
   exact⟨k,hk,rfl⟩
  exact h.tree _ _ ht
 rw[cEk e];exact h
noncomputable def aFl:List AV→H→Nat→Option (AV×H×Nat)
 |[.op d 0,.agg xs],hp,nx=>aK (iN hp d) fun t=>aK (zT xs) fun k=>aN (ROk t.C∧iK k.id t.C.by'=some k) (some (.rp (trC k.seed.l k.h),iL d t.s t.m {t.C with tr:=trP t.C k} hp,nx+100))
 |_,_,_=>none
theorem bFq (d:Nat) (xs:List AV) (hp:H) (nx:Nat):aFl [.op d 0,.agg xs] hp nx=aK (iN hp d) fun t=>aK (zT xs) fun k=>aN (ROk t.C∧iK k.id t.C.by'=some k) (some (.rp (trC k.seed.l k.h),iL d t.s t.m {t.C with tr:=trP t.C k} hp,nx+100)):=(rfl)
attribute [go_sem] bFq
set_option maxHeartbeats 1000000 in
theorem bSw:cQ Tryz.prog GLh 49 aFl:=by
 refine gF Tryz.func49 (aT rfl) ?_
 intro args hp nx r hp' nx' hg
 unfold aFl at hg
 split at hg
 ·rename_i d xs
  replace hg:=aJ hg;obtain⟨⟨s,m,C⟩,hD0,hg⟩:=hg
  have hD:=iV hD0
  replace hg:=aJ hg;obtain⟨k,hk0,hg⟩:=hg
  have:=aOb hk0;subst this
  replace hg:=aP hg;obtain⟨⟨hok,hk⟩,hg⟩:=hg
  simp only[Option.some.injEq,Prod.mk.injEq]at hg hD hok hk;obtain⟨rfl,rfl,rfl⟩:=hg
  refine⟨J1 rfl,by omega,fun hnone=>?_⟩
  have h1:=hD.hd;have h2:=hD.hs;have h3:=hD.hm
  obtain⟨n1,n2,n3,n4,n5,n6⟩:=hD.ne
  have hlt: ∀k o,hp k=some o→k<nx:=fun k o hk=>lI hnone hk
  have hd:=hlt _ _ h1
  have hs:=hlt _ _ h2
  have hm:=hlt _ _ h3
  obtain⟨k1,k2,k3,k4⟩:=hok.key _ _ hk
  have ekc:kyC k=[.w32 k.id,.i k.role,.i k.st,.w8 k.seed.a,.w8 k.seed.b,.w8 k.seed.c,.w8 k.seed.d,.w8 k.seed.e,.w8 k.seed.f,.w8 k.seed.g,.w8 k.seed.h,.i k.h,.w32 k.next,.w32 k.since,.w32 k.seen]:=rfl
  rw[ekc]
  have hnr:aRy [k.seed.a,k.seed.b,k.seed.c,k.seed.d,k.seed.e,k.seed.f,k.seed.g,k.seed.h] (k.h:Int)=.tup [.rp (trC k.seed.l k.h),.i 0]:=bKe k.seed.l k.h k2
  refine aA rfl (bA [0,3] rfl rfl rfl fun K hK=>?_)
  simp(disch:=omega) only[Tryz.f49,go_sem,↓reduceIte]
  refine hK _ ?_
  refine aB ?_
  rcases ht:iK k.id C.tr with _|t
  ·rw[cEl ht]
   refine aA rfl (bB (Γ:=aL) (fun k=>if k=6 then 0 else 2) [0,3,5] bZ (aD _ _) rfl rfl rfl (by kernel_rfl) (fun K hK=>?_))
   simp(disch:=omega) only[Tryz.f49,go_sem,↓reduceIte,h1,h3,ht,jA,J8,J7,J9]
   refine hK _ ?_
   refine aB (aA rfl (aA rfl (bA [14,0,3,5] rfl rfl rfl fun K hK=>?_)))
   simp(disch:=omega) only[Tryz.f49,go_sem,↓reduceIte]
   refine hK _ ?_
   refine aB (eC (.tmp 14) rfl rfl rfl (fun h=>?_) (fun h=>?_))
   ·refine aI rfl (aA rfl (aC (Γ:=bC [(59,.pure false bKg)]) [0,3,5] (aH ok51 aO) rfl rfl rfl (fun K hK=>?_)))
    simp(disch:=omega) only[Tryz.f49,go_sem,↓reduceIte,hnr,J8,U0,U1,J7,J9]
    refine hK _ ?_
    refine aB (bB (Γ:=aL) (fun _=>2) [5] bZ (aD _ _) rfl rfl rfl (by kernel_rfl) (fun K hK=>?_))
    simp(disch:=omega) only[Tryz.f49,go_sem,↓reduceIte,h1,h3,jA,J8,J7,J9]
    refine hK _ ?_
    refine aB (aA rfl (bA [4] rfl rfl rfl fun K hK=>?_))
    simp(disch:=omega) only[Tryz.f49,go_sem,↓reduceIte]
    refine hK _ ?_
    refine aB (aS rfl ?_)
    refine⟨rfl,fun j o hj=>oK (C:= {C with tr:=kT k.id ⟨k.seed,k.h⟩ C.tr}) ?_ ?_ ?_ ?_ j o hj,by simp only;omega⟩
    ·simp(disch:=omega) only[aV,bY,↓reduceIte]<;>first|exact h1|rfl
    ·simp(disch:=omega) only[aV,bY,↓reduceIte]<;>first|exact h2|rfl
    ·simp(disch:=omega) only[aV,↓reduceIte,eq_self]<;>first|exact h3|rfl
    intro k o k1 k2 k3 hk
    have:=hlt k o hk
    simp(disch:=omega) only[aV,bY,↓reduceIte]
    exact hk
   refine aI rfl ?_
   cases h
  obtain⟨k5,k6,k7⟩:=hok.tree _ _ ht
  obtain rfl:=J0 (hk.symm.trans k6)
  have et:aOt t=.rp (trC k.seed.l k.h):=by rw[k7];rfl
  rw[cEk ht]
  refine aA rfl (bB (Γ:=aL) (fun k=>if k=6 then 0 else 2) [0,3,5] bZ (aD _ _) rfl rfl rfl (by kernel_rfl) (fun K hK=>?_))
  simp(disch:=omega) only[Tryz.f49,go_sem,↓reduceIte,h1,h3,ht,et,jA,J8,J7,J9]
  refine hK _ ?_
  refine aB (aA rfl (aA rfl (bA [14,0,3,5] rfl rfl rfl fun K hK=>?_)))
  simp(disch:=omega) only[Tryz.f49,go_sem,↓reduceIte]
  refine hK _ ?_
  refine aB (eC (.tmp 14) rfl rfl rfl (fun h=>?_) (fun h=>?_))
  ·refine aI rfl ?_
   cases h
  refine aI rfl (aQ rfl (aB (aA rfl (bA [4] rfl rfl rfl fun K hK=>?_))))
  simp(disch:=omega) only[Tryz.f49,go_sem,↓reduceIte]
  refine hK _ ?_
  refine aB (aS rfl ?_)
  rw[show({c:=C.c,by':=C.by',last:=C.last,tr:=C.tr}:RC)=C from rfl,iQ hD]
  exact⟨rfl,fun j o h=>jB hnone (by omega) j o h,by simp only;omega⟩
 cases hg
theorem cFh:bX Tryz.prog GLh 49 (.heap aFl):=⟨⟨_,Tryz.func49,rfl,rfl⟩,bSw⟩
end Go.AX

namespace Go.AX
open Go Go.Proofs
set_option maxRecDepth 8000
theorem aIn {hp:H} {d s m:Nat} {C:RC} (h:aDt hp d s m C) (j:Nat) (a:AO) (h1:j≠d) (h2:j≠s) (h3:j≠m):iN (upd hp j a) d=some ⟨s,m,C⟩:=
 aFy ⟨by rw[bJ,J3 (Ne.symm h1)];exact h.hd,by rw[bJ,J3 (Ne.symm h2)];exact h.hs,by rw[bJ,J3 (Ne.symm h3)];exact h.hm,h.ne⟩
end Go.AX

namespace Go.AX
open Go Go.Proofs
set_option maxRecDepth 8000
def flK (k:KY):BitVec 16:=if k.role=1 then 257#16 else 256#16
def dkB (k:KY):List B8:=wF (flK k) 3#8 253#8 (iR k.seed.l k.h 0)
theorem aAg (k:KY):(dkB k).length=12:=by
 rw[dkB,wF,List.length_append,iW];rfl
def dtN (k:KY):Nat:=if k.role=1 then 135 else 130
theorem dAt {k:KY} (h:k.role=1):dtN k=135:=J4 h
theorem dAu {k:KY} (h: ¬k.role=1):dtN k=130:=J3 h
theorem aOi {hp t:H} {i:Nat} {a:AO} (ht:t i=some a) (hs: ∀j o,j≠i→hp j=some o→t j=some o): ∀j o,upd hp i a j=some o→t j=some o:=by
 intro j o h
 rw[bJ]at h
 split at h
 ·rename_i e;subst e;rw[ht];exact h
 rename_i e;exact hs j o e h
noncomputable def cBa (d s m:Nat) (C:RC) (hp:H) (nx:Nat):Option KY→Option (AV×H×Nat)
 |none=>some (.tup [.v (.slice none 0 0),.b false],iL d s m C hp,nx+400)
 |some k=>some (.tup [.os (nx+dtN k) 0 12 1 true,.b true],iL d s m {C with tr:=trP C k} (upd hp (nx+dtN k) (.cells (c8 (dkB k)) true)),nx+400)
theorem bOe (d s m:Nat) (C:RC) (hp:H) (nx:Nat):cBa d s m C hp nx none=some (.tup [.v (.slice none 0 0),.b false],iL d s m C hp,nx+400):=rfl
theorem bOd (d s m:Nat) (C:RC) (hp:H) (nx:Nat) (k:KY):cBa d s m C hp nx (some k)=some (.tup [.os (nx+dtN k) 0 12 1 true,.b true],iL d s m {C with tr:=trP C k} (upd hp (nx+dtN k) (.cells (c8 (dkB k)) true)),nx+400):=rfl
noncomputable def bOf:List AV→H→Nat→Option (AV×H×Nat)
 |[.op d 0,.w32 id],hp,nx=>aK (iN hp d) fun t=>aN (ROk t.C) (cBa d t.s t.m t.C hp nx (iK id t.C.by'))
 |_,_,_=>none
theorem cBb (d:Nat) (id:W32) (hp:H) (nx:Nat):bOf [.op d 0,.w32 id] hp nx=aK (iN hp d) fun t=>aN (ROk t.C) (cBa d t.s t.m t.C hp nx (iK id t.C.by')):=(rfl)
attribute [go_sem] cBb bOe bOd
set_option maxHeartbeats 1000000 in
theorem cPx:cQ Tryz.prog GLh 32 bOf:=by
 refine gF Tryz.func32 (aT rfl) ?_
 intro args hp nx r hp' nx' hg
 unfold bOf at hg
 split at hg
 ·rename_i d id
  replace hg:=aJ hg;obtain⟨⟨s,m,C⟩,hD0,hg⟩:=hg
  have hD:=iV hD0
  replace hg:=aP hg;obtain⟨hok,hg⟩:=hg
  simp only at hg hD hok
  rcases hk:iK id C.by' with _|k
  ·rw[hk,bOe]at hg
   simp only[Option.some.injEq,Prod.mk.injEq]at hg;obtain⟨rfl,rfl,rfl⟩:=hg
   refine⟨J1 rfl,by omega,fun hnone=>?_⟩
   have h1:=hD.hd;have h2:=hD.hs;have h3:=hD.hm
   refine aA rfl (bA [0,1] rfl rfl rfl fun K hK=>?_)
   simp(disch:=omega) only[Tryz.f32,go_sem,↓reduceIte]
   refine hK _ ?_
   refine aB (aA rfl (bA [0,6,7] rfl rfl rfl fun K hK=>?_))
   simp(disch:=omega) only[Tryz.f32,go_sem,↓reduceIte,h1,h2,hk,jA,J8,J7,J9]
   refine hK _ ?_
   refine aB (aA rfl (aA rfl (bA [20,0,6] rfl rfl rfl fun K hK=>?_)))
   simp(disch:=omega) only[Tryz.f32,go_sem,↓reduceIte]
   refine hK _ ?_
   refine aB (eC (.tmp 20) rfl rfl rfl (fun h=>?_) (fun h=>?_))
   ·refine aI rfl (aA rfl (bA [4,5] rfl rfl rfl fun K hK=>?_))
    simp(disch:=omega) only[Tryz.f32,go_sem,↓reduceIte]
    refine hK _ ?_
    refine aB (aS rfl (bI ?_))
    rw[iQ hD]
    exact⟨rfl,fun j o h=>jB hnone (by omega) j o h,by simp only;omega⟩
   refine aI rfl ?_
   cases h
  rw[hk,bOd]at hg
  simp only[Option.some.injEq,Prod.mk.injEq]at hg;obtain⟨rfl,rfl,rfl⟩:=hg
  refine⟨J1 rfl,by omega,fun hnone=>?_⟩
  have h1:=hD.hd;have h2:=hD.hs;have h3:=hD.hm
  obtain⟨n1,n2,n3,n4,n5,n6⟩:=hD.ne
  have hlt: ∀k o,hp k=some o→k<nx:=fun k o hk=>lI hnone hk
  have hd:=hlt _ _ h1
  have hs:=hlt _ _ h2
  have hm:=hlt _ _ h3
  obtain⟨k1,k2,k3,k4⟩:=hok.key _ _ hk
  have hki:iK k.id C.by'=some k:=by rw[k1];exact hk
  have hky:zT [.w32 k.id,.i k.role,.i k.st,.w8 k.seed.a,.w8 k.seed.b,.w8 k.seed.c,.w8 k.seed.d,.w8 k.seed.e,.w8 k.seed.f,.w8 k.seed.g,.w8 k.seed.h,.i k.h,.w32 k.next,.w32 k.since,.w32 k.seen]=some k:=sM k
  have hun:=aHz k.seed.l k.h k.seed.len k2
  have hru:=aIn hD
  have hnl:=iW k.seed.l k.h 0
  have hdl:=aAg k
  refine aA rfl (bA [0,1] rfl rfl rfl fun K hK=>?_)
  simp(disch:=omega) only[Tryz.f32,go_sem,↓reduceIte]
  refine hK _ ?_
  refine aB (aA rfl (bA [0,6,7] rfl rfl rfl fun K hK=>?_))
  simp(disch:=omega) only[Tryz.f32,go_sem,↓reduceIte,h1,h2,hk,jA,lV,J8,J7,J9]
  refine hK _ ?_
  refine aB (aA rfl (aA rfl (bA [20,0,6] rfl rfl rfl fun K hK=>?_)))
  simp(disch:=omega) only[Tryz.f32,go_sem,↓reduceIte]
  refine hK _ ?_
  refine aB (eC (.tmp 20) rfl rfl rfl (fun h=>?_) (fun h=>?_))
  ·refine aI rfl ?_
   cases h
  refine aI rfl ?_
  clear h
  refine aQ rfl (aB (aA rfl (aC (Γ:=bC [(49,.heap aFl),(50,.pure true aMp)]) [6,8] (aH cFh (aH ok52 aO)) rfl rfl rfl (fun K hK=>?_))))
  simp(disch:=omega) only[Tryz.f32,go_sem,↓reduceIte,hru,hok,hki,hky,hun,U0,U1,J9]
  refine hK _ ?_
  refine aB (aA rfl (bA [6,9] rfl rfl rfl fun K hK=>?_))
  simp(disch:=omega) only[Tryz.f32,go_sem,↓reduceIte,List.all_cons,List.all_nil,Option.isSome_some,Bool.and_self]
  refine hK _ ?_
  refine aB (aA rfl (aA rfl (bA [29,9] rfl rfl rfl fun K hK=>?_)))
  simp(disch:=omega) only[Tryz.f32,go_sem,↓reduceIte,J8,J7,J9]
  refine hK _ ?_
  refine aB (aW (.tmp 29) rfl rfl rfl (fun h=>?_) (fun h=>?_))
  ·refine aI rfl ?_
   have edk:wF 257#16 3#8 253#8 (iR k.seed.l k.h 0)=dkB k:=by unfold dkB flK;rw[J4 h]
   refine bA [9] rfl rfl rfl fun K hK=>?_
   simp(disch:=omega) only[Tryz.f32,go_sem,↓reduceIte,BitVec.reduceOr,J8,List.set_cons_zero,J9]
   refine hK _ ?_
   refine aB (aA rfl (aC (Γ:=bC [(51,.fresh true qG)]) [4,5] (aH cFg aO) rfl rfl rfl (fun K hK=>?_)))
   simp(disch:=omega) only[Tryz.f32,go_sem,↓reduceIte,hnl,edk,hdl,U0,U1,J9]
   refine hK _ ?_
   refine aB (aS rfl ?_)
   have edn:=dAt h
   rw[edn]
   refine⟨by simp only[Nat.add_assoc,Nat.reduceAdd];rfl,fun j o h=>hU (fun j2 o2 h2=>?_) j o h,by simp only;omega⟩
   refine aOi ?_ ?_ j2 o2 h2
   ·simp only[Nat.add_assoc,Nat.reduceAdd,bJ,if_true]
   intro j3 o3 hne h3
   have:=hlt j3 o3 h3
   simp(disch:=omega) only[aV,bY,↓reduceIte]
   exact h3
  refine aI rfl ?_
  have edk:wF 256#16 3#8 253#8 (iR k.seed.l k.h 0)=dkB k:=by unfold dkB flK;rw[J3 h]
  refine aQ rfl (aB (aA rfl (aC (Γ:=bC [(51,.fresh true qG)]) [4,5] (aH cFg aO) rfl rfl rfl (fun K hK=>?_))))
  simp(disch:=omega) only[Tryz.f32,go_sem,↓reduceIte,hnl,edk,hdl,U0,U1,J9]
  refine hK _ ?_
  refine aB (aS rfl ?_)
  have edn:=dAu h
  rw[edn]
  refine⟨by simp only[Nat.add_assoc,Nat.reduceAdd];rfl,fun j o h=>hU (fun j2 o2 h2=>?_) j o h,by simp only;omega⟩
  refine aOi ?_ ?_ j2 o2 h2
  ·simp only[Nat.add_assoc,Nat.reduceAdd,bJ,if_true]
  intro j3 o3 hne h3
  have:=hlt j3 o3 h3
  simp(disch:=omega) only[aV,bY,↓reduceIte]
  exact h3
 cases hg
theorem cWf:bX Tryz.prog GLh 32 (.heap bOf):=⟨⟨_,Tryz.func32,rfl,rfl⟩,cPx⟩
end Go.AX

namespace Go.AX
open Go Go.Proofs
abbrev T32:=BitVec 32
def ltN (x y:T32):Bool:=decide (x.toNat<y.toNat)
def cA (d:Array T32):List AV:=d.toList.map .w32
theorem cQr (d:Array T32):(cA d).length=d.size:=by simp[cA]
theorem aXt (d:Array T32) (k:Nat) (h:k<d.size):((cA d).drop k).head? =some (.w32 d[k]!):=by
 rw[List.head?_drop,cA,List.getElem?_map,Array.getElem?_toList,Array.getElem?_eq_getElem h,getElem!_pos d k h];rfl
theorem aTi (d:Array T32) (k:Nat) (x:T32):(cA d).set k (.w32 x)=cA (d.setIfInBounds k x):=by
 simp[cA,List.map_set]
theorem dZ (d:Array T32):AV.noMem.noMemL (cA d)=true:=by
 unfold cA
 generalize d.toList=l
 induction l with
 |nil=>rfl
 |cons x l ih=>show(AV.noMem (.w32 x)&&AV.noMem.noMemL (l.map .w32))=true;rw[ih];rfl
def unA:List AV→Option (List T32)
 |[]=>some []
 | .w32 x::r=>aK (unA r) fun l=>some (x::l)
 |_=>none
theorem dO: ∀ {xs:List AV} {l:List T32},unA xs=some l→xs=cA l.toArray
 |[],l,h=>by obtain rfl:=J0 h;rfl
 |x::r,l,h=>by
  cases x<;>simp only[unA]at h<;>first|(cases h;done)|skip
  replace h:=aJ h;obtain⟨m,hm,h⟩:=h
  obtain rfl:=J0 h
  have:=dO hm
  rw[this];simp[cA]
theorem bFk (d:Array T32):unA (cA d)=some d.toList:=by
 unfold cA
 generalize d.toList=l
 induction l with
 |nil=>rfl
 |cons x l ih=>show aK (unA (l.map .w32)) (fun l=>some (x::l))=_;rw[ih,aX]
theorem cW (d:Array T32) (i j:Nat):(Sort.swp d i j).size=d.size:=by simp[Sort.swp]
theorem qW:Sort.SWO ltN where
 irrefl x:=by simp[ltN]
 trans x y z h1 h2:=by simp only[ltN,decide_eq_true_eq]at*;omega
 ntrans x y z h1 h2:=by simp only[ltN,decide_eq_false_iff_not]at*;omega
def iU (l:List T32):List T32:=(Sort.sort ltN l.toArray).toList
theorem kC (l:List T32):(iU l).Perm l:=by
 have h:=(Sort.sort_sorts ltN qW l.toArray).1
 obtain⟨h1,_,h3⟩:=h
 unfold iU
 have e1:(Sort.sort ltN l.toArray).extract 0 l.toArray.size=Sort.sort ltN l.toArray:=by rw[←h1];exact Array.extract_size
 rw[e1,Array.extract_size]at h3
 exact h3
theorem aFo (l:List T32):(iU l).length=l.length:=(kC l).length_eq
theorem nY (l:List T32):(iU l).Pairwise fun a b=>a.toNat≤b.toNat:=by
 have h:=(Sort.sort_sorts ltN qW l.toArray)
 obtain⟨⟨h1,_,_⟩,h2⟩:=h
 rw[List.pairwise_iff_getElem]
 intro i j hi hj hij
 have hs:(iU l).length=l.toArray.size:=by rw[aFo];simp
 have:=h2 i j (Nat.zero_le _) hij (by omega)
 have e: ∀k (hk:k<(iU l).length),(Sort.sort ltN l.toArray)[k]! =(iU l)[k]:=by
  intro k hk
  rw[getElem!_pos _ k (by rw[h1];omega)];rfl
 rw[e j hj,e i hi]at this
 simp only[ltN,decide_eq_false_iff_not]at this
 omega
attribute [go_sem] Array.size_setIfInBounds cW cQr aXt aTi dZ bFk
end Go.AX

namespace Go.AX
open Go Go.Proofs
structure SDC where
 k:Nat
 d:Array T32
 c:Nat
theorem cMm (x y:T32):decide (x<y)=ltN x y:=by
 unfold ltN;rw[decide_eq_decide,BitVec.lt_def]
def bKh:List AV→Option AV
 |[.w32 _]=>some (.b false)
 |_=>none
theorem bWy (x:T32):bKh [.w32 x]=some (.b false):=(rfl)
def dY:List AV→Option AV
 |[.w32 x,.w32 y]=>some (.b (ltN x y))
 |_=>none
theorem bLn (x y:T32):dY [.w32 x,.w32 y]=some (.b (ltN x y)):=(rfl)
attribute [go_sem] bWy bLn
set_option maxHeartbeats 1000000 in
theorem cLo:cL Tryz.prog GLh 90 bKh:=by
 refine cC Tryz.func90 (aT rfl) ?_
 intro args r hg
 unfold bKh at hg
 split at hg
 ·rename_i x
  obtain rfl:=J0 hg
  refine⟨J1 rfl,fun nx=>?_⟩
  refine aA rfl (bA [0] rfl rfl rfl fun K hK=>?_)
  simp(disch:=omega) only[Tryz.f90,go_sem,↓reduceIte]
  refine hK _ ?_
  refine aB (aA rfl (bA [2] rfl rfl rfl fun K hK=>?_))
  simp(disch:=omega) only[Tryz.f90,go_sem,↓reduceIte,decide_true,Bool.not_true]
  refine hK _ ?_
  refine aB (aS rfl ?_)
  simp(disch:=omega) only[cN,bV,bK,bQ,Tryz.f90,go_sem,↓reduceIte]
 cases hg
theorem cKg:bX Tryz.prog GLh 90 (.pure true bKh):=⟨⟨_,Tryz.func90,rfl,rfl⟩,cLo⟩
set_option maxHeartbeats 1000000 in
theorem bXs:cL Tryz.prog GLh 74 dY:=by
 refine cC Tryz.func74 (aT rfl) ?_
 intro args r hg
 unfold dY at hg
 split at hg
 ·rename_i x y
  obtain rfl:=J0 hg
  refine⟨J1 rfl,fun nx=>?_⟩
  refine aA rfl (bA [0,1] rfl rfl rfl fun K hK=>?_)
  simp(disch:=omega) only[Tryz.f74,go_sem,↓reduceIte]
  refine hK _ ?_
  refine aB (aA rfl (aC (Γ:=bC [(90,.pure true bKh)]) [4] (aH cKg aO) rfl rfl rfl (fun K hK=>?_)))
  simp(disch:=omega) only[Tryz.f74,go_sem,↓reduceIte,cMm]
  refine hK _ ?_
  refine aB (aS rfl ?_)
  simp(disch:=omega) only[cN,bV,bK,bQ,Tryz.f74,go_sem,↓reduceIte]
 cases hg
theorem jC:bX Tryz.prog GLh 74 (.pure true dY):=⟨⟨_,Tryz.func74,rfl,rfl⟩,bXs⟩
def bMq:List AV→List AV→Option (AV×List AV)
 |[.os _ 0 n 1 _,.i a,.i b],xs=>aK (unA xs) fun l=>aN (l.length=n∧0≤a∧a≤b∧b≤n∧n≤1000000) (some (.tup [],cA (Sort.insertionSort ltN l.toArray a.toNat b.toNat)))
 |_,_=>none
theorem bYt (id n:Nat) (gg:Bool) (a b:Int) (xs:List AV):bMq [.os id 0 n 1 gg,.i a,.i b] xs=aK (unA xs) fun l=>aN (l.length=n∧0≤a∧a≤b∧b≤n∧n≤1000000) (some (.tup [],cA (Sort.insertionSort ltN l.toArray a.toNat b.toNat))):=(rfl)
attribute [go_sem] bYt
theorem bMp (a j:Nat) (d:Array T32):Sort.insInner ltN a (j+1) d=if j+1>a&&ltN d[j+1]! d[j]! then Sort.insInner ltN a j (Sort.swp d (j+1) j)else d:=by rw[Sort.insInner]
set_option maxHeartbeats 1000000 in
theorem cNh:cQ Tryz.prog GLh 68 (dP bMq):=by
 refine dN Tryz.func68 (aT rfl) ?_
 intro id off n e gg rest nx xs r ys hg
 unfold bMq at hg
 split at hg
 ·rename_i id2 n2 gg2 a0 b0 heq
  simp only[List.cons.injEq,AV.os.injEq]at heq
  obtain⟨⟨rfl,rfl,rfl,rfl,rfl⟩,rfl⟩:=heq
  replace hg:=aJ hg;obtain⟨l,hl,hg⟩:=hg
  replace hg:=aP hg;obtain⟨⟨hn,ha,hab,hbn,hbig⟩,hg⟩:=hg
  simp only[Option.some.injEq,Prod.mk.injEq]at hg;obtain⟨rfl,rfl⟩:=hg
  have:=dO hl;subst this
  obtain⟨a,rfl⟩:=Int.eq_ofNat_of_zero_le ha
  obtain⟨b,rfl⟩:=Int.eq_ofNat_of_zero_le (show 0≤b0 by omega)
  simp only[U2]at*
  obtain⟨d,hd⟩: ∃d,l.toArray=d:=⟨_,rfl⟩
  have hds:d.size=n:=by rw[←hd];simpa using hn
  rw[hd]
  refine⟨J1 rfl,fun hid=>?_⟩
  obtain⟨R,hR⟩: ∃R,Sort.insertionSort ltN d a b=R:=⟨_,rfl⟩
  have hR0:Sort.insOuter ltN a b (a+1) d=R:=hR
  rw[hR]
  have hab2:a≤b:=by omega
  have hbn2:b≤n:=by omega
  clear hR hl hn ha hab hbn
  refine aA rfl (bA [0,1,2,6] rfl rfl rfl fun K hK=>?_)
  simp(disch:=omega) only[Tryz.f68,go_sem,↓reduceIte]
  refine hK _ ?_
  refine aB (aR 0 rfl rfl ?_)
  refine bR (fun p:SDC=> {fr:=[(0,.os id 0 n 1 gg),(1,.i a),(2,.i b),(6,.i p.k)],hp:=upd (fun _=>none) id (.cells (cA p.d) true),nx:=0,cx:=p.c}) (fun p=>Sort.insOuter ltN a b p.k p.d=R∧p.d.size=n∧a<p.k∧id<p.c) (fun p=>b-p.k) rfl ⟨⟨a+1,d,_⟩,⟨hR0,hds,Nat.lt_succ_self _,by simp only;omega⟩,bD (by simp only[Int.natCast_add,Int.natCast_one]) rfl (U3 _)⟩ ?_
  rintro⟨k,d1,c⟩ ⟨hr1,hs1,hk,hc⟩ n0
  simp only at hr1 hs1 hk hc⊢
  refine aA rfl (aA rfl (bA [12,0,1,2,6] rfl rfl rfl fun K hK=>?_))
  simp(disch:=omega) only[Tryz.f68,go_sem,↓reduceIte]
  refine hK _ ?_
  refine aB (aW (.tmp 12) rfl rfl rfl (fun h=>?_) (fun h=>?_))
  ·refine aI rfl ?_
   have hkb:k<b:=by omega
   rw[Sort.insOuter,J4 hkb]at hr1
   obtain⟨R2,hR2⟩: ∃R2,Sort.insInner ltN a k d1=R2:=⟨_,rfl⟩
   rw[hR2]at hr1
   refine aQ rfl (aB (aA rfl (aR 1 rfl rfl (aA rfl (bA [0,1,2,6,7] rfl rfl rfl fun K hK=>?_)))))
   simp(disch:=omega) only[Tryz.f68,go_sem,↓reduceIte]
   refine hK _ ?_
   refine aB (aR 2 rfl rfl ?_)
   refine bR (fun q:SDC=> {fr:=[(0,.os id 0 n 1 gg),(1,.i a),(2,.i b),(6,.i k),(7,.i q.k)],hp:=upd (fun _=>none) id (.cells (cA q.d) true),nx:=0,cx:=q.c}) (fun q=>Sort.insInner ltN a q.k q.d=R2∧q.d.size=n∧q.k≤k∧id<q.c) (fun q=>q.k) rfl ⟨⟨k,d1,_⟩,⟨hR2,hs1,U3 _,by simp only;omega⟩,bD rfl rfl (U3 _)⟩ ?_
   rintro⟨j,d2,c2⟩ ⟨hr2,hs2,hj,hc2⟩ n0
   simp only at hr2 hs2 hj hc2⊢
   by_cases hja:a<j
   ·obtain⟨i,rfl⟩: ∃i,j=i+1:=⟨j-1,by omega⟩
    have hd1:decide ((a:Int)<((i+1:Nat):Int))=true:=J5 (by omega)
    have e1:((i+1:Nat):Int)-1=(i:Int):=by omega
    have hgt:(decide (i+1>a))=true:=J5 (by omega)
    rw[bMp,hgt,Bool.true_and]at hr2
    obtain⟨v,hv⟩: ∃v,ltN d2[i+1]! d2[i]! =v:=⟨_,rfl⟩
    rw[hv]at hr2
    refine aA rfl (aA rfl (bB (Γ:=bC [(74,.pure true dY)]) (fun k=>if k=13 then 0 else 2) [30,0,1,2,6,7] bZ (aH jC aO) rfl rfl rfl (by kernel_rfl) (fun K hK=>?_)))
    simp(disch:=omega) only[Tryz.f68,go_sem,↓reduceIte,hd1,e1,hv,U2]
    refine hK _ ?_
    refine aB ?_
    cases v
    ·simp only[Bool.false_eq_true,if_false]at hr2
     refine eC (.tmp 30) rfl rfl rfl (fun h=>?_) (fun h=>?_)
     ·refine aI rfl ?_
      cases h
     refine aI rfl (bF 2 rfl rfl (aY (aZ (bE (bU (aB ?_))))))
     subst hr2
     refine bA [0,1,2,6] rfl rfl rfl fun K hK=>?_
     simp(disch:=omega) only[Tryz.f68,go_sem,↓reduceIte]
     refine hK _ ?_
     refine bT ?_
     refine⟨⟨k+1,d2,_⟩,⟨hr1,hs2,by simp only;omega,by simp only;omega⟩,by simp only;omega,bD (by simp only[Int.natCast_add,Int.natCast_one]) rfl (U3 _)⟩
    simp only[if_true]at hr2
    have hsw:(d2.setIfInBounds (i+1) d2[i]!).setIfInBounds i d2[i+1]! =Sort.swp d2 (i+1) i:=rfl
    refine eC (.tmp 30) rfl rfl rfl (fun h=>?_) (fun h=>?_)
    ·refine aQ rfl (aB (aA rfl (aR 3 rfl rfl (bB (Γ:=aL) (fun _=>2) [0,1,2,6,7] bZ (aD _ _) rfl rfl rfl (by kernel_rfl) (fun K hK=>?_)))))
     simp(disch:=omega) only[Tryz.f68,go_sem,↓reduceIte,e1,hsw,U2]
     refine hK _ ?_
     refine bU (aB (bA [0,1,2,6,7] rfl rfl rfl fun K hK=>?_))
     simp(disch:=omega) only[Tryz.f68,go_sem,↓reduceIte,e1]
     refine hK _ ?_
     refine bT ?_
     refine⟨⟨i,Sort.swp d2 (i+1) i,_⟩,⟨hr2,by simp only[cW];exact hs2,by simp only;omega,by simp only;omega⟩,by simp only;omega,⟨fun _=> .inr rfl,bS (by simp(disch:=omega) only[aV,↓reduceIte,eq_self]) cB,U3 _⟩⟩
    cases h
   have hd1:decide ((a:Int)<(j:Int))=false:=J6 (by omega)
   have hr3:d2=R2:=by
    rw[←hr2]
    cases j with
    |zero=>rfl
    |succ i=>
     have hgt:(decide (i+1>a))=false:=J6 (by omega)
     rw[bMp,hgt];rfl
   subst hr3
   refine aA rfl (aA rfl (bB (Γ:=bC [(74,.pure true dY)]) (fun k=>if k=13 then 0 else 2) [30,0,1,2,6,7] bZ (aH jC aO) rfl rfl rfl (by kernel_rfl) (fun K hK=>?_)))
   simp(disch:=omega) only[Tryz.f68,go_sem,↓reduceIte,hd1]
   refine hK _ ?_
   refine aB (eC (.tmp 30) rfl rfl rfl (fun h=>?_) (fun h=>?_))
   ·refine aI rfl ?_
    cases h
   refine aI rfl (bF 2 rfl rfl (aY (aZ (bE (bU (aB (bA [0,1,2,6] rfl rfl rfl fun K hK=>?_)))))))
   simp(disch:=omega) only[Tryz.f68,go_sem,↓reduceIte]
   refine hK _ ?_
   refine bT ?_
   refine⟨⟨k+1,d2,_⟩,⟨hr1,hs2,by simp only;omega,by simp only;omega⟩,by simp only;omega,bD (by simp only[Int.natCast_add,Int.natCast_one]) rfl (U3 _)⟩
  refine aI rfl (bF 0 rfl rfl (aY (aZ (bE ?_))))
  have hkb: ¬k<b:=by omega
  rw[Sort.insOuter,J3 hkb]at hr1
  subst hr1
  exact⟨rfl,by simp only[aV,if_true],rfl,dZ _⟩
 cases hg
theorem cVt:bX Tryz.prog GLh 68 (.heap (dP bMq)):=⟨⟨_,Tryz.func68,rfl,rfl⟩,cNh⟩
end Go.AX

namespace Go.AX
open Go Go.Proofs
theorem aMf (hi first root:Nat) (d:Array T32) (h:hi≤2*root+1):Sort.siftDown ltN hi first root d=d:=by rw[Sort.siftDown,dif_pos h]
theorem bGr (hi first root:Nat) (d:Array T32) (h:2*root+2<hi) (hl:ltN d[first+(2*root+1)]! d[first+(2*root+2)]! =true):Sort.siftDown ltN hi first root d=if !ltN d[first+root]! d[first+(2*root+2)]! then d else Sort.siftDown ltN hi first (2*root+2) (Sort.swp d (first+root) (first+(2*root+2))):=by
 rw[Sort.siftDown,dif_neg (by omega),J4 (by rw[show first+(2*root+1)+1=first+(2*root+2)by omega,hl,Bool.and_true];exact J5 (by omega)),dif_pos h]
theorem aMe (hi first root:Nat) (d:Array T32) (h:2*root+1<hi) (hl:(decide (2*root+2<hi)&&ltN d[first+(2*root+1)]! d[first+(2*root+2)]!)=false):Sort.siftDown ltN hi first root d=if !ltN d[first+root]! d[first+(2*root+1)]! then d else Sort.siftDown ltN hi first (2*root+1) (Sort.swp d (first+root) (first+(2*root+1))):=by
 rw[Sort.siftDown,dif_neg (by omega),J3 (by rw[show first+(2*root+1)+1=first+(2*root+2)by omega,show 2*root+1+1=2*root+2 by omega,hl];simp)]
def aYx:List AV→List AV→Option (AV×List AV)
 |[.os _ 0 n 1 _,.i lo,.i hi,.i first],xs=>aK (unA xs) fun l=>aN (l.length=n∧0≤lo∧lo≤n∧0≤hi∧0≤first∧first+hi≤n∧n≤1000000) (some (.tup [],cA (Sort.siftDown ltN hi.toNat first.toNat lo.toNat l.toArray)))
 |_,_=>none
theorem bUa (id n:Nat) (gg:Bool) (lo hi first:Int) (xs:List AV):aYx [.os id 0 n 1 gg,.i lo,.i hi,.i first] xs=aK (unA xs) fun l=>aN (l.length=n∧0≤lo∧lo≤n∧0≤hi∧0≤first∧first+hi≤n∧n≤1000000) (some (.tup [],cA (Sort.siftDown ltN hi.toNat first.toNat lo.toNat l.toArray))):=(rfl)
attribute [go_sem] bUa
set_option maxHeartbeats 2000000 in
theorem cHq:cQ Tryz.prog GLh 85 (dP aYx):=by
 refine dN Tryz.func85 (aT rfl) ?_
 intro id off n e gg rest nx xs r ys hg
 unfold aYx at hg
 split at hg
 ·rename_i id2 n2 gg2 lo0 hi0 first0 heq
  simp only[List.cons.injEq,AV.os.injEq]at heq
  obtain⟨⟨rfl,rfl,rfl,rfl,rfl⟩,rfl⟩:=heq
  replace hg:=aJ hg;obtain⟨l,hl,hg⟩:=hg
  replace hg:=aP hg;obtain⟨⟨hn,hlo,hlon,hhi,hfi,hfn,hbig⟩,hg⟩:=hg
  simp only[Option.some.injEq,Prod.mk.injEq]at hg;obtain⟨rfl,rfl⟩:=hg
  have:=dO hl;subst this
  obtain⟨lo,rfl⟩:=Int.eq_ofNat_of_zero_le hlo
  obtain⟨hi,rfl⟩:=Int.eq_ofNat_of_zero_le hhi
  obtain⟨first,rfl⟩:=Int.eq_ofNat_of_zero_le hfi
  simp only[U2]at*
  obtain⟨d,hd⟩: ∃d,l.toArray=d:=⟨_,rfl⟩
  have hds:d.size=n:=by rw[←hd];simpa using hn
  have hlon2:lo≤n:=by omega
  have hfn2:first+hi≤n:=by omega
  rw[hd]
  refine⟨J1 rfl,fun hid=>?_⟩
  obtain⟨R,hR⟩: ∃R,Sort.siftDown ltN hi first lo d=R:=⟨_,rfl⟩
  rw[hR]
  clear hl hn hlo hlon hhi hfi hfn
  refine aA rfl (bA [0,2,3,8] rfl rfl rfl fun K hK=>?_)
  simp(disch:=omega) only[Tryz.f85,go_sem,↓reduceIte]
  refine hK _ ?_
  refine aB (aR 0 rfl rfl ?_)
  refine bR (fun p:SDC=> {fr:=[(0,.os id 0 n 1 gg),(2,.i hi),(3,.i first),(8,.i p.k)],hp:=upd (fun _=>none) id (.cells (cA p.d) true),nx:=0,cx:=p.c}) (fun p=>Sort.siftDown ltN hi first p.k p.d=R∧p.d.size=n∧p.k≤n∧id<p.c) (fun p=>2*n-p.k) rfl ⟨⟨lo,d,_⟩,⟨hR,hds,hlon2,by simp only;omega⟩,bD rfl rfl (U3 _)⟩ ?_
  rintro⟨k,d1,c⟩ ⟨hr1,hs1,hk,hc⟩ n0
  simp only at hr1 hs1 hk hc⊢
  refine aR 1 rfl rfl (aA rfl (bA [0,2,3,8,9] rfl rfl rfl fun K hK=>?_))
  simp(disch:=omega) only[Tryz.f85,go_sem,↓reduceIte]
  refine hK _ ?_
  refine aB (aA rfl (aA rfl (bA [16,0,2,3,8,9] rfl rfl rfl fun K hK=>?_)))
  simp(disch:=omega) only[Tryz.f85,go_sem,↓reduceIte]
  refine hK _ ?_
  refine aB (aW (.tmp 16) rfl rfl rfl (fun h=>?_) (fun h=>?_))
  ·refine aI rfl ?_
   have hke:hi≤2*k+1:=by omega
   rw[aMf _ _ _ _ hke]at hr1
   subst hr1
   refine bF 0 rfl rfl (aY (mW (aZ (bE ?_)) rfl))
   exact⟨rfl,by simp only[aV,if_true],rfl,dZ _⟩
  refine aI rfl (aQ rfl (aB (aA rfl (aA rfl ?_))))
  have hk1:2*k+1<hi:=by omega
  clear h
  have e9:(first:Int)+(2*(k:Int)+1)=((first+(2*k+1):Nat):Int):=by omega
  have e9b:((first+(2*k+1):Nat):Int)+1=((first+(2*k+2):Nat):Int):=by omega
  by_cases hk2:2*k+2<hi
  ·have hd1:decide (2*(k:Int)+1+1<(hi:Int))=true:=J5 (by omega)
   have hb1:first+(2*k+1)<n:=by omega
   have hb2:first+(2*k+2)<n:=by omega
   obtain⟨u,hu⟩: ∃u,ltN d1[first+(2*k+1)]! d1[first+(2*k+2)]! =u:=⟨_,rfl⟩
   refine bB (Γ:=bC [(74,.pure true dY)]) (fun k=>if k=18 then 0 else 2) [36,0,2,3,8,9] bZ (aH jC aO) rfl rfl rfl (by kernel_rfl) (fun K hK=>?_)
   simp(disch:=omega) only[Tryz.f85,go_sem,↓reduceIte,hd1,e9,e9b,hu,U2]
   refine hK _ ?_
   refine aB ?_
   cases u
   ·rw[aMe _ _ _ _ hk1 (by rw[hu,Bool.and_false])]at hr1
    refine eC (.tmp 36) rfl rfl rfl (fun h=>?_) (fun h=>?_)
    ·refine aI rfl ?_
     cases h
    refine aI rfl (aQ rfl (aB (aA rfl (aA rfl ?_))))
    obtain⟨ch,hch⟩: ∃ch,2*k+1=ch:=⟨_,rfl⟩
    have ech:2*(k:Int)+1=(ch:Int):=by omega
    rw[hch]at hr1
    rw[ech]
    clear e9 e9b hu
    have hchn:first+ch<n:=by omega
    have hkn:first+k<n:=by omega
    obtain⟨v,hv⟩: ∃v,ltN d1[first+k]! d1[first+ch]! =v:=⟨_,rfl⟩
    rw[hv]at hr1
    have e2:((first:Int)+(k:Int)).toNat=first+k:=by omega
    have e3:((first:Int)+(ch:Int)).toNat=first+ch:=by omega
    refine bB (Γ:=bC [(74,.pure true dY)]) (fun k=>if k=12 then 0 else 2) [52,0,2,3,8,9] bZ (aH jC aO) rfl rfl rfl (by kernel_rfl) (fun K hK=>?_)
    simp(disch:=omega) only[Tryz.f85,go_sem,↓reduceIte,e2,e3,hv]
    refine hK _ ?_
    refine aB ?_
    cases v
    ·simp only[Bool.not_false,if_true]at hr1
     subst hr1
     refine eC (.tmp 52) rfl rfl rfl (fun h=>?_) (fun h=>?_)
     ·exact aI rfl (aS rfl (bI (bN (dF (bN (⟨rfl,by simp only[aV,if_true],rfl,dZ _⟩))))))
     refine aI rfl ?_
     cases h
    simp only[Bool.not_true,Bool.false_eq_true,if_false]at hr1
    refine eC (.tmp 52) rfl rfl rfl (fun h=>?_) (fun h=>?_)
    ·cases h
    refine aQ rfl (aB (aA rfl ?_))
    have hsw:(d1.setIfInBounds (first+k) d1[first+ch]!).setIfInBounds (first+ch) d1[first+k]! =Sort.swp d1 (first+k) (first+ch):=rfl
    refine bB (Γ:=aL) (fun _=>2) [0,2,3,9] bZ (aD _ _) rfl rfl rfl (by kernel_rfl) (fun K hK=>?_)
    simp(disch:=omega) only[Tryz.f85,go_sem,↓reduceIte,e2,e3,hsw]
    refine hK _ ?_
    refine aB (bA [0,2,3,8] rfl rfl rfl fun K hK=>?_)
    simp(disch:=omega) only[Tryz.f85,go_sem,↓reduceIte]
    refine hK _ ?_
    refine bU (bT ?_)
    refine⟨⟨ch,Sort.swp d1 (first+k) (first+ch),_⟩,⟨hr1,by simp only[cW];exact hs1,by simp only;omega,by simp only;omega⟩,by simp only;omega,⟨fun _=> .inr rfl,bS (by simp(disch:=omega) only[aV,↓reduceIte,eq_self]) cB,U3 _⟩⟩
   rw[bGr _ _ _ _ hk2 hu]at hr1
   refine eC (.tmp 36) rfl rfl rfl (fun h=>?_) (fun h=>?_)
   ·refine bA [0,2,3,8,9] rfl rfl rfl fun K hK=>?_
    simp(disch:=omega) only[Tryz.f85,go_sem,↓reduceIte]
    refine hK _ ?_
    refine aB ?_
    obtain⟨ch,hch⟩: ∃ch,2*k+2=ch:=⟨_,rfl⟩
    have ech:2*(k:Int)+1+1=(ch:Int):=by omega
    rw[hch]at hr1
    rw[ech]
    clear e9 e9b hu
    have hchn:first+ch<n:=by omega
    have hkn:first+k<n:=by omega
    obtain⟨v,hv⟩: ∃v,ltN d1[first+k]! d1[first+ch]! =v:=⟨_,rfl⟩
    rw[hv]at hr1
    have e2:((first:Int)+(k:Int)).toNat=first+k:=by omega
    have e3:((first:Int)+(ch:Int)).toNat=first+ch:=by omega
    refine aA rfl (aA rfl (bB (Γ:=bC [(74,.pure true dY)]) (fun k=>if k=12 then 0 else 2) [52,0,2,3,8,9] bZ (aH jC aO) rfl rfl rfl (by kernel_rfl) (fun K hK=>?_)))
    simp(disch:=omega) only[Tryz.f85,go_sem,↓reduceIte,e2,e3,hv]
    refine hK _ ?_
    refine aB ?_
    cases v
    ·simp only[Bool.not_false,if_true]at hr1
     subst hr1
     refine eC (.tmp 52) rfl rfl rfl (fun h=>?_) (fun h=>?_)
     ·exact aI rfl (aS rfl (bI (bN (dF (bN (⟨rfl,by simp only[aV,if_true],rfl,dZ _⟩))))))
     refine aI rfl ?_
     cases h
    simp only[Bool.not_true,Bool.false_eq_true,if_false]at hr1
    refine eC (.tmp 52) rfl rfl rfl (fun h=>?_) (fun h=>?_)
    ·cases h
    refine aQ rfl (aB (aA rfl ?_))
    have hsw:(d1.setIfInBounds (first+k) d1[first+ch]!).setIfInBounds (first+ch) d1[first+k]! =Sort.swp d1 (first+k) (first+ch):=rfl
    refine bB (Γ:=aL) (fun _=>2) [0,2,3,9] bZ (aD _ _) rfl rfl rfl (by kernel_rfl) (fun K hK=>?_)
    simp(disch:=omega) only[Tryz.f85,go_sem,↓reduceIte,e2,e3,hsw]
    refine hK _ ?_
    refine aB (bA [0,2,3,8] rfl rfl rfl fun K hK=>?_)
    simp(disch:=omega) only[Tryz.f85,go_sem,↓reduceIte]
    refine hK _ ?_
    refine bU (bT ?_)
    refine⟨⟨ch,Sort.swp d1 (first+k) (first+ch),_⟩,⟨hr1,by simp only[cW];exact hs1,by simp only;omega,by simp only;omega⟩,by simp only;omega,⟨fun _=> .inr rfl,bS (by simp(disch:=omega) only[aV,↓reduceIte,eq_self]) cB,U3 _⟩⟩
   cases h
  have hd1:decide (2*(k:Int)+1+1<(hi:Int))=false:=J6 (by omega)
  refine bB (Γ:=bC [(74,.pure true dY)]) (fun k=>if k=18 then 0 else 2) [36,0,2,3,8,9] bZ (aH jC aO) rfl rfl rfl (by kernel_rfl) (fun K hK=>?_)
  simp(disch:=omega) only[Tryz.f85,go_sem,↓reduceIte,hd1]
  refine hK _ ?_
  refine aB ?_
  rw[aMe _ _ _ _ hk1 (by rw[J6 (by omega: ¬2*k+2<hi),Bool.false_and])]at hr1
  refine eC (.tmp 36) rfl rfl rfl (fun h=>?_) (fun h=>?_)
  ·refine aI rfl ?_
   cases h
  refine aI rfl (aQ rfl (aB (aA rfl (aA rfl ?_))))
  obtain⟨ch,hch⟩: ∃ch,2*k+1=ch:=⟨_,rfl⟩
  have ech:2*(k:Int)+1=(ch:Int):=by omega
  rw[hch]at hr1
  rw[ech]
  clear e9 e9b
  have hchn:first+ch<n:=by omega
  have hkn:first+k<n:=by omega
  obtain⟨v,hv⟩: ∃v,ltN d1[first+k]! d1[first+ch]! =v:=⟨_,rfl⟩
  rw[hv]at hr1
  have e2:((first:Int)+(k:Int)).toNat=first+k:=by omega
  have e3:((first:Int)+(ch:Int)).toNat=first+ch:=by omega
  refine bB (Γ:=bC [(74,.pure true dY)]) (fun k=>if k=12 then 0 else 2) [52,0,2,3,8,9] bZ (aH jC aO) rfl rfl rfl (by kernel_rfl) (fun K hK=>?_)
  simp(disch:=omega) only[Tryz.f85,go_sem,↓reduceIte,e2,e3,hv]
  refine hK _ ?_
  refine aB ?_
  cases v
  ·simp only[Bool.not_false,if_true]at hr1
   subst hr1
   refine eC (.tmp 52) rfl rfl rfl (fun h=>?_) (fun h=>?_)
   ·exact aI rfl (aS rfl (bI (bN (dF (bN (⟨rfl,by simp only[aV,if_true],rfl,dZ _⟩))))))
   refine aI rfl ?_
   cases h
  simp only[Bool.not_true,Bool.false_eq_true,if_false]at hr1
  refine eC (.tmp 52) rfl rfl rfl (fun h=>?_) (fun h=>?_)
  ·cases h
  refine aQ rfl (aB (aA rfl ?_))
  have hsw:(d1.setIfInBounds (first+k) d1[first+ch]!).setIfInBounds (first+ch) d1[first+k]! =Sort.swp d1 (first+k) (first+ch):=rfl
  refine bB (Γ:=aL) (fun _=>2) [0,2,3,9] bZ (aD _ _) rfl rfl rfl (by kernel_rfl) (fun K hK=>?_)
  simp(disch:=omega) only[Tryz.f85,go_sem,↓reduceIte,e2,e3,hsw]
  refine hK _ ?_
  refine aB (bA [0,2,3,8] rfl rfl rfl fun K hK=>?_)
  simp(disch:=omega) only[Tryz.f85,go_sem,↓reduceIte]
  refine hK _ ?_
  refine bU (bT ?_)
  refine⟨⟨ch,Sort.swp d1 (first+k) (first+ch),_⟩,⟨hr1,by simp only[cW];exact hs1,by simp only;omega,by simp only;omega⟩,by simp only;omega,⟨fun _=> .inr rfl,bS (by simp(disch:=omega) only[aV,↓reduceIte,eq_self]) cB,U3 _⟩⟩
 cases hg
theorem bJb:bX Tryz.prog GLh 85 (.heap (dP aYx)):=⟨⟨_,Tryz.func85,rfl,rfl⟩,cHq⟩
theorem aYw (hi first:Nat): ∀(m root:Nat) (d:Array T32),hi-root≤m→(Sort.siftDown ltN hi first root d).size=d.size:=by
 intro m
 induction m with
 |zero=>intro root d h;rw[aMf _ _ _ _ (by omega)]
 |succ m ih=>
  intro root d h
  rw[Sort.siftDown]
  split
  ·rfl
  split
  ·split
   ·rfl
   split
   ·rw[ih _ _ (by omega),cW]
   rfl
  split
  ·rfl
  rw[ih _ _ (by omega),cW]
theorem aBd (hi first root:Nat) (d:Array T32):(Sort.siftDown ltN hi first root d).size=d.size:=aYw hi first _ root d (U3 _)
def bMx:List AV→List AV→Option (AV×List AV)
 |[.os _ 0 n 1 _,.i a,.i b],xs=>aK (unA xs) fun l=>aN (l.length=n∧0≤a∧a<b∧b≤n∧n≤1000000) (some (.tup [],cA (Sort.heapSort ltN l.toArray a.toNat b.toNat)))
 |_,_=>none
theorem bZu (id n:Nat) (gg:Bool) (a b:Int) (xs:List AV):bMx [.os id 0 n 1 gg,.i a,.i b] xs=aK (unA xs) fun l=>aN (l.length=n∧0≤a∧a<b∧b≤n∧n≤1000000) (some (.tup [],cA (Sort.heapSort ltN l.toArray a.toNat b.toNat))):=(rfl)
attribute [go_sem] bZu aBd Array.toArray_toList Array.length_toList
set_option maxHeartbeats 2000000 in
theorem cOh:cQ Tryz.prog GLh 69 (dP bMx):=by
 refine dN Tryz.func69 (aT rfl) ?_
 intro id off n e gg rest nx xs r ys hg
 unfold bMx at hg
 split at hg
 ·rename_i id2 n2 gg2 a0 b0 heq
  simp only[List.cons.injEq,AV.os.injEq]at heq
  obtain⟨⟨rfl,rfl,rfl,rfl,rfl⟩,rfl⟩:=heq
  replace hg:=aJ hg;obtain⟨l,hl,hg⟩:=hg
  replace hg:=aP hg;obtain⟨⟨hn,ha,hab,hbn,hbig⟩,hg⟩:=hg
  simp only[Option.some.injEq,Prod.mk.injEq]at hg;obtain⟨rfl,rfl⟩:=hg
  have:=dO hl;subst this
  obtain⟨a,rfl⟩:=Int.eq_ofNat_of_zero_le ha
  obtain⟨b,rfl⟩:=Int.eq_ofNat_of_zero_le (show 0≤b0 by omega)
  simp only[U2]at*
  obtain⟨d,hd⟩: ∃d,l.toArray=d:=⟨_,rfl⟩
  have hds:d.size=n:=by rw[←hd];simpa using hn
  have hab2:a<b:=by omega
  have hbn2:b≤n:=by omega
  rw[hd]
  refine⟨J1 rfl,fun hid=>?_⟩
  obtain⟨R,hR⟩: ∃R,Sort.heapSort ltN d a b=R:=⟨_,rfl⟩
  obtain⟨H,hH⟩: ∃H:Nat,b-a=H:=⟨_,rfl⟩
  obtain⟨B,hB⟩: ∃B,Sort.heapBuild ltN H a ((H-1)/2+1) d=B:=⟨_,rfl⟩
  rw[hR]
  rw[Sort.heapSort,hH,hB]at hR
  have eH:(b:Int)-(a:Int)=(H:Int):=by omega
  have eq2:((H:Int)-1).tdiv 2=(((H-1)/2:Nat):Int):=by rw[Int.tdiv_eq_ediv_of_nonneg (by omega)];omega
  clear hl hn ha hab hbn
  refine aA rfl (bA [0,1,2,6] rfl rfl rfl fun K hK=>?_)
  simp(disch:=omega) only[Tryz.f69,go_sem,↓reduceIte]
  refine hK _ ?_
  refine aB (aA rfl (bA [0,1,2,6,7] rfl rfl rfl fun K hK=>?_))
  simp(disch:=omega) only[Tryz.f69,go_sem,↓reduceIte]
  refine hK _ ?_
  refine aB (aA rfl (bA [0,6,7,8] rfl rfl rfl fun K hK=>?_))
  simp(disch:=omega) only[Tryz.f69,go_sem,↓reduceIte,eH]
  refine hK _ ?_
  refine aB (aA rfl (aA rfl (bA [0,6,7,8,9] rfl rfl rfl fun K hK=>?_)))
  simp(disch:=omega) only[Tryz.f69,go_sem,↓reduceIte,eq2]
  refine hK _ ?_
  refine aB (aR 0 rfl rfl ?_)
  refine bR (fun p:SDC=> {fr:=[(0,.os id 0 n 1 gg),(6,.i a),(7,.i 0),(8,.i H),(9,.i ((p.k:Int)-1))],hp:=upd (fun _=>none) id (.cells (cA p.d) true),nx:=0,cx:=p.c}) (fun p=>Sort.heapBuild ltN H a p.k p.d=B∧p.d.size=n∧p.k≤H∧id<p.c) (fun p=>p.k) rfl ⟨⟨(H-1)/2+1,d,_⟩,⟨hB,hds,by simp only;omega,by simp only;omega⟩,bD (by simp only[Int.natCast_add,Int.natCast_one,Int.add_sub_cancel]) rfl (U3 _)⟩ ?_
  rintro⟨k,d1,c⟩ ⟨hr1,hs1,hk,hc⟩ n0
  simp only at hr1 hs1 hk hc⊢
  refine aA rfl (aA rfl (bA [19,0,6,7,8,9] rfl rfl rfl fun K hK=>?_))
  simp(disch:=omega) only[Tryz.f69,go_sem,↓reduceIte]
  refine hK _ ?_
  refine aB (aW (.tmp 19) rfl rfl rfl (fun h=>?_) (fun h=>?_))
  ·refine aI rfl ?_
   obtain⟨i,rfl⟩: ∃i,k=i+1:=⟨k-1,by omega⟩
   have e1:((i+1:Nat):Int)-1=(i:Int):=by omega
   rw[Sort.heapBuild]at hr1
   refine aQ rfl (aB (aA rfl (aR 1 rfl rfl (aC (Γ:=bC [(85,.heap (dP aYx))]) [0,6,7,8,9] (aH bJb aO) rfl rfl rfl (fun K hK=>?_)))))
   simp(disch:=omega) only[Tryz.f69,go_sem,↓reduceIte,e1,hs1,U2]
   refine hK _ ?_
   refine bU (aB (bA [0,6,7,8,9] rfl rfl rfl fun K hK=>?_))
   simp(disch:=omega) only[Tryz.f69,go_sem,↓reduceIte]
   refine hK _ ?_
   refine bT ?_
   refine⟨⟨i,Sort.siftDown ltN H a i d1,_⟩,⟨hr1,by simp only[aBd];exact hs1,by simp only;omega,by simp only;omega⟩,by simp only;omega,⟨fun _=> .inr rfl,bS (by simp(disch:=omega) only[aV,↓reduceIte,eq_self]) cB,U3 _⟩⟩
  refine aI rfl (bF 0 rfl rfl (aY (aZ (bE (aB (aA rfl ?_))))))
  obtain rfl:k=0:=by omega
  rw[Sort.heapBuild]at hr1
  subst hr1
  refine bA [0,6,7,10] rfl rfl rfl fun K hK=>?_
  simp(disch:=omega) only[Tryz.f69,go_sem,↓reduceIte]
  refine hK _ ?_
  refine aB (aR 2 rfl rfl ?_)
  refine bR (fun p:SDC=> {fr:=[(0,.os id 0 n 1 gg),(6,.i a),(7,.i 0),(10,.i ((p.k:Int)-1))],hp:=upd (fun _=>none) id (.cells (cA p.d) true),nx:=0,cx:=p.c}) (fun p=>Sort.heapPop ltN a p.k p.d=R∧p.d.size=n∧p.k≤H∧id<p.c) (fun p=>p.k) rfl ⟨⟨H,d1,_⟩,⟨hR,hs1,U3 _,by simp only;omega⟩,bD rfl rfl (U3 _)⟩ ?_
  rintro⟨k,d2,c2⟩ ⟨hr2,hs2,hk2,hc2⟩ n0
  simp only at hr2 hs2 hk2 hc2⊢
  refine aA rfl (aA rfl (bA [30,0,6,7,10] rfl rfl rfl fun K hK=>?_))
  simp(disch:=omega) only[Tryz.f69,go_sem,↓reduceIte]
  refine hK _ ?_
  refine aB (aW (.tmp 30) rfl rfl rfl (fun h=>?_) (fun h=>?_))
  ·refine aI rfl ?_
   obtain⟨i,rfl⟩: ∃i,k=i+1:=⟨k-1,by omega⟩
   have e1:((i+1:Nat):Int)-1=(i:Int):=by omega
   have e2:((a:Int)+(i:Int)).toNat=a+i:=by omega
   have hsw:(d2.setIfInBounds a d2[a+i]!).setIfInBounds (a+i) d2[a]! =Sort.swp d2 a (a+i):=rfl
   have hss:(Sort.swp d2 a (a+i)).size=n:=by rw[cW];exact hs2
   rw[Sort.heapPop]at hr2
   refine aQ rfl (aB (aA rfl (aR 3 rfl rfl (aA rfl (bB (Γ:=aL) (fun _=>2) [0,6,7,10] bZ (aD _ _) rfl rfl rfl (by kernel_rfl) (fun K hK=>?_))))))
   simp(disch:=omega) only[Tryz.f69,go_sem,↓reduceIte,e1,e2,hsw]
   refine hK _ ?_
   refine aB (aC (Γ:=bC [(85,.heap (dP aYx))]) [0,6,7,10] (aH bJb aO) rfl rfl rfl (fun K hK=>?_))
   simp(disch:=omega) only[Tryz.f69,go_sem,↓reduceIte,hss,U2]
   refine hK _ ?_
   refine bU (aB (bA [0,6,7,10] rfl rfl rfl fun K hK=>?_))
   simp(disch:=omega) only[Tryz.f69,go_sem,↓reduceIte]
   refine hK _ ?_
   refine bT ?_
   refine⟨⟨i,Sort.siftDown ltN i a 0 (Sort.swp d2 a (a+i)),_⟩,⟨hr2,by simp only[aBd];exact hss,by simp only;omega,by simp only;omega⟩,by simp only;omega,⟨fun _=> .inr rfl,bS (by simp(disch:=omega) only[aV,↓reduceIte,eq_self]) cB,U3 _⟩⟩
  refine aI rfl (bF 2 rfl rfl (aY (aZ (bE ?_))))
  obtain rfl:k=0:=by omega
  rw[Sort.heapPop]at hr2
  subst hr2
  exact⟨rfl,by simp only[aV,if_true],rfl,dZ _⟩
 cases hg
theorem cVs:bX Tryz.prog GLh 69 (.heap (dP bMx)):=⟨⟨_,Tryz.func69,rfl,rfl⟩,cOh⟩
end Go.AX

namespace Go.AX
open Go Go.Proofs
def tY:AO→Option (List AV)
 | .cells xs mt=>aN (mt=true) (some xs)
 | .mapo _ _=>none
theorem cIh (xs:List AV) (mt:Bool):tY (.cells xs mt)=aN (mt=true) (some xs):=(rfl)
theorem oM {o:AO} {xs:List AV} (h:tY o=some xs):o=.cells xs true:=by
 obtain⟨ys,mt,rfl⟩: ∃ys mt,o=.cells ys mt:=by cases o with|cells ys mt=>exact⟨ys,mt,rfl⟩|mapo _ _=>cases h
 obtain⟨hm,h⟩:=aP h
 obtain rfl:=J0 h
 rw[hm]
def aJf:List AV→Option Int
 |[.i s]=>some s
 |_=>none
theorem bVw (s:Int):aJf [.i s]=some s:=(rfl)
theorem aCb {xs:List AV} {s:Int} (h:aJf xs=some s):xs=[.i s]:=by
 unfold aJf at h
 split at h
 ·obtain rfl:=J0 h;rfl
 cases h
attribute [go_sem] cIh bVw List.head?_cons List.set_cons_zero
theorem bBc {hp:H} {q:Nat} {a:AO} (h:hp q=some a): ∀j o,upd hp q a j=some o→hp j=some o:=by
 intro j o hj
 rw[bJ]at hj
 split at hj
 ·rename_i e;rw[e,h];exact hj
 exact hj
theorem aAd {hp t:H} {q:Nat} {a:AO} (h1:t q=some a) (h2: ∀j,j≠q→t j=hp j): ∀j o,upd hp q a j=some o→t j=some o:=by
 intro j o hj
 rw[bJ]at hj
 split at hj
 ·rename_i e;rw[e,h1];exact hj
 rename_i e;rw[h2 j e];exact hj
def aRo:List AV→H→Nat→Option (AV×H×Nat)
 |[.os id 0 n 1 _,.i a,.i b,.op q 0],hp,nx=>aK (hp id) fun o=>aK (tY o) fun xs=>aK (unA xs) fun l=>aK (hp q) fun o2=>aK (tY o2) fun ys=>aK (aJf ys) fun s=>aN (id≠q∧l.length=n∧0≤a∧a<n∧0≤b∧b<n∧n≤1000000∧0≤s∧s≤1000) (some (.tup [.i (Sort.order2 ltN l.toArray a.toNat b.toNat s.toNat).1,.i (Sort.order2 ltN l.toArray a.toNat b.toNat s.toNat).2.1],upd hp q (.cells [.i (Sort.order2 ltN l.toArray a.toNat b.toNat s.toNat).2.2] true),nx+60))
 |_,_,_=>none
theorem bVr (id n q:Nat) (gg:Bool) (a b:Int) (hp:H) (nx:Nat):aRo [.os id 0 n 1 gg,.i a,.i b,.op q 0] hp nx=aK (hp id) fun o=>aK (tY o) fun xs=>aK (unA xs) fun l=>aK (hp q) fun o2=>aK (tY o2) fun ys=>aK (aJf ys) fun s=>aN (id≠q∧l.length=n∧0≤a∧a<n∧0≤b∧b<n∧n≤1000000∧0≤s∧s≤1000) (some (.tup [.i (Sort.order2 ltN l.toArray a.toNat b.toNat s.toNat).1,.i (Sort.order2 ltN l.toArray a.toNat b.toNat s.toNat).2.1],upd hp q (.cells [.i (Sort.order2 ltN l.toArray a.toNat b.toNat s.toNat).2.2] true),nx+60)):=(rfl)
attribute [go_sem] bVr
set_option maxHeartbeats 1000000 in
theorem cKc:cQ Tryz.prog GLh 95 aRo:=by
 refine gF Tryz.func95 (aT rfl) ?_
 intro args hp nx r hp' nx' hg
 unfold aRo at hg
 split at hg
 ·rename_i hp0 nx0 id n gg a0 b0 q
  replace hg:=aJ hg;obtain⟨o,ho,hg⟩:=hg
  replace hg:=aJ hg;obtain⟨xs,hxs,hg⟩:=hg
  obtain rfl:=oM hxs
  replace hg:=aJ hg;obtain⟨l,hl,hg⟩:=hg
  replace hg:=aJ hg;obtain⟨o2,ho2,hg⟩:=hg
  replace hg:=aJ hg;obtain⟨ys,hys,hg⟩:=hg
  obtain rfl:=oM hys
  replace hg:=aJ hg;obtain⟨s0,hs0,hg⟩:=hg
  obtain rfl:=aCb hs0
  replace hg:=aP hg;obtain⟨⟨hne,hn,hal,hau,hbl,hbu,hbig,hsl,hsu⟩,hg⟩:=hg
  simp only[Option.some.injEq,Prod.mk.injEq]at hg;obtain⟨rfl,rfl,rfl⟩:=hg
  have:=dO hl;subst this
  obtain⟨a,rfl⟩:=Int.eq_ofNat_of_zero_le hal
  obtain⟨b,rfl⟩:=Int.eq_ofNat_of_zero_le hbl
  obtain⟨s,rfl⟩:=Int.eq_ofNat_of_zero_le hsl
  simp only[U2]at*
  obtain⟨d,hd⟩: ∃d,l.toArray=d:=⟨_,rfl⟩
  have hds:d.size=n:=by rw[←hd];simpa using hn
  rw[hd]at ho⊢
  have hqi:q≠id:=fun e=>hne e.symm
  refine⟨J1 rfl,by omega,fun hnone=>?_⟩
  have hidn:id<nx:=by
   apply Classical.byContradiction;intro hc;rw[hnone id (by omega)]at ho;cases ho
  have hqn:q<nx:=by
   apply Classical.byContradiction;intro hc;rw[hnone q (by omega)]at ho2;cases ho2
  obtain⟨v,hv⟩: ∃v,ltN d[b]! d[a]! =v:=⟨_,rfl⟩
  simp only[Sort.order2,hv]
  refine aA rfl (bA [0,1,2,3] rfl rfl rfl fun K hK=>?_)
  simp(disch:=omega) only[Tryz.f95,go_sem,↓reduceIte]
  refine hK _ ?_
  refine aB (aA rfl (aA rfl (bB (Γ:=bC [(74,.pure true dY)]) (fun k=>if k=8 then 0 else 2) [18,1,2,3] bZ (aH jC aO) rfl rfl rfl (by kernel_rfl) (fun K hK=>?_))))
  simp(disch:=omega) only[Tryz.f95,go_sem,↓reduceIte,ho,hv,U2]
  refine hK _ ?_
  refine aB ?_
  cases v
  ·refine eC (.tmp 18) rfl rfl rfl (fun h=>?_) (fun h=>?_)
   ·refine aI rfl ?_
    cases h
   refine aI rfl (aQ rfl (aB (aA rfl (bA [8,9] rfl rfl rfl fun K hK=>?_))))
   simp(disch:=omega) only[Tryz.f95,go_sem,↓reduceIte]
   refine hK _ ?_
   refine aB (aS rfl ?_)
   exact⟨rfl,bBc ho2,by simp only;omega⟩
  refine eC (.tmp 18) rfl rfl rfl (fun h=>?_) (fun h=>?_)
  ·refine aA rfl (bA [1,2] rfl rfl rfl fun K hK=>?_)
   simp(disch:=omega) only[Tryz.f95,go_sem,↓reduceIte,ho2]
   refine hK _ ?_
   refine aB (aA rfl (bA [8,9] rfl rfl rfl fun K hK=>?_))
   simp(disch:=omega) only[Tryz.f95,go_sem,↓reduceIte]
   refine hK _ ?_
   refine aB (aS rfl (bI ?_))
   refine⟨rfl,aAd (by simp only[aV,if_true,Int.natCast_add,Int.natCast_one];try rfl) (fun j hj=>by simp only[aV,J3 hj]),by simp only;omega⟩
  cases h
 cases hg
theorem aRr:bX Tryz.prog GLh 95 (.heap aRo):=⟨⟨_,Tryz.func95,rfl,rfl⟩,cKc⟩
theorem oF {d:Array T32} {a b s x y t:Nat} (h:Sort.order2 ltN d a b s=(x,y,t)):((x=a∧y=b)∨(x=b∧y=a))∧t≤s+1:=by
 unfold Sort.order2 at h
 split at h<;>(simp only[Prod.mk.injEq]at h;obtain⟨rfl,rfl,rfl⟩:=h;omega)
theorem bAn {d:Array T32} {a b c s x t:Nat} (h:Sort.median ltN d a b c s=(x,t)):(x=a∨x=b∨x=c)∧t≤s+3:=by
 obtain⟨⟨x1,y1,s1⟩,h1⟩: ∃r,Sort.order2 ltN d a b s=r:=⟨_,rfl⟩
 have f1:=oF h1
 obtain⟨⟨x2,y2,s2⟩,h2⟩: ∃r,Sort.order2 ltN d y1 c s1=r:=⟨_,rfl⟩
 have f2:=oF h2
 obtain⟨⟨x3,y3,s3⟩,h3⟩: ∃r,Sort.order2 ltN d x1 x2 s2=r:=⟨_,rfl⟩
 have f3:=oF h3
 simp only[Sort.median,h1,h2,h3,Prod.mk.injEq]at h
 omega
attribute [go_sem] Array.toArray_toList Array.length_toList
def aSb:List AV→H→Nat→Option (AV×H×Nat)
 |[.os id 0 n 1 _,.i a,.i b,.i c,.op q 0],hp,nx=>aK (hp id) fun o=>aK (tY o) fun xs=>aK (unA xs) fun l=>aK (hp q) fun o2=>aK (tY o2) fun ys=>aK (aJf ys) fun s=>aN (id≠q∧l.length=n∧0≤a∧a<n∧0≤b∧b<n∧0≤c∧c<n∧n≤1000000∧0≤s∧s≤900) (some (.i (Sort.median ltN l.toArray a.toNat b.toNat c.toNat s.toNat).1,upd hp q (.cells [.i (Sort.median ltN l.toArray a.toNat b.toNat c.toNat s.toNat).2] true),nx+300))
 |_,_,_=>none
theorem bXk (id n q:Nat) (gg:Bool) (a b c:Int) (hp:H) (nx:Nat):aSb [.os id 0 n 1 gg,.i a,.i b,.i c,.op q 0] hp nx=aK (hp id) fun o=>aK (tY o) fun xs=>aK (unA xs) fun l=>aK (hp q) fun o2=>aK (tY o2) fun ys=>aK (aJf ys) fun s=>aN (id≠q∧l.length=n∧0≤a∧a<n∧0≤b∧b<n∧0≤c∧c<n∧n≤1000000∧0≤s∧s≤900) (some (.i (Sort.median ltN l.toArray a.toNat b.toNat c.toNat s.toNat).1,upd hp q (.cells [.i (Sort.median ltN l.toArray a.toNat b.toNat c.toNat s.toNat).2] true),nx+300)):=(rfl)
attribute [go_sem] bXk
set_option maxHeartbeats 1000000 in
theorem cMf:cQ Tryz.prog GLh 89 aSb:=by
 refine gF Tryz.func89 (aT rfl) ?_
 intro args hp nx r hp' nx' hg
 unfold aSb at hg
 split at hg
 ·rename_i hp0 nx0 id n gg a0 b0 c0 q
  replace hg:=aJ hg;obtain⟨o,ho,hg⟩:=hg
  replace hg:=aJ hg;obtain⟨xs,hxs,hg⟩:=hg
  obtain rfl:=oM hxs
  replace hg:=aJ hg;obtain⟨l,hl,hg⟩:=hg
  replace hg:=aJ hg;obtain⟨o2,ho2,hg⟩:=hg
  replace hg:=aJ hg;obtain⟨ys,hys,hg⟩:=hg
  obtain rfl:=oM hys
  replace hg:=aJ hg;obtain⟨s0,hs0,hg⟩:=hg
  obtain rfl:=aCb hs0
  replace hg:=aP hg;obtain⟨⟨hne,hn,hal,hau,hbl,hbu,hcl,hcu,hbig,hsl,hsu⟩,hg⟩:=hg
  simp only[Option.some.injEq,Prod.mk.injEq]at hg;obtain⟨rfl,rfl,rfl⟩:=hg
  have:=dO hl;subst this
  obtain⟨a,rfl⟩:=Int.eq_ofNat_of_zero_le hal
  obtain⟨b,rfl⟩:=Int.eq_ofNat_of_zero_le hbl
  obtain⟨c,rfl⟩:=Int.eq_ofNat_of_zero_le hcl
  obtain⟨s,rfl⟩:=Int.eq_ofNat_of_zero_le hsl
  simp only[U2]at*
  obtain⟨d,hd⟩: ∃d,l.toArray=d:=⟨_,rfl⟩
  have hds:d.size=n:=by rw[←hd];simpa using hn
  rw[hd]at ho⊢
  have hqi:q≠id:=fun e=>hne e.symm
  refine⟨J1 rfl,by omega,fun hnone=>?_⟩
  have hidn:id<nx:=by
   apply Classical.byContradiction;intro hc;rw[hnone id (by omega)]at ho;cases ho
  have hqn:q<nx:=by
   apply Classical.byContradiction;intro hc;rw[hnone q (by omega)]at ho2;cases ho2
  obtain⟨⟨x1,y1,s1⟩,h1⟩: ∃r,Sort.order2 ltN d a b s=r:=⟨_,rfl⟩
  have f1:=oF h1
  obtain⟨⟨x2,y2,s2⟩,h2⟩: ∃r,Sort.order2 ltN d y1 c s1=r:=⟨_,rfl⟩
  have f2:=oF h2
  obtain⟨⟨x3,y3,s3⟩,h3⟩: ∃r,Sort.order2 ltN d x1 x2 s2=r:=⟨_,rfl⟩
  have f3:=oF h3
  have hx1:x1<n:=by omega
  have hy1:y1<n:=by omega
  have hx2:x2<n:=by omega
  simp only[Sort.median,h1,h2,h3]
  refine aA rfl (bA [0,1,2,3,4] rfl rfl rfl fun K hK=>?_)
  simp(disch:=omega) only[Tryz.f89,go_sem,↓reduceIte]
  refine hK _ ?_
  refine aB (aA rfl (aC (Γ:=bC [(95,.heap aRo)]) [0,1,2,3,4] (aH aRr aO) rfl rfl rfl (fun K hK=>?_)))
  simp(disch:=omega) only[Tryz.f89,go_sem,↓reduceIte,ho,ho2,hds,h1,U2,Int.natCast_nonneg]
  refine hK _ ?_
  refine aB (aA rfl (aC (Γ:=bC [(95,.heap aRo)]) [0,1,2,4] (aH aRr aO) rfl rfl rfl (fun K hK=>?_)))
  simp(disch:=omega) only[Tryz.f89,go_sem,↓reduceIte,ho,hds,h2,hne,U2]
  refine hK _ ?_
  refine aB (aA rfl (aC (Γ:=bC [(95,.heap aRo)]) [2] (aH aRr aO) rfl rfl rfl (fun K hK=>?_)))
  simp(disch:=omega) only[Tryz.f89,go_sem,↓reduceIte,ho,hds,h3,hne,U2]
  refine hK _ ?_
  refine aB (aA rfl (bA [10] rfl rfl rfl fun K hK=>?_))
  simp(disch:=omega) only[Tryz.f89,go_sem,↓reduceIte]
  refine hK _ ?_
  refine aB (aS rfl ?_)
  refine⟨rfl,aAd (by simp only[aV,if_true]) (fun j hj=>by simp only[aV,J3 hj]),by simp only;omega⟩
 cases hg
theorem aRs:bX Tryz.prog GLh 89 (.heap aSb):=⟨⟨_,Tryz.func89,rfl,rfl⟩,cMf⟩
theorem yL {d:Array T32} {a s x t:Nat} (h:Sort.medianAdjacent ltN d a s=(x,t)):(x=a-1∨x=a∨x=a+1)∧t≤s+3:=bAn h
def aUf:List AV→H→Nat→Option (AV×H×Nat)
 |[.os id 0 n 1 _,.i a,.op q 0],hp,nx=>aK (hp id) fun o=>aK (tY o) fun xs=>aK (unA xs) fun l=>aK (hp q) fun o2=>aK (tY o2) fun ys=>aK (aJf ys) fun s=>aN (id≠q∧l.length=n∧1≤a∧a+1<n∧n≤1000000∧0≤s∧s≤800) (some (.i (Sort.medianAdjacent ltN l.toArray a.toNat s.toNat).1,upd hp q (.cells [.i (Sort.medianAdjacent ltN l.toArray a.toNat s.toNat).2] true),nx+400))
 |_,_,_=>none
theorem cEg (id n q:Nat) (gg:Bool) (a:Int) (hp:H) (nx:Nat):aUf [.os id 0 n 1 gg,.i a,.op q 0] hp nx=aK (hp id) fun o=>aK (tY o) fun xs=>aK (unA xs) fun l=>aK (hp q) fun o2=>aK (tY o2) fun ys=>aK (aJf ys) fun s=>aN (id≠q∧l.length=n∧1≤a∧a+1<n∧n≤1000000∧0≤s∧s≤800) (some (.i (Sort.medianAdjacent ltN l.toArray a.toNat s.toNat).1,upd hp q (.cells [.i (Sort.medianAdjacent ltN l.toArray a.toNat s.toNat).2] true),nx+400)):=(rfl)
attribute [go_sem] cEg
set_option maxHeartbeats 1000000 in
theorem cRw:cQ Tryz.prog GLh 88 aUf:=by
 refine gF Tryz.func88 (aT rfl) ?_
 intro args hp nx r hp' nx' hg
 unfold aUf at hg
 split at hg
 ·rename_i hp0 nx0 id n gg a0 q
  replace hg:=aJ hg;obtain⟨o,ho,hg⟩:=hg
  replace hg:=aJ hg;obtain⟨xs,hxs,hg⟩:=hg
  obtain rfl:=oM hxs
  replace hg:=aJ hg;obtain⟨l,hl,hg⟩:=hg
  replace hg:=aJ hg;obtain⟨o2,ho2,hg⟩:=hg
  replace hg:=aJ hg;obtain⟨ys,hys,hg⟩:=hg
  obtain rfl:=oM hys
  replace hg:=aJ hg;obtain⟨s0,hs0,hg⟩:=hg
  obtain rfl:=aCb hs0
  replace hg:=aP hg;obtain⟨⟨hne,hn,hal1,hau,hbig,hsl,hsu⟩,hg⟩:=hg
  simp only[Option.some.injEq,Prod.mk.injEq]at hg;obtain⟨rfl,rfl,rfl⟩:=hg
  have:=dO hl;subst this
  have hal:0≤a0:=by omega
  obtain⟨a,rfl⟩:=Int.eq_ofNat_of_zero_le hal
  obtain⟨s,rfl⟩:=Int.eq_ofNat_of_zero_le hsl
  simp only[U2]at*
  obtain⟨d,hd⟩: ∃d,l.toArray=d:=⟨_,rfl⟩
  have hds:d.size=n:=by rw[←hd];simpa using hn
  rw[hd]at ho⊢
  have hqi:q≠id:=fun e=>hne e.symm
  refine⟨J1 rfl,by omega,fun hnone=>?_⟩
  have hidn:id<nx:=by
   apply Classical.byContradiction;intro hc;rw[hnone id (by omega)]at ho;cases ho
  have hqn:q<nx:=by
   apply Classical.byContradiction;intro hc;rw[hnone q (by omega)]at ho2;cases ho2
  obtain⟨⟨x1,s1⟩,h1⟩: ∃r,Sort.median ltN d (a-1) a (a+1) s=r:=⟨_,rfl⟩
  simp only[Sort.medianAdjacent,h1]
  have e1:(a:Int)-1=((a-1:Nat):Int):=by omega
  have e2:(a:Int)+1=((a+1:Nat):Int):=by omega
  refine aA rfl (bA [0,1,2] rfl rfl rfl fun K hK=>?_)
  simp(disch:=omega) only[Tryz.f88,go_sem,↓reduceIte]
  refine hK _ ?_
  refine aB (aA rfl (aC (Γ:=bC [(89,.heap aSb)]) [6] (aH aRs aO) rfl rfl rfl (fun K hK=>?_)))
  simp(disch:=omega) only[Tryz.f88,go_sem,↓reduceIte,ho,ho2,hds,h1,e1,e2,U2]
  refine hK _ ?_
  refine aB (aS rfl ?_)
  refine⟨rfl,aAd (by simp only[aV,if_true]) (fun j hj=>by simp only[aV,J3 hj]),by simp only;omega⟩
 cases hg
theorem aRt:bX Tryz.prog GLh 88 (.heap aUf):=⟨⟨_,Tryz.func88,rfl,rfl⟩,cRw⟩
def gM:Sort.Hint→Int
 | .unknown=>0
 | .increasing=>1
 | .decreasing=>2
def chG:List AV→List AV→Option (AV×List AV)
 |[.os _ 0 n 1 _,.i a,.i b],xs=>aK (unA xs) fun l=>aN (l.length=n∧0≤a∧a<b∧b≤n∧n≤1000000) (some (.tup [.i (Sort.choosePivot ltN l.toArray a.toNat b.toNat).1,.i (gM (Sort.choosePivot ltN l.toArray a.toNat b.toNat).2)],cA l.toArray))
 |_,_=>none
theorem cQh (id n:Nat) (gg:Bool) (a b:Int) (xs:List AV):chG [.os id 0 n 1 gg,.i a,.i b] xs=aK (unA xs) fun l=>aN (l.length=n∧0≤a∧a<b∧b≤n∧n≤1000000) (some (.tup [.i (Sort.choosePivot ltN l.toArray a.toNat b.toNat).1,.i (gM (Sort.choosePivot ltN l.toArray a.toNat b.toNat).2)],cA l.toArray)):=(rfl)
attribute [go_sem] cQh
set_option maxHeartbeats 2000000 in
theorem dBf:cQ Tryz.prog GLh 71 (dP chG):=by
 refine dN Tryz.func71 (aT rfl) ?_
 intro id off n e gg rest nx xs r ys hg
 unfold chG at hg
 split at hg
 ·rename_i id2 n2 gg2 a0 b0 heq
  simp only[List.cons.injEq,AV.os.injEq]at heq
  obtain⟨⟨rfl,rfl,rfl,rfl,rfl⟩,rfl⟩:=heq
  replace hg:=aJ hg;obtain⟨l,hl,hg⟩:=hg
  replace hg:=aP hg;obtain⟨⟨hn,ha,hab,hbn,hbig⟩,hg⟩:=hg
  simp only[Option.some.injEq,Prod.mk.injEq]at hg;obtain⟨rfl,rfl⟩:=hg
  have:=dO hl;subst this
  obtain⟨a,rfl⟩:=Int.eq_ofNat_of_zero_le ha
  obtain⟨b,rfl⟩:=Int.eq_ofNat_of_zero_le (show 0≤b0 by omega)
  simp only[U2]at*
  obtain⟨d,hd⟩: ∃d,l.toArray=d:=⟨_,rfl⟩
  have hds:d.size=n:=by rw[←hd];simpa using hn
  have hab2:a<b:=by omega
  have hbn2:b≤n:=by omega
  rw[hd]
  refine⟨J1 rfl,fun hid=>?_⟩
  clear hl hn ha hab hbn
  have eq4:(((b:Int)-(a:Int)).tdiv 4)=(((b-a)/4:Nat):Int):=by rw[Int.tdiv_eq_ediv_of_nonneg (by omega)];omega
  obtain⟨L,hL⟩: ∃L:Nat,b-a=L:=⟨_,rfl⟩
  obtain⟨Q,hQ⟩: ∃Q:Nat,(b-a)/4=Q:=⟨_,rfl⟩
  have ebL:(b:Int)-(a:Int)=(L:Int):=by omega
  rw[ebL,hQ]at eq4
  have ei:(a:Int)+(Q:Int)*1=((a+Q*1:Nat):Int):=by omega
  have ej:(a:Int)+(Q:Int)*2=((a+Q*2:Nat):Int):=by omega
  have ek:(a:Int)+(Q:Int)*3=((a+Q*3:Nat):Int):=by omega
  obtain⟨CP,hCP⟩: ∃CP,Sort.choosePivot ltN d a b=CP:=⟨_,rfl⟩
  rw[hCP]
  refine aA rfl (bA [0,1,2] rfl rfl rfl fun K hK=>?_)
  simp(disch:=omega) only[Tryz.f71,go_sem,↓reduceIte]
  refine hK _ ?_
  refine aB (aA rfl (bA [0,1,8] rfl rfl rfl fun K hK=>?_))
  simp(disch:=omega) only[Tryz.f71,go_sem,↓reduceIte,ebL]
  refine hK _ ?_
  refine aB (aA rfl (bA [0,1,8,9] rfl rfl rfl fun K hK=>?_))
  simp(disch:=omega) only[Tryz.f71,go_sem,↓reduceIte]
  refine hK _ ?_
  refine aB (aA rfl (bA [0,1,8,9,10] rfl rfl rfl fun K hK=>?_))
  simp(disch:=omega) only[Tryz.f71,go_sem,↓reduceIte,eq4,ei]
  refine hK _ ?_
  refine aB (aA rfl (bA [0,1,8,9,10,11] rfl rfl rfl fun K hK=>?_))
  simp(disch:=omega) only[Tryz.f71,go_sem,↓reduceIte,eq4,ej]
  refine hK _ ?_
  refine aB (aA rfl (bA [0,8,9,10,11,12] rfl rfl rfl fun K hK=>?_))
  simp(disch:=omega) only[Tryz.f71,go_sem,↓reduceIte,eq4,ek]
  refine hK _ ?_
  refine aB (aA rfl (aA rfl (bA [32,0,8,9,10,11,12] rfl rfl rfl fun K hK=>?_)))
  simp(disch:=omega) only[Tryz.f71,go_sem,↓reduceIte]
  refine hK _ ?_
  refine aB ?_
  have hne:id≠nx+6:=by omega
  have hQL:Q=L/4:=by omega
  refine aW (.tmp 32) rfl rfl rfl (fun h=>?_) (fun h=>?_)
  ·refine aI rfl ?_
   have hL8:8≤L:=by omega
   refine aA rfl (aA rfl (bA [34,0,9,10,11,12] rfl rfl rfl fun K hK=>?_))
   simp(disch:=omega) only[Tryz.f71,go_sem,↓reduceIte]
   refine hK _ ?_
   refine aB (aW (.tmp 34) rfl rfl rfl (fun h=>?_) (fun h=>?_))
   ·refine aI rfl ?_
    have hL50:50≤L:=by omega
    obtain⟨⟨x1,s1⟩,h1⟩: ∃r,Sort.medianAdjacent ltN d (a+Q) 0=r:=⟨_,rfl⟩
    have f1:=yL h1
    obtain⟨⟨x2,s2⟩,h2⟩: ∃r,Sort.medianAdjacent ltN d (a+Q*2) s1=r:=⟨_,rfl⟩
    have f2:=yL h2
    obtain⟨⟨x3,s3⟩,h3⟩: ∃r,Sort.medianAdjacent ltN d (a+Q*3) s2=r:=⟨_,rfl⟩
    have f3:=yL h3
    obtain⟨⟨p,sw⟩,h4⟩: ∃r,Sort.median ltN d x1 x2 x3 s3=r:=⟨_,rfl⟩
    obtain rfl:CP=(p,if sw=0 then .increasing else if sw=12 then .decreasing else .unknown):=by
     rw[←hCP];unfold Sort.choosePivot
     simp only[hL,←hQL,ge_iff_le,hL8,hL50,if_true,Nat.mul_one,h1,h2,h3,h4]
    have hx1:x1<n:=by omega
    have hx2:x2<n:=by omega
    have hx3:x3<n:=by omega
    have g1:a+Q+1<n:=by omega
    have g2:a+Q*2+1<n:=by omega
    have g3:a+Q*3+1<n:=by omega
    refine aA rfl (aC (Γ:=bC [(88,.heap aUf)]) [0,9,10,11,12] (aH aRt aO) rfl rfl rfl (fun K hK=>?_))
    simp(disch:=omega) only[Tryz.f71,go_sem,↓reduceIte,hds,h1,hne,U2,Int.toNat_zero]
    refine hK _ ?_
    refine aB (aA rfl (aC (Γ:=bC [(88,.heap aUf)]) [0,9,10,11,12] (aH aRt aO) rfl rfl rfl (fun K hK=>?_)))
    simp(disch:=omega) only[Tryz.f71,go_sem,↓reduceIte,hds,h2,hne,U2]
    refine hK _ ?_
    refine aB (aC (Γ:=bC [(88,.heap aUf)]) [0,9,10,11,12] (aH aRt aO) rfl rfl rfl (fun K hK=>?_))
    simp(disch:=omega) only[Tryz.f71,go_sem,↓reduceIte,hds,h3,hne,U2]
    refine hK _ ?_
    refine aB (aC (Γ:=bC [(89,.heap aSb)]) [9,11] (aH aRs aO) rfl rfl rfl (fun K hK=>?_))
    simp(disch:=omega) only[Tryz.f71,go_sem,↓reduceIte,hds,h4,hne,U2]
    refine hK _ ?_
    refine aB (aA rfl (bA [11,49] rfl rfl rfl fun K hK=>?_))
    simp(disch:=omega) only[Tryz.f71,go_sem,↓reduceIte]
    refine hK _ ?_
    refine aB (aR 0 rfl rfl (aA rfl (bA [51,11,49] rfl rfl rfl fun K hK=>?_)))
    simp(disch:=omega) only[Tryz.f71,go_sem,↓reduceIte]
    refine hK _ ?_
    refine aB (aW (.tmp 51) rfl rfl rfl (fun h=>?_) (fun h=>?_))
    ·refine aI rfl ?_
     have h0:sw=0:=by omega
     refine aA rfl (bA [6,7] rfl rfl rfl fun K hK=>?_)
     simp(disch:=omega) only[Tryz.f71,go_sem,↓reduceIte]
     refine hK _ ?_
     refine aB (aS rfl (bN ?_))
     exact⟨by simp only[h0,if_true,gM,bV];rfl,by simp(disch:=omega) only[aV,bY,if_true,if_false],rfl,dZ _⟩
    refine aI rfl (aA rfl (bA [54,11] rfl rfl rfl fun K hK=>?_))
    simp(disch:=omega) only[Tryz.f71,go_sem,↓reduceIte]
    refine hK _ ?_
    refine aB (aW (.tmp 54) rfl rfl rfl (fun h=>?_) (fun h=>?_))
    ·refine aI rfl ?_
     have h0:sw=12:=by omega
     refine aA rfl (bA [6,7] rfl rfl rfl fun K hK=>?_)
     simp(disch:=omega) only[Tryz.f71,go_sem,↓reduceIte]
     refine hK _ ?_
     refine aB (aS rfl (bN ?_))
     exact⟨by simp only[h0,if_true,gM,bV];rfl,by simp(disch:=omega) only[aV,bY,if_true,if_false],rfl,dZ _⟩
    refine aI rfl ?_
    have h0:sw≠0:=by omega
    have h1:sw≠12:=by omega
    refine aA rfl (bA [6,7] rfl rfl rfl fun K hK=>?_)
    simp(disch:=omega) only[Tryz.f71,go_sem,↓reduceIte]
    refine hK _ ?_
    refine aB (aS rfl (bN ?_))
    exact⟨by simp only[h0,h1,if_false,gM,bV];rfl,by simp(disch:=omega) only[aV,bY,if_true,if_false],rfl,dZ _⟩
   refine aI rfl ?_
   have hL50: ¬50≤L:=by omega
   obtain⟨⟨p,sw⟩,h4⟩: ∃r,Sort.median ltN d (a+Q) (a+Q*2) (a+Q*3) 0=r:=⟨_,rfl⟩
   obtain rfl:CP=(p,if sw=0 then .increasing else if sw=12 then .decreasing else .unknown):=by
    rw[←hCP];unfold Sort.choosePivot
    simp only[hL,←hQL,ge_iff_le,hL8,hL50,if_true,if_false,Nat.mul_one,h4]
   have g1:a+Q<n:=by omega
   have g2:a+Q*2<n:=by omega
   have g3:a+Q*3<n:=by omega
   refine aQ rfl (aB (aC (Γ:=bC [(89,.heap aSb)]) [9,11] (aH aRs aO) rfl rfl rfl (fun K hK=>?_)))
   simp(disch:=omega) only[Tryz.f71,go_sem,↓reduceIte,hds,h4,hne,U2,Int.toNat_zero]
   refine hK _ ?_
   refine aB (aA rfl (bA [11,49] rfl rfl rfl fun K hK=>?_))
   simp(disch:=omega) only[Tryz.f71,go_sem,↓reduceIte]
   refine hK _ ?_
   refine aB (aR 0 rfl rfl (aA rfl (bA [51,11,49] rfl rfl rfl fun K hK=>?_)))
   simp(disch:=omega) only[Tryz.f71,go_sem,↓reduceIte]
   refine hK _ ?_
   refine aB (aW (.tmp 51) rfl rfl rfl (fun h=>?_) (fun h=>?_))
   ·refine aI rfl ?_
    have h0:sw=0:=by omega
    refine aA rfl (bA [6,7] rfl rfl rfl fun K hK=>?_)
    simp(disch:=omega) only[Tryz.f71,go_sem,↓reduceIte]
    refine hK _ ?_
    refine aB (aS rfl (bN ?_))
    exact⟨by simp only[h0,if_true,gM,bV];rfl,by simp(disch:=omega) only[aV,bY,if_true,if_false],rfl,dZ _⟩
   refine aI rfl (aA rfl (bA [54,11] rfl rfl rfl fun K hK=>?_))
   simp(disch:=omega) only[Tryz.f71,go_sem,↓reduceIte]
   refine hK _ ?_
   refine aB (aW (.tmp 54) rfl rfl rfl (fun h=>?_) (fun h=>?_))
   ·refine aI rfl ?_
    have h0:sw=12:=by omega
    refine aA rfl (bA [6,7] rfl rfl rfl fun K hK=>?_)
    simp(disch:=omega) only[Tryz.f71,go_sem,↓reduceIte]
    refine hK _ ?_
    refine aB (aS rfl (bN ?_))
    exact⟨by simp only[h0,if_true,gM,bV];rfl,by simp(disch:=omega) only[aV,bY,if_true,if_false],rfl,dZ _⟩
   refine aI rfl ?_
   have h0:sw≠0:=by omega
   have h1:sw≠12:=by omega
   refine aA rfl (bA [6,7] rfl rfl rfl fun K hK=>?_)
   simp(disch:=omega) only[Tryz.f71,go_sem,↓reduceIte]
   refine hK _ ?_
   refine aB (aS rfl (bN ?_))
   exact⟨by simp only[h0,h1,if_false,gM,bV];rfl,by simp(disch:=omega) only[aV,bY,if_true,if_false],rfl,dZ _⟩
  refine aI rfl ?_
  have hL8: ¬8≤L:=by omega
  obtain rfl:CP=(a+Q*2,.increasing):=by
   rw[←hCP];unfold Sort.choosePivot
   simp only[hL,←hQL,ge_iff_le,hL8,if_true,if_false]
  refine aQ rfl (aB (aA rfl (bA [11,49] rfl rfl rfl fun K hK=>?_)))
  simp(disch:=omega) only[Tryz.f71,go_sem,↓reduceIte]
  refine hK _ ?_
  refine aB (aR 0 rfl rfl (aA rfl (bA [51,11,49] rfl rfl rfl fun K hK=>?_)))
  simp(disch:=omega) only[Tryz.f71,go_sem,↓reduceIte]
  refine hK _ ?_
  refine aB (eC (.tmp 51) rfl rfl rfl (fun h=>?_) (fun h=>?_))
  ·refine aI rfl (aA rfl (bA [6,7] rfl rfl rfl fun K hK=>?_))
   simp(disch:=omega) only[Tryz.f71,go_sem,↓reduceIte]
   refine hK _ ?_
   exact aB (aS rfl (bN (⟨rfl,by simp(disch:=omega) only[aV,bY,if_true,if_false],rfl,dZ _⟩)))
  refine aI rfl ?_
  cases h
 cases hg
theorem cVq:bX Tryz.prog GLh 71 (.heap (dP chG)):=⟨⟨_,Tryz.func71,rfl,rfl⟩,dBf⟩
end Go.AX

namespace Go.AX
open Go Go.Proofs
structure SDJ where
 k:Nat
 j:Nat
 d:Array T32
 c:Nat
def bHw:List AV→List AV→Option (AV×List AV)
 |[.os _ 0 n 1 _,.i a,.i b],xs=>aK (unA xs) fun l=>aN (l.length=n∧0≤a∧a<b∧b≤n∧n≤1000000) (some (.tup [],cA (Sort.reverseRange l.toArray a.toNat b.toNat)))
 |_,_=>none
theorem bUq (id n:Nat) (gg:Bool) (a b:Int) (xs:List AV):bHw [.os id 0 n 1 gg,.i a,.i b] xs=aK (unA xs) fun l=>aN (l.length=n∧0≤a∧a<b∧b≤n∧n≤1000000) (some (.tup [],cA (Sort.reverseRange l.toArray a.toNat b.toNat))):=(rfl)
attribute [go_sem] bUq
set_option maxHeartbeats 2000000 in
theorem cIm:cQ Tryz.prog GLh 72 (dP bHw):=by
 refine dN Tryz.func72 (aT rfl) ?_
 intro id off n e gg rest nx xs r ys hg
 unfold bHw at hg
 split at hg
 ·rename_i id2 n2 gg2 a0 b0 heq
  simp only[List.cons.injEq,AV.os.injEq]at heq
  obtain⟨⟨rfl,rfl,rfl,rfl,rfl⟩,rfl⟩:=heq
  replace hg:=aJ hg;obtain⟨l,hl,hg⟩:=hg
  replace hg:=aP hg;obtain⟨⟨hn,ha,hab,hbn,hbig⟩,hg⟩:=hg
  simp only[Option.some.injEq,Prod.mk.injEq]at hg;obtain⟨rfl,rfl⟩:=hg
  have:=dO hl;subst this
  obtain⟨a,rfl⟩:=Int.eq_ofNat_of_zero_le ha
  obtain⟨b,rfl⟩:=Int.eq_ofNat_of_zero_le (show 0≤b0 by omega)
  simp only[U2]at*
  obtain⟨d,hd⟩: ∃d,l.toArray=d:=⟨_,rfl⟩
  have hds:d.size=n:=by rw[←hd];simpa using hn
  have hab2:a<b:=by omega
  have hbn2:b≤n:=by omega
  rw[hd]
  refine⟨J1 rfl,fun hid=>?_⟩
  clear hl hn ha hab hbn
  obtain⟨R,hR⟩: ∃R,Sort.reverseRange d a b=R:=⟨_,rfl⟩
  have hR0:Sort.reverseLoop a (b-1) d=R:=hR
  rw[hR]
  clear hR
  have eb:(b:Int)-1=((b-1:Nat):Int):=by omega
  refine aA rfl (bA [0,2,6] rfl rfl rfl fun K hK=>?_)
  simp(disch:=omega) only[Tryz.f72,go_sem,↓reduceIte]
  refine hK _ ?_
  refine aB (aA rfl (bA [0,6,7] rfl rfl rfl fun K hK=>?_))
  simp(disch:=omega) only[Tryz.f72,go_sem,↓reduceIte,eb]
  refine hK _ ?_
  refine aB (aR 0 rfl rfl ?_)
  refine bR (fun p:SDJ=> {fr:=[(0,.os id 0 n 1 gg),(6,.i p.k),(7,.i p.j)],hp:=upd (fun _=>none) id (.cells (cA p.d) true),nx:=0,cx:=p.c}) (fun p=>Sort.reverseLoop p.k p.j p.d=R∧p.d.size=n∧p.j<n∧id<p.c) (fun p=>p.j-p.k) rfl ⟨⟨a,b-1,d,_⟩,⟨hR0,hds,by simp only;omega,by simp only;omega⟩,bD rfl rfl (U3 _)⟩ ?_
  rintro⟨k,j,d1,c⟩ ⟨hr1,hs1,hj,hc⟩ n0
  simp only at hr1 hs1 hj hc⊢
  refine aA rfl (aA rfl (bA [13,0,6,7] rfl rfl rfl fun K hK=>?_))
  simp(disch:=omega) only[Tryz.f72,go_sem,↓reduceIte]
  refine hK _ ?_
  refine aB (aW (.tmp 13) rfl rfl rfl (fun h=>?_) (fun h=>?_))
  ·refine aI rfl ?_
   have hkj:k<j:=by omega
   rw[Sort.reverseLoop,J4 hkj]at hr1
   have hkn:k<n:=by omega
   have hsw:(d1.setIfInBounds k d1[j]!).setIfInBounds j d1[k]! =Sort.swp d1 k j:=rfl
   have ej:(j:Int)-1=((j-1:Nat):Int):=by omega
   refine aQ rfl (aB (aR 1 rfl rfl (aA rfl (bB (Γ:=aL) (fun _=>2) [0,6,7] bZ (aD _ _) rfl rfl rfl (by kernel_rfl) (fun K hK=>?_)))))
   simp(disch:=omega) only[Tryz.f72,go_sem,↓reduceIte,hsw,U2]
   refine hK _ ?_
   refine aB (aA rfl (bA [0,6,7] rfl rfl rfl fun K hK=>?_))
   simp(disch:=omega) only[Tryz.f72,go_sem,↓reduceIte]
   refine hK _ ?_
   refine aB (bA [0,6,7] rfl rfl rfl fun K hK=>?_)
   simp(disch:=omega) only[Tryz.f72,go_sem,↓reduceIte,ej]
   refine hK _ ?_
   refine bU (bT ?_)
   refine⟨⟨k+1,j-1,Sort.swp d1 k j,_⟩,⟨hr1,by simp only[cW];exact hs1,by simp only;omega,by simp only;omega⟩,by simp only;omega,⟨fun _=> .inr (by simp only[Int.natCast_add,Int.natCast_one]),bS (by simp(disch:=omega) only[aV,↓reduceIte,eq_self]) cB,U3 _⟩⟩
  refine aI rfl (bF 0 rfl rfl (aY (aZ (bE ?_))))
  have hkj: ¬k<j:=by omega
  rw[Sort.reverseLoop,J3 hkj]at hr1
  subst hr1
  exact⟨rfl,by simp only[aV,if_true],rfl,dZ _⟩
 cases hg
theorem cVp:bX Tryz.prog GLh 72 (.heap (dP bHw)):=⟨⟨_,Tryz.func72,rfl,rfl⟩,cIm⟩
def aMz:List AV→Option (BitVec 64)
 |[.w64 s]=>some s
 |_=>none
theorem bIz (s:BitVec 64):aMz [.w64 s]=some s:=(rfl)
theorem aZv {xs:List AV} {s:BitVec 64} (h:aMz xs=some s):xs=[.w64 s]:=by
 unfold aMz at h
 split at h
 ·obtain rfl:=J0 h;rfl
 cases h
def aDu (x:BitVec 64):BitVec 64:=(Sort.xorNext (.ofBitVec x)).toBitVec
def bJo:List AV→H→Nat→Option (AV×H×Nat)
 |[.op q 0],hp,nx=>aK (hp q) fun o2=>aK (tY o2) fun ys=>aK (aMz ys) fun s=>some (.w64 (aDu s),upd hp q (.cells [.w64 (aDu s)] true),nx+60)
 |_,_,_=>none
theorem bWn (q:Nat) (hp:H) (nx:Nat):bJo [.op q 0] hp nx=aK (hp q) fun o2=>aK (tY o2) fun ys=>aK (aMz ys) fun s=>some (.w64 (aDu s),upd hp q (.cells [.w64 (aDu s)] true),nx+60):=(rfl)
attribute [go_sem] bWn bIz
set_option maxHeartbeats 1000000 in
theorem cLa:cQ Tryz.prog GLh 87 bJo:=by
 refine gF Tryz.func87 (aT rfl) ?_
 intro args hp nx r hp' nx' hg
 unfold bJo at hg
 split at hg
 ·rename_i hp0 nx0 q
  replace hg:=aJ hg;obtain⟨o2,ho2,hg⟩:=hg
  replace hg:=aJ hg;obtain⟨ys,hys,hg⟩:=hg
  obtain rfl:=oM hys
  replace hg:=aJ hg;obtain⟨s0,hs0,hg⟩:=hg
  obtain rfl:=aZv hs0
  simp only[Option.some.injEq,Prod.mk.injEq]at hg;obtain⟨rfl,rfl,rfl⟩:=hg
  refine⟨J1 rfl,by omega,fun hnone=>?_⟩
  have hqn:q<nx:=by
   apply Classical.byContradiction;intro hc;rw[hnone q (by omega)]at ho2;cases ho2
  refine aA rfl (bA [0] rfl rfl rfl fun K hK=>?_)
  simp(disch:=omega) only[Tryz.f87,go_sem,↓reduceIte]
  refine hK _ ?_
  refine aB (aA rfl (bB (Γ:=aL) (fun _=>2) [0] bZ (aD _ _) rfl rfl rfl (by kernel_rfl) (fun K hK=>?_)))
  simp(disch:=omega) only[Tryz.f87,go_sem,↓reduceIte,ho2]
  refine hK _ ?_
  refine aB (aA rfl (bB (Γ:=aL) (fun _=>2) [0] bZ (aD _ _) rfl rfl rfl (by kernel_rfl) (fun K hK=>?_)))
  simp(disch:=omega) only[Tryz.f87,go_sem,↓reduceIte]
  refine hK _ ?_
  refine aB (aA rfl (bB (Γ:=aL) (fun _=>2) [0] bZ (aD _ _) rfl rfl rfl (by kernel_rfl) (fun K hK=>?_)))
  simp(disch:=omega) only[Tryz.f87,go_sem,↓reduceIte]
  refine hK _ ?_
  refine aB (aA rfl (bA [2] rfl rfl rfl fun K hK=>?_))
  simp(disch:=omega) only[Tryz.f87,go_sem,↓reduceIte]
  refine hK _ ?_
  refine aB (aS rfl ?_)
  refine⟨rfl,aAd (by simp only[aV,if_true];rfl) (fun j hj=>by simp only[aV,J3 hj]),by simp only;omega⟩
 cases hg
theorem cKh:bX Tryz.prog GLh 87 (.heap bJo):=⟨⟨_,Tryz.func87,rfl,rfl⟩,cLa⟩
def L8:List B8:=[0#8,1#8,2#8,2#8,3#8,3#8,3#8,3#8,4#8,4#8,4#8,4#8,4#8,4#8,4#8,4#8,5#8,5#8,5#8,5#8,5#8,5#8,5#8,5#8,5#8,5#8,5#8,5#8,5#8,5#8,5#8,5#8,6#8,6#8,6#8,6#8,6#8,6#8,6#8,6#8,6#8,6#8,6#8,6#8,6#8,6#8,6#8,6#8,6#8,6#8,6#8,6#8,6#8,6#8,6#8,6#8,6#8,6#8,6#8,6#8,6#8,6#8,6#8,6#8,7#8,7#8,7#8,7#8,7#8,7#8,7#8,7#8,7#8,7#8,7#8,7#8,7#8,7#8,7#8,7#8,7#8,7#8,7#8,7#8,7#8,7#8,7#8,7#8,7#8,7#8,7#8,7#8,7#8,7#8,7#8,7#8,7#8,7#8,7#8,7#8,7#8,7#8,7#8,7#8,7#8,7#8,7#8,7#8,7#8,7#8,7#8,7#8,7#8,7#8,7#8,7#8,7#8,7#8,7#8,7#8,7#8,7#8,7#8,7#8,7#8,7#8,7#8,7#8,8#8,8#8,8#8,8#8,8#8,8#8,8#8,8#8,8#8,8#8,8#8,8#8,8#8,8#8,8#8,8#8,8#8,8#8,8#8,8#8,8#8,8#8,8#8,8#8,8#8,8#8,8#8,8#8,8#8,8#8,8#8,8#8,8#8,8#8,8#8,8#8,8#8,8#8,8#8,8#8,8#8,8#8,8#8,8#8,8#8,8#8,8#8,8#8,8#8,8#8,8#8,8#8,8#8,8#8,8#8,8#8,8#8,8#8,8#8,8#8,8#8,8#8,8#8,8#8,8#8,8#8,8#8,8#8,8#8,8#8,8#8,8#8,8#8,8#8,8#8,8#8,8#8,8#8,8#8,8#8,8#8,8#8,8#8,8#8,8#8,8#8,8#8,8#8,8#8,8#8,8#8,8#8,8#8,8#8,8#8,8#8,8#8,8#8,8#8,8#8,8#8,8#8,8#8,8#8,8#8,8#8,8#8,8#8,8#8,8#8,8#8,8#8,8#8,8#8,8#8,8#8,8#8,8#8,8#8,8#8,8#8,8#8,8#8,8#8,8#8,8#8,8#8,8#8]
set_option maxRecDepth 10000 in
theorem aQo:ofV (Value.string ⟨((([0,1,2,2,3,3,3,3,4,4,4,4,4,4,4,4,5,5,5,5,5,5,5,5,5,5,5,5,5,5,5,5,6,6,6,6,6,6,6,6,6,6,6,6,6,6,6,6,6,6,6,6,6,6,6,6,6,6,6,6,6,6,6,6]:List UInt8).append [7,7,7,7,7,7,7,7,7,7,7,7,7,7,7,7,7,7,7,7,7,7,7,7,7,7,7,7,7,7,7,7,7,7,7,7,7,7,7,7,7,7,7,7,7,7,7,7,7,7,7,7,7,7,7,7,7,7,7,7,7,7,7,7]).append (([8,8,8,8,8,8,8,8,8,8,8,8,8,8,8,8,8,8,8,8,8,8,8,8,8,8,8,8,8,8,8,8,8,8,8,8,8,8,8,8,8,8,8,8,8,8,8,8,8,8,8,8,8,8,8,8,8,8,8,8,8,8,8,8]:List UInt8).append [8,8,8,8,8,8,8,8,8,8,8,8,8,8,8,8,8,8,8,8,8,8,8,8,8,8,8,8,8,8,8,8,8,8,8,8,8,8,8,8,8,8,8,8,8,8,8,8,8,8,8,8,8,8,8,8,8,8,8,8,8,8,8,8])).toArray⟩)=.s L8:=by rfl
theorem cSb: ∀k,k<256→L8[k]? =some (BitVec.ofNat 8 (Sort.bitsLen k)):=by decide+kernel
theorem zL (x:BitVec 64) (h:x.toNat<256):L8[(x.setWidth 8).toNat]? =some (BitVec.ofNat 8 (Sort.bitsLen x.toNat)):=by
 rw[BitVec.toNat_setWidth,Nat.mod_eq_of_lt (by omega)];exact cSb _ h
theorem dCd {n:Nat} (h:n<256):Sort.bitsLen n≤8:=(Sort.bitsLen_le_iff n 8).2 h
theorem sT {n:Nat} (h:n<256):(BitVec.ofNat 8 (Sort.bitsLen n)).toNat=Sort.bitsLen n:=by have:=dCd h;rw[BitVec.toNat_ofNat];exact Nat.mod_eq_of_lt (by omega)
theorem gB (n k:Nat) (h:2^k≤n):Sort.bitsLen n=k+Sort.bitsLen (n>>>k):=by
 have e1: ∀j,Sort.bitsLen n≤k+j↔Sort.bitsLen (n>>>k)≤j:=fun j=>by
  rw[Sort.bitsLen_le_iff,Sort.bitsLen_le_iff,Nat.shiftRight_eq_div_pow,Nat.div_lt_iff_lt_mul (Nat.two_pow_pos k),Nat.pow_add,Nat.mul_comm]
 have h1:k<Sort.bitsLen n:=Nat.lt_of_not_le fun hc=>absurd ((Sort.bitsLen_le_iff n k).1 hc) (by omega)
 have h2:=(e1 (Sort.bitsLen n-k)).1 (by omega)
 have h3:=(e1 (Sort.bitsLen (n>>>k))).2 (U3 _)
 omega
def uJ:List AV→Option AV
 |[.w64 x]=>some (.i (Sort.bitsLen x.toNat))
 |_=>none
theorem bPp (x:BitVec 64):uJ [.w64 x]=some (.i (Sort.bitsLen x.toNat)):=(rfl)
attribute [go_sem] bPp
set_option maxHeartbeats 1000000 in
theorem cMn:cL Tryz.prog GLh 78 uJ:=by
 refine cC Tryz.func78 (aT rfl) ?_
 intro args r hg
 unfold uJ at hg
 split at hg
 ·rename_i x
  obtain rfl:=J0 hg
  refine⟨J1 rfl,fun nx=>?_⟩
  clear hg
  refine aA rfl (bA [0,2] rfl rfl rfl fun K hK=>?_)
  simp(disch:=omega) only[Tryz.f78,go_sem,↓reduceIte]
  refine hK _ ?_
  refine aB (aA rfl (aA rfl (bA [4,0,2] rfl rfl rfl fun K hK=>?_)))
  simp(disch:=omega) only[Tryz.f78,go_sem,↓reduceIte]
  refine hK _ ?_
  refine aB (aW (.tmp 4) rfl rfl rfl (fun h=>?_) (fun h=>?_))
  ·refine aI rfl ?_
   have hk0:=gB (x).toNat 32 (by have:=BitVec.le_def.1 h;exact this)
   rw[←BitVec.toNat_ushiftRight]at hk0
   refine aA rfl (bA [0] rfl rfl rfl fun K hK=>?_)
   simp(disch:=omega) only[Tryz.f78,go_sem,↓reduceIte]
   refine hK _ ?_
   refine aB (bA [0,2] rfl rfl rfl fun K hK=>?_)
   simp(disch:=omega) only[Tryz.f78,go_sem,↓reduceIte]
   refine hK _ ?_
   refine aB (aA rfl (aA rfl (bA [8,0,2] rfl rfl rfl fun K hK=>?_)))
   simp(disch:=omega) only[Tryz.f78,go_sem,↓reduceIte]
   refine hK _ ?_
   refine aB (aW (.tmp 8) rfl rfl rfl (fun h=>?_) (fun h=>?_))
   ·refine aI rfl ?_
    have hk1:=gB (x>>>32).toNat 16 (by have:=BitVec.le_def.1 h;exact this)
    rw[←BitVec.toNat_ushiftRight]at hk1
    refine aA rfl (bA [0,2] rfl rfl rfl fun K hK=>?_)
    simp(disch:=omega) only[Tryz.f78,go_sem,↓reduceIte]
    refine hK _ ?_
    refine aB (bA [0,2] rfl rfl rfl fun K hK=>?_)
    simp(disch:=omega) only[Tryz.f78,go_sem,↓reduceIte]
    refine hK _ ?_
    refine aB (aA rfl (aA rfl (bA [14,0,2] rfl rfl rfl fun K hK=>?_)))
    simp(disch:=omega) only[Tryz.f78,go_sem,↓reduceIte]
    refine hK _ ?_
    refine aB (aW (.tmp 14) rfl rfl rfl (fun h=>?_) (fun h=>?_))
    ·refine aI rfl ?_
     have hk2:=gB (x>>>32>>>16).toNat 8 (by have:=BitVec.le_def.1 h;exact this)
     rw[←BitVec.toNat_ushiftRight]at hk2
     refine aA rfl (bA [0,2] rfl rfl rfl fun K hK=>?_)
     simp(disch:=omega) only[Tryz.f78,go_sem,↓reduceIte]
     refine hK _ ?_
     refine aB (bA [0,2] rfl rfl rfl fun K hK=>?_)
     simp(disch:=omega) only[Tryz.f78,go_sem,↓reduceIte]
     refine hK _ ?_
     refine aB ?_
     have hx256:(x>>>32>>>16>>>8).toNat<256:=by bv_omega
     have e1:=zL (x>>>32>>>16>>>8) hx256
     refine aA rfl (bA [2] rfl rfl rfl fun K hK=>?_)
     simp(disch:=omega) only[Tryz.f78,go_sem,↓reduceIte,aQo,e1]
     refine hK _ ?_
     refine aB (aS rfl ?_)
     simp(disch:=omega) only[cN,bV,bK,bQ,Tryz.f78,go_sem,↓reduceIte]
     have e2:=sT hx256
     refine congrArg some (congrArg AV.i ?_)
     omega
    refine aI rfl (aQ rfl (aB (aA rfl ?_)))
    have hx256:(x>>>32>>>16).toNat<256:=by bv_omega
    have e1:=zL (x>>>32>>>16) hx256
    refine bA [2] rfl rfl rfl fun K hK=>?_
    simp(disch:=omega) only[Tryz.f78,go_sem,↓reduceIte,aQo,e1]
    refine hK _ ?_
    refine aB (aS rfl ?_)
    simp(disch:=omega) only[cN,bV,bK,bQ,Tryz.f78,go_sem,↓reduceIte]
    have e2:=sT hx256
    refine congrArg some (congrArg AV.i ?_)
    omega
   refine aI rfl (aQ rfl (aB (aA rfl (aA rfl (bA [14,0,2] rfl rfl rfl fun K hK=>?_)))))
   simp(disch:=omega) only[Tryz.f78,go_sem,↓reduceIte]
   refine hK _ ?_
   refine aB (aW (.tmp 14) rfl rfl rfl (fun h=>?_) (fun h=>?_))
   ·refine aI rfl ?_
    have hk2:=gB (x>>>32).toNat 8 (by have:=BitVec.le_def.1 h;exact this)
    rw[←BitVec.toNat_ushiftRight]at hk2
    refine aA rfl (bA [0,2] rfl rfl rfl fun K hK=>?_)
    simp(disch:=omega) only[Tryz.f78,go_sem,↓reduceIte]
    refine hK _ ?_
    refine aB (bA [0,2] rfl rfl rfl fun K hK=>?_)
    simp(disch:=omega) only[Tryz.f78,go_sem,↓reduceIte]
    refine hK _ ?_
    refine aB ?_
    have hx256:(x>>>32>>>8).toNat<256:=by bv_omega
    have e1:=zL (x>>>32>>>8) hx256
    refine aA rfl (bA [2] rfl rfl rfl fun K hK=>?_)
    simp(disch:=omega) only[Tryz.f78,go_sem,↓reduceIte,aQo,e1]
    refine hK _ ?_
    refine aB (aS rfl ?_)
    simp(disch:=omega) only[cN,bV,bK,bQ,Tryz.f78,go_sem,↓reduceIte]
    have e2:=sT hx256
    refine congrArg some (congrArg AV.i ?_)
    omega
   refine aI rfl (aQ rfl (aB (aA rfl ?_)))
   have hx256:(x>>>32).toNat<256:=by bv_omega
   have e1:=zL (x>>>32) hx256
   refine bA [2] rfl rfl rfl fun K hK=>?_
   simp(disch:=omega) only[Tryz.f78,go_sem,↓reduceIte,aQo,e1]
   refine hK _ ?_
   refine aB (aS rfl ?_)
   simp(disch:=omega) only[cN,bV,bK,bQ,Tryz.f78,go_sem,↓reduceIte]
   have e2:=sT hx256
   refine congrArg some (congrArg AV.i ?_)
   omega
  refine aI rfl (aQ rfl (aB (aA rfl (aA rfl (bA [8,0,2] rfl rfl rfl fun K hK=>?_)))))
  simp(disch:=omega) only[Tryz.f78,go_sem,↓reduceIte]
  refine hK _ ?_
  refine aB (aW (.tmp 8) rfl rfl rfl (fun h=>?_) (fun h=>?_))
  ·refine aI rfl ?_
   have hk1:=gB (x).toNat 16 (by have:=BitVec.le_def.1 h;exact this)
   rw[←BitVec.toNat_ushiftRight]at hk1
   refine aA rfl (bA [0,2] rfl rfl rfl fun K hK=>?_)
   simp(disch:=omega) only[Tryz.f78,go_sem,↓reduceIte]
   refine hK _ ?_
   refine aB (bA [0,2] rfl rfl rfl fun K hK=>?_)
   simp(disch:=omega) only[Tryz.f78,go_sem,↓reduceIte]
   refine hK _ ?_
   refine aB (aA rfl (aA rfl (bA [14,0,2] rfl rfl rfl fun K hK=>?_)))
   simp(disch:=omega) only[Tryz.f78,go_sem,↓reduceIte]
   refine hK _ ?_
   refine aB (aW (.tmp 14) rfl rfl rfl (fun h=>?_) (fun h=>?_))
   ·refine aI rfl ?_
    have hk2:=gB (x>>>16).toNat 8 (by have:=BitVec.le_def.1 h;exact this)
    rw[←BitVec.toNat_ushiftRight]at hk2
    refine aA rfl (bA [0,2] rfl rfl rfl fun K hK=>?_)
    simp(disch:=omega) only[Tryz.f78,go_sem,↓reduceIte]
    refine hK _ ?_
    refine aB (bA [0,2] rfl rfl rfl fun K hK=>?_)
    simp(disch:=omega) only[Tryz.f78,go_sem,↓reduceIte]
    refine hK _ ?_
    refine aB ?_
    have hx256:(x>>>16>>>8).toNat<256:=by bv_omega
    have e1:=zL (x>>>16>>>8) hx256
    refine aA rfl (bA [2] rfl rfl rfl fun K hK=>?_)
    simp(disch:=omega) only[Tryz.f78,go_sem,↓reduceIte,aQo,e1]
    refine hK _ ?_
    refine aB (aS rfl ?_)
    simp(disch:=omega) only[cN,bV,bK,bQ,Tryz.f78,go_sem,↓reduceIte]
    have e2:=sT hx256
    refine congrArg some (congrArg AV.i ?_)
    omega
   refine aI rfl (aQ rfl (aB (aA rfl ?_)))
   have hx256:(x>>>16).toNat<256:=by bv_omega
   have e1:=zL (x>>>16) hx256
   refine bA [2] rfl rfl rfl fun K hK=>?_
   simp(disch:=omega) only[Tryz.f78,go_sem,↓reduceIte,aQo,e1]
   refine hK _ ?_
   refine aB (aS rfl ?_)
   simp(disch:=omega) only[cN,bV,bK,bQ,Tryz.f78,go_sem,↓reduceIte]
   have e2:=sT hx256
   refine congrArg some (congrArg AV.i ?_)
   omega
  refine aI rfl (aQ rfl (aB (aA rfl (aA rfl (bA [14,0,2] rfl rfl rfl fun K hK=>?_)))))
  simp(disch:=omega) only[Tryz.f78,go_sem,↓reduceIte]
  refine hK _ ?_
  refine aB (aW (.tmp 14) rfl rfl rfl (fun h=>?_) (fun h=>?_))
  ·refine aI rfl ?_
   have hk2:=gB (x).toNat 8 (by have:=BitVec.le_def.1 h;exact this)
   rw[←BitVec.toNat_ushiftRight]at hk2
   refine aA rfl (bA [0,2] rfl rfl rfl fun K hK=>?_)
   simp(disch:=omega) only[Tryz.f78,go_sem,↓reduceIte]
   refine hK _ ?_
   refine aB (bA [0,2] rfl rfl rfl fun K hK=>?_)
   simp(disch:=omega) only[Tryz.f78,go_sem,↓reduceIte]
   refine hK _ ?_
   refine aB ?_
   have hx256:(x>>>8).toNat<256:=by bv_omega
   have e1:=zL (x>>>8) hx256
   refine aA rfl (bA [2] rfl rfl rfl fun K hK=>?_)
   simp(disch:=omega) only[Tryz.f78,go_sem,↓reduceIte,aQo,e1]
   refine hK _ ?_
   refine aB (aS rfl ?_)
   simp(disch:=omega) only[cN,bV,bK,bQ,Tryz.f78,go_sem,↓reduceIte]
   have e2:=sT hx256
   refine congrArg some (congrArg AV.i ?_)
   omega
  refine aI rfl (aQ rfl (aB (aA rfl ?_)))
  have hx256:(x).toNat<256:=by bv_omega
  have e1:=zL (x) hx256
  refine bA [2] rfl rfl rfl fun K hK=>?_
  simp(disch:=omega) only[Tryz.f78,go_sem,↓reduceIte,aQo,e1]
  refine hK _ ?_
  refine aB (aS rfl ?_)
  simp(disch:=omega) only[cN,bV,bK,bQ,Tryz.f78,go_sem,↓reduceIte]
  have e2:=sT hx256
  refine congrArg some (congrArg AV.i ?_)
  omega
 cases hg
theorem cKj:bX Tryz.prog GLh 78 (.pure true uJ):=⟨⟨_,Tryz.func78,rfl,rfl⟩,cMn⟩
set_option maxHeartbeats 1000000 in
theorem cCi:cL Tryz.prog GLh 64 uJ:=by
 refine cC Tryz.func64 (aT rfl) ?_
 intro args r hg
 unfold uJ at hg
 split at hg
 ·rename_i x
  obtain rfl:=J0 hg
  refine⟨J1 rfl,fun nx=>?_⟩
  refine aA rfl (bA [0] rfl rfl rfl fun K hK=>?_)
  simp(disch:=omega) only[Tryz.f64,go_sem,↓reduceIte]
  refine hK _ ?_
  refine aB (aA rfl (eC _ rfl rfl rfl (fun h=>?_) (fun h=>?_)))
  ·cases h
  refine aQ rfl (aB (aA rfl (aC (Γ:=bC [(78,.pure true uJ)]) [2] (aH cKj aO) rfl rfl rfl (fun K hK=>?_))))
  simp(disch:=omega) only[Tryz.f64,go_sem,↓reduceIte]
  refine hK _ ?_
  refine aB (aS rfl ?_)
  simp(disch:=omega) only[cN,bV,bK,bQ,Tryz.f64,go_sem,↓reduceIte]
 cases hg
theorem cFa:bX Tryz.prog GLh 64 (.pure true uJ):=⟨⟨_,Tryz.func64,rfl,rfl⟩,cCi⟩
def npG:List AV→Option AV
 |[.i n]=>aN (0≤n∧n≤1000000) (some (.w64 (1#64 <<<Sort.bitsLen n.toNat)))
 |_=>none
theorem cLd (n:Int):npG [.i n]=aN (0≤n∧n≤1000000) (some (.w64 (1#64 <<<Sort.bitsLen n.toNat))):=(rfl)
attribute [go_sem] cLd
theorem aTm {n:Nat} (h:n≤1000000):Sort.bitsLen n≤20:=(Sort.bitsLen_le_iff n 20).2 (by omega)
theorem aWd {n:Nat} (h:n≤1000000):(BitVec.ofInt 64 (n:Int)).toNat=n:=by
 rw[BitVec.toNat_ofInt];omega
set_option maxHeartbeats 1000000 in
theorem cXc:cL Tryz.prog GLh 86 npG:=by
 refine cC Tryz.func86 (aT rfl) ?_
 intro args r hg
 unfold npG at hg
 split at hg
 ·rename_i n0
  replace hg:=aP hg;obtain⟨⟨hn,hbig⟩,hg⟩:=hg
  obtain rfl:=J0 hg
  obtain⟨n,rfl⟩:=Int.eq_ofNat_of_zero_le hn
  simp only[U2]at*
  have hbn:n≤1000000:=by omega
  have h20:=aTm hbn
  have e1:=aWd hbn
  refine⟨J1 rfl,fun nx=>?_⟩
  refine aA rfl (bA [0] rfl rfl rfl fun K hK=>?_)
  simp(disch:=omega) only[Tryz.f86,go_sem,↓reduceIte]
  refine hK _ ?_
  refine aB (aA rfl (aC (Γ:=bC [(64,.pure true uJ)]) [2] (aH cFa aO) rfl rfl rfl (fun K hK=>?_)))
  simp(disch:=omega) only[Tryz.f86,go_sem,↓reduceIte,e1,U2]
  refine hK _ ?_
  refine aB (aS rfl ?_)
  simp(disch:=omega) only[cN,bV,bK,bQ,Tryz.f86,go_sem,↓reduceIte]
 cases hg
theorem cKi:bX Tryz.prog GLh 86 (.pure true npG):=⟨⟨_,Tryz.func86,rfl,rfl⟩,cXc⟩
def bPm (a len modulus:Nat):Nat→Nat→UInt64×Array T32→Array T32
 |0,_,st=>st.2
 |m+1,idx,st=>bPm a len modulus m (idx+1) (Sort.breakStep a len modulus st idx)
theorem cCg (x:BitVec 64) (k:Nat) (h:k≤20):(x&&&((1#64 <<<k)-1#64)).toNat=x.toNat&&&((1 <<<k)-1):=by
 have hp:2^k≤2^20:=Nat.pow_le_pow_right (by decide) h
 have h0:=Nat.two_pow_pos k
 rw[BitVec.toNat_and]
 congr 1
 rw[BitVec.toNat_sub,BitVec.toNat_shiftLeft,Nat.shiftLeft_eq,Nat.shiftLeft_eq]
 simp only[BitVec.toNat_ofNat,Nat.reduceMod,Nat.reducePow,Nat.one_mul]at hp⊢
 omega
theorem cRa (x k n:Nat) (h:0<n) (hk:k=Sort.bitsLen n):x&&&((1 <<<k)-1)<2*n:=by
 have h1:=Nat.and_le_right (n:=x) (m:=(1 <<<k)-1)
 have h2:=Sort.two_pow_bitsLen_le h
 have h0:=Nat.two_pow_pos k
 rw[Nat.shiftLeft_eq,Nat.one_mul]at h1⊢
 rw[hk]at*
 omega
structure SDR where
 m:Nat
 i:Nat
 r:BitVec 64
 d:Array T32
 c:Nat
def bPn:List AV→List AV→Option (AV×List AV)
 |[.os _ 0 n 1 _,.i a,.i b],xs=>aK (unA xs) fun l=>aN (l.length=n∧0≤a∧a<b∧b≤n∧n≤1000000) (some (.tup [],cA (Sort.breakPatterns l.toArray a.toNat b.toNat)))
 |_,_=>none
theorem cCh (id n:Nat) (gg:Bool) (a b:Int) (xs:List AV):bPn [.os id 0 n 1 gg,.i a,.i b] xs=aK (unA xs) fun l=>aN (l.length=n∧0≤a∧a<b∧b≤n∧n≤1000000) (some (.tup [],cA (Sort.breakPatterns l.toArray a.toNat b.toNat))):=(rfl)
attribute [go_sem] cCh
set_option maxHeartbeats 2000000 in
theorem cQz:cQ Tryz.prog GLh 70 (dP bPn):=by
 refine dN Tryz.func70 (aT rfl) ?_
 intro id off n e gg rest nx xs r ys hg
 unfold bPn at hg
 split at hg
 ·rename_i id2 n2 gg2 a0 b0 heq
  simp only[List.cons.injEq,AV.os.injEq]at heq
  obtain⟨⟨rfl,rfl,rfl,rfl,rfl⟩,rfl⟩:=heq
  replace hg:=aJ hg;obtain⟨l,hl,hg⟩:=hg
  replace hg:=aP hg;obtain⟨⟨hn,ha,hab,hbn,hbig⟩,hg⟩:=hg
  simp only[Option.some.injEq,Prod.mk.injEq]at hg;obtain⟨rfl,rfl⟩:=hg
  have:=dO hl;subst this
  obtain⟨a,rfl⟩:=Int.eq_ofNat_of_zero_le ha
  obtain⟨b,rfl⟩:=Int.eq_ofNat_of_zero_le (show 0≤b0 by omega)
  simp only[U2]at*
  obtain⟨d,hd⟩: ∃d,l.toArray=d:=⟨_,rfl⟩
  have hds:d.size=n:=by rw[←hd];simpa using hn
  have hab2:a<b:=by omega
  have hbn2:b≤n:=by omega
  rw[hd]
  refine⟨J1 rfl,fun hid=>?_⟩
  clear hl hn ha hab hbn
  have eq4:(((b:Int)-(a:Int)).tdiv 4)=(((b-a)/4:Nat):Int):=by rw[Int.tdiv_eq_ediv_of_nonneg (by omega)];omega
  obtain⟨L,hL⟩: ∃L:Nat,b-a=L:=⟨_,rfl⟩
  obtain⟨Q,hQ⟩: ∃Q:Nat,(b-a)/4=Q:=⟨_,rfl⟩
  have ebL:(b:Int)-(a:Int)=(L:Int):=by omega
  rw[ebL,hQ]at eq4
  have hQL:L/4=Q:=by omega
  have hLb:L≤1000000:=by omega
  have h20:=aTm hLb
  obtain⟨R,hR⟩: ∃R,Sort.breakPatterns d a b=R:=⟨_,rfl⟩
  rw[hR]
  refine aA rfl (bA [0,1,6] rfl rfl rfl fun K hK=>?_)
  simp(disch:=omega) only[Tryz.f70,go_sem,↓reduceIte,ebL]
  refine hK _ ?_
  refine aB (aA rfl (bA [15,0,1,6] rfl rfl rfl fun K hK=>?_))
  simp(disch:=omega) only[Tryz.f70,go_sem,↓reduceIte]
  refine hK _ ?_
  refine aB (aW (.tmp 15) rfl rfl rfl (fun h=>?_) (fun h=>?_))
  ·refine aI rfl ?_
   have hL8:L≥8:=by omega
   have hR2:bPm a L (1 <<<Sort.bitsLen L) 3 (a+Q*2-1) (UInt64.ofNat L,d)=R:=by
    rw[←hR];unfold Sort.breakPatterns;simp only[hL,hQL,J4 hL8];rfl
   have ei:(a:Int)+(Q:Int)*2-1=((a+Q*2-1:Nat):Int):=by omega
   obtain⟨i0,hi0⟩: ∃i0,a+Q*2-1=i0:=⟨_,rfl⟩
   rw[hi0]at hR2 ei
   have ej:(a:Int)+(Q:Int)*2+1=((i0+2:Nat):Int):=by omega
   refine aA rfl (bA [0,1,6,7] rfl rfl rfl fun K hK=>?_)
   simp(disch:=omega) only[Tryz.f70,go_sem,↓reduceIte]
   refine hK _ ?_
   refine aB (aA rfl (aC (Γ:=bC [(86,.pure true npG)]) [0,1,6,7,8] (aH cKi aO) rfl rfl rfl (fun K hK=>?_)))
   simp(disch:=omega) only[Tryz.f70,go_sem,↓reduceIte,U2]
   refine hK _ ?_
   refine aB (aA rfl (bA [0,1,6,7,8,9] rfl rfl rfl fun K hK=>?_))
   simp(disch:=omega) only[Tryz.f70,go_sem,↓reduceIte,eq4,ei]
   refine hK _ ?_
   refine aB ?_
   obtain⟨q,hq⟩: ∃q,nx+4+2+2=q:=⟨_,rfl⟩
   have hqid:id<q:=by omega
   rw[hq]
   refine aR 0 rfl rfl ?_
   refine bR (fun p:SDR=> {fr:=[(0,.os id 0 n 1 gg),(1,.i a),(6,.i L),(7,.op q 0),(8,.w64 (1#64 <<<Sort.bitsLen L)),(9,.i p.i)],hp:=upd (upd (fun _=>none) id (.cells (cA p.d) true)) q (.cells [.w64 p.r] true),nx:=0,cx:=p.c}) (fun p=>bPm a L (1 <<<Sort.bitsLen L) p.m p.i (.ofBitVec p.r,p.d)=R∧p.d.size=n∧p.m+p.i=i0+3∧i0≤p.i∧q<p.c) (fun p=>p.m) rfl ⟨⟨3,i0,BitVec.ofInt 64 (L:Int),d,_⟩,⟨by rw[←hR2];simp only;rw[BitVec.ofInt_natCast];rfl,hds,by simp only;omega,by simp only;omega,by simp only;omega⟩,bD rfl rfl (U3 _)⟩ ?_
   rintro⟨m,i,r,d1,c⟩ ⟨hr1,hs1,hm,hi,hc⟩ n0
   simp only at hr1 hs1 hm hi hc⊢
   have eqq:(a:Int)+((L:Int).tdiv 4)*2+1=((i0+2:Nat):Int):=by rw[eq4];exact ej
   refine aA rfl (aA rfl (bA [33,0,1,6,7,8,9] rfl rfl rfl fun K hK=>?_))
   simp(disch:=omega) only[Tryz.f70,go_sem,↓reduceIte,eq4,ej]
   refine hK _ ?_
   refine aB (aW (.tmp 33) rfl rfl rfl (fun h=>?_) (fun h=>?_))
   ·refine aI rfl ?_
    obtain⟨m,rfl⟩: ∃m',m=m'+1:=⟨m-1,by omega⟩
    rw[bPm]at hr1
    obtain⟨o,ho⟩: ∃o,(aDu r).toNat&&&((1 <<<Sort.bitsLen L)-1)=o:=⟨_,rfl⟩
    have ho2:o<2*L:=by rw[←ho];exact cRa _ _ _ (by omega) rfl
    have hst:Sort.breakStep a L (1 <<<Sort.bitsLen L) (UInt64.ofBitVec r,d1) i=(.ofBitVec (aDu r),Sort.swp d1 i (a+if o≥L then o-L else o)):=by
     rw[←ho];rfl
    rw[hst]at hr1
    have hin:i<n:=by omega
    have eand:(aDu r&&&(1#64 <<<Sort.bitsLen L-1#64)).toNat=o:=by rw[cCg _ _ h20];exact ho
    refine aQ rfl (aB (aA rfl (aR 1 rfl rfl (aA rfl (aC (Γ:=bC [(87,.heap bJo)]) [0,1,6,7,8,9,10] (aH cKh aO) rfl rfl rfl (fun K hK=>?_))))))
    simp(disch:=omega) only[Tryz.f70,go_sem,↓reduceIte,eand]
    refine hK _ ?_
    refine aB (aA rfl (aA rfl (bA [43,0,1,6,7,8,9,10] rfl rfl rfl fun K hK=>?_)))
    simp(disch:=omega) only[Tryz.f70,go_sem,↓reduceIte]
    refine hK _ ?_
    refine aB (aW (.tmp 43) rfl rfl rfl (fun h=>?_) (fun h=>?_))
    ·refine aI rfl ?_
     have hoL:o≥L:=by omega
     rw[J4 hoL]at hr1
     have eo:(o:Int)-(L:Int)=((o-L:Nat):Int):=by omega
     refine bA [0,1,6,7,8,9,10] rfl rfl rfl fun K hK=>?_
     simp(disch:=omega) only[Tryz.f70,go_sem,↓reduceIte,eo]
     refine hK _ ?_
     refine aB ?_
     obtain⟨w,hw⟩: ∃w,a+(o-L)=w:=⟨_,rfl⟩
     have ew:(a:Int)+((o-L:Nat):Int)=(w:Int):=by omega
     have hwn:w<n:=by omega
     rw[hw]at hr1
     have hsw:(d1.setIfInBounds i d1[w]!).setIfInBounds w d1[i]! =Sort.swp d1 i w:=rfl
     refine bB (Γ:=aL) (fun _=>2) [0,1,6,7,8,9] bZ (aD _ _) rfl rfl rfl (by kernel_rfl) (fun K hK=>?_)
     simp(disch:=omega) only[Tryz.f70,go_sem,↓reduceIte,ew,hsw,U2]
     refine hK _ ?_
     refine bU (aB (bA [0,1,6,7,8,9] rfl rfl rfl fun K hK=>?_))
     simp(disch:=omega) only[Tryz.f70,go_sem,↓reduceIte]
     refine hK _ ?_
     refine bT ?_
     refine⟨⟨m,i+1,aDu r,Sort.swp d1 i w,_⟩,⟨hr1,by simp only[cW];exact hs1,by simp only;omega,by simp only;omega,by simp only;omega⟩,by simp only;omega,⟨fun _=> .inr (by simp only[Int.natCast_add,Int.natCast_one]),bS (by simp(disch:=omega) only[aV,bY,↓reduceIte,eq_self]) (bS (by simp(disch:=omega) only[aV,↓reduceIte,eq_self]) cB),U3 _⟩⟩
    refine aI rfl ?_
    have hoL: ¬o≥L:=by omega
    rw[J3 hoL]at hr1
    refine aQ rfl (aB ?_)
    obtain⟨w,hw⟩: ∃w,a+o=w:=⟨_,rfl⟩
    have ew:(a:Int)+(o:Int)=(w:Int):=by omega
    have hwn:w<n:=by omega
    rw[hw]at hr1
    have hsw:(d1.setIfInBounds i d1[w]!).setIfInBounds w d1[i]! =Sort.swp d1 i w:=rfl
    refine bB (Γ:=aL) (fun _=>2) [0,1,6,7,8,9] bZ (aD _ _) rfl rfl rfl (by kernel_rfl) (fun K hK=>?_)
    simp(disch:=omega) only[Tryz.f70,go_sem,↓reduceIte,ew,hsw,U2]
    refine hK _ ?_
    refine bU (aB (bA [0,1,6,7,8,9] rfl rfl rfl fun K hK=>?_))
    simp(disch:=omega) only[Tryz.f70,go_sem,↓reduceIte]
    refine hK _ ?_
    refine bT ?_
    refine⟨⟨m,i+1,aDu r,Sort.swp d1 i w,_⟩,⟨hr1,by simp only[cW];exact hs1,by simp only;omega,by simp only;omega,by simp only;omega⟩,by simp only;omega,⟨fun _=> .inr (by simp only[Int.natCast_add,Int.natCast_one]),bS (by simp(disch:=omega) only[aV,bY,↓reduceIte,eq_self]) (bS (by simp(disch:=omega) only[aV,↓reduceIte,eq_self]) cB),U3 _⟩⟩
   refine aI rfl (bF 0 rfl rfl (aY (aZ (bE ?_))))
   obtain rfl:m=0:=by omega
   rw[bPm]at hr1
   simp only at hr1
   subst hr1
   exact⟨rfl,by simp(disch:=omega) only[aV,bY,if_true,if_false],rfl,dZ _⟩
  refine aI rfl ?_
  have hL8: ¬L≥8:=by omega
  refine aQ rfl ?_
  have hR2:d=R:=by rw[←hR];unfold Sort.breakPatterns;simp only[hL,J3 hL8]
  subst hR2
  exact⟨rfl,by simp only[aV,if_true],rfl,dZ _⟩
 cases hg
theorem cVr:bX Tryz.prog GLh 70 (.heap (dP bPn)):=⟨⟨_,Tryz.func70,rfl,rfl⟩,cQz⟩
end Go.AX

namespace Go.AX
open Go Go.Proofs
structure SKC where
 k:Nat
 c:Nat
set_option maxHeartbeats 1000000 in
theorem cJg {id n a I J I2 nx0 cx0:Nat} {gg:Bool} {D:Array T32} {Q:Exit→S→Prop} (hI:Sort.scanUp (fun x=>ltN x D[a]!) D J I=I2) (hs:D.size=n) (hJ:J<n) (ha:a<n) (hbig:n≤1000000) (hid:id<cx0)
  (hQ: ∀n1 c1,id<c1→Q .normal {fr:=[(0,.os id 0 n 1 gg),(1,.i (a:Int)),(10,.i (I2:Int)),(11,.i (J:Int))],hp:=upd (fun _=>none) id (.cells (cA D) true),nx:=n1,cx:=c1}):
  Awp Tryz.prog GLh Tryz.f76.ntmps (cl (cr (cr (cr (aE Tryz.f76))))) {fr:=[(0,.os id 0 n 1 gg),(1,.i (a:Int)),(10,.i (I:Int)),(11,.i (J:Int))],hp:=upd (fun _=>none) id (.cells (cA D) true),nx:=nx0,cx:=cx0} Q:=by
  refine aR 0 rfl rfl (bR (fun q:SKC=> {fr:=[(0,.os id 0 n 1 gg),(1,.i a),(10,.i q.k),(11,.i J)],hp:=upd (fun _=>none) id (.cells (cA D) true),nx:=0,cx:=q.c}) (fun q=>Sort.scanUp (fun x=>ltN x D[a]!) D J q.k=I2∧id<q.c) (fun q=>J+1-q.k) rfl ⟨⟨I,_⟩,⟨hI,hid⟩,bD rfl rfl (U3 _)⟩ ?_)
  rintro⟨i,c⟩ ⟨hr,hc⟩ n0
  simp only at hr hc⊢
  by_cases hij:i≤J
  ·have hd1:decide ((i:Int)≤(J:Int))=true:=J5 (by omega)
   have hin:i<n:=by omega
   obtain⟨v,hv⟩: ∃v,ltN D[i]! D[a]! =v:=⟨_,rfl⟩
   rw[Sort.scanUp,J5 hij,Bool.true_and]at hr
   simp only[hv]at hr
   refine aA rfl (aA rfl (bB (Γ:=bC [(74,.pure true dY)]) (fun k=>if k=12 then 0 else 2) [43,0,1,10,11] bZ (aH jC aO) rfl rfl rfl (by kernel_rfl) (fun K hK=>?_)))
   simp(disch:=omega) only[Tryz.f76,go_sem,↓reduceIte,hd1,hv,U2]
   refine hK _ ?_
   refine aB ?_
   cases v
   ·simp only[Bool.false_eq_true,if_false]at hr
    subst hr
    refine eC (.tmp 43) rfl rfl rfl (fun h=>?_) (fun h=>?_)
    ·refine aI rfl ?_
     cases h
    exact aI rfl (bF 0 rfl rfl (aY (aZ (bE (hQ _ _ (by omega))))))
   simp only[if_true]at hr
   refine eC (.tmp 43) rfl rfl rfl (fun h=>?_) (fun h=>?_)
   ·refine aI rfl (aQ rfl (aB (aR 1 rfl rfl (bA [0,1,10,11] rfl rfl rfl fun K hK=>?_))))
    simp(disch:=omega) only[Tryz.f76,go_sem,↓reduceIte]
    refine hK _ ?_
    refine bU (bT ?_)
    refine⟨⟨i+1,_⟩,⟨hr,by simp only;omega⟩,by simp only;omega,bD (by simp only[Int.natCast_add,Int.natCast_one]) rfl (U3 _)⟩
   refine aI rfl ?_
   cases h
  have hd1:decide ((i:Int)≤(J:Int))=false:=J6 (by omega)
  rw[Sort.scanUp,J6 hij,Bool.false_and]at hr
  simp only[Bool.false_eq_true,if_false]at hr
  subst hr
  refine aA rfl (aA rfl (bB (Γ:=bC [(74,.pure true dY)]) (fun k=>if k=12 then 0 else 2) [43,0,1,10,11] bZ (aH jC aO) rfl rfl rfl (by kernel_rfl) (fun K hK=>?_)))
  simp(disch:=omega) only[Tryz.f76,go_sem,↓reduceIte,hd1]
  refine hK _ ?_
  refine aB (eC (.tmp 43) rfl rfl rfl (fun h=>?_) (fun h=>?_))
  ·refine aI rfl ?_
   cases h
  exact aI rfl (bF 0 rfl rfl (aY (aZ (bE (hQ _ _ (by omega))))))
set_option maxHeartbeats 1000000 in
theorem cJi {id n a I J J2 nx0 cx0:Nat} {gg:Bool} {D:Array T32} {Q:Exit→S→Prop} (hJ2:Sort.scanDown (fun x=> !ltN x D[a]!) D I J=J2) (hs:D.size=n) (hJ:J<n) (hI1:0<I) (ha:a<n) (hbig:n≤1000000) (hid:id<cx0)
  (hQ: ∀n1 c1,id<c1→Q .normal {fr:=[(0,.os id 0 n 1 gg),(1,.i (a:Int)),(10,.i (I:Int)),(11,.i (J2:Int))],hp:=upd (fun _=>none) id (.cells (cA D) true),nx:=n1,cx:=c1}):
  Awp Tryz.prog GLh Tryz.f76.ntmps (cl (cr (cr (cr (cr (aE Tryz.f76)))))) {fr:=[(0,.os id 0 n 1 gg),(1,.i (a:Int)),(10,.i (I:Int)),(11,.i (J:Int))],hp:=upd (fun _=>none) id (.cells (cA D) true),nx:=nx0,cx:=cx0} Q:=by
  refine aR 2 rfl rfl (bR (fun q:SKC=> {fr:=[(0,.os id 0 n 1 gg),(1,.i a),(10,.i I),(11,.i q.k)],hp:=upd (fun _=>none) id (.cells (cA D) true),nx:=0,cx:=q.c}) (fun q=>Sort.scanDown (fun x=> !ltN x D[a]!) D I q.k=J2∧q.k<n∧id<q.c) (fun q=>q.k) rfl ⟨⟨J,_⟩,⟨hJ2,hJ,hid⟩,bD rfl rfl (U3 _)⟩ ?_)
  rintro⟨j,c⟩ ⟨hr,hjn,hc⟩ n0
  simp only at hr hjn hc⊢
  by_cases hij:I≤j
  ·have hd1:decide ((I:Int)≤(j:Int))=true:=J5 (by omega)
   obtain⟨j,rfl⟩: ∃j',j=j'+1:=⟨j-1,by omega⟩
   have ej1:((j+1:Nat):Int)-1=(j:Int):=by omega
   obtain⟨v,hv⟩: ∃v,ltN D[j+1]! D[a]! =v:=⟨_,rfl⟩
   rw[Sort.scanDown,J5 hij,Bool.true_and]at hr
   simp only[hv]at hr
   refine aA rfl (aA rfl (bB (Γ:=bC [(74,.pure true dY)]) (fun k=>if k=12 then 0 else 2) [60,0,1,10,11] bZ (aH jC aO) rfl rfl rfl (by kernel_rfl) (fun K hK=>?_)))
   simp(disch:=omega) only[Tryz.f76,go_sem,↓reduceIte,hd1,hv,U2]
   refine hK _ ?_
   refine aB ?_
   cases v
   ·simp only[Bool.not_false,if_true]at hr
    refine eC (.tmp 60) rfl rfl rfl (fun h=>?_) (fun h=>?_)
    ·refine aI rfl (aQ rfl (aB (aR 3 rfl rfl (bA [0,1,10,11] rfl rfl rfl fun K hK=>?_))))
     simp(disch:=omega) only[Tryz.f76,go_sem,↓reduceIte,ej1]
     refine hK _ ?_
     refine bU (bT ?_)
     refine⟨⟨j,_⟩,⟨hr,by simp only;omega,by simp only;omega⟩,by simp only;omega,bD rfl rfl (U3 _)⟩
    refine aI rfl ?_
    cases h
   simp only[Bool.not_true,Bool.false_eq_true,if_false]at hr
   subst hr
   refine eC (.tmp 60) rfl rfl rfl (fun h=>?_) (fun h=>?_)
   ·refine aI rfl ?_
    cases h
   exact aI rfl (bF 2 rfl rfl (aY (aZ (bE (hQ _ _ (by omega))))))
  have hd1:decide ((I:Int)≤(j:Int))=false:=J6 (by omega)
  have hr2:j=J2:=by
   rw[←hr]
   cases j with
   |zero=>rfl
   |succ k=>rw[Sort.scanDown,J6 hij,Bool.false_and];rfl
  subst hr2
  refine aA rfl (aA rfl (bB (Γ:=bC [(74,.pure true dY)]) (fun k=>if k=12 then 0 else 2) [60,0,1,10,11] bZ (aH jC aO) rfl rfl rfl (by kernel_rfl) (fun K hK=>?_)))
  simp(disch:=omega) only[Tryz.f76,go_sem,↓reduceIte,hd1]
  refine hK _ ?_
  refine aB (eC (.tmp 60) rfl rfl rfl (fun h=>?_) (fun h=>?_))
  ·refine aI rfl ?_
   cases h
  exact aI rfl (bF 2 rfl rfl (aY (aZ (bE (hQ _ _ (by omega))))))
set_option maxHeartbeats 1000000 in
theorem cJf {id n a I J I2 nx0 cx0:Nat} {gg:Bool} {D:Array T32} {Q:Exit→S→Prop} (hI:Sort.scanUp (fun x=>ltN x D[a]!) D J I=I2) (hs:D.size=n) (hJ:J<n) (ha:a<n) (hbig:n≤1000000) (hid:id<cx0)
  (hQ: ∀n1 c1,id<c1→Q .normal {fr:=[(0,.os id 0 n 1 gg),(1,.i (a:Int)),(10,.i (I2:Int)),(11,.i (J:Int))],hp:=upd (fun _=>none) id (.cells (cA D) true),nx:=n1,cx:=c1}):
  Awp Tryz.prog GLh Tryz.f76.ntmps (cl (cl (cl (cl (cl (cr (cr (cr (cr (cr (cr (cr (cr (cr (aE Tryz.f76))))))))))))))) {fr:=[(0,.os id 0 n 1 gg),(1,.i (a:Int)),(10,.i (I:Int)),(11,.i (J:Int))],hp:=upd (fun _=>none) id (.cells (cA D) true),nx:=nx0,cx:=cx0} Q:=by
  refine aR 6 rfl rfl (bR (fun q:SKC=> {fr:=[(0,.os id 0 n 1 gg),(1,.i a),(10,.i q.k),(11,.i J)],hp:=upd (fun _=>none) id (.cells (cA D) true),nx:=0,cx:=q.c}) (fun q=>Sort.scanUp (fun x=>ltN x D[a]!) D J q.k=I2∧id<q.c) (fun q=>J+1-q.k) rfl ⟨⟨I,_⟩,⟨hI,hid⟩,bD rfl rfl (U3 _)⟩ ?_)
  rintro⟨i,c⟩ ⟨hr,hc⟩ n0
  simp only at hr hc⊢
  by_cases hij:i≤J
  ·have hd1:decide ((i:Int)≤(J:Int))=true:=J5 (by omega)
   have hin:i<n:=by omega
   obtain⟨v,hv⟩: ∃v,ltN D[i]! D[a]! =v:=⟨_,rfl⟩
   rw[Sort.scanUp,J5 hij,Bool.true_and]at hr
   simp only[hv]at hr
   refine aA rfl (aA rfl (bB (Γ:=bC [(74,.pure true dY)]) (fun k=>if k=12 then 0 else 2) [112,0,1,10,11] bZ (aH jC aO) rfl rfl rfl (by kernel_rfl) (fun K hK=>?_)))
   simp(disch:=omega) only[Tryz.f76,go_sem,↓reduceIte,hd1,hv,U2]
   refine hK _ ?_
   refine aB ?_
   cases v
   ·simp only[Bool.false_eq_true,if_false]at hr
    subst hr
    refine eC (.tmp 112) rfl rfl rfl (fun h=>?_) (fun h=>?_)
    ·refine aI rfl ?_
     cases h
    exact aI rfl (bF 6 rfl rfl (aY (aZ (bE (hQ _ _ (by omega))))))
   simp only[if_true]at hr
   refine eC (.tmp 112) rfl rfl rfl (fun h=>?_) (fun h=>?_)
   ·refine aI rfl (aQ rfl (aB (aR 7 rfl rfl (bA [0,1,10,11] rfl rfl rfl fun K hK=>?_))))
    simp(disch:=omega) only[Tryz.f76,go_sem,↓reduceIte]
    refine hK _ ?_
    refine bU (bT ?_)
    refine⟨⟨i+1,_⟩,⟨hr,by simp only;omega⟩,by simp only;omega,bD (by simp only[Int.natCast_add,Int.natCast_one]) rfl (U3 _)⟩
   refine aI rfl ?_
   cases h
  have hd1:decide ((i:Int)≤(J:Int))=false:=J6 (by omega)
  rw[Sort.scanUp,J6 hij,Bool.false_and]at hr
  simp only[Bool.false_eq_true,if_false]at hr
  subst hr
  refine aA rfl (aA rfl (bB (Γ:=bC [(74,.pure true dY)]) (fun k=>if k=12 then 0 else 2) [112,0,1,10,11] bZ (aH jC aO) rfl rfl rfl (by kernel_rfl) (fun K hK=>?_)))
  simp(disch:=omega) only[Tryz.f76,go_sem,↓reduceIte,hd1]
  refine hK _ ?_
  refine aB (eC (.tmp 112) rfl rfl rfl (fun h=>?_) (fun h=>?_))
  ·refine aI rfl ?_
   cases h
  exact aI rfl (bF 6 rfl rfl (aY (aZ (bE (hQ _ _ (by omega))))))
set_option maxHeartbeats 1000000 in
theorem cJh {id n a I J J2 nx0 cx0:Nat} {gg:Bool} {D:Array T32} {Q:Exit→S→Prop} (hJ2:Sort.scanDown (fun x=> !ltN x D[a]!) D I J=J2) (hs:D.size=n) (hJ:J<n) (hI1:0<I) (ha:a<n) (hbig:n≤1000000) (hid:id<cx0)
  (hQ: ∀n1 c1,id<c1→Q .normal {fr:=[(0,.os id 0 n 1 gg),(1,.i (a:Int)),(10,.i (I:Int)),(11,.i (J2:Int))],hp:=upd (fun _=>none) id (.cells (cA D) true),nx:=n1,cx:=c1}):
  Awp Tryz.prog GLh Tryz.f76.ntmps (cl (cr (cl (cl (cl (cl (cr (cr (cr (cr (cr (cr (cr (cr (cr (aE Tryz.f76)))))))))))))))) {fr:=[(0,.os id 0 n 1 gg),(1,.i (a:Int)),(10,.i (I:Int)),(11,.i (J:Int))],hp:=upd (fun _=>none) id (.cells (cA D) true),nx:=nx0,cx:=cx0} Q:=by
  refine aR 8 rfl rfl (bR (fun q:SKC=> {fr:=[(0,.os id 0 n 1 gg),(1,.i a),(10,.i I),(11,.i q.k)],hp:=upd (fun _=>none) id (.cells (cA D) true),nx:=0,cx:=q.c}) (fun q=>Sort.scanDown (fun x=> !ltN x D[a]!) D I q.k=J2∧q.k<n∧id<q.c) (fun q=>q.k) rfl ⟨⟨J,_⟩,⟨hJ2,hJ,hid⟩,bD rfl rfl (U3 _)⟩ ?_)
  rintro⟨j,c⟩ ⟨hr,hjn,hc⟩ n0
  simp only at hr hjn hc⊢
  by_cases hij:I≤j
  ·have hd1:decide ((I:Int)≤(j:Int))=true:=J5 (by omega)
   obtain⟨j,rfl⟩: ∃j',j=j'+1:=⟨j-1,by omega⟩
   have ej1:((j+1:Nat):Int)-1=(j:Int):=by omega
   obtain⟨v,hv⟩: ∃v,ltN D[j+1]! D[a]! =v:=⟨_,rfl⟩
   rw[Sort.scanDown,J5 hij,Bool.true_and]at hr
   simp only[hv]at hr
   refine aA rfl (aA rfl (bB (Γ:=bC [(74,.pure true dY)]) (fun k=>if k=12 then 0 else 2) [129,0,1,10,11] bZ (aH jC aO) rfl rfl rfl (by kernel_rfl) (fun K hK=>?_)))
   simp(disch:=omega) only[Tryz.f76,go_sem,↓reduceIte,hd1,hv,U2]
   refine hK _ ?_
   refine aB ?_
   cases v
   ·simp only[Bool.not_false,if_true]at hr
    refine eC (.tmp 129) rfl rfl rfl (fun h=>?_) (fun h=>?_)
    ·refine aI rfl (aQ rfl (aB (aR 9 rfl rfl (bA [0,1,10,11] rfl rfl rfl fun K hK=>?_))))
     simp(disch:=omega) only[Tryz.f76,go_sem,↓reduceIte,ej1]
     refine hK _ ?_
     refine bU (bT ?_)
     refine⟨⟨j,_⟩,⟨hr,by simp only;omega,by simp only;omega⟩,by simp only;omega,bD rfl rfl (U3 _)⟩
    refine aI rfl ?_
    cases h
   simp only[Bool.not_true,Bool.false_eq_true,if_false]at hr
   subst hr
   refine eC (.tmp 129) rfl rfl rfl (fun h=>?_) (fun h=>?_)
   ·refine aI rfl ?_
    cases h
   exact aI rfl (bF 8 rfl rfl (aY (aZ (bE (hQ _ _ (by omega))))))
  have hd1:decide ((I:Int)≤(j:Int))=false:=J6 (by omega)
  have hr2:j=J2:=by
   rw[←hr]
   cases j with
   |zero=>rfl
   |succ k=>rw[Sort.scanDown,J6 hij,Bool.false_and];rfl
  subst hr2
  refine aA rfl (aA rfl (bB (Γ:=bC [(74,.pure true dY)]) (fun k=>if k=12 then 0 else 2) [129,0,1,10,11] bZ (aH jC aO) rfl rfl rfl (by kernel_rfl) (fun K hK=>?_)))
  simp(disch:=omega) only[Tryz.f76,go_sem,↓reduceIte,hd1]
  refine hK _ ?_
  refine aB (eC (.tmp 129) rfl rfl rfl (fun h=>?_) (fun h=>?_))
  ·refine aI rfl ?_
   cases h
  exact aI rfl (bF 8 rfl rfl (aY (aZ (bE (hQ _ _ (by omega))))))
set_option maxHeartbeats 1000000 in
theorem cVf {id n a I J I2 nx0 cx0:Nat} {gg:Bool} {D:Array T32} {Q:Exit→S→Prop} (hI:Sort.scanUp (fun x=> !ltN D[a]! x) D J I=I2) (hs:D.size=n) (hJ:J<n) (ha:a<n) (hbig:n≤1000000) (hid:id<cx0)
  (hQ: ∀n1 c1,id<c1→Q .normal {fr:=[(0,.os id 0 n 1 gg),(1,.i (a:Int)),(9,.i (I2:Int)),(10,.i (J:Int))],hp:=upd (fun _=>none) id (.cells (cA D) true),nx:=n1,cx:=c1}):
  Awp Tryz.prog GLh Tryz.f75.ntmps (cl (cl (cl (cl (cl (cr (cr (cr (aE Tryz.f75))))))))) {fr:=[(0,.os id 0 n 1 gg),(1,.i (a:Int)),(9,.i (I:Int)),(10,.i (J:Int))],hp:=upd (fun _=>none) id (.cells (cA D) true),nx:=nx0,cx:=cx0} Q:=by
  refine aR 2 rfl rfl (bR (fun q:SKC=> {fr:=[(0,.os id 0 n 1 gg),(1,.i a),(9,.i q.k),(10,.i J)],hp:=upd (fun _=>none) id (.cells (cA D) true),nx:=0,cx:=q.c}) (fun q=>Sort.scanUp (fun x=> !ltN D[a]! x) D J q.k=I2∧id<q.c) (fun q=>J+1-q.k) rfl ⟨⟨I,_⟩,⟨hI,hid⟩,bD rfl rfl (U3 _)⟩ ?_)
  rintro⟨i,c⟩ ⟨hr,hc⟩ n0
  simp only at hr hc⊢
  by_cases hij:i≤J
  ·have hd1:decide ((i:Int)≤(J:Int))=true:=J5 (by omega)
   have hin:i<n:=by omega
   obtain⟨v,hv⟩: ∃v,ltN D[a]! D[i]! =v:=⟨_,rfl⟩
   rw[Sort.scanUp,J5 hij,Bool.true_and]at hr
   simp only[hv]at hr
   refine aA rfl (aA rfl (bB (Γ:=bC [(74,.pure true dY)]) (fun k=>if k=12 then 0 else 2) [43,0,1,9,10] bZ (aH jC aO) rfl rfl rfl (by kernel_rfl) (fun K hK=>?_)))
   simp(disch:=omega) only[Tryz.f75,go_sem,↓reduceIte,hd1,hv,U2]
   refine hK _ ?_
   refine aB ?_
   cases v
   ·simp only[Bool.not_false,if_true]at hr
    refine eC (.tmp 43) rfl rfl rfl (fun h=>?_) (fun h=>?_)
    ·refine aI rfl (aQ rfl (aB (aR 3 rfl rfl (bA [0,1,9,10] rfl rfl rfl fun K hK=>?_))))
     simp(disch:=omega) only[Tryz.f75,go_sem,↓reduceIte]
     refine hK _ ?_
     refine bU (bT ?_)
     refine⟨⟨i+1,_⟩,⟨hr,by simp only;omega⟩,by simp only;omega,bD (by simp only[Int.natCast_add,Int.natCast_one]) rfl (U3 _)⟩
    refine aI rfl ?_
    cases h
   simp only[Bool.not_true,Bool.false_eq_true,if_false]at hr
   subst hr
   refine eC (.tmp 43) rfl rfl rfl (fun h=>?_) (fun h=>?_)
   ·refine aI rfl ?_
    cases h
   exact aI rfl (bF 2 rfl rfl (aY (aZ (bE (hQ _ _ (by omega))))))
  have hd1:decide ((i:Int)≤(J:Int))=false:=J6 (by omega)
  rw[Sort.scanUp,J6 hij,Bool.false_and]at hr
  simp only[Bool.false_eq_true,if_false]at hr
  subst hr
  refine aA rfl (aA rfl (bB (Γ:=bC [(74,.pure true dY)]) (fun k=>if k=12 then 0 else 2) [43,0,1,9,10] bZ (aH jC aO) rfl rfl rfl (by kernel_rfl) (fun K hK=>?_)))
  simp(disch:=omega) only[Tryz.f75,go_sem,↓reduceIte,hd1]
  refine hK _ ?_
  refine aB (eC (.tmp 43) rfl rfl rfl (fun h=>?_) (fun h=>?_))
  ·refine aI rfl ?_
   cases h
  exact aI rfl (bF 2 rfl rfl (aY (aZ (bE (hQ _ _ (by omega))))))
set_option maxHeartbeats 1000000 in
theorem cVh {id n a I J J2 nx0 cx0:Nat} {gg:Bool} {D:Array T32} {Q:Exit→S→Prop} (hJ2:Sort.scanDown (fun x=>ltN D[a]! x) D I J=J2) (hs:D.size=n) (hJ:J<n) (hI1:0<I) (ha:a<n) (hbig:n≤1000000) (hid:id<cx0)
  (hQ: ∀n1 c1,id<c1→Q .normal {fr:=[(0,.os id 0 n 1 gg),(1,.i (a:Int)),(9,.i (I:Int)),(10,.i (J2:Int))],hp:=upd (fun _=>none) id (.cells (cA D) true),nx:=n1,cx:=c1}):
  Awp Tryz.prog GLh Tryz.f75.ntmps (cl (cr (cl (cl (cl (cl (cr (cr (cr (aE Tryz.f75)))))))))) {fr:=[(0,.os id 0 n 1 gg),(1,.i (a:Int)),(9,.i (I:Int)),(10,.i (J:Int))],hp:=upd (fun _=>none) id (.cells (cA D) true),nx:=nx0,cx:=cx0} Q:=by
  refine aR 4 rfl rfl (bR (fun q:SKC=> {fr:=[(0,.os id 0 n 1 gg),(1,.i a),(9,.i I),(10,.i q.k)],hp:=upd (fun _=>none) id (.cells (cA D) true),nx:=0,cx:=q.c}) (fun q=>Sort.scanDown (fun x=>ltN D[a]! x) D I q.k=J2∧q.k<n∧id<q.c) (fun q=>q.k) rfl ⟨⟨J,_⟩,⟨hJ2,hJ,hid⟩,bD rfl rfl (U3 _)⟩ ?_)
  rintro⟨j,c⟩ ⟨hr,hjn,hc⟩ n0
  simp only at hr hjn hc⊢
  by_cases hij:I≤j
  ·have hd1:decide ((I:Int)≤(j:Int))=true:=J5 (by omega)
   obtain⟨j,rfl⟩: ∃j',j=j'+1:=⟨j-1,by omega⟩
   have ej1:((j+1:Nat):Int)-1=(j:Int):=by omega
   obtain⟨v,hv⟩: ∃v,ltN D[a]! D[j+1]! =v:=⟨_,rfl⟩
   rw[Sort.scanDown,J5 hij,Bool.true_and]at hr
   simp only[hv]at hr
   refine aA rfl (aA rfl (bB (Γ:=bC [(74,.pure true dY)]) (fun k=>if k=12 then 0 else 2) [59,0,1,9,10] bZ (aH jC aO) rfl rfl rfl (by kernel_rfl) (fun K hK=>?_)))
   simp(disch:=omega) only[Tryz.f75,go_sem,↓reduceIte,hd1,hv,U2]
   refine hK _ ?_
   refine aB ?_
   cases v
   ·simp only[Bool.false_eq_true,if_false]at hr
    subst hr
    refine eC (.tmp 59) rfl rfl rfl (fun h=>?_) (fun h=>?_)
    ·refine aI rfl ?_
     cases h
    exact aI rfl (bF 4 rfl rfl (aY (aZ (bE (hQ _ _ (by omega))))))
   simp only[if_true]at hr
   refine eC (.tmp 59) rfl rfl rfl (fun h=>?_) (fun h=>?_)
   ·refine aI rfl (aQ rfl (aB (aR 5 rfl rfl (bA [0,1,9,10] rfl rfl rfl fun K hK=>?_))))
    simp(disch:=omega) only[Tryz.f75,go_sem,↓reduceIte,ej1]
    refine hK _ ?_
    refine bU (bT ?_)
    refine⟨⟨j,_⟩,⟨hr,by simp only;omega,by simp only;omega⟩,by simp only;omega,bD rfl rfl (U3 _)⟩
   refine aI rfl ?_
   cases h
  have hd1:decide ((I:Int)≤(j:Int))=false:=J6 (by omega)
  have hr2:j=J2:=by
   rw[←hr]
   cases j with
   |zero=>rfl
   |succ k=>rw[Sort.scanDown,J6 hij,Bool.false_and];rfl
  subst hr2
  refine aA rfl (aA rfl (bB (Γ:=bC [(74,.pure true dY)]) (fun k=>if k=12 then 0 else 2) [59,0,1,9,10] bZ (aH jC aO) rfl rfl rfl (by kernel_rfl) (fun K hK=>?_)))
  simp(disch:=omega) only[Tryz.f75,go_sem,↓reduceIte,hd1]
  refine hK _ ?_
  refine aB (eC (.tmp 59) rfl rfl rfl (fun h=>?_) (fun h=>?_))
  ·refine aI rfl ?_
   cases h
  exact aI rfl (bF 4 rfl rfl (aY (aZ (bE (hQ _ _ (by omega))))))
def ptG:List AV→List AV→Option (AV×List AV)
 |[.os _ 0 n 1 _,.i a,.i b,.i p],xs=>aK (unA xs) fun l=>aN (l.length=n∧0≤a∧a<b∧b≤n∧0≤p∧p<n∧n≤1000000) (some (.tup [.i (Sort.partition ltN l.toArray a.toNat b.toNat p.toNat).1,.b (Sort.partition ltN l.toArray a.toNat b.toNat p.toNat).2.1],cA (Sort.partition ltN l.toArray a.toNat b.toNat p.toNat).2.2))
 |_,_=>none
theorem cJj (id n:Nat) (gg:Bool) (a b p:Int) (xs:List AV):ptG [.os id 0 n 1 gg,.i a,.i b,.i p] xs=aK (unA xs) fun l=>aN (l.length=n∧0≤a∧a<b∧b≤n∧0≤p∧p<n∧n≤1000000) (some (.tup [.i (Sort.partition ltN l.toArray a.toNat b.toNat p.toNat).1,.b (Sort.partition ltN l.toArray a.toNat b.toNat p.toNat).2.1],cA (Sort.partition ltN l.toArray a.toNat b.toNat p.toNat).2.2)):=(rfl)
attribute [go_sem] cJj
set_option maxHeartbeats 2000000 in
theorem cUz:cQ Tryz.prog GLh 76 (dP ptG):=by
 refine dN Tryz.func76 (aT rfl) ?_
 intro id off n e gg rest nx xs r ys hg
 unfold ptG at hg
 split at hg
 ·rename_i id2 n2 gg2 a0 b0 p0 heq
  simp only[List.cons.injEq,AV.os.injEq]at heq
  obtain⟨⟨rfl,rfl,rfl,rfl,rfl⟩,rfl⟩:=heq
  replace hg:=aJ hg;obtain⟨l,hl,hg⟩:=hg
  replace hg:=aP hg;obtain⟨⟨hn,ha,hab,hbn,hp0,hpn,hbig⟩,hg⟩:=hg
  simp only[Option.some.injEq,Prod.mk.injEq]at hg;obtain⟨rfl,rfl⟩:=hg
  have:=dO hl;subst this
  obtain⟨a,rfl⟩:=Int.eq_ofNat_of_zero_le ha
  obtain⟨b,rfl⟩:=Int.eq_ofNat_of_zero_le (show 0≤b0 by omega)
  obtain⟨p,rfl⟩:=Int.eq_ofNat_of_zero_le hp0
  simp only[U2]at*
  obtain⟨d,hd⟩: ∃d,l.toArray=d:=⟨_,rfl⟩
  have hds:d.size=n:=by rw[←hd];simpa using hn
  have hab2:a<b:=by omega
  have hbn2:b≤n:=by omega
  have hpn2:p<n:=by omega
  rw[hd]
  refine⟨J1 rfl,fun hid=>?_⟩
  clear hl hn ha hab hbn hp0 hpn
  obtain⟨R,hR⟩: ∃R,Sort.partition ltN d a b p=R:=⟨_,rfl⟩
  rw[hR]
  unfold Sort.partition at hR
  obtain⟨D,hD⟩: ∃D,Sort.swp d a p=D:=⟨_,rfl⟩
  have hDs:D.size=n:=by rw[←hD,cW];exact hds
  have hsw:(d.setIfInBounds a d[p]!).setIfInBounds p d[a]! =D:=hD
  have ea:(a:Int)+1=((a+1:Nat):Int):=by omega
  have eb:(b:Int)-1=((b-1:Nat):Int):=by omega
  obtain⟨i2,hi2⟩: ∃i2,Sort.scanUp (fun x=>ltN x D[a]!) D (b-1) (a+1)=i2:=⟨_,rfl⟩
  have gi2:=Sort.scanUp_ge (fun x=>ltN x D[a]!) D (b-1) (a+1)
  rw[hi2]at gi2
  obtain⟨j2,hj2⟩: ∃j2,Sort.scanDown (fun x=> !ltN x D[a]!) D i2 (b-1)=j2:=⟨_,rfl⟩
  have gj2:=Sort.scanDown_le (fun x=> !ltN x D[a]!) D i2 (b-1)
  rw[hj2]at gj2
  simp only[hD,hi2,hj2]at hR
  have han:a<n:=by omega
  have hj2n:j2<n:=by omega
  refine aA rfl (bA [0,1,2,3] rfl rfl rfl fun K hK=>?_)
  simp(disch:=omega) only[Tryz.f76,go_sem,↓reduceIte]
  refine hK _ ?_
  refine aB (aA rfl (bB (Γ:=aL) (fun _=>2) [0,1,2] bZ (aD _ _) rfl rfl rfl (by kernel_rfl) (fun K hK=>?_)))
  simp(disch:=omega) only[Tryz.f76,go_sem,↓reduceIte,hsw,hds,U2]
  refine hK _ ?_
  refine aB (aA rfl (bA [0,1,10,11] rfl rfl rfl fun K hK=>?_))
  simp(disch:=omega) only[Tryz.f76,go_sem,↓reduceIte,ea,eb]
  refine hK _ ?_
  refine aB (aA rfl (cJg hi2 hDs (by omega) han hbig (by omega) (fun n1 c1 hc1=>?_)))
  refine aB (aA rfl (cJi hj2 hDs (by omega) (by omega) han hbig hc1 (fun n2 c2 hc2=>?_)))
  refine aB (aA rfl (aA rfl (bA [65,0,1,10,11] rfl rfl rfl fun K hK=>?_)))
  simp(disch:=omega) only[Tryz.f76,go_sem,↓reduceIte]
  refine hK _ ?_
  refine aB (aW (.tmp 65) rfl rfl rfl (fun h=>?_) (fun h=>?_))
  ·refine aI rfl ?_
   have hij:i2>j2:=by omega
   rw[J4 hij]at hR
   subst hR
   have hsw2:(D.setIfInBounds j2 D[a]!).setIfInBounds a D[j2]! =Sort.swp D j2 a:=rfl
   refine aA rfl (bB (Γ:=aL) (fun _=>2) [11] bZ (aD _ _) rfl rfl rfl (by kernel_rfl) (fun K hK=>?_))
   simp(disch:=omega) only[Tryz.f76,go_sem,↓reduceIte,hsw2,hDs,U2]
   refine hK _ ?_
   refine aB (aA rfl (bA [8,9] rfl rfl rfl fun K hK=>?_))
   simp(disch:=omega) only[Tryz.f76,go_sem,↓reduceIte]
   refine hK _ ?_
   exact aB (aS rfl (bI (⟨rfl,by simp only[aV,if_true],rfl,dZ _⟩)))
  refine aI rfl ?_
  have hij: ¬i2>j2:=by omega
  rw[J3 hij]at hR
  have hi2n:i2<n:=by omega
  have hsw2:(D.setIfInBounds i2 D[j2]!).setIfInBounds j2 D[i2]! =Sort.swp D i2 j2:=rfl
  have ei:(i2:Int)+1=((i2+1:Nat):Int):=by omega
  have ej:(j2:Int)-1=((j2-1:Nat):Int):=by omega
  obtain⟨⟨M,E⟩,hME⟩: ∃r,Sort.partLoop ltN a (i2+1) (j2-1) (Sort.swp D i2 j2)=r:=⟨_,rfl⟩
  simp only[hME]at hR
  subst hR
  refine aQ rfl (aB (aA rfl (bB (Γ:=aL) (fun _=>2) [0,1,10,11] bZ (aD _ _) rfl rfl rfl (by kernel_rfl) (fun K hK=>?_))))
  simp(disch:=omega) only[Tryz.f76,go_sem,↓reduceIte,hsw2,hDs,U2]
  refine hK _ ?_
  refine aB (aA rfl (bA [0,1,10,11] rfl rfl rfl fun K hK=>?_))
  simp(disch:=omega) only[Tryz.f76,go_sem,↓reduceIte,ei]
  refine hK _ ?_
  refine aB (aA rfl (bA [0,1,10,11] rfl rfl rfl fun K hK=>?_))
  simp(disch:=omega) only[Tryz.f76,go_sem,↓reduceIte,ej]
  refine hK _ ?_
  refine aB (aA rfl (aR 4 rfl rfl ?_))
  refine bR (fun p:SDJ=> {fr:=[(0,.os id 0 n 1 gg),(1,.i a),(10,.i p.k),(11,.i p.j)],hp:=upd (fun _=>none) id (.cells (cA p.d) true),nx:=0,cx:=p.c}) (fun p=>Sort.partLoop ltN a p.k p.j p.d=(M,E)∧p.d.size=n∧a<p.k∧p.j<n∧id<p.c) (fun p=>p.j+1-p.k) rfl ⟨⟨i2+1,j2-1,Sort.swp D i2 j2,_⟩,⟨hME,by simp only[cW];exact hDs,by simp only;omega,by simp only;omega,by simp only;omega⟩,bD rfl rfl (U3 _)⟩ ?_
  rintro⟨i,j,d1,c⟩ ⟨hr,hs1,hai,hjn,hc⟩ n0
  simp only at hr hs1 hai hjn hc⊢
  clear hsw hsw2 ei ej
  obtain⟨i3,hi3⟩: ∃i3,Sort.scanUp (fun x=>ltN x d1[a]!) d1 j i=i3:=⟨_,rfl⟩
  have gi3:=Sort.scanUp_ge (fun x=>ltN x d1[a]!) d1 j i
  rw[hi3]at gi3
  obtain⟨j3,hj3⟩: ∃j3,Sort.scanDown (fun x=> !ltN x d1[a]!) d1 i3 j=j3:=⟨_,rfl⟩
  have gj3:=Sort.scanDown_le (fun x=> !ltN x d1[a]!) d1 i3 j
  rw[hj3]at gj3
  rw[Sort.partLoop_eq,hi3,hj3]at hr
  have hj3n:j3<n:=by omega
  refine aR 5 rfl rfl (aA rfl (cJf hi3 hs1 hjn han hbig hc (fun n3 c3 hc3=>?_)))
  refine aB (aA rfl (cJh hj3 hs1 hjn (by omega) han hbig hc3 (fun n4 c4 hc4=>?_)))
  refine aB (aA rfl (aA rfl (bA [134,0,1,10,11] rfl rfl rfl fun K hK=>?_)))
  simp(disch:=omega) only[Tryz.f76,go_sem,↓reduceIte]
  refine hK _ ?_
  refine aB (aW (.tmp 134) rfl rfl rfl (fun h=>?_) (fun h=>?_))
  ·refine aI rfl ?_
   have hij3:i3>j3:=by omega
   rw[J4 hij3]at hr
   simp only[Prod.mk.injEq]at hr
   obtain⟨rfl,rfl⟩:=hr
   have hsw3:(d1.setIfInBounds j3 d1[a]!).setIfInBounds a d1[j3]! =Sort.swp d1 j3 a:=rfl
   refine bF 4 rfl rfl (aY (mW (aZ (bE ?_)) rfl))
   refine aB (aA rfl (bB (Γ:=aL) (fun _=>2) [11] bZ (aD _ _) rfl rfl rfl (by kernel_rfl) (fun K hK=>?_)))
   simp(disch:=omega) only[Tryz.f76,go_sem,↓reduceIte,hsw3,hs1,U2]
   refine hK _ ?_
   refine aB (aA rfl (bA [8,9] rfl rfl rfl fun K hK=>?_))
   simp(disch:=omega) only[Tryz.f76,go_sem,↓reduceIte]
   refine hK _ ?_
   exact aB (aS rfl (⟨rfl,by simp only[aV,if_true],rfl,dZ _⟩))
  refine aI rfl ?_
  have hij3: ¬i3>j3:=by omega
  rw[J3 hij3]at hr
  have hi3n:i3<n:=by omega
  have hsw3:(d1.setIfInBounds i3 d1[j3]!).setIfInBounds j3 d1[i3]! =Sort.swp d1 i3 j3:=rfl
  have ej3:(j3:Int)-1=((j3-1:Nat):Int):=by omega
  refine aQ rfl (aB (aA rfl (bB (Γ:=aL) (fun _=>2) [0,1,10,11] bZ (aD _ _) rfl rfl rfl (by kernel_rfl) (fun K hK=>?_))))
  simp(disch:=omega) only[Tryz.f76,go_sem,↓reduceIte,hsw3,hs1,U2]
  refine hK _ ?_
  refine aB (aA rfl (bA [0,1,10,11] rfl rfl rfl fun K hK=>?_))
  simp(disch:=omega) only[Tryz.f76,go_sem,↓reduceIte]
  refine hK _ ?_
  refine aB (bA [0,1,10,11] rfl rfl rfl fun K hK=>?_)
  simp(disch:=omega) only[Tryz.f76,go_sem,↓reduceIte,ej3]
  refine hK _ ?_
  refine bU (bT ?_)
  refine⟨⟨i3+1,j3-1,Sort.swp d1 i3 j3,_⟩,⟨hr,by simp only[cW];exact hs1,by simp only;omega,by simp only;omega,by simp only;omega⟩,by simp only;omega,⟨fun _=> .inr (by simp only[Int.natCast_add,Int.natCast_one]),bS (by simp(disch:=omega) only[aV,↓reduceIte,eq_self]) cB,U3 _⟩⟩
 cases hg
theorem cKk:bX Tryz.prog GLh 76 (.heap (dP ptG)):=⟨⟨_,Tryz.func76,rfl,rfl⟩,cUz⟩
def peG:List AV→List AV→Option (AV×List AV)
 |[.os _ 0 n 1 _,.i a,.i b,.i p],xs=>aK (unA xs) fun l=>aN (l.length=n∧0≤a∧a<b∧b≤n∧0≤p∧p<n∧n≤1000000) (some (.i (Sort.partitionEqual ltN l.toArray a.toNat b.toNat p.toNat).1,cA (Sort.partitionEqual ltN l.toArray a.toNat b.toNat p.toNat).2))
 |_,_=>none
theorem cJn (id n:Nat) (gg:Bool) (a b p:Int) (xs:List AV):peG [.os id 0 n 1 gg,.i a,.i b,.i p] xs=aK (unA xs) fun l=>aN (l.length=n∧0≤a∧a<b∧b≤n∧0≤p∧p<n∧n≤1000000) (some (.i (Sort.partitionEqual ltN l.toArray a.toNat b.toNat p.toNat).1,cA (Sort.partitionEqual ltN l.toArray a.toNat b.toNat p.toNat).2)):=(rfl)
attribute [go_sem] cJn
set_option maxHeartbeats 2000000 in
theorem cVg:cQ Tryz.prog GLh 75 (dP peG):=by
 refine dN Tryz.func75 (aT rfl) ?_
 intro id off n e gg rest nx xs r ys hg
 unfold peG at hg
 split at hg
 ·rename_i id2 n2 gg2 a0 b0 p0 heq
  simp only[List.cons.injEq,AV.os.injEq]at heq
  obtain⟨⟨rfl,rfl,rfl,rfl,rfl⟩,rfl⟩:=heq
  replace hg:=aJ hg;obtain⟨l,hl,hg⟩:=hg
  replace hg:=aP hg;obtain⟨⟨hn,ha,hab,hbn,hp0,hpn,hbig⟩,hg⟩:=hg
  simp only[Option.some.injEq,Prod.mk.injEq]at hg;obtain⟨rfl,rfl⟩:=hg
  have:=dO hl;subst this
  obtain⟨a,rfl⟩:=Int.eq_ofNat_of_zero_le ha
  obtain⟨b,rfl⟩:=Int.eq_ofNat_of_zero_le (show 0≤b0 by omega)
  obtain⟨p,rfl⟩:=Int.eq_ofNat_of_zero_le hp0
  simp only[U2]at*
  obtain⟨d,hd⟩: ∃d,l.toArray=d:=⟨_,rfl⟩
  have hds:d.size=n:=by rw[←hd];simpa using hn
  have hab2:a<b:=by omega
  have hbn2:b≤n:=by omega
  have hpn2:p<n:=by omega
  rw[hd]
  refine⟨J1 rfl,fun hid=>?_⟩
  clear hl hn ha hab hbn hp0 hpn
  obtain⟨⟨M,E⟩,hR⟩: ∃R,Sort.partitionEqual ltN d a b p=R:=⟨_,rfl⟩
  rw[hR]
  obtain⟨D,hD⟩: ∃D,Sort.swp d a p=D:=⟨_,rfl⟩
  have hDs:D.size=n:=by rw[←hD,cW];exact hds
  have hsw:(d.setIfInBounds a d[p]!).setIfInBounds p d[a]! =D:=hD
  have ea:(a:Int)+1=((a+1:Nat):Int):=by omega
  have eb:(b:Int)-1=((b-1:Nat):Int):=by omega
  have hME:Sort.partEqLoop ltN a (a+1) (b-1) D=(M,E):=by rw[←hD];exact hR
  have han:a<n:=by omega
  clear hR
  refine aA rfl (bA [0,1,2,3] rfl rfl rfl fun K hK=>?_)
  simp(disch:=omega) only[Tryz.f75,go_sem,↓reduceIte]
  refine hK _ ?_
  refine aB (aA rfl (bB (Γ:=aL) (fun _=>2) [0,1,2] bZ (aD _ _) rfl rfl rfl (by kernel_rfl) (fun K hK=>?_)))
  simp(disch:=omega) only[Tryz.f75,go_sem,↓reduceIte,hsw,hds,U2]
  refine hK _ ?_
  refine aB (aA rfl (bA [0,1,9,10] rfl rfl rfl fun K hK=>?_))
  simp(disch:=omega) only[Tryz.f75,go_sem,↓reduceIte,ea,eb]
  refine hK _ ?_
  refine aB (aA rfl (aR 0 rfl rfl ?_))
  refine bR (fun p:SDJ=> {fr:=[(0,.os id 0 n 1 gg),(1,.i a),(9,.i p.k),(10,.i p.j)],hp:=upd (fun _=>none) id (.cells (cA p.d) true),nx:=0,cx:=p.c}) (fun p=>Sort.partEqLoop ltN a p.k p.j p.d=(M,E)∧p.d.size=n∧a<p.k∧p.j<n∧id<p.c) (fun p=>p.j+1-p.k) rfl ⟨⟨a+1,b-1,D,_⟩,⟨hME,hDs,by simp only;omega,by simp only;omega,by simp only;omega⟩,bD rfl rfl (U3 _)⟩ ?_
  rintro⟨i,j,d1,c⟩ ⟨hr,hs1,hai,hjn,hc⟩ n0
  simp only at hr hs1 hai hjn hc⊢
  clear hsw ea eb
  obtain⟨i3,hi3⟩: ∃i3,Sort.scanUp (fun x=> !ltN d1[a]! x) d1 j i=i3:=⟨_,rfl⟩
  have gi3:=Sort.scanUp_ge (fun x=> !ltN d1[a]! x) d1 j i
  rw[hi3]at gi3
  obtain⟨j3,hj3⟩: ∃j3,Sort.scanDown (fun x=>ltN d1[a]! x) d1 i3 j=j3:=⟨_,rfl⟩
  have gj3:=Sort.scanDown_le (fun x=>ltN d1[a]! x) d1 i3 j
  rw[hj3]at gj3
  rw[Sort.partEqLoop_eq,hi3,hj3]at hr
  have hj3n:j3<n:=by omega
  refine aR 1 rfl rfl (aA rfl (cVf hi3 hs1 hjn han hbig hc (fun n3 c3 hc3=>?_)))
  refine aB (aA rfl (cVh hj3 hs1 hjn (by omega) han hbig hc3 (fun n4 c4 hc4=>?_)))
  refine aB (aA rfl (aA rfl (bA [64,0,1,9,10] rfl rfl rfl fun K hK=>?_)))
  simp(disch:=omega) only[Tryz.f75,go_sem,↓reduceIte]
  refine hK _ ?_
  refine aB (aW (.tmp 64) rfl rfl rfl (fun h=>?_) (fun h=>?_))
  ·refine aI rfl ?_
   have hij3:i3>j3:=by omega
   rw[J4 hij3]at hr
   simp only[Prod.mk.injEq]at hr
   obtain⟨rfl,rfl⟩:=hr
   refine bF 0 rfl rfl (aY (mW (aZ (bE ?_)) rfl))
   refine aB (aA rfl (bA [8] rfl rfl rfl fun K hK=>?_))
   simp(disch:=omega) only[Tryz.f75,go_sem,↓reduceIte]
   refine hK _ ?_
   exact aB (aS rfl (⟨rfl,by simp only[aV,if_true],rfl,dZ _⟩))
  refine aI rfl ?_
  have hij3: ¬i3>j3:=by omega
  rw[J3 hij3]at hr
  have hi3n:i3<n:=by omega
  have hsw3:(d1.setIfInBounds i3 d1[j3]!).setIfInBounds j3 d1[i3]! =Sort.swp d1 i3 j3:=rfl
  have ej3:(j3:Int)-1=((j3-1:Nat):Int):=by omega
  refine aQ rfl (aB (aA rfl (bB (Γ:=aL) (fun _=>2) [0,1,9,10] bZ (aD _ _) rfl rfl rfl (by kernel_rfl) (fun K hK=>?_))))
  simp(disch:=omega) only[Tryz.f75,go_sem,↓reduceIte,hsw3,hs1,U2]
  refine hK _ ?_
  refine aB (aA rfl (bA [0,1,9,10] rfl rfl rfl fun K hK=>?_))
  simp(disch:=omega) only[Tryz.f75,go_sem,↓reduceIte]
  refine hK _ ?_
  refine aB (bA [0,1,9,10] rfl rfl rfl fun K hK=>?_)
  simp(disch:=omega) only[Tryz.f75,go_sem,↓reduceIte,ej3]
  refine hK _ ?_
  refine bU (bT ?_)
  refine⟨⟨i3+1,j3-1,Sort.swp d1 i3 j3,_⟩,⟨hr,by simp only[cW];exact hs1,by simp only;omega,by simp only;omega,by simp only;omega⟩,by simp only;omega,⟨fun _=> .inr (by simp only[Int.natCast_add,Int.natCast_one]),bS (by simp(disch:=omega) only[aV,↓reduceIte,eq_self]) cB,U3 _⟩⟩
 cases hg
theorem cKl:bX Tryz.prog GLh 75 (.heap (dP peG)):=⟨⟨_,Tryz.func75,rfl,rfl⟩,cVg⟩
end Go.AX
