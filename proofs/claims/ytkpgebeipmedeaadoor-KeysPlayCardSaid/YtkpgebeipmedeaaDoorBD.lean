/-
  Once, part D: public keys. Once, part E: the reference's public keys. Once, part F: signatures. Once, part G: opening signatures. Once, part H: the reference's opening. Once, part I: a signature opens to its public key; what the statements of layer 7 ask ahead of all. Tree, part B: one-time keys in plain numbers. Digest, part A: the tag, as the program and the reference tell it; a place. Tree, part C: scopes and labels; nil slices in own objects; trees as values; nodes, roots, leaves. Tree, part D: a tree is made. Tree, part E: the reference's nodes and root. Tree, part F: a tree signs; which leaf signed. Tree, part G: which leaf signed; signatures verified, as the program and the reference do it. Tree, part H: a signature verifies; what the statements of layer 8 ask ahead of all, in plain numbers. Keys, part A: what a ring is in memory. Keys, part B: settings; a DNSKEY's bytes; a new ring. Keys, part C: how many leaves are left; keys made; leaves passed over. Keys, part D: a key's tree. Keys, part E: a key signs; its DNSKEY. Keys, part F: a key's DNSKEY. Sort, part A: rows of numbers of 32 bits, as the sort's plain text has them. Sort, part B: comparing, sorting by insertion, at numbers of 32 bits. Sort, part C: the heap's sort, at numbers of 32 bits.
-/
import Derived.Test.YtkpgebeipmedeaaDoorBC
import Derived.Scope
import Derived.Sort.AssemblyPlain
namespace Go.AX
open Go Go.Proofs
def fl (f:Nat→List B8):Nat→List B8
 |0=>[]
 |k+1=>fl f k++f k
theorem nA (f:Nat→List B8) (n:Nat) (h: ∀i,(f i).length=n) (k:Nat):(fl f k).length=n*k:=by
 induction k with
 |zero=>rfl
 |succ k ih=>rw[fl,List.length_append,ih,h,Nat.mul_succ]
def lkv (seed:List B8) (leaf:W32) (i:Nat) (v:B8):List B8:=lP (jO seed leaf (BitVec.ofInt 8 (i:Int)) v)
def lk2 (seed:List B8) (leaf:W32) (i:Nat):List B8:=lkv seed leaf i 0#8++lkv seed leaf i 1#8
def lks (seed:List B8) (leaf:W32):List B8:=fl (lk2 seed leaf) 32
def lT (seed:List B8) (leaf:W32):List B8:=jD 3#8 [lks seed leaf]
theorem lB (seed:List B8) (leaf:W32) (i:Nat) (v:B8):(lkv seed leaf i v).length=8:=lR _
theorem aWu (seed:List B8) (leaf:W32) (i:Nat):(lk2 seed leaf i).length=16:=by simp[lk2,lB]
theorem aJk (seed:List B8) (leaf:W32):(lks seed leaf).length=512:=nA _ 16 (aWu seed leaf) 32
theorem oZ (seed:List B8) (leaf:W32):(lT seed leaf).length=8:=jG _ _
def aGb:List AV→Option AV
 |[.rp xs]=>aK (un8 xs) fun b=>aN (b.length=512) (some (.agg (c8 (jD 3#8 [b]))))
 |_=>none
theorem bIf (xs:List AV):aGb [.rp xs]=aK (un8 xs) fun b=>aN (b.length=512) (some (.agg (c8 (jD 3#8 [b])))):=(rfl)
attribute [go_sem] bIf oZ lB
theorem bTc (b:List B8) (k:Nat):b.take (16*k)++(b.drop (16*k)).take 8++(b.drop (16*k+8)).take 8=b.take (16*(k+1)):=by
 rw[List.append_assoc,show 16*(k+1)=16*k+(8+8)by omega,List.take_add,List.take_add,List.drop_drop]
set_option maxHeartbeats 4000000 in
theorem bVc:cL Tryd.prog GLh 72 aGb:=by
 refine cC Tryd.func72 (aT rfl) ?_
 intro args r hg
 unfold aGb at hg
 split at hg
 ·rename_i xs
  replace hg:=aJ hg;obtain⟨b,hb,hg⟩:=hg
  replace hg:=aP hg;obtain⟨hn,hg⟩:=hg
  obtain rfl:=J0 hg
  have:=iX _ hb;subst this
  clear hg hb
  refine⟨J1 rfl,fun nx=>?_⟩
  have hs:=jG 3#8 [b]
  refine aA rfl (aW [0,2] rfl rfl rfl fun K hK=>?_)
  simp(failIfUnchanged:=false) (disch:=omega) only[Tryd.f72,go_sem,↓reduceIte]
  refine hK _ ?_
  refine aB (aA rfl (aW [0,2,3] rfl rfl rfl fun K hK=>?_))
  simp(failIfUnchanged:=false) (disch:=omega) only[Tryd.f72,go_sem,↓reduceIte]
  refine hK _ ?_
  refine aB (aA rfl (aA rfl (aW [0,2,3,5] rfl rfl rfl fun K hK=>?_)))
  simp(failIfUnchanged:=false) (disch:=omega) only[Tryd.f72,go_sem,↓reduceIte]
  refine hK _ ?_
  refine aB (aR 0 rfl rfl (iE 3 1 rfl (fF [0,2,3,5] ?_)))
  simp(failIfUnchanged:=false) only[iB,fU,eB,↓reduceIte,Nat.reduceEqDiff]
  refine bR (fun p:KIC=> {fr:=[(0,.rp (c8 b)),(2,.op nx 0),(3,.os p.id 0 (16*p.k) 1 true),(5,.i p.k)],hp:=upd (upd (fun _=>none) nx (.cells (c8 (List.replicate 8 0#8)) true)) p.id (.cells (c8 (b.take (16*p.k))) true),nx:=0,cx:=p.c}) (fun p=>p.k≤32∧nx<p.id∧p.id<p.c) (fun p=>32-p.k) rfl ⟨⟨0,_,_⟩,⟨Nat.zero_le _,by simp only;omega,by simp only;omega⟩,bD rfl rfl (U3 _)⟩ ?_
  rintro⟨k,id,c⟩ ⟨hk,hid,hc⟩ n0
  simp only at hk hid hc⊢
  have hl:(b.take (16*k)).length=16*k:=by rw[List.length_take];omega
  have e0:((k:Int)*16).toNat=16*k:=by omega
  refine aA rfl (aW [6,0,2,3,5] rfl rfl rfl fun K hK=>?_)
  simp(failIfUnchanged:=false) (disch:=omega) only[Tryd.f72,go_sem,↓reduceIte]
  refine hK _ ?_
  refine aB (aA rfl (gP (.tmp 6) rfl rfl rfl (fun h=>?_) (fun h=>?_)))
  ·refine aI rfl (aQ rfl (aB (aA rfl (aR 1 rfl rfl (aA rfl (aW [0,2,3,4,5] rfl rfl rfl fun K hK=>?_))))))
   simp(failIfUnchanged:=false) (disch:=omega) only[Tryd.f72,go_sem,↓reduceIte]
   refine hK _ ?_
   refine aB ?_
   have e9:k*16=16*k:=by omega
   have hA:(List.take 8 (List.drop (16*k) b)).length=8:=by rw[List.length_take,List.length_drop];omega
   have hB:(List.take 8 (List.drop (16*k+8) b)).length=8:=by rw[List.length_take,List.length_drop];omega
   refine bB (Γ:=aL) (fun k=>if k=14 then 258 else 2) [0,2,3,5] bZ (aD _ _) rfl rfl rfl (by kernel_rfl) (fun K hK=>?_)
   simp(disch:=first|omega|decide) only[Tryd.f72,go_sem,↓reduceIte,hl,e9,hA,hB,List.drop_drop]
   refine hK _ ?_
   refine bU (aB (aW [0,2,3,5] rfl rfl rfl fun K hK=>?_))
   simp(failIfUnchanged:=false) (disch:=omega) only[Tryd.f72,go_sem,↓reduceIte]
   refine hK _ ?_
   refine bT ?_
   have e5:16*(k+1)=16*k+8+8:=by omega
   refine⟨⟨k+1,c+1+2+14,_⟩,⟨by simp only;omega,by simp only;omega,by simp only;omega⟩,by simp only;omega,⟨fun _=> .inr ?_,fun j o h=>?_,U3 _⟩⟩
   ·simp only[e5,Int.natCast_add,Int.natCast_one]
   simp only[←bTc]at h
   exact bS (by simp(disch:=omega) only[aV,↓reduceIte,eq_self]) (bS (by simp(disch:=omega) only[aV,kE,bY,↓reduceIte,eq_self]) (cB)) j o h
  refine aI rfl (bF 0 rfl rfl (aY (aZ (bE (aB (aA rfl ?_))))))
  obtain rfl:k=32:=by omega
  rw[List.take_of_length_le (by omega)]
  refine aC (Γ:=bC [(73,.pure true kS)]) [2] (aH bWa aO) rfl rfl rfl (fun K hK=>?_)
  simp(failIfUnchanged:=false) (disch:=omega) only[Tryd.f72,go_sem,↓reduceIte,hn]
  refine hK _ ?_
  refine aB (aS rfl ?_)
  simp(failIfUnchanged:=false) (disch:=omega) only[cN,bV,bK,bQ,Tryd.f72,go_sem,↓reduceIte,ldV,kQ,hs]
 cases hg
theorem cWk:bX Tryd.prog GLh 72 (.pure true aGb):=⟨⟨_,Tryd.func72,rfl,rfl⟩,bVc⟩
def aIw:List AV→Option AV
 |[.agg xs,.w32 leaf]=>aK (un8 xs) fun b=>aN (b.length=8) (some (.agg (c8 (lT b leaf))))
 |_=>none
theorem bVe (xs:List AV) (leaf:W32):aIw [.agg xs,.w32 leaf]=aK (un8 xs) fun b=>aN (b.length=8) (some (.agg (c8 (lT b leaf)))):=(rfl)
theorem zc126:cG Tryd.prog 126=some (List.replicate 512 (.w8 0#8)):=by kernel_rfl
attribute [go_sem] bVe zc126
theorem pW (l m:List B8) (k:Nat) (h:k+m.length≤l.length):dV (c8 l) k (c8 m)=c8 (jM l k m):=by
 unfold dV
 split
 ·rename_i x hx
  cases m with
  |nil=>cases hx
  |cons y m=>
   obtain⟨rfl,hm⟩:=List.cons.inj hx
   obtain rfl:m=[]:=by cases m with|nil=>rfl|cons _ _=>cases hm
   rw[yB]
   congr 1
   simp(failIfUnchanged:=false) only[List.length_cons,List.length_nil]at h
   rw[List.set_eq_take_append_cons_drop,J4 (by omega)]
   simp[jM]
 exact aHo _ _ _
theorem aLy (x y:List B8) (n:Nat) (z:B8) (_:y.length≤n):jM (x++List.replicate n z) x.length y=x++y++List.replicate (n-y.length) z:=by
 unfold jM
 rw[List.take_left' rfl,List.drop_append,List.drop_of_length_le (by omega),List.nil_append,show x.length+y.length-x.length=y.length by omega,List.drop_replicate]
def xT (seed:List B8) (leaf:W32) (k v:Nat):List B8:=fl (lk2 seed leaf) k++(if 1≤v then lkv seed leaf k 0#8 else[])++(if 2≤v then lkv seed leaf k 1#8 else[])
theorem aCl (seed:List B8) (leaf:W32) (k v:Nat) (hv:v≤2):(xT seed leaf k v).length=16*k+8*v:=by
 unfold xT
 rw[List.length_append,List.length_append,nA _ 16 (aWu seed leaf)]
 match v,hv with
 |0,_=>simp
 |1,_=>simp[lB]
 |2,_=>simp[lB]
theorem aGt (seed:List B8) (leaf:W32) (k v:Nat) (hv:v<2):xT seed leaf k (v+1)=xT seed leaf k v++lkv seed leaf k (BitVec.ofInt 8 (v:Int)):=by
 match v,hv with
 |0,_=>simp[xT]
 |1,_=>simp[xT]
theorem aNv (seed:List B8) (leaf:W32) (k:Nat):xT seed leaf k 2=fl (lk2 seed leaf) (k+1):=by simp[xT,fl,lk2]
theorem tL (seed:List B8) (leaf:W32) (k:Nat):xT seed leaf k 0=fl (lk2 seed leaf) k:=by simp[xT]
def wC (seed:List B8) (leaf:W32) (k v:Nat):List B8:=xT seed leaf k v++List.replicate (512-(16*k+8*v)) 0#8
theorem bLl (seed:List B8) (leaf:W32) (k v:Nat) (hv:v≤2) (hk:16*k+8*v≤512):(wC seed leaf k v).length=512:=by
 rw[wC,List.length_append,aCl _ _ _ _ hv,List.length_replicate];omega
theorem bAu (seed:List B8) (leaf:W32) (k v:Nat) (hv:v<2) (hk:k<32):jM (wC seed leaf k v) (16*k+8*v) (lkv seed leaf k (BitVec.ofInt 8 (v:Int)))=wC seed leaf k (v+1):=by
 have hl:=aCl seed leaf k v (by omega)
 have:=aLy (xT seed leaf k v) (lkv seed leaf k (BitVec.ofInt 8 (v:Int))) (512-(16*k+8*v)) 0#8 (by rw[lB];omega)
 rw[hl,lB]at this
 unfold wC
 rw[this,aGt _ _ _ _ hv]
 congr 2
theorem bLk (seed:List B8) (leaf:W32) (k:Nat):wC seed leaf k 2=wC seed leaf (k+1) 0:=by
 unfold wC;rw[aNv,tL]
 congr 2
theorem bLm (seed:List B8) (leaf:W32):wC seed leaf 32 0=lks seed leaf:=by
 unfold wC;rw[tL];simp[lks]
structure KVC where
 v:Nat
 c:Nat
set_option maxHeartbeats 4000000 in
theorem cJc:cL Tryd.prog GLh 59 aIw:=by
 refine cC Tryd.func59 (aT rfl) ?_
 intro args r hg
 unfold aIw at hg
 split at hg
 ·rename_i xs leaf
  replace hg:=aJ hg;obtain⟨seed,hb,hg⟩:=hg
  replace hg:=aP hg;obtain⟨hn,hg⟩:=hg
  obtain rfl:=J0 hg
  have:=iX _ hb;subst this
  clear hg hb
  refine⟨J1 rfl,fun nx=>?_⟩
  have hs:=oZ seed leaf
  refine aA rfl (aW [1,2,4] rfl rfl rfl fun K hK=>?_)
  simp(failIfUnchanged:=false) (disch:=omega) only[Tryd.f59,go_sem,↓reduceIte]
  refine hK _ ?_
  refine aB (aA rfl (aW [1,2,4,5] rfl rfl rfl fun K hK=>?_))
  simp(failIfUnchanged:=false) (disch:=omega) only[Tryd.f59,go_sem,↓reduceIte]
  refine hK _ ?_
  refine aB (aA rfl (aA rfl (aW [1,2,4,5,9] rfl rfl rfl fun K hK=>?_)))
  simp(failIfUnchanged:=false) (disch:=omega) only[Tryd.f59,go_sem,↓reduceIte]
  refine hK _ ?_
  refine aB ?_
  have h0:c8 (List.replicate 512 0#8)=c8 (wC seed leaf 0 0):=by unfold wC;rw[tL];rfl
  refine aR 0 rfl rfl ?_
  refine bR (fun p:KC=> {fr:=[(1,.w32 leaf),(2,.op nx 0),(4,.op (nx+1) 0),(5,.op (nx+2) 0),(9,.i p.k)],hp:=upd (upd (upd (fun _=>none) nx (.cells (c8 seed) true)) (nx+1) (.cells (c8 (List.replicate 8 0#8)) true)) (nx+2) (.cells (c8 (wC seed leaf p.k 0)) true),nx:=0,cx:=p.c}) (fun p=>p.k≤32∧nx+3≤p.c) (fun p=>32-p.k) rfl ⟨⟨0,_⟩,⟨Nat.zero_le _,by simp only;omega⟩,bD rfl (by rw[←h0]) (U3 _)⟩ ?_
  rintro⟨k,c⟩ ⟨hk,hc⟩ n0
  simp only at hk hc⊢
  refine aA rfl (aW [10,1,2,4,5,9] rfl rfl rfl fun K hK=>?_)
  simp(failIfUnchanged:=false) (disch:=omega) only[Tryd.f59,go_sem,↓reduceIte]
  refine hK _ ?_
  refine aB (aA rfl (gP (.tmp 10) rfl rfl rfl (fun h=>?_) (fun h=>?_)))
  ·refine aI rfl (aQ rfl (aB (aA rfl (aR 1 rfl rfl (aA rfl (aW [1,2,4,5,6,9] rfl rfl rfl fun K hK=>?_))))))
   simp(failIfUnchanged:=false) (disch:=omega) only[Tryd.f59,go_sem,↓reduceIte]
   refine hK _ ?_
   refine aB (aA rfl (aW [1,2,4,5,6,9,12] rfl rfl rfl fun K hK=>?_))
   simp(failIfUnchanged:=false) (disch:=omega) only[Tryd.f59,go_sem,↓reduceIte]
   refine hK _ ?_
   refine aB (aR 2 rfl rfl ?_)
   refine bR (fun p:KVC=> {fr:=[(1,.w32 leaf),(2,.op nx 0),(4,.op (nx+1) 0),(5,.op (nx+2) 0),(6,.i k),(9,.i k),(12,.i p.v)],hp:=upd (upd (upd (fun _=>none) nx (.cells (c8 seed) true)) (nx+1) (.cells (c8 (List.replicate 8 0#8)) true)) (nx+2) (.cells (c8 (wC seed leaf k p.v)) true),nx:=0,cx:=p.c}) (fun p=>p.v≤2∧nx+3≤p.c) (fun p=>2-p.v) rfl ⟨⟨0,_⟩,⟨Nat.zero_le _,by simp only;omega⟩,bD rfl rfl (U3 _)⟩ ?_
   rintro⟨v,c⟩ ⟨hv,hc⟩ n0
   simp only at hv hc⊢
   have hl:=bLl seed leaf k v hv (by omega)
   refine aA rfl (aW [13,1,2,4,5,6,9,12] rfl rfl rfl fun K hK=>?_)
   simp(failIfUnchanged:=false) (disch:=omega) only[Tryd.f59,go_sem,↓reduceIte]
   refine hK _ ?_
   refine aB (aA rfl (gP (.tmp 13) rfl rfl rfl (fun h=>?_) (fun h=>?_)))
   ·refine aI rfl (aQ rfl (aB (aA rfl (aR 3 rfl rfl (aA rfl (aW [1,2,4,5,6,7,9,12] rfl rfl rfl fun K hK=>?_))))))
    simp(failIfUnchanged:=false) (disch:=omega) only[Tryd.f59,go_sem,↓reduceIte]
    refine hK _ ?_
    refine aB ?_
    have hsl:=kL seed leaf (BitVec.ofInt 8 (k:Int)) (BitVec.ofInt 8 (v:Int))
    have hll:lP (jO seed leaf (BitVec.ofInt 8 (k:Int)) (BitVec.ofInt 8 (v:Int)))=lkv seed leaf k (BitVec.ofInt 8 (v:Int)):=rfl
    refine aA rfl (aC (Γ:=bC [(63,.pure true tD)]) [1,2,4,5,6,7,8,9,12] (aH cWl aO) rfl rfl rfl (fun K hK=>?_))
    simp(failIfUnchanged:=false) (disch:=omega) only[Tryd.f59,go_sem,↓reduceIte,hn]
    refine hK _ ?_
    refine aB ?_
    have hkl:=lB seed leaf k (BitVec.ofInt 8 (v:Int))
    have e9:k*16+v*8=16*k+8*v:=by omega
    have hnx:=bAu seed leaf k v (by omega) (by omega)
    refine bB (Γ:=bC [(64,.pure true pD)]) (fun k=>if k=3 then 0 else 2) [1,2,4,5,6,9,12] bZ (aH bVz aO) rfl rfl rfl (by kernel_rfl) (fun K hK=>?_)
    simp(failIfUnchanged:=false) (disch:=omega) only[Tryd.f59,go_sem,↓reduceIte,hl,hll,pW,hkl,e9,hnx]
    refine hK _ ?_
    refine bU (aB (aW [1,2,4,5,6,9,12] rfl rfl rfl fun K hK=>?_))
    simp(failIfUnchanged:=false) (disch:=omega) only[Tryd.f59,go_sem,↓reduceIte]
    refine hK _ ?_
    refine bT ?_
    refine⟨⟨v+1,_⟩,⟨by simp only;omega,?_⟩,by simp only;omega,⟨fun _=> .inr ?_,fun j o h=>?_,U3 _⟩⟩
    ·simp only;omega
    ·simp only[Int.natCast_add,Int.natCast_one]
    simp only at h
    grind [bJ,eV]
   refine aI rfl (bF 2 rfl rfl (aY (aZ (bE (bU (aB ?_))))))
   obtain rfl:v=2:=by omega
   rw[bLk]
   refine aW [1,2,4,5,9] rfl rfl rfl fun K hK=>?_
   simp(failIfUnchanged:=false) (disch:=omega) only[Tryd.f59,go_sem,↓reduceIte]
   refine hK _ ?_
   refine bT ?_
   refine⟨⟨k+1,_⟩,⟨by simp only;omega,by simp only;omega⟩,by simp only;omega,bD ?_ rfl (U3 _)⟩
   simp(failIfUnchanged:=false) only[Int.natCast_add,Int.natCast_one]
  refine aI rfl (bF 0 rfl rfl (aY (aZ (bE (aB (aA rfl ?_))))))
  obtain rfl:k=32:=by omega
  rw[bLm]
  have hl:=aJk seed leaf
  have hf:jD 3#8 [lks seed leaf]=lT seed leaf:=rfl
  refine aC (Γ:=bC [(72,.pure true aGb)]) [4] (aH cWk aO) rfl rfl rfl (fun K hK=>?_)
  simp(failIfUnchanged:=false) (disch:=omega) only[Tryd.f59,go_sem,↓reduceIte,hf]
  refine hK _ ?_
  refine aB (aS rfl ?_)
  simp(failIfUnchanged:=false) (disch:=omega) only[cN,bV,bK,bQ,Tryd.f59,go_sem,↓reduceIte,ldV,kQ,hs]
 cases hg
theorem ok33:bX Tryd.prog GLh 59 (.pure true aIw):=⟨⟨_,Tryd.func59,rfl,rfl⟩,cJc⟩
end Go.AX

namespace Go.AX
open Go Go.Proofs
structure KVIC where
 v:Nat
 id:Nat
 c:Nat
set_option maxHeartbeats 4000000 in
theorem bUl:cL Tryd.prog GLh 89 aIw:=by
 refine cC Tryd.func89 (aT rfl) ?_
 intro args r hg
 unfold aIw at hg
 split at hg
 ·rename_i xs leaf
  replace hg:=aJ hg;obtain⟨seed,hb,hg⟩:=hg
  replace hg:=aP hg;obtain⟨hn,hg⟩:=hg
  obtain rfl:=J0 hg
  have:=iX _ hb;subst this
  clear hg hb
  refine⟨J1 rfl,fun nx=>?_⟩
  have hs:=oZ seed leaf
  refine aA rfl (aW [1,2,4] rfl rfl rfl fun K hK=>?_)
  simp(failIfUnchanged:=false) (disch:=omega) only[Tryd.f89,go_sem,↓reduceIte]
  refine hK _ ?_
  refine aB (aA rfl (aW [1,2,4,5] rfl rfl rfl fun K hK=>?_))
  simp(failIfUnchanged:=false) (disch:=omega) only[Tryd.f89,go_sem,↓reduceIte]
  refine hK _ ?_
  refine aB (aA rfl (aA rfl (aW [1,2,4,5,6] rfl rfl rfl fun K hK=>?_)))
  simp(failIfUnchanged:=false) (disch:=omega) only[Tryd.f89,go_sem,↓reduceIte]
  refine hK _ ?_
  refine aB (aR 0 rfl rfl (iE 5 1 rfl (fF [1,2,4,5,6] ?_)))
  simp(failIfUnchanged:=false) only[iB,fU,eB,↓reduceIte,Nat.reduceEqDiff]
  refine bR (fun p:KIC=> {fr:=[(1,.w32 leaf),(2,.op nx 0),(4,.op (nx+1) 0),(5,.os p.id 0 (16*p.k) 1 true),(6,.i p.k)],hp:=upd (upd (upd (fun _=>none) nx (.cells (c8 seed) true)) (nx+1) (.cells (c8 (List.replicate 8 0#8)) true)) p.id (.cells (c8 (fl (lk2 seed leaf) p.k)) true),nx:=0,cx:=p.c}) (fun p=>p.k≤32∧nx+2≤p.id∧p.id<p.c) (fun p=>32-p.k) rfl ⟨⟨0,_,_⟩,⟨Nat.zero_le _,by simp only;omega,by simp only;omega⟩,bD rfl rfl (U3 _)⟩ ?_
  rintro⟨k,id,c⟩ ⟨hk,hid,hc⟩ n0
  simp only at hk hid hc⊢
  refine aA rfl (aA rfl (aW [11,1,2,4,5,6] rfl rfl rfl fun K hK=>?_))
  simp(failIfUnchanged:=false) (disch:=omega) only[Tryd.f89,go_sem,↓reduceIte]
  refine hK _ ?_
  refine aB (gP (.tmp 11) rfl rfl rfl (fun h=>?_) (fun h=>?_))
  ·refine aI rfl (aQ rfl (aB (aA rfl (aR 1 rfl rfl (aA rfl (aW [1,2,4,5,6,7] rfl rfl rfl fun K hK=>?_))))))
   simp(failIfUnchanged:=false) (disch:=omega) only[Tryd.f89,go_sem,↓reduceIte]
   refine hK _ ?_
   refine aB (aR 2 rfl rfl ?_)
   refine bR (fun p:KVIC=> {fr:=[(1,.w32 leaf),(2,.op nx 0),(4,.op (nx+1) 0),(5,.os p.id 0 (16*k+8*p.v) 1 true),(6,.i k),(7,.i p.v)],hp:=upd (upd (upd (fun _=>none) nx (.cells (c8 seed) true)) (nx+1) (.cells (c8 (List.replicate 8 0#8)) true)) p.id (.cells (c8 (xT seed leaf k p.v)) true),nx:=0,cx:=p.c}) (fun p=>p.v≤2∧nx+2≤p.id∧p.id<p.c) (fun p=>2-p.v) rfl ⟨⟨0,id,_⟩,⟨Nat.zero_le _,hid,by simp only;omega⟩,bD rfl (by rw[←tL]) (U3 _)⟩ ?_
   rintro⟨v,id,c⟩ ⟨hv,hid,hc⟩ n0
   simp only at hv hid hc⊢
   have hl:=aCl seed leaf k v hv
   refine aA rfl (aA rfl (aW [15,1,2,4,5,6,7] rfl rfl rfl fun K hK=>?_))
   simp(failIfUnchanged:=false) (disch:=omega) only[Tryd.f89,go_sem,↓reduceIte]
   refine hK _ ?_
   refine aB (gP (.tmp 15) rfl rfl rfl (fun h=>?_) (fun h=>?_))
   ·refine aI rfl ?_
    have hsl:=kL seed leaf (BitVec.ofInt 8 (k:Int)) (BitVec.ofInt 8 (v:Int))
    have hll:lP (jO seed leaf (BitVec.ofInt 8 (k:Int)) (BitVec.ofInt 8 (v:Int)))=lkv seed leaf k (BitVec.ofInt 8 (v:Int)):=rfl
    have hkl:=lB seed leaf k (BitVec.ofInt 8 (v:Int))
    refine aQ rfl (aB (aA rfl (aR 3 rfl rfl (aA rfl (aC (Γ:=bC [(97,.pure true oL)]) [1,2,4,5,6,7,8] (aH cKr aO) rfl rfl rfl (fun K hK=>?_))))))
    simp(failIfUnchanged:=false) (disch:=omega) only[Tryd.f89,go_sem,↓reduceIte,hn]
    refine hK _ ?_
    refine aB (aA rfl (aC (Γ:=bC [(52,.pure true pD)]) [1,2,4,5,6,7,9] (aH cKq aO) rfl rfl rfl (fun K hK=>?_)))
    simp(failIfUnchanged:=false) (disch:=omega) only[Tryd.f89,go_sem,↓reduceIte,hll]
    refine hK _ ?_
    refine aB (aW [1,2,4,5,6,7] rfl rfl rfl fun K hK=>?_)
    simp(failIfUnchanged:=false) (disch:=omega) only[Tryd.f89,go_sem,↓reduceIte,hl]
    refine hK _ ?_
    refine bU (aB (aW [1,2,4,5,6,7] rfl rfl rfl fun K hK=>?_))
    simp(failIfUnchanged:=false) (disch:=omega) only[Tryd.f89,go_sem,↓reduceIte]
    refine hK _ ?_
    refine bT ?_
    have e5:16*k+8*(v+1)=16*k+8*v+8:=by omega
    refine⟨⟨v+1,c+2+9+4+2,_⟩,⟨by simp only;omega,?_,?_⟩,by simp only;omega,⟨fun _=> .inr ?_,fun j o h=>?_,U3 _⟩⟩
    ·simp only;omega
    ·simp only;omega
    ·simp only[e5,Int.natCast_add,Int.natCast_one]
    simp only[aGt seed leaf k v (by omega)]at h
    grind [bJ,eV]
   refine aI rfl (bF 2 rfl rfl (aY (aZ (bE (bU (aB ?_))))))
   obtain rfl:v=2:=by omega
   rw[aNv]
   refine aW [1,2,4,5,6] rfl rfl rfl fun K hK=>?_
   simp(failIfUnchanged:=false) (disch:=omega) only[Tryd.f89,go_sem,↓reduceIte]
   refine hK _ ?_
   refine bT ?_
   refine⟨⟨k+1,id,_⟩,⟨by simp only;omega,hid,by simp only;omega⟩,by simp only;omega,bD ?_ rfl (U3 _)⟩
   simp(failIfUnchanged:=false) only[Int.natCast_add,Int.natCast_one];rfl
  refine aI rfl (bF 0 rfl rfl (aY (aZ (bE (aB (aA rfl ?_))))))
  obtain rfl:k=32:=by omega
  have hl:=aJk seed leaf
  have hq:fl (lk2 seed leaf) 32=lks seed leaf:=rfl
  rw[hq]
  have hf:jD 3#8 [lks seed leaf]=lT seed leaf:=rfl
  refine aC (Γ:=bC [(53,.pure true kS)]) [4] (aH bJh aO) rfl rfl rfl (fun K hK=>?_)
  simp(failIfUnchanged:=false) (disch:=omega) only[Tryd.f89,go_sem,↓reduceIte,hf]
  refine hK _ ?_
  refine aB (aS rfl ?_)
  simp(failIfUnchanged:=false) (disch:=omega) only[cN,bV,bK,bQ,Tryd.f89,go_sem,↓reduceIte,ldV,kQ,hs]
 cases hg
theorem ok34:bX Tryd.prog GLh 89 (.pure true aIw):=⟨⟨_,Tryd.func89,rfl,rfl⟩,bUl⟩
end Go.AX

namespace Go.AX
open Go Go.Proofs
theorem cvb5 (hp hp2:H) (cx id:Nat) (x:AV) (sd:Bool):cvF hp hp2 cx id x Tryd.prog.underlying sd (some (.slice 5)) (some .string)=aK (fG hp2 1 x) fun nl=>aK (cI nl.2) fun l=>some (.s l,hp,cx):=aXn _ _ _ _ _ _ _ _ Tryd.underlying5
attribute [go_sem] cvb5
def sg1 (seed:List B8) (leaf:W32) (d:W32) (i:Nat):List B8:=jO seed leaf (BitVec.ofInt 8 (i:Int)) (lJ d i)++lkv seed leaf i (1#8-lJ d i)
def lM (seed:List B8) (leaf:W32) (d:W32):List B8:=fl (sg1 seed leaf d) 32
theorem vK (seed:List B8) (leaf d:W32) (i:Nat):(sg1 seed leaf d i).length=16:=by simp[sg1,kL,lB]
theorem lX (seed:List B8) (leaf d:W32):(lM seed leaf d).length=512:=nA _ 16 (vK seed leaf d) 32
def yV:List AV→Option (Nat×Nat×List AV)
 |[.agg xs,.w32 leaf,.sl n ys]=>aK (un8 xs) fun b=>aK (un8 ys) fun m=>aN (b.length=8∧m.length=n∧n≤900000000) (some (512,1,c8 (lM b leaf (lQ m))))
 |_=>none
theorem bGq (xs ys:List AV) (leaf:W32) (n:Nat):yV [.agg xs,.w32 leaf,.sl n ys]=aK (un8 xs) fun b=>aK (un8 ys) fun m=>aN (b.length=8∧m.length=n∧n≤900000000) (some (512,1,c8 (lM b leaf (lQ m)))):=(rfl)
attribute [go_sem] bGq lX
set_option maxHeartbeats 1000000 in
theorem bTz:dH Tryd.prog GLh 50 yV:=by
 refine cT Tryd.func50 (aT rfl) ?_
 intro args r hg
 unfold yV at hg
 split at hg
 ·rename_i xs leaf n ys
  replace hg:=aJ hg;obtain⟨seed,hb,hg⟩:=hg
  replace hg:=aJ hg;obtain⟨msg,hb2,hg⟩:=hg
  replace hg:=aP hg;obtain⟨⟨hn,hm,hbig⟩,hg⟩:=hg
  obtain rfl:=J0 hg
  have:=iX _ hb;subst this
  have:=iX _ hb2;subst this
  subst hm
  clear hg hb hb2
  refine⟨J1 rfl,fun nx=>?_⟩
  refine aA rfl (aW [1,2,3] rfl rfl rfl fun K hK=>?_)
  simp(failIfUnchanged:=false) (disch:=omega) only[Tryd.f50,go_sem,↓reduceIte]
  refine hK _ ?_
  refine aB (aA rfl (aW [1,2,3,7] rfl rfl rfl fun K hK=>?_))
  simp(failIfUnchanged:=false) (disch:=omega) only[Tryd.f50,go_sem,↓reduceIte]
  refine hK _ ?_
  refine aB (aA rfl (aC (Γ:=bC [(61,.pure true aDf)]) [1,3,7,8] (aH cWq aO) rfl rfl rfl (fun K hK=>?_)))
  simp(failIfUnchanged:=false) (disch:=omega) only[Tryd.f50,go_sem,↓reduceIte]
  refine hK _ ?_
  refine aB ?_
  generalize lQ msg=d
  refine aA rfl (aA rfl (aW [1,3,7,8,16] rfl rfl rfl fun K hK=>?_))
  simp(failIfUnchanged:=false) (disch:=omega) only[Tryd.f50,go_sem,↓reduceIte]
  refine hK _ ?_
  refine aB (aR 0 rfl rfl (iE 7 1 rfl (fF [1,3,7,8,16] ?_)))
  simp(failIfUnchanged:=false) only[iB,fU,eB,↓reduceIte,Nat.reduceEqDiff]
  refine bR (fun p:KIC=> {fr:=[(1,.w32 leaf),(3,.op nx 0),(7,.os p.id 0 (16*p.k) 1 true),(8,.w32 d),(16,.i p.k)],hp:=upd (upd (fun _=>none) nx (.cells (c8 seed) true)) p.id (.cells (c8 (fl (sg1 seed leaf d) p.k)) true),nx:=0,cx:=p.c}) (fun p=>p.k≤32∧nx<p.id∧p.id<p.c) (fun p=>32-p.k) rfl ⟨⟨0,_,_⟩,⟨Nat.zero_le _,by simp only;omega,by simp only;omega⟩,bD rfl rfl (U3 _)⟩ ?_
  rintro⟨k,id,c⟩ ⟨hk,hid,hc⟩ n0
  simp only at hk hid hc⊢
  have hl:=nA _ 16 (vK seed leaf d) k
  refine aA rfl (aW [17,1,3,7,8,16] rfl rfl rfl fun K hK=>?_)
  simp(failIfUnchanged:=false) (disch:=omega) only[Tryd.f50,go_sem,↓reduceIte]
  refine hK _ ?_
  refine aB (aA rfl (gP (.tmp 17) rfl rfl rfl (fun h=>?_) (fun h=>?_)))
  ·refine aI rfl (aQ rfl (aB (aA rfl (aR 1 rfl rfl (aA rfl (aW [1,3,7,8,9,16] rfl rfl rfl fun K hK=>?_))))))
   simp(failIfUnchanged:=false) (disch:=omega) only[Tryd.f50,go_sem,↓reduceIte]
   refine hK _ ?_
   refine aB (aA rfl (aC (Γ:=bC [(62,.pure true bCu)]) [1,3,7,8,9,10,16] (aH cWm aO) rfl rfl rfl (fun K hK=>?_)))
   simp(failIfUnchanged:=false) (disch:=omega) only[Tryd.f50,go_sem,↓reduceIte]
   refine hK _ ?_
   refine aB ?_
   have hs1:=kL seed leaf (BitVec.ofInt 8 (k:Int)) (lJ d k)
   have hs2:=kL seed leaf (BitVec.ofInt 8 (k:Int)) (1#8-lJ d k)
   have hll:lP (jO seed leaf (BitVec.ofInt 8 (k:Int)) (1#8-lJ d k))=lkv seed leaf k (1#8-lJ d k):=rfl
   have hkl:=lB seed leaf k (1#8-lJ d k)
   refine aA rfl (bB (Γ:=bC [(63,.pure true tD)]) (fun k=>if k=10 then 34 else 2) [1,3,7,8,11,12,16] bZ (aH cWl aO) rfl rfl rfl (by kernel_rfl) (fun K hK=>?_))
   simp(disch:=first|omega|decide) only[Tryd.f50,go_sem,↓reduceIte,hn]
   refine hK _ ?_
   refine aB (aA rfl (aC (Γ:=bC [(64,.pure true pD)]) [1,3,7,8,11,13,16] (aH bVz aO) rfl rfl rfl (fun K hK=>?_)))
   simp(failIfUnchanged:=false) (disch:=omega) only[Tryd.f50,go_sem,↓reduceIte,hll]
   refine hK _ ?_
   refine aB (bB (Γ:=aL) (fun k=>if k=4 then 10 else 2) [1,3,7,8,16] bZ (aD _ _) rfl rfl rfl (by kernel_rfl) (fun K hK=>?_))
   simp(disch:=first|omega|decide) only[Tryd.f50,go_sem,↓reduceIte,hl]
   refine hK _ ?_
   refine bU (aB (aW [1,3,7,8,16] rfl rfl rfl fun K hK=>?_))
   simp(failIfUnchanged:=false) (disch:=omega) only[Tryd.f50,go_sem,↓reduceIte]
   refine hK _ ?_
   refine bT ?_
   have e5:16*(k+1)=16*k+8+8:=by omega
   have e6:fl (sg1 seed leaf d) (k+1)=fl (sg1 seed leaf d) k++jO seed leaf (BitVec.ofInt 8 (k:Int)) (lJ d k)++lkv seed leaf k (1#8-lJ d k):=by rw[fl,sg1,List.append_assoc]
   refine⟨⟨k+1,c+1+2+4+15+4+4,_⟩,⟨by simp only;omega,by simp only;omega,by simp only;omega⟩,by simp only;omega,⟨fun _=> .inr ?_,fun j o h=>?_,U3 _⟩⟩
   ·simp only[e5,Int.natCast_add,Int.natCast_one]
   simp only at h
   exact bS (by simp(failIfUnchanged:=false) (disch:=omega) only[aV,↓reduceIte,eq_self,e6]) (bS (by simp(disch:=omega) only[aV,kE,bY,↓reduceIte,eq_self]) (cB)) j o h
  refine aI rfl (bF 0 rfl rfl (aY (aZ (bE (aB (aA rfl ?_))))))
  obtain rfl:k=32:=by omega
  have hq:fl (sg1 seed leaf d) 32=lM seed leaf d:=rfl
  rw[hq]at hl⊢
  refine aW [6] rfl rfl rfl fun K hK=>?_
  simp(failIfUnchanged:=false) (disch:=omega) only[Tryd.f50,go_sem,↓reduceIte]
  refine hK _ ?_
  refine aB (aS rfl ?_)
  simp(failIfUnchanged:=false) (disch:=omega) only[fE,eO,bV,bK,bQ,Tryd.f50,go_sem,↓reduceIte,fQ]
 cases hg
theorem dQv:bX Tryd.prog GLh 50 (.fresh true yV):=⟨⟨_,Tryd.func50,rfl,rfl⟩,bTz⟩
def cCe:List AV→Option AV
 |[.sl n xs,.sl m ys]=>aK (un8 xs) fun a=>aK (un8 ys) fun b=>aN (a.length=n∧b.length=m) (some (.b (decide (a=b))))
 |_=>none
theorem cCd (n m:Nat) (xs ys:List AV):cCe [.sl n xs,.sl m ys]=aK (un8 xs) fun a=>aK (un8 ys) fun b=>aN (a.length=n∧b.length=m) (some (.b (decide (a=b)))):=(rfl)
attribute [go_sem] cCd iA
set_option maxHeartbeats 1000000 in
theorem cQs:cL Tryd.prog GLh 44 cCe:=by
 refine cC Tryd.func44 (aT rfl) ?_
 intro args r hg
 unfold cCe at hg
 split at hg
 ·rename_i n m xs ys
  replace hg:=aJ hg;obtain⟨a,ha,hg⟩:=hg
  replace hg:=aJ hg;obtain⟨b,hb,hg⟩:=hg
  replace hg:=aP hg;obtain⟨⟨hn,hm⟩,hg⟩:=hg
  obtain rfl:=J0 hg
  have:=iX _ ha;subst this
  have:=iX _ hb;subst this
  subst hn;subst hm
  refine⟨J1 rfl,fun nx=>?_⟩
  refine aA rfl (aW [0,1] rfl rfl rfl fun K hK=>?_)
  simp(failIfUnchanged:=false) (disch:=omega) only[Tryd.f44,go_sem,↓reduceIte]
  refine hK _ ?_
  refine aB (aA rfl (aW [4] rfl rfl rfl fun K hK=>?_))
  simp(failIfUnchanged:=false) (disch:=omega) only[Tryd.f44,go_sem,↓reduceIte]
  refine hK _ ?_
  refine aB (aS rfl ?_)
  simp(failIfUnchanged:=false) (disch:=omega) only[cN,bV,bK,bQ,Tryd.f44,go_sem,↓reduceIte]
 cases hg
theorem ok31:bX Tryd.prog GLh 44 (.pure true cCe):=⟨⟨_,Tryd.func44,rfl,rfl⟩,cQs⟩
end Go.AX

namespace Go.AX
open Go Go.Proofs
attribute [go_sem] aGo cTc
theorem tR (d:W32) (i:Nat):lJ d i=0#8∨lJ d i=1#8:=by
 unfold lJ
 have h:((d>>>(31-i))&&&1#32).toNat=(d>>>(31-i)).toNat%2:=by rw[BitVec.toNat_and];exact Nat.and_one_is_mod _
 generalize (d>>>(31-i))&&&1#32=z at h
 have h2:=Nat.mod_two_eq_zero_or_one (d>>>(31-i)).toNat
 rcases h2 with h2|h2
 ·left;apply BitVec.eq_of_toNat_eq;rw[BitVec.toNat_setWidth,h,h2];rfl
 right;apply BitVec.eq_of_toNat_eq;rw[BitVec.toNat_setWidth,h,h2];rfl
theorem cCj (d:W32) (i:Nat):decide ((d>>>(31-i))&&&1#32=0#32)=decide (lJ d i=0#8):=by
 rw[decide_eq_decide]
 unfold lJ
 have h:((d>>>(31-i))&&&1#32).toNat=(d>>>(31-i)).toNat%2:=by rw[BitVec.toNat_and];exact Nat.and_one_is_mod _
 generalize (d>>>(31-i))&&&1#32=z at h
 constructor
 ·intro e;rw[e];rfl
 intro e
 have:=congrArg BitVec.toNat e
 rw[BitVec.toNat_setWidth]at this
 apply BitVec.eq_of_toNat_eq
 have h3:z.toNat<2:=by rw[h];omega
 have e0:(0#8).toNat=0:=rfl
 have e1:(0#32).toNat=0:=rfl
 rw[e0]at this;rw[e1];omega
def sx (sig:List B8) (i:Nat):List B8:=(sig.drop (16*i)).take 8
def sy (sig:List B8) (i:Nat):List B8:=(sig.drop (16*i+8)).take 8
def ob1 (d:W32) (sig:List B8) (i:Nat):List B8:=if lJ d i=0#8 then lP (sx sig i)++sy sig i else sy sig i++lP (sx sig i)
def nX (d:W32) (sig:List B8):List B8:=jD 3#8 [fl (ob1 d sig) 32]
theorem bFv (sig:List B8) (h:sig.length=512) (i:Nat) (hi:i<32):(sx sig i).length=8:=by rw[sx,List.length_take,List.length_drop];omega
theorem aAy (sig:List B8) (h:sig.length=512) (i:Nat) (hi:i<32):(sy sig i).length=8:=by rw[sy,List.length_take,List.length_drop];omega
theorem bWm (d:W32) (sig:List B8) (h:sig.length=512) (i:Nat) (hi:i<32):(ob1 d sig i).length=16:=by
 unfold ob1;split<;>simp[lR,aAy sig h i hi]
theorem tN (d:W32) (sig:List B8) (h:sig.length=512) (k:Nat) (hk:k≤32):(fl (ob1 d sig) k).length=16*k:=by
 induction k with
 |zero=>rfl
 |succ k ih=>rw[fl,List.length_append,ih (by omega),bWm d sig h k (by omega)];omega
theorem mV (d:W32) (sig:List B8):(nX d sig).length=8:=jG _ _
def zD (msg sig:List B8):AV:=if sig.length=512 then .tup [.agg (c8 (nX (lQ msg) sig)),.b true]else .tup [.agg (c8 (List.replicate 8 0#8)),.b false]
theorem tH (msg sig:List B8) (h:sig.length=512):zD msg sig=.tup [.agg (c8 (nX (lQ msg) sig)),.b true]:=J4 h
theorem aJd (msg sig:List B8) (h:sig.length≠512):zD msg sig=.tup [.agg (c8 (List.replicate 8 0#8)),.b false]:=J3 h
def iH:List AV→Option AV
 |[.sl n xs,.sl m ys]=>aK (un8 xs) fun a=>aK (un8 ys) fun b=>aN (a.length=n∧b.length=m∧n≤900000000∧m≤900000000) (some (zD a b))
 |_=>none
theorem bIx (n m:Nat) (xs ys:List AV):iH [.sl n xs,.sl m ys]=aK (un8 xs) fun a=>aK (un8 ys) fun b=>aN (a.length=n∧b.length=m∧n≤900000000∧m≤900000000) (some (zD a b)):=(rfl)
attribute [go_sem] bIx mV
end Go.AX

namespace Go.AX
open Go Go.Proofs
theorem cZv (d:W32) (sig:List B8) (k:Nat) (hv:lJ d k=0#8):fl (ob1 d sig) (k+1)=fl (ob1 d sig) k++lP (sx sig k)++sy sig k:=by rw[fl,ob1,J4 hv,List.append_assoc]
theorem cZu (d:W32) (sig:List B8) (k:Nat) (hv: ¬lJ d k=0#8):fl (ob1 d sig) (k+1)=fl (ob1 d sig) k++sy sig k++lP (sx sig k):=by rw[fl,ob1,J3 hv,List.append_assoc]
set_option maxHeartbeats 1000000 in
theorem bHq:cL Tryd.prog GLh 33 iH:=by
 refine cC Tryd.func33 (aT rfl) ?_
 intro args r hg
 unfold iH at hg
 split at hg
 ·rename_i n m xs ys
  replace hg:=aJ hg;obtain⟨msg,ha,hg⟩:=hg
  replace hg:=aJ hg;obtain⟨sig,hb,hg⟩:=hg
  replace hg:=aP hg;obtain⟨⟨hn,hm,hb1,hb2⟩,hg⟩:=hg
  obtain rfl:=J0 hg
  have:=iX _ ha;subst this
  have:=iX _ hb;subst this
  subst hn;subst hm
  clear hg ha hb
  refine⟨J1 rfl,fun nx=>?_⟩
  refine aA rfl (aW [0,1,4] rfl rfl rfl fun K hK=>?_)
  simp(failIfUnchanged:=false) (disch:=omega) only[Tryd.f33,go_sem,↓reduceIte]
  refine hK _ ?_
  refine aB (aA rfl (aA rfl (aW [13,0,1,4] rfl rfl rfl fun K hK=>?_)))
  simp(failIfUnchanged:=false) (disch:=omega) only[Tryd.f33,go_sem,↓reduceIte]
  refine hK _ ?_
  refine aB (eGn (.tmp 13) rfl rfl rfl (fun h=>?_) (fun h=>?_))
  ·refine aI rfl ?_
   rw[aJd _ _ (by omega)]
   have hst:dV (c8 (List.replicate 8 0#8)) 0 (c8 (List.replicate 8 0#8))=c8 (List.replicate 8 0#8):=oX 8 _ _ (by simp)
   refine aA rfl (aW [4,5] rfl rfl rfl fun K hK=>?_)
   simp(failIfUnchanged:=false) (disch:=omega) only[Tryd.f33,go_sem,↓reduceIte,hst]
   refine hK _ ?_
   refine aB (aS rfl (bI ?_))
   simp(failIfUnchanged:=false) (disch:=omega) only[cN,bV,bK,bQ,Tryd.f33,go_sem,↓reduceIte,ldV,fQ]
  refine aI rfl ?_
  have hl:sig.length=512:=by omega
  rw[tH _ _ hl]
  have hs:=mV (lQ msg) sig
  refine aQ rfl (aB (aA rfl (aC (Γ:=bC [(51,.pure true aDf)]) [1,4,6] (aH cWp aO) rfl rfl rfl (fun K hK=>?_))))
  simp(failIfUnchanged:=false) (disch:=omega) only[Tryd.f33,go_sem,↓reduceIte]
  refine hK _ ?_
  refine aB ?_
  generalize lQ msg=d at hs⊢
  refine aA rfl (aW [1,4,6,7] rfl rfl rfl fun K hK=>?_)
  simp(failIfUnchanged:=false) (disch:=omega) only[Tryd.f33,go_sem,↓reduceIte]
  refine hK _ ?_
  refine aB (aA rfl (aA rfl (aW [1,4,6,7,8] rfl rfl rfl fun K hK=>?_)))
  simp(failIfUnchanged:=false) (disch:=omega) only[Tryd.f33,go_sem,↓reduceIte]
  refine hK _ ?_
  refine aB (aR 0 rfl rfl (iE 7 1 rfl (fF [1,4,6,7,8] ?_)))
  simp(failIfUnchanged:=false) only[iB,fU,eB,↓reduceIte,Nat.reduceEqDiff]
  refine bR (fun p:KIC=> {fr:=[(1,.sl sig.length (c8 sig)),(4,.op nx 0),(6,.w32 d),(7,.os p.id 0 (16*p.k) 1 true),(8,.i p.k)],hp:=upd (upd (fun _=>none) nx (.cells (c8 (List.replicate 8 0#8)) true)) p.id (.cells (c8 (fl (ob1 d sig) p.k)) true),nx:=0,cx:=p.c}) (fun p=>p.k≤32∧nx<p.id∧p.id<p.c) (fun p=>32-p.k) rfl ⟨⟨0,_,_⟩,⟨Nat.zero_le _,by simp only;omega,by simp only;omega⟩,bD rfl rfl (U3 _)⟩ ?_
  rintro⟨k,id,c⟩ ⟨hk,hid,hc⟩ n0
  simp only at hk hid hc⊢
  have hol:=tN d sig hl k hk
  refine aA rfl (aA rfl (aW [18,1,4,6,7,8] rfl rfl rfl fun K hK=>?_))
  simp(failIfUnchanged:=false) (disch:=omega) only[Tryd.f33,go_sem,↓reduceIte]
  refine hK _ ?_
  refine aB (gP (.tmp 18) rfl rfl rfl (fun h=>?_) (fun h=>?_))
  ·refine aI rfl ?_
   have hsx:=bFv sig hl k (by omega)
   have hsy:=aAy sig hl k (by omega)
   have hll:=lR (sx sig k)
   have e1:(16*(k:Int)).toNat=16*k:=by omega
   have e2:(16*(k:Int)+8).toNat=16*k+8:=by omega
   have e3:(16*(k:Int)+16).toNat=16*k+16:=by omega
   have e4:16*k+8-16*k=8:=by omega
   have e5:16*k+16-(16*k+8)=8:=by omega
   have hx:List.take 8 (List.drop (16*k) sig)=sx sig k:=rfl
   have hy:List.take 8 (List.drop (16*k+8) sig)=sy sig k:=rfl
   refine aQ rfl (aB (aA rfl (aR 1 rfl rfl (aA rfl (bB (Γ:=bC [(52,.pure true pD)]) (fun _=>2) [1,4,6,7,8,9,10] bZ (aH cKq aO) rfl rfl rfl (by kernel_rfl) (fun K hK=>?_))))))
   simp(failIfUnchanged:=false) (disch:=omega) only[Tryd.f33,go_sem,↓reduceIte,e1,e2,e3,e4,e5,hx,hy,hsx]
   refine hK _ ?_
   refine aB ?_
   have e31:((31:Int)-(k:Int)).toNat=31-k:=by omega
   have hbe:=cCj d k
   refine aA rfl (aW [42,1,4,6,7,8,9,10] rfl rfl rfl fun K hK=>?_)
   simp(failIfUnchanged:=false) (disch:=omega) only[Tryd.f33,go_sem,↓reduceIte,e31,hbe]
   refine hK _ ?_
   refine aB ?_
   have e5:16*(k+1)=16*k+8+8:=by omega
   refine gP (.tmp 42) rfl rfl rfl (fun h=>?_) (fun h=>?_)
   ·refine aI rfl (aW [1,4,6,7,8] rfl rfl rfl fun K hK=>?_)
    simp(failIfUnchanged:=false) (disch:=omega) only[Tryd.f33,go_sem,↓reduceIte,hol,hsy]
    refine hK _ ?_
    refine bU (aB (aW [1,4,6,7,8] rfl rfl rfl fun K hK=>?_))
    simp(failIfUnchanged:=false) (disch:=omega) only[Tryd.f33,go_sem,↓reduceIte]
    refine hK _ ?_
    refine bT ?_
    refine⟨⟨k+1,c+2+19+6+4,_⟩,⟨by simp only;omega,by simp only;omega,by simp only;omega⟩,by simp only;omega,⟨fun _=> .inr ?_,fun j o h=>?_,U3 _⟩⟩
    ·simp only[e5,Int.natCast_add,Int.natCast_one]
    simp only[cZv d sig k (by assumption)]at h
    exact bS (by simp(failIfUnchanged:=false) (disch:=omega) only[aV,↓reduceIte,eq_self]) (bS (by simp(disch:=omega) only[aV,kE,bY,↓reduceIte,eq_self]) (cB)) j o h
   refine aI rfl (bB (Γ:=aL) (fun k=>if k=4 then 10 else 2) [1,4,6,7,8] bZ (aD _ _) rfl rfl rfl (by kernel_rfl) (fun K hK=>?_))
   simp(disch:=first|omega|decide) only[Tryd.f33,go_sem,↓reduceIte,hol,hsy]
   refine hK _ ?_
   refine bU (aB (aW [1,4,6,7,8] rfl rfl rfl fun K hK=>?_))
   simp(failIfUnchanged:=false) (disch:=omega) only[Tryd.f33,go_sem,↓reduceIte]
   refine hK _ ?_
   refine bT ?_
   refine⟨⟨k+1,c+2+19+6+4,_⟩,⟨by simp only;omega,by simp only;omega,by simp only;omega⟩,by simp only;omega,⟨fun _=> .inr ?_,fun j o h=>?_,U3 _⟩⟩
   ·simp only[e5,Int.natCast_add,Int.natCast_one]
   simp only[cZu d sig k (by assumption)]at h
   exact bS (by simp(failIfUnchanged:=false) (disch:=omega) only[aV,↓reduceIte,eq_self]) (bS (by simp(disch:=omega) only[aV,kE,bY,↓reduceIte,eq_self]) (cB)) j o h
  refine aI rfl (bF 0 rfl rfl (aY (aZ (bE (aB (aA rfl ?_))))))
  obtain rfl:k=32:=by omega
  have hf:jD 3#8 [fl (ob1 d sig) 32]=nX d sig:=rfl
  refine aC (Γ:=bC [(53,.pure true kS)]) [4,5] (aH bJh aO) rfl rfl rfl (fun K hK=>?_)
  simp(failIfUnchanged:=false) (disch:=omega) only[Tryd.f33,go_sem,↓reduceIte,hf,hol]
  refine hK _ ?_
  refine aB (aS rfl ?_)
  simp(failIfUnchanged:=false) (disch:=omega) only[cN,bV,bK,bQ,Tryd.f33,go_sem,↓reduceIte,ldV,fQ,hs]
 cases hg
theorem ok37:bX Tryd.prog GLh 33 (.pure true iH):=⟨⟨_,Tryd.func33,rfl,rfl⟩,bHq⟩
end Go.AX

namespace Go.AX
open Go Go.Proofs
theorem wL (f:Nat→List B8) (n:Nat) (hf: ∀i,(f i).length=n) (k:Nat): ∀i,i<k→((fl f k).drop (n*i)).take n=f i:=by
 induction k with
 |zero=>intro i hi;omega
 |succ k ih=>
  intro i hi
  have hl:=nA f n hf k
  rw[fl]
  by_cases e:i=k
  ·subst e
   rw[List.drop_append,List.drop_of_length_le (by omega),List.nil_append,hl,Nat.sub_self,J9,List.take_of_length_le (by rw[hf];exact U3 _)]
  have hm:n*i+n≤n*k:=by
   have:n*(i+1)≤n*k:=Nat.mul_le_mul_left _ (by omega)
   rwa [Nat.mul_succ]at this
  rw[List.drop_append_of_le_length (by omega),List.take_append_of_le_length (by rw[List.length_drop];omega)]
  exact ih i (by omega)
theorem bTk (d:W32) (i:Nat):(lJ d i=0#8∧1#8-lJ d i=1#8)∨(lJ d i=1#8∧1#8-lJ d i=0#8):=by
 rcases tR d i with h|h
 ·left;rw[h];exact⟨rfl,rfl⟩
 right;rw[h];exact⟨rfl,rfl⟩
theorem aOr (f g:Nat→List B8) (k:Nat) (h: ∀i,i<k→f i=g i):fl f k=fl g k:=by
 induction k with
 |zero=>rfl
 |succ k ih=>rw[fl,fl,ih (fun i hi=>h i (by omega)),h k (by omega)]
theorem bWl (seed:List B8) (leaf d:W32) (i:Nat) (hi:i<32):ob1 d (lM seed leaf d) i=lk2 seed leaf i:=by
 have hp:=wL (sg1 seed leaf d) 16 (vK seed leaf d) 32 i hi
 have hx:sx (lM seed leaf d) i=jO seed leaf (BitVec.ofInt 8 (i:Int)) (lJ d i):=by
  have:sx (lM seed leaf d) i=(sg1 seed leaf d i).take 8:=by rw[←hp,List.take_take];rfl
  rw[this,sg1,List.take_append_of_le_length (by rw[kL];exact U3 _),List.take_of_length_le (by rw[kL];exact U3 _)]
 have hy:sy (lM seed leaf d) i=lkv seed leaf i (1#8-lJ d i):=by
  have:sy (lM seed leaf d) i=(sg1 seed leaf d i).drop 8:=by
   rw[←hp,List.drop_take,List.drop_drop];rfl
  rw[this,sg1,List.drop_append,List.drop_of_length_le (by rw[kL];exact U3 _),kL,Nat.sub_self,J9,List.nil_append]
 unfold ob1
 rw[hx,hy]
 rcases bTk d i with⟨h1,h2⟩|⟨h1,h2⟩
 ·rw[h2,h1,J4 rfl];rfl
 rw[h2,h1,J3 (by decide)];rfl
theorem aGf (seed:List B8) (leaf d:W32):nX d (lM seed leaf d)=lT seed leaf:=by
 unfold nX lT lks
 rw[aOr _ _ 32 (fun i hi=>bWl seed leaf d i hi)]
end Go.AX

namespace Go.AX
open Go Go.Proofs
set_option maxRecDepth 100000
noncomputable def ct (ps:List (Nat×Nat)):Nat→Nat:=
 List.rec (motive:=fun _=>Nat→Nat) (fun n=>n) (fun p _ ih n=>ih (Nat.add (Nat.mul (Nat.add (Nat.mul n 4294967296) p.1) (Nat.pow 256 p.1)) p.2)) ps
noncomputable def ctl (ps:List (Nat×Nat)):Nat→Nat:=
 List.rec (motive:=fun _=>Nat→Nat) (fun n=>n) (fun p _ ih n=>ih (Nat.add (Nat.add n 4) p.1)) ps
def pn (p:List B8):Nat×Nat:=(p.length,big p)
theorem cRc (n:Nat) (h:n<4294967296):big (b4 n)=n:=by
 have e: ∀k:Nat,0<k→((n:Int).fdiv (k:Int))=((n/k:Nat):Int):=fun k _=>by
  rw[Int.fdiv_eq_ediv_of_nonneg _ (by omega)];rfl
 have e1:=e 16777216 (by omega)
 have e2:=e 65536 (by omega)
 have e3:=e 256 (by omega)
 simp(failIfUnchanged:=false) only[show((16777216:Nat):Int)=16777216 from rfl,show((65536:Nat):Int)=65536 from rfl,show((256:Nat):Int)=256 from rfl]at e1 e2 e3
 simp(failIfUnchanged:=false) only[b4,big,List.foldl_cons,List.foldl_nil,BitVec.toNat_ofInt]
 rw[e1,e2,e3]
 omega
theorem aPj (l p:List B8) (ps:List (List B8)):cat l (p::ps)=cat (l++zA p) ps:=by simp[cat]
theorem cBm (ps:List (List B8)): ∀l:List B8,(∀p∈ps,p.length<4294967296)→big (cat l ps)=ct (ps.map pn) (big l):=by
 induction ps with
 |nil=>intro l _;simp[cat,ct]
 |cons p ps ih=>
  intro l h
  rw[aPj,ih _ (fun q hq=>h q (by simp[hq]))]
  have hb:=cRc p.length (h p (by simp))
  have:big (l++zA p)=(big l*4294967296+p.length)*256^p.length+big p:=by
   rw[zA,oD,oD,hb,List.length_append,Nat.pow_add,Nat.add_mul,show(b4 p.length).length=4 from rfl,show(256:Nat)^4=4294967296 by simp only[Nat.reducePow],Nat.mul_assoc,Nat.add_assoc]
  rw[this]
  rfl
theorem sS (ps:List (List B8)): ∀l:List B8,(cat l ps).length=ctl (ps.map pn) l.length:=by
 induction ps with
 |nil=>intro l;simp[cat,ctl]
 |cons p ps ih=>
  intro l
  rw[aPj,ih,List.length_append,xN,show l.length+(p.length+4)=l.length+4+p.length by omega]
  rfl
noncomputable def xE (tag:Nat) (ps:List (Nat×Nat)):Nat:=bTi (ct ps tag) (ctl ps 1)
theorem tB (tag:B8) (ps:List (List B8)) (h: ∀p∈ps,p.length<4294967296) (hl:(cat [tag] ps).length<1000000000):big (jD tag ps)=xE tag.toNat (ps.map pn):=by
 rw[jD,aYq _ hl,cBm _ _ h,sS,aKg]
 rfl
noncomputable def cUb (s leaf i v:Nat):Nat:=xE 1 [(8,s),(4,leaf),(1,i),(1,v)]
noncomputable def cXy (x:Nat):Nat:=xE 2 [(8,x)]
noncomputable def lkN (s leaf i v:Nat):Nat:=frc (cUb s leaf i v) cXy
theorem bPq (n:W32):big (w4 n)=n.toNat:=by
 have h: ∀k,k≤56→((n>>>k).setWidth 8:B8).toNat=n.toNat/2^k%256:=by
  intro k _;rw[BitVec.toNat_setWidth,BitVec.toNat_ushiftRight,Nat.shiftRight_eq_div_pow]
 simp(failIfUnchanged:=false) only[w4,big,List.foldl_cons,List.foldl_nil,h 24 (by omega),h 16 (by omega),h 8 (by omega),BitVec.toNat_setWidth]
 have:=n.isLt
 omega
theorem bUh (seed:List B8) (hs:seed.length=8) (leaf:W32) (i v:B8):big (jO seed leaf i v)=cUb (big seed) leaf.toNat i.toNat v.toNat:=by
 have hw:(w4 leaf).length=4:=rfl
 rw[jO,tB]
 ·simp only[List.map_cons,List.map_nil,pn,hs,bPq,aKg,hw,List.length_cons,List.length_nil];rfl
 ·intro p hp
  simp(failIfUnchanged:=false) only[List.mem_cons,List.not_mem_nil,or_false]at hp
  rcases hp with rfl|rfl|rfl|rfl
  ·omega
  ·rw[hw];omega
  ·simp
  simp
 rw[sS]
 simp(failIfUnchanged:=false) only[List.map_cons,List.map_nil,pn,hs,hw,List.length_cons,List.length_nil,ctl]
 decide
theorem bYa (x:List B8) (hx:x.length=8):big (lP x)=cXy (big x):=by
 rw[lP,tB]
 ·simp only[List.map_cons,List.map_nil,pn,hx];rfl
 ·intro p hp
  simp(failIfUnchanged:=false) only[List.mem_cons,List.not_mem_nil,or_false]at hp
  subst hp;omega
 rw[sS]
 simp(failIfUnchanged:=false) only[List.map_cons,List.map_nil,pn,hx,List.length_cons,List.length_nil,ctl]
 decide
theorem bLj (seed:List B8) (hs:seed.length=8) (leaf:W32) (i:Nat) (hi:i<256) (v:B8):big (lkv seed leaf i v)=lkN (big seed) leaf.toNat i v.toNat:=by
 have e:(BitVec.ofInt 8 (i:Int)).toNat=i:=by rw[BitVec.toNat_ofInt];omega
 rw[lkv,bYa _ (kL _ _ _ _),bUh seed hs,e,lkN,eEo]
noncomputable def cJd (s leaf:Nat) (o:Nat→Nat) (k:Nat):Nat:=
 Nat.rec 0 (fun k ih=>frc ih fun a=>frc (o k) fun z=>frc (lkN s leaf k z) fun x=>frc (lkN s leaf k (Nat.sub 1 z)) fun y=>Nat.add (Nat.mul a 340282366920938463463374607431768211456) (Nat.add (Nat.mul x 18446744073709551616) y)) k
noncomputable def aEd (s leaf:Nat) (o:Nat→Nat):Nat:=frc (cJd s leaf o 32) fun a=>xE 3 [(512,a)]
theorem aVq (seed:List B8) (hs:seed.length=8) (leaf:W32) (o:Nat→B8) (ho: ∀i,o i=0#8∨o i=1#8) (k:Nat) (hk:k≤32):big (fl (fun i=>lkv seed leaf i (o i)++lkv seed leaf i (1#8-o i)) k)=cJd (big seed) leaf.toNat (fun i=>(o i).toNat) k:=by
 induction k with
 |zero=>rfl
 |succ k ih=>
  have e:(1#8-o k).toNat=1-(o k).toNat:=by rcases ho k with h|h<;>rw[h]<;>rfl
  rw[fl,oD,ih (by omega),oD,bLj seed hs leaf k (by omega),bLj seed hs leaf k (by omega),List.length_append,lB,lB,e]
  simp(failIfUnchanged:=false) only[cJd,eEo]
  rw[show(256:Nat)^(8+8)=340282366920938463463374607431768211456 by simp only[Nat.reduceAdd,Nat.reducePow],show(256:Nat)^8=18446744073709551616 by simp only[Nat.reducePow]]
  rfl
theorem aFp (x:List B8) (hx:x.length=512):big (jD 3#8 [x])=xE 3 [(512,big x)]:=by
 rw[tB]
 ·simp only[List.map_cons,List.map_nil,pn,hx];rfl
 ·intro p hp
  simp(failIfUnchanged:=false) only[List.mem_cons,List.not_mem_nil,or_false]at hp
  subst hp;omega
 rw[sS]
 simp(failIfUnchanged:=false) only[List.map_cons,List.map_nil,pn,hx,List.length_cons,List.length_nil,ctl]
 decide
theorem bVd (seed:List B8) (hs:seed.length=8) (leaf:W32):big (lT seed leaf)=aEd (big seed) leaf.toNat (fun _=>0):=by
 rw[lT,aFp _ (aJk seed leaf),aEd,eEo,lks]
 have:=aVq seed hs leaf (fun _=>0#8) (fun _=> .inl rfl) 32 (U3 _)
 have e:(fun i=>lkv seed leaf i 0#8++lkv seed leaf i (1#8-0#8))=lk2 seed leaf:=by funext i;rfl
 rw[e]at this
 rw[this]
 rfl
end Go.AX

namespace Go.AX
open Go Go.Proofs
end Go.AX

namespace Go.AX
open Go Go.Proofs
section
variable {P : Program} {GL : Nat → Option (List AV)} {nt : Nat} {code : Code} {Q : Exit → S → Prop} {s t : S}
end
def upL (a b:List B8):List B8:=jD 4#8 [a,b]
theorem sZ (a b:List B8):(upL a b).length=8:=jG _ _
def iR (seed:List B8):Nat→Nat→List B8
 |0,i=>lT seed (BitVec.ofNat 32 i)
 |j+1,i=>upL (iR seed j (2*i)) (iR seed j (2*i+1))
theorem iW (seed:List B8) (j i:Nat):(iR seed j i).length=8:=by
 cases j with
 |zero=>exact oZ _ _
 |succ j=>exact sZ _ _
def mO (seed:List B8) (h j:Nat):List B8:=fl (iR seed j) (2^(h-j))
theorem qE (seed:List B8) (h j:Nat):(mO seed h j).length=8*2^(h-j):=nA _ 8 (iW seed j) _
def lvS (seed:List B8) (h:Nat):Nat→List AV
 |0=>[]
 |n+1=>lvS seed h n++[.sl (2^(h-n)) (c8 (mO seed h n))]
theorem nE (seed:List B8) (h n:Nat):(lvS seed h n).length=n:=by
 induction n with
 |zero=>rfl
 |succ n ih=>rw[lvS,List.length_append,ih];rfl
theorem cMl (seed:List B8) (h n j:Nat) (hj:j<n):(lvS seed h n)[j]? =some (.sl (2^(h-j)) (c8 (mO seed h j))):=by
 induction n with
 |zero=>omega
 |succ n ih=>
  rw[lvS]
  by_cases e:j<n
  ·rw[List.getElem?_append_left (by rw[nE];exact e)];exact ih e
  obtain rfl:j=n:=by omega
  rw[List.getElem?_append_right (by rw[nE];exact U3 _),nE,Nat.sub_self];rfl
theorem aNt (seed:List B8) (h n j:Nat) (hj:j<n):((lvS seed h n).drop j).head? =some (.sl (2^(h-j)) (c8 (mO seed h j))):=by
 rw[List.head?_drop];exact cMl seed h n j hj
theorem cMk (seed:List B8) (h n:Nat) (hj:0<n):(lvS seed h n).head? =some (.sl (2^h) (c8 (mO seed h 0))):=by
 have:=aNt seed h n 0 hj
 rwa [J9,Nat.sub_zero]at this
theorem bAq (seed:List B8) (h n:Nat):dB (lvS seed h n)=true:=by
 induction n with
 |zero=>rfl
 |succ n ih=>rw[lvS];simp only[dB,List.all_append,Bool.and_eq_true];exact⟨ih,rfl⟩
def trC (seed:List B8) (h:Nat):List AV:=c8 seed++[.sl (h+1) (lvS seed h (h+1))]
theorem aTj {a b:List B8} (h:c8 a=c8 b):a=b:=by
 have:=congrArg cI h
 rw[iA,iA]at this
 exact J0 this
theorem aAw (seed:List B8) (h:Nat) (hs:seed.length=8):(trC seed h).drop 8=[.sl (h+1) (lvS seed h (h+1))]:=by
 rw[trC,List.drop_append,List.drop_of_length_le (by rw[iM];omega),iM,hs];rfl
theorem aAv (seed:List B8) (h:Nat) (hs:seed.length=8):(trC seed h).take 8=c8 seed:=by
 rw[trC,List.take_append_of_le_length (by rw[iM];omega),List.take_of_length_le (by rw[iM];omega)]
theorem aUm (seed:List B8) (h:Nat) (hs:seed.length=8):(trC seed h).length=9:=by
 rw[trC,List.length_append,iM,hs];rfl
theorem aUn {s t:List B8} {h k:Nat} (hs:s.length=8) (ht:t.length=8) (e:trC s h=trC t k):s=t∧h=k:=by
 have e1:=congrArg (List.take 8) e
 rw[aAv s h hs,aAv t k ht]at e1
 have e2:=congrArg (List.drop 8) e
 rw[aAw s h hs,aAw t k ht]at e2
 simp(failIfUnchanged:=false) only[List.cons.injEq,AV.sl.injEq]at e2
 exact⟨aTj e1,by omega⟩
open Classical in
noncomputable def unT (ts:List AV):Option (List B8×Nat):=
 if h: ∃p:List B8×Nat,p.1.length=8∧p.2≤10∧ts=trC p.1 p.2 then some (Classical.choose h)else none
theorem aIa {ts:List AV} {p:List B8×Nat} (h:unT ts=some p):p.1.length=8∧p.2≤10∧ts=trC p.1 p.2:=by
 unfold unT at h
 split at h
 ·rename_i hx
  have:=Classical.choose_spec hx
  rw[J0 h]at this
  exact this
 cases h
theorem aHz (seed:List B8) (h:Nat) (hs:seed.length=8) (hh:h≤10):unT (trC seed h)=some (seed,h):=by
 have hx: ∃p:List B8×Nat,p.1.length=8∧p.2≤10∧trC seed h=trC p.1 p.2:=⟨(seed,h),hs,hh,rfl⟩
 have h1:unT (trC seed h)=some (Classical.choose hx):=dif_pos hx
 obtain⟨a1,a2,a3⟩:=Classical.choose_spec hx
 obtain⟨e1,e2⟩:=aUn hs a1 a3
 rw[h1]
 congr 1
 exact Prod.ext e1.symm e2.symm
attribute [go_sem] sZ iW qE nE aNt bAq aAw aUm aHz
def nD:List AV→Option AV
 |[.agg xs,.agg ys]=>aK (un8 xs) fun a=>aK (un8 ys) fun b=>aN (a.length=8∧b.length=8) (some (.agg (c8 (upL a b))))
 |_=>none
theorem bFa (xs ys:List AV):nD [.agg xs,.agg ys]=aK (un8 xs) fun a=>aK (un8 ys) fun b=>aN (a.length=8∧b.length=8) (some (.agg (c8 (upL a b)))):=(rfl)
attribute [go_sem] bFa
set_option maxHeartbeats 4000000 in
theorem bSf:cL Tryd.prog GLh 60 nD:=by
 refine cC Tryd.func60 (aT rfl) ?_
 intro args r hg
 unfold nD at hg
 split at hg
 ·rename_i xs ys
  replace hg:=aJ hg;obtain⟨a,hb,hg⟩:=hg
  replace hg:=aJ hg;obtain⟨b,hb2,hg⟩:=hg
  replace hg:=aP hg;obtain⟨⟨ha,hbl⟩,hg⟩:=hg
  obtain rfl:=J0 hg
  have:=iX _ hb;subst this
  have:=iX _ hb2;subst this
  clear hg hb hb2
  refine⟨J1 rfl,fun nx=>?_⟩
  have hs:=sZ a b
  have hf:jD 4#8 [a,b]=upL a b:=rfl
  refine aA rfl (aW [2,3,4] rfl rfl rfl fun K hK=>?_)
  simp(failIfUnchanged:=false) (disch:=omega) only[Tryd.f60,go_sem,↓reduceIte]
  refine hK _ ?_
  refine aB (aA rfl (bB (Γ:=bC [(73,.pure true kS)]) (fun k=>if k=3 then 0 else 2) [4] bZ (aH bWa aO) rfl rfl rfl (by kernel_rfl) (fun K hK=>?_)))
  simp(failIfUnchanged:=false) (disch:=omega) only[Tryd.f60,go_sem,↓reduceIte,ha,hbl,hf]
  refine hK _ ?_
  refine aB (aS rfl ?_)
  simp(failIfUnchanged:=false) (disch:=omega) only[cN,bV,bK,bQ,Tryd.f60,go_sem,↓reduceIte,ldV,kQ,hs]
 cases hg
theorem cKp:bX Tryd.prog GLh 60 (.pure true nD):=⟨⟨_,Tryd.func60,rfl,rfl⟩,bSf⟩
set_option maxHeartbeats 4000000 in
theorem cSy:cL Tryd.prog GLh 34 nD:=by
 refine cC Tryd.func34 (aT rfl) ?_
 intro args r hg
 unfold nD at hg
 split at hg
 ·rename_i xs ys
  replace hg:=aJ hg;obtain⟨a,hb,hg⟩:=hg
  replace hg:=aJ hg;obtain⟨b,hb2,hg⟩:=hg
  replace hg:=aP hg;obtain⟨⟨ha,hbl⟩,hg⟩:=hg
  obtain rfl:=J0 hg
  have:=iX _ hb;subst this
  have:=iX _ hb2;subst this
  clear hg hb hb2
  refine⟨J1 rfl,fun nx=>?_⟩
  have hs:=sZ a b
  have hf:jD 4#8 [a,b]=upL a b:=rfl
  refine aA rfl (aW [2,3,4] rfl rfl rfl fun K hK=>?_)
  simp(failIfUnchanged:=false) (disch:=omega) only[Tryd.f34,go_sem,↓reduceIte]
  refine hK _ ?_
  refine aB (aA rfl (bB (Γ:=bC [(53,.pure true kS)]) (fun k=>if k=3 then 0 else 2) [4] bZ (aH bJh aO) rfl rfl rfl (by kernel_rfl) (fun K hK=>?_)))
  simp(failIfUnchanged:=false) (disch:=omega) only[Tryd.f34,go_sem,↓reduceIte,ha,hbl,hf]
  refine hK _ ?_
  refine aB (aS rfl ?_)
  simp(failIfUnchanged:=false) (disch:=omega) only[cN,bV,bK,bQ,Tryd.f34,go_sem,↓reduceIte,ldV,kQ,hs]
 cases hg
theorem cKo:bX Tryd.prog GLh 34 (.pure true nD):=⟨⟨_,Tryd.func34,rfl,rfl⟩,cSy⟩
attribute [go_sem] aXg aXh
noncomputable def aMp:List AV→Option AV
 |[.rp ts]=>aK (unT ts) fun p=>some (.agg (c8 (iR p.1 p.2 0)))
 |_=>none
theorem bHr (ts:List AV):aMp [.rp ts]=aK (unT ts) fun p=>some (.agg (c8 (iR p.1 p.2 0))):=(rfl)
noncomputable def wD:List AV→Option AV
 |[.rp ts]=>aK (unT ts) fun p=>some (.w32 (BitVec.ofNat 32 (2^p.2)))
 |_=>none
theorem aSj (ts:List AV):wD [.rp ts]=aK (unT ts) fun p=>some (.w32 (BitVec.ofNat 32 (2^p.2))):=(rfl)
attribute [go_sem] bHr aSj
theorem aNx (seed:List B8) (h:Nat):mO seed h h=iR seed h 0:=by
 rw[mO,Nat.sub_self];show fl _ 1=_;rw[fl,fl];rfl
set_option maxHeartbeats 4000000 in
theorem bUn:cL Tryd.prog GLh 29 aMp:=by
 refine cC Tryd.func29 (aT rfl) ?_
 intro args r hg
 unfold aMp at hg
 split at hg
 ·rename_i ts
  replace hg:=aJ hg;obtain⟨⟨seed,h⟩,hb,hg⟩:=hg
  obtain rfl:=J0 hg
  obtain⟨hs,hh,rfl⟩:=aIa hb
  simp only at hs hh
  clear hg hb
  refine⟨J1 rfl,fun nx=>?_⟩
  have hnl:=iW seed h 0
  have hlt:=aNx seed h
  refine aA rfl (aW [0,2] rfl rfl rfl fun K hK=>?_)
  simp(failIfUnchanged:=false) (disch:=omega) only[Tryd.f29,go_sem,↓reduceIte]
  refine hK _ ?_
  refine aB ?_
  have e1:(((h+1:Nat):Int)-1).toNat=h:=by omega
  refine aA rfl (bB (Γ:=aL) (fun k=>if k=11 then 0 else if k=13 then 0 else 2) [2] bZ (aD _ _) rfl rfl rfl (by kernel_rfl) (fun K hK=>?_))
  simp(failIfUnchanged:=false) (disch:=omega) only[Tryd.f29,go_sem,↓reduceIte,hlt,e1,Nat.sub_self,Nat.pow_zero,J8,Int.cast_ofNat_Int]
  refine hK _ ?_
  refine aB (aS rfl ?_)
  simp(failIfUnchanged:=false) (disch:=omega) only[cN,bV,bK,bQ,Tryd.f29,go_sem,↓reduceIte,ldV,kQ,hnl]
 cases hg
theorem ok52:bX Tryd.prog GLh 29 (.pure true aMp):=⟨⟨_,Tryd.func29,rfl,rfl⟩,bUn⟩
set_option maxHeartbeats 4000000 in
theorem bAw:cL Tryd.prog GLh 49 wD:=by
 refine cC Tryd.func49 (aT rfl) ?_
 intro args r hg
 unfold wD at hg
 split at hg
 ·rename_i ts
  replace hg:=aJ hg;obtain⟨⟨seed,h⟩,hb,hg⟩:=hg
  obtain rfl:=J0 hg
  obtain⟨hs,hh,rfl⟩:=aIa hb
  simp only at hs hh
  clear hg hb
  refine⟨J1 rfl,fun nx=>?_⟩
  have ho:BitVec.ofInt 32 ((2^h:Nat):Int)=BitVec.ofNat 32 (2^h):=by
   apply BitVec.eq_of_toNat_eq;rw[BitVec.toNat_ofInt,BitVec.toNat_ofNat];omega
  refine aA rfl (aW [0] rfl rfl rfl fun K hK=>?_)
  simp(failIfUnchanged:=false) (disch:=omega) only[Tryd.f49,go_sem,↓reduceIte]
  refine hK _ ?_
  refine aB (aA rfl (aW [2] rfl rfl rfl fun K hK=>?_))
  simp(failIfUnchanged:=false) (disch:=omega) only[Tryd.f49,go_sem,↓reduceIte,cMk,J8,ho]
  refine hK _ ?_
  refine aB (aS rfl ?_)
  simp(failIfUnchanged:=false) (disch:=omega) only[cN,bV,bK,bQ,Tryd.f49,go_sem,↓reduceIte]
 cases hg
theorem ok54:bX Tryd.prog GLh 49 (.pure true wD):=⟨⟨_,Tryd.func49,rfl,rfl⟩,bAw⟩
end Go.AX

namespace Go.AX
open Go Go.Proofs
def aRy (s:List B8) (h:Int):AV:=if 0≤h∧h≤10 then .tup [.rp (trC s h.toNat),.i 0]else .tup [.v (.pointer none),.i 70]
theorem bKe (s:List B8) (h:Nat) (hh:h≤10):aRy s (h:Int)=.tup [.rp (trC s h),.i 0]:=by
 unfold aRy;rw[J4 ⟨by omega,by omega⟩];rfl
theorem bKf (s:List B8) (h:Int) (hh:h<0∨10<h):aRy s h=.tup [.v (.pointer none),.i 70]:=by
 unfold aRy;rw[J3 (by omega)]
def bKg:List AV→Option AV
 |[.agg xs,.i h]=>aK (un8 xs) fun s=>aN (s.length=8) (some (aRy s h))
 |_=>none
theorem bWx (xs:List AV) (h:Int):bKg [.agg xs,.i h]=aK (un8 xs) fun s=>aN (s.length=8) (some (aRy s h)):=(rfl)
attribute [go_sem] bWx
theorem zc106:cG Tryd.prog 106=some (c8 (List.replicate 8 0#8)++[.v (.slice none 0 0)]):=by kernel_rfl
theorem cGq (seed:List B8) (hs:seed.length=8):cK (c8 (List.replicate 8 0#8)++[.v (.slice none 0 0)]) 0 (c8 seed)=c8 seed++[.v (.slice none 0 0)]:=by
 unfold cK
 rw[U1,List.nil_append,iM,hs]
 rfl
theorem aUl (seed:List B8) (hs:seed.length=8) (x:AV):(c8 seed++[x]).length=9:=by rw[List.length_append,iM,hs];rfl
theorem bFr (seed:List B8) (hs:seed.length=8) (x:AV):(c8 seed++[x]).drop 8=[x]:=by
 rw[List.drop_append,List.drop_of_length_le (by rw[iM];omega),iM,hs];rfl
theorem bSx (seed:List B8) (hs:seed.length=8) (x y:AV):(c8 seed++[x]).set 8 y=c8 seed++[y]:=by
 rw[List.set_append_right _ _ (by rw[iM];omega),iM,hs];rfl
theorem sE (h:Nat) (hh:h≤10):2^h≤1024:=by
 have:2^h≤2^10:=Nat.pow_le_pow_right (by omega) hh
 simpa using this
theorem bVu (h:Nat) (hh:h≤10):1#32 <<<(BitVec.ofInt 64 (h:Int)).toNat=BitVec.ofNat 32 (2^h):=by
 have e:(BitVec.ofInt 64 (h:Int)).toNat=h:=by rw[BitVec.toNat_ofInt];omega
 rw[e]
 apply BitVec.eq_of_toNat_eq
 simp[BitVec.toNat_shiftLeft,Nat.shiftLeft_eq]
theorem cGj (a b:Nat) (ha:a<4294967296) (hb:b<4294967296):(BitVec.ofNat 32 a<BitVec.ofNat 32 b)=(a<b):=by
 rw[BitVec.lt_def,BitVec.toNat_ofNat,BitVec.toNat_ofNat,Nat.mod_eq_of_lt ha,Nat.mod_eq_of_lt hb]
theorem bSo (a:Nat):BitVec.ofNat 32 a+1#32=BitVec.ofNat 32 (a+1):=by
 apply BitVec.eq_of_toNat_eq
 simp[BitVec.toNat_add]
theorem cXd:dB [.v (.pointer none),.i 70]=true:=(rfl)
theorem spl8 (l:List B8) (h:l.length=8):cK (c8 (List.replicate 8 0#8)) 0 (c8 l)=c8 l:=by
 unfold cK
 rw[U1,List.nil_append,iM,h]
 simp[c8]
theorem bPj (f:Nat→List B8):c8 (fl f 0)=[]:=(rfl)
attribute [go_sem] zc106 aXx aVn spl8 xX aSp
theorem aGv (seed:List B8) (h:Nat):fl (iR seed 0) (2^h)=mO seed h 0:=by rw[mO,Nat.sub_zero]
theorem bLc (seed:List B8) (h n:Nat):lvS seed h n++[.sl (2^(h-n)) (c8 (mO seed h n))]=lvS seed h (n+1):=rfl
theorem aCn (seed:List B8) (h j i:Nat) (hi:i<2^(h-j)):((mO seed h j).drop (i*8)).take 8=iR seed j i:=by
 rw[Nat.mul_comm,mO];exact wL _ 8 (iW seed j) _ i hi
theorem aWg (seed:List B8) (j i:Nat):upL (iR seed j (2*i)) (iR seed j (2*i+1))=iR seed (j+1) i:=rfl
theorem cFp (seed:List B8) (k:Nat):lT seed (BitVec.ofNat 32 k)=iR seed 0 k:=rfl
set_option maxHeartbeats 4000000 in
theorem cLn:cL Tryd.prog GLh 47 bKg:=by
 refine cC Tryd.func47 (aT rfl) ?_
 intro args r hg
 unfold bKg at hg
 split at hg
 ·rename_i xs h0
  replace hg:=aJ hg;obtain⟨seed,hb,hg⟩:=hg
  replace hg:=aP hg;obtain⟨hs,hg⟩:=hg
  obtain rfl:=J0 hg
  have:=iX _ hb;subst this
  clear hg hb
  refine⟨J1 rfl,fun nx=>?_⟩
  refine aA rfl (aW [1,2] rfl rfl rfl fun K hK=>?_)
  simp(failIfUnchanged:=false) (disch:=omega) only[Tryd.f47,go_sem,↓reduceIte]
  refine hK _ ?_
  refine aB (aTs rfl (aA rfl (aA rfl ?_)))
  by_cases hneg:h0<0
  ·have hd1:decide (h0<0)=true:=J5 hneg
   have hr:=bKf seed h0 (.inl hneg)
   refine aW [16,1,2] rfl rfl rfl fun K hK=>?_
   simp(failIfUnchanged:=false) (disch:=omega) only[Tryd.f47,go_sem,↓reduceIte,hd1]
   refine hK _ ?_
   refine aB (eC (.tmp 16) rfl rfl rfl (fun h=>?_) (fun h=>?_))
   ·refine aI rfl (aA rfl (aW [4,5] rfl rfl rfl fun K hK=>?_))
    simp(failIfUnchanged:=false) (disch:=omega) only[Tryd.f47,go_sem,↓reduceIte]
    refine hK _ ?_
    refine aB (aS rfl (bI (qT ?_)))
    simp(failIfUnchanged:=false) (disch:=omega) only[cN,bV,bK,bQ,Tryd.f47,go_sem,↓reduceIte,hr,cXd,bMu]
   refine aI rfl ?_
   cases h
  have hd1:decide (h0<0)=false:=J6 hneg
  by_cases hbig:10<h0
  ·have hd2:decide (10<h0)=true:=J5 hbig
   have hr:=bKf seed h0 (.inr hbig)
   refine aW [16,1,2] rfl rfl rfl fun K hK=>?_
   simp(failIfUnchanged:=false) (disch:=omega) only[Tryd.f47,go_sem,↓reduceIte,hd1,hd2]
   refine hK _ ?_
   refine aB (eC (.tmp 16) rfl rfl rfl (fun h=>?_) (fun h=>?_))
   ·refine aI rfl (aA rfl (aW [4,5] rfl rfl rfl fun K hK=>?_))
    simp(failIfUnchanged:=false) (disch:=omega) only[Tryd.f47,go_sem,↓reduceIte]
    refine hK _ ?_
    refine aB (aS rfl (bI (qT ?_)))
    simp(failIfUnchanged:=false) (disch:=omega) only[cN,bV,bK,bQ,Tryd.f47,go_sem,↓reduceIte,hr,cXd,bMu]
   refine aI rfl ?_
   cases h
  have hd2:decide (10<h0)=false:=J6 hbig
  refine aW [16,1,2] rfl rfl rfl fun K hK=>?_
  simp(failIfUnchanged:=false) (disch:=omega) only[Tryd.f47,go_sem,↓reduceIte,hd1,hd2]
  refine hK _ ?_
  refine aB (eC (.tmp 16) rfl rfl rfl (fun h=>?_) (fun h=>?_))
  ·refine aI rfl ?_
   cases h
  refine aI rfl ?_
  clear h
  obtain⟨ht,rfl⟩: ∃ht:Nat,h0=(ht:Int):=⟨h0.toNat,by omega⟩
  have hh:ht≤10:=by omega
  have hr:=bKe seed ht hh
  rw[hr]
  clear hneg hbig hd1 hd2 hr
  have hp:=sE ht hh
  refine aQ rfl (aB (aA rfl (aW [1,2,6] rfl rfl rfl fun K hK=>?_)))
  simp(failIfUnchanged:=false) (disch:=omega) only[Tryd.f47,go_sem,↓reduceIte,hs,cGq seed hs,List.all_cons,List.all_nil,Option.isSome_some,Bool.and_self]
  refine hK _ ?_
  refine aB (aA rfl (aW [1,2,6,7] rfl rfl rfl fun K hK=>?_))
  simp(failIfUnchanged:=false) (disch:=omega) only[Tryd.f47,go_sem,↓reduceIte]
  refine hK _ ?_
  refine aB ?_
  have hsh:=bVu ht hh
  refine aA rfl (aA rfl (aW [2,6,7,22,23] rfl rfl rfl fun K hK=>?_))
  simp(failIfUnchanged:=false) (disch:=omega) only[Tryd.f47,go_sem,↓reduceIte,hsh]
  refine hK _ ?_
  refine aB (iE 7 8 rfl (fF [2,6,7,22,23] ?_))
  simp(failIfUnchanged:=false) only[iB,fU,eB,↓reduceIte,Nat.reduceEqDiff]
  obtain⟨T,hT⟩: ∃T,nx+3+6+2=T:=⟨_,rfl⟩
  rw[hT]
  refine aR 0 rfl rfl ?_
  refine bR (fun p:KIC=> {fr:=[(2,.op nx 0),(6,.op T 0),(7,.os p.id 0 p.k 8 true),(22,.w32 (BitVec.ofNat 32 (2^ht))),(23,.w32 (BitVec.ofNat 32 p.k))],hp:=upd (upd (upd (fun _=>none) nx (.cells (c8 seed) true)) T (.cells (c8 seed++[.v (.slice none 0 0)]) true)) p.id (.cells (c8 (fl (iR seed 0) p.k)) true),nx:=0,cx:=p.c}) (fun p=>p.k≤2^ht∧T<p.id∧p.id<p.c) (fun p=>2^ht-p.k) rfl ⟨⟨0,_,_⟩,⟨Nat.zero_le _,by simp only;omega,by simp only;omega⟩,bD rfl rfl (U3 _)⟩ ?_
  rintro⟨k,id,c⟩ ⟨hk,hid,hc⟩ n0
  simp only at hk hid hc⊢
  have hlt:=cGj k (2^ht) (by omega) (by omega)
  refine aA rfl (aW [24,2,6,7,22,23] rfl rfl rfl fun K hK=>?_)
  simp(failIfUnchanged:=false) (disch:=omega) only[Tryd.f47,go_sem,↓reduceIte,hlt]
  refine hK _ ?_
  refine aB (aA rfl (gP (.tmp 24) rfl rfl rfl (fun h=>?_) (fun h=>?_)))
  ·refine aI rfl ?_
   have hfl:=nA _ 8 (iW seed 0) k
   have hn0:=cFp seed k
   have hnl:=iW seed 0 k
   have hsu:=bSo k
   refine aQ rfl (aB (aA rfl (aR 1 rfl rfl (aA rfl (aW [2,6,7,8,22,23] rfl rfl rfl fun K hK=>?_)))))
   simp(failIfUnchanged:=false) (disch:=omega) only[Tryd.f47,go_sem,↓reduceIte]
   refine hK _ ?_
   refine aB (aC (Γ:=bC [(59,.pure true aIw)]) [2,6,7,22,23] (aH ok33 aO) rfl rfl rfl (fun K hK=>?_))
   simp(failIfUnchanged:=false) (disch:=omega) only[Tryd.f47,go_sem,↓reduceIte,hs,hn0,hnl,hfl]
   refine hK _ ?_
   refine bU (aB (aW [2,6,7,22,23] rfl rfl rfl fun K hK=>?_))
   simp(failIfUnchanged:=false) (disch:=omega) only[Tryd.f47,go_sem,↓reduceIte,hsu]
   refine hK _ ?_
   refine bT ?_
   have hfs:fl (iR seed 0) (k+1)=fl (iR seed 0) k++iR seed 0 k:=rfl
   refine⟨⟨k+1,c+1+2+5,_⟩,⟨by simp only;omega,by simp only;omega,by simp only;omega⟩,by simp only;omega,⟨fun _=> .inr rfl,fun j o h=>?_,U3 _⟩⟩
   simp only at h
   exact bS (by simp(failIfUnchanged:=false) (disch:=omega) only[aV,↓reduceIte,eq_self,hfs]) (bS (by simp(disch:=omega) only[aV,kE,bY,↓reduceIte,eq_self]) (bS (by simp(disch:=omega) only[aV,kE,bY,↓reduceIte,eq_self]) (cB))) j o h
  refine aI rfl (bF 0 rfl rfl (aY (aZ (bE (aB (aA rfl (aTu rfl (aB (aA rfl (aR 2 rfl rfl ?_))))))))))
  obtain rfl:k=2^ht:=by omega
  rw[aGv seed ht]
  refine aDn T 1 (c8 seed) [] true (by simp(failIfUnchanged:=false) (disch:=omega) only[aV,bY,↓reduceIte,eq_self]) (by omega) ?_
  refine fF [6,7] ?_
  simp(failIfUnchanged:=false) only[iB,fU,eB,↓reduceIte,Nat.reduceEqDiff]
  refine bR (fun p:KIV=> {fr:=[(6,.op T 0),(7,.os p.id 0 (2^(ht-p.k)) 8 true)],hp:=upd (upd (upd (fun _=>none) T (.cells (c8 seed++[.os p.iv 0 p.k 1 true]) true)) p.iv (.cells (lvS seed ht p.k) true)) p.id (.cells (c8 (mO seed ht p.k)) true),nx:=0,cx:=p.c}) (fun p=>p.k≤ht∧T<p.id∧T<p.iv∧p.id≠p.iv∧p.id<p.c∧p.iv<p.c) (fun p=>ht-p.k) rfl ⟨⟨0,id,c+1,_⟩,⟨Nat.zero_le _,by simp only;omega,by simp only;omega,by simp only;omega,by simp only;omega,by simp only;omega⟩,⟨fun _=> .inr rfl,bS (by simp(failIfUnchanged:=false) (disch:=omega) only[aV,bY,↓reduceIte,eq_self]) (bS (by simp(disch:=omega) only[aV,bY,↓reduceIte,eq_self,lvS]) (bS (by simp(disch:=omega) only[aV,↓reduceIte,eq_self]) cB)),U3 _⟩⟩ ?_
  rintro⟨j,id2,iv,c2⟩ ⟨hj,hid2,hiv,hne,hc2,hc3⟩ n0
  simp only at hj hid2 hiv hne hc2 hc3⊢
  have hpw:=sE (ht-j) (by omega)
  have hll:=qE seed ht j
  have hvs:=bLc seed ht j
  have hvl:=nE seed ht j
  have hb1:=aUl seed hs
  have hb2:=bFr seed hs
  have hb3:=bSx seed hs
  obtain⟨N,hN⟩: ∃N,2^(ht-j)=N:=⟨_,rfl⟩
  rw[hN]at hpw hll hvs⊢
  have htk:List.take (N*8) (mO seed ht j)=mO seed ht j:=List.take_of_length_le (by omega)
  refine aR 3 rfl rfl (aA rfl (aW [6,7] rfl rfl rfl fun K hK=>?_))
  simp(failIfUnchanged:=false) (disch:=omega) only[Tryd.f47,go_sem,↓reduceIte,hb1,hb2,hb3,hll,hvs,hvl,htk,J8]
  refine hK _ ?_
  refine aB (aA rfl (aA rfl (aW [45,6,7] rfl rfl rfl fun K hK=>?_)))
  simp(failIfUnchanged:=false) (disch:=omega) only[Tryd.f47,go_sem,↓reduceIte]
  refine hK _ ?_
  refine aB (gP (.tmp 45) rfl rfl rfl (fun h=>?_) (fun h=>?_))
  ·refine aI rfl ?_
   obtain rfl:j=ht:=by
    rcases Nat.eq_zero_or_pos (ht-j)with h0|h0
    ·omega
    have h2:2^1≤2^(ht-j):=Nat.pow_le_pow_right (by omega) h0
    omega
   have htv:List.take (j+1) (lvS seed j (j+1))=lvS seed j (j+1):=List.take_of_length_le (by rw[nE];exact U3 _)
   refine bF 2 rfl rfl (aY (mW (aZ (bE ?_)) rfl))
   refine aB (aA rfl (aW [4,5] rfl rfl rfl fun K hK=>?_))
   simp(failIfUnchanged:=false) (disch:=omega) only[Tryd.f47,go_sem,↓reduceIte]
   refine hK _ ?_
   refine aB (aS rfl (qT ?_))
   simp(failIfUnchanged:=false) (disch:=omega) only[cN,bV,bK,bQ,Tryd.f47,go_sem,↓reduceIte,bMt,bYx,aGn,Bool.and_false,cFv,trC,htv]
  refine aI rfl ?_
  obtain⟨M,hM⟩: ∃M,2^(ht-(j+1))=M:=⟨_,rfl⟩
  have hjt:j+1≤ht:=by
   rcases Nat.eq_zero_or_pos (ht-j)with h0|h0
   ·rw[h0]at hN;simp at hN;omega
   omega
  have hNM:N=2*M:=by
   rw[←hN,←hM,show ht-j=ht-(j+1)+1 by omega,Nat.pow_succ];omega
  subst hNM
  refine aQ rfl (aB (aA rfl (aW [6,7,9] rfl rfl rfl fun K hK=>?_)))
  simp(failIfUnchanged:=false) (disch:=omega) only[Tryd.f47,go_sem,↓reduceIte]
  refine hK _ ?_
  refine aB (aA rfl (aA rfl (aW [6,7,9,10] rfl rfl rfl fun K hK=>?_)))
  simp(failIfUnchanged:=false) (disch:=omega) only[Tryd.f47,go_sem,↓reduceIte]
  refine hK _ ?_
  refine aB (iE 9 8 rfl (fF [6,7,9,10] ?_))
  simp(failIfUnchanged:=false) only[iB,fU,eB,↓reduceIte,Nat.reduceEqDiff]
  refine aR 4 rfl rfl ?_
  refine bR (fun p:KIC=> {fr:=[(6,.op T 0),(7,.os id2 0 (2*M) 8 true),(9,.os p.id 0 p.k 8 true),(10,.i (2*(p.k:Int)))],hp:=upd (upd (upd (upd (fun _=>none) T (.cells (c8 seed++[.os (c2+7) 0 (j+1) 1 true]) true)) (c2+7) (.cells (lvS seed ht (j+1)) true)) id2 (.cells (c8 (mO seed ht j)) false)) p.id (.cells (c8 (fl (iR seed (j+1)) p.k)) true),nx:=0,cx:=p.c}) (fun p=>p.k≤M∧c2+7<p.id∧p.id<p.c) (fun p=>M-p.k) rfl ⟨⟨0,_,_⟩,⟨Nat.zero_le _,by simp only;omega,by simp only;omega⟩,⟨fun _=> .inr rfl,bS (by simp(failIfUnchanged:=false) (disch:=omega) only[aV,↓reduceIte,eq_self,bPj]) (bS (by simp(disch:=omega) only[aV,kE,bY,↓reduceIte,eq_self]) (bS (by simp(disch:=omega) only[aV,bY,↓reduceIte,eq_self]) (bS (by simp(disch:=omega) only[aV,bY,↓reduceIte,eq_self]) cB))),U3 _⟩⟩ ?_
  rintro⟨k,id3,c3⟩ ⟨hk3,hid3,hc4⟩ n0
  simp only at hk3 hid3 hc4⊢
  refine aA rfl (aA rfl (aW [49,6,7,9,10] rfl rfl rfl fun K hK=>?_))
  simp(failIfUnchanged:=false) (disch:=omega) only[Tryd.f47,go_sem,↓reduceIte]
  refine hK _ ?_
  refine aB (gP (.tmp 49) rfl rfl rfl (fun h=>?_) (fun h=>?_))
  ·refine aI rfl ?_
   have hfl:=nA _ 8 (iW seed (j+1)) k
   have e1:(2*(k:Int)).toNat=2*k:=by omega
   have e2:(2*(k:Int)+1).toNat=2*k+1:=by omega
   have ha1:=aCn seed ht j (2*k) (by omega)
   have ha2:=aCn seed ht j (2*k+1) (by omega)
   have hn1:=iW seed j (2*k)
   have hn2:=iW seed j (2*k+1)
   have hn3:=aWg seed j k
   have hn4:=iW seed (j+1) k
   refine aQ rfl (aB (aA rfl (aR 5 rfl rfl (bB (Γ:=bC [(60,.pure true nD)]) (fun k=>if k=10 then 0 else if k=12 then 4098 else 2) [6,7,9,10] bZ (aH cKp aO) rfl rfl rfl (by kernel_rfl) (fun K hK=>?_)))))
   simp(failIfUnchanged:=false) (disch:=omega) only[Tryd.f47,go_sem,↓reduceIte,e1,e2,ha1,ha2,hn1,hn2,hn3,hn4,hfl,hll,List.length_drop]
   refine hK _ ?_
   refine bU (aB (aW [6,7,9,10] rfl rfl rfl fun K hK=>?_))
   simp(failIfUnchanged:=false) (disch:=omega) only[Tryd.f47,go_sem,↓reduceIte]
   refine hK _ ?_
   refine bT ?_
   have hfs:fl (iR seed (j+1)) (k+1)=fl (iR seed (j+1)) k++iR seed (j+1) k:=rfl
   refine⟨⟨k+1,c3+4+12,_⟩,⟨by simp only;omega,by simp only;omega,by simp only;omega⟩,by simp only;omega,⟨fun _=> .inr ?_,fun j o h=>?_,U3 _⟩⟩
   ·simp only[show(2*((k+1:Nat):Int))=2*(k:Int)+2 by omega]
   simp only at h
   exact bS (by simp(failIfUnchanged:=false) (disch:=omega) only[aV,↓reduceIte,eq_self,hfs]) (bS (by simp(disch:=omega) only[aV,kE,bY,↓reduceIte,eq_self]) (bS (by simp(disch:=omega) only[aV,kE,bY,↓reduceIte,eq_self]) (bS (by simp(disch:=omega) only[aV,kE,bY,↓reduceIte,eq_self]) (cB)))) j o h
  refine aI rfl (bF 4 rfl rfl (aY (aZ (bE (aB ?_)))))
  obtain rfl:k=M:=by omega
  refine aW [6,7] rfl rfl rfl fun K hK=>?_
  simp(failIfUnchanged:=false) (disch:=omega) only[Tryd.f47,go_sem,↓reduceIte]
  refine hK _ ?_
  refine bU (bT ?_)
  have hlv:mO seed ht (j+1)=fl (iR seed (j+1)) k:=by rw[mO,hM]
  refine⟨⟨j+1,id3,c2+7,_⟩,⟨by simp only;omega,by simp only;omega,by simp only;omega,by simp only;omega,by simp only;omega,by simp only;omega⟩,by simp only;omega,⟨fun _=> .inr ?_,fun j o h=>?_,U3 _⟩⟩
  ·simp only[hM]
  simp only at h
  exact bS (by simp(failIfUnchanged:=false) (disch:=omega) only[aV,↓reduceIte,eq_self,hlv]) (bS (by simp(disch:=omega) only[aV,bY,↓reduceIte,eq_self]) (bS (by simp(disch:=omega) only[aV,bY,↓reduceIte,eq_self]) (cB))) j o h
 cases hg
theorem ok51:bX Tryd.prog GLh 47 (.pure false bKg):=⟨⟨_,Tryd.func47,rfl,rfl⟩,cLn⟩
end Go.AX

namespace Go.AX
open Go Go.Proofs
def aCe:List AV→Option AV
 |[.agg xs,.i h]=>aK (un8 xs) fun s=>aN (s.length=8∧0≤h∧h≤10) (some (.sl (h.toNat+1) (lvS s h.toNat (h.toNat+1))))
 |_=>none
theorem bAb (xs:List AV) (h:Int):aCe [.agg xs,.i h]=aK (un8 xs) fun s=>aN (s.length=8∧0≤h∧h≤10) (some (.sl (h.toNat+1) (lvS s h.toNat (h.toNat+1)))):=(rfl)
attribute [go_sem] bAb
theorem bWi (k:Nat):BitVec.ofInt 32 (k:Int)=BitVec.ofNat 32 k:=by
 apply BitVec.eq_of_toNat_eq;rw[BitVec.toNat_ofInt,BitVec.toNat_ofNat];omega
theorem shI (h:Nat) (hh:h≤10):W (1*2^min h 64)=((2^h:Nat):Int):=by
 have e: ∀h:Fin 11,W (1*2^min h.1 64)=((2^h.1:Nat):Int):=by decide
 exact e ⟨h,by omega⟩
theorem bXp (seed:List B8) (h:Nat):[AV.sl (2^h) (c8 (mO seed h 0))]=lvS seed h 1:=rfl
set_option maxHeartbeats 4000000 in
theorem bJs:cL Tryd.prog GLh 71 aCe:=by
 refine cC Tryd.func71 (aT rfl) ?_
 intro args r hg
 unfold aCe at hg
 split at hg
 ·rename_i xs h0
  replace hg:=aJ hg;obtain⟨seed,hb,hg⟩:=hg
  replace hg:=aP hg;obtain⟨⟨hs,hh0,hh⟩,hg⟩:=hg
  obtain rfl:=J0 hg
  have:=iX _ hb;subst this
  obtain⟨ht,rfl⟩:=Int.eq_ofNat_of_zero_le hh0
  simp(failIfUnchanged:=false) only[U2]at*
  clear hg hb hh0
  have hh:ht≤10:=by omega
  refine⟨J1 rfl,fun nx=>?_⟩
  have hp:=sE ht hh
  refine aA rfl (aW [1,2] rfl rfl rfl fun K hK=>?_)
  simp(failIfUnchanged:=false) (disch:=omega) only[Tryd.f71,go_sem,↓reduceIte]
  refine hK _ ?_
  refine aB (aA rfl (aW [1,2,5] rfl rfl rfl fun K hK=>?_))
  simp(failIfUnchanged:=false) (disch:=omega) only[Tryd.f71,go_sem,↓reduceIte]
  refine hK _ ?_
  refine aB (aA rfl (aA rfl (aW [1,2,5,6] rfl rfl rfl fun K hK=>?_)))
  simp(failIfUnchanged:=false) (disch:=omega) only[Tryd.f71,go_sem,↓reduceIte]
  refine hK _ ?_
  refine aB (iE 5 8 rfl (fF [1,2,5,6] ?_))
  simp(failIfUnchanged:=false) only[iB,fU,eB,↓reduceIte,Nat.reduceEqDiff]
  refine aR 0 rfl rfl ?_
  refine bR (fun p:KIC=> {fr:=[(1,.i ht),(2,.op nx 0),(5,.os p.id 0 p.k 8 true),(6,.i p.k)],hp:=upd (upd (fun _=>none) nx (.cells (c8 seed) true)) p.id (.cells (c8 (fl (iR seed 0) p.k)) true),nx:=0,cx:=p.c}) (fun p=>p.k≤2^ht∧nx<p.id∧p.id<p.c) (fun p=>2^ht-p.k) rfl ⟨⟨0,_,_⟩,⟨Nat.zero_le _,by simp only;omega,by simp only;omega⟩,bD rfl rfl (U3 _)⟩ ?_
  rintro⟨k,id,c⟩ ⟨hk,hid,hc⟩ n0
  simp only at hk hid hc⊢
  have hsh:=shI ht hh
  refine aA rfl (aA rfl (aW [13,1,2,5,6] rfl rfl rfl fun K hK=>?_))
  simp(failIfUnchanged:=false) (disch:=omega) only[Tryd.f71,go_sem,↓reduceIte,hsh]
  refine hK _ ?_
  refine aB (gP (.tmp 13) rfl rfl rfl (fun h=>?_) (fun h=>?_))
  ·refine aI rfl ?_
   have hfl:=nA _ 8 (iW seed 0) k
   have hn0:=cFp seed k
   have hnl:=iW seed 0 k
   have ho:=bWi k
   refine aQ rfl (aB (aA rfl (aR 1 rfl rfl (aC (Γ:=bC [(89,.pure true aIw)]) [1,2,5,6] (aH ok34 aO) rfl rfl rfl (fun K hK=>?_)))))
   simp(failIfUnchanged:=false) (disch:=omega) only[Tryd.f71,go_sem,↓reduceIte,hs,hn0,hnl,hfl,ho]
   refine hK _ ?_
   refine bU (aB (aW [1,2,5,6] rfl rfl rfl fun K hK=>?_))
   simp(failIfUnchanged:=false) (disch:=omega) only[Tryd.f71,go_sem,↓reduceIte]
   refine hK _ ?_
   refine bT ?_
   have hfs:fl (iR seed 0) (k+1)=fl (iR seed 0) k++iR seed 0 k:=rfl
   refine⟨⟨k+1,c+4+6,_⟩,⟨by simp only;omega,by simp only;omega,by simp only;omega⟩,by simp only;omega,⟨fun _=> .inr rfl,fun j o h=>?_,U3 _⟩⟩
   simp only at h
   exact bS (by simp(failIfUnchanged:=false) (disch:=omega) only[aV,↓reduceIte,eq_self,hfs]) (bS (by simp(disch:=omega) only[aV,kE,bY,↓reduceIte,eq_self]) (cB)) j o h
  refine aI rfl (bF 0 rfl rfl (aY (aZ (bE (aB (aA rfl ?_))))))
  obtain rfl:k=2^ht:=by omega
  rw[aGv seed ht]
  have hll0:=qE seed ht 0
  rw[Nat.sub_zero]at hll0
  refine aW [5,7] rfl rfl rfl fun K hK=>?_
  simp(failIfUnchanged:=false) (disch:=omega) only[Tryd.f71,go_sem,↓reduceIte]
  refine hK _ ?_
  refine aB ?_
  have htk0:List.take (2^ht*8) (mO seed ht 0)=mO seed ht 0:=List.take_of_length_le (by omega)
  refine cDw (c+4+1) [AV.os id 0 (2^ht) 8 true] (lvS seed ht 1) (by simp(failIfUnchanged:=false) (disch:=omega) only[aV,↓reduceIte])
   (by
    simp(failIfUnchanged:=false) (disch:=omega) only[uU,gH,List.any_cons,wG,Bool.true_or,Bool.not_true,Bool.false_eq_true,xX,aV,bY,↓reduceIte,aX,aSp,iM,hll0]
    rw[cU _ (by omega),J9,eEg,htk0,bXp])
   (by simp(failIfUnchanged:=false) (disch:=omega) only[aV,bY,↓reduceIte]) ?_
  refine aA rfl (aR 2 rfl rfl ?_)
  refine bR (fun p:KIV=> {fr:=[(5,.os p.id 0 (2^(ht-p.k)) 8 true),(7,.os p.iv 0 (p.k+1) 1 true)],hp:=upd (upd (fun _=>none) p.iv (.cells (lvS seed ht (p.k+1)) true)) p.id (.cells (c8 (mO seed ht p.k)) false),nx:=0,cx:=p.c}) (fun p=>p.k≤ht∧p.id≠p.iv∧p.id<p.c∧p.iv<p.c) (fun p=>ht-p.k) rfl ⟨⟨0,id,c+4+1,_⟩,⟨Nat.zero_le _,by simp only;omega,by simp only;omega,by simp only;omega⟩,⟨fun _=> .inr rfl,bS (by simp(failIfUnchanged:=false) (disch:=omega) only[aV,bY,↓reduceIte,eq_self]) (bS (by simp(disch:=omega) only[aV,↓reduceIte,eq_self]) cB),U3 _⟩⟩ ?_
  rintro⟨j,id2,iv,c2⟩ ⟨hj,hne,hc2,hc3⟩ n0
  simp only at hj hne hc2 hc3⊢
  have hpw:=sE (ht-j) (by omega)
  have hll:=qE seed ht j
  have hvl:=nE seed ht (j+1)
  obtain⟨N,hN⟩: ∃N,2^(ht-j)=N:=⟨_,rfl⟩
  rw[hN]at hpw hll⊢
  refine aA rfl (aA rfl (aW [27,5,7] rfl rfl rfl fun K hK=>?_))
  simp(failIfUnchanged:=false) (disch:=omega) only[Tryd.f71,go_sem,↓reduceIte]
  refine hK _ ?_
  refine aB (gP (.tmp 27) rfl rfl rfl (fun h=>?_) (fun h=>?_))
  ·refine aI rfl ?_
   obtain⟨M,hM⟩: ∃M,2^(ht-(j+1))=M:=⟨_,rfl⟩
   have hjt:j+1≤ht:=by
    rcases Nat.eq_zero_or_pos (ht-j)with h0|h0
    ·rw[h0]at hN;simp at hN;omega
    omega
   have hNM:N=2*M:=by
    rw[←hN,←hM,show ht-j=ht-(j+1)+1 by omega,Nat.pow_succ];omega
   subst hNM
   have hll1:=qE seed ht (j+1)
   rw[hM]at hll1
   have hvs:lvS seed ht (j+1)++[.sl M (c8 (mO seed ht (j+1)))]=lvS seed ht (j+2):=by rw[←hM];rfl
   have hlv:mO seed ht (j+1)=fl (iR seed (j+1)) M:=by rw[mO,hM]
   refine aQ rfl (aB (aR 3 rfl rfl (aA rfl (aW [5,7,8] rfl rfl rfl fun K hK=>?_))))
   simp(failIfUnchanged:=false) (disch:=omega) only[Tryd.f71,go_sem,↓reduceIte]
   refine hK _ ?_
   refine aB (aA rfl (aA rfl (aW [5,7,8,9] rfl rfl rfl fun K hK=>?_)))
   simp(failIfUnchanged:=false) (disch:=omega) only[Tryd.f71,go_sem,↓reduceIte]
   refine hK _ ?_
   refine aB (iE 8 8 rfl (fF [5,7,8,9] ?_))
   simp(failIfUnchanged:=false) only[iB,fU,eB,↓reduceIte,Nat.reduceEqDiff]
   refine aR 4 rfl rfl ?_
   refine bR (fun p:KIC=> {fr:=[(5,.os id2 0 (2*M) 8 true),(7,.os iv 0 (j+1) 1 true),(8,.os p.id 0 p.k 8 true),(9,.i (2*(p.k:Int)))],hp:=upd (upd (upd (fun _=>none) iv (.cells (lvS seed ht (j+1)) true)) id2 (.cells (c8 (mO seed ht j)) false)) p.id (.cells (c8 (fl (iR seed (j+1)) p.k)) true),nx:=0,cx:=p.c}) (fun p=>p.k≤M∧c2≤p.id∧p.id<p.c) (fun p=>M-p.k) rfl ⟨⟨0,_,_⟩,⟨Nat.zero_le _,by simp only;omega,by simp only;omega⟩,⟨fun _=> .inr rfl,bS (by simp(failIfUnchanged:=false) (disch:=omega) only[aV,↓reduceIte,eq_self,bPj]) (bS (by simp(disch:=omega) only[aV,bY,↓reduceIte,eq_self]) (bS (by simp(disch:=omega) only[aV,bY,↓reduceIte,eq_self]) cB)),U3 _⟩⟩ ?_
   rintro⟨k,id3,c3⟩ ⟨hk3,hid3,hc4⟩ n0
   simp only at hk3 hid3 hc4⊢
   refine aA rfl (aA rfl (aW [31,5,7,8,9] rfl rfl rfl fun K hK=>?_))
   simp(failIfUnchanged:=false) (disch:=omega) only[Tryd.f71,go_sem,↓reduceIte]
   refine hK _ ?_
   refine aB (gP (.tmp 31) rfl rfl rfl (fun h=>?_) (fun h=>?_))
   ·refine aI rfl ?_
    have hfl:=nA _ 8 (iW seed (j+1)) k
    have e1:(2*(k:Int)).toNat=2*k:=by omega
    have e2:(2*(k:Int)+1).toNat=2*k+1:=by omega
    have ha1:=aCn seed ht j (2*k) (by omega)
    have ha2:=aCn seed ht j (2*k+1) (by omega)
    have hn1:=iW seed j (2*k)
    have hn2:=iW seed j (2*k+1)
    have hn3:=aWg seed j k
    have hn4:=iW seed (j+1) k
    refine aQ rfl (aB (aA rfl (aR 5 rfl rfl (bB (Γ:=bC [(34,.pure true nD)]) (fun k=>if k=10 then 0 else if k=12 then 4098 else 2) [5,7,8,9] bZ (aH cKo aO) rfl rfl rfl (by kernel_rfl) (fun K hK=>?_)))))
    simp(failIfUnchanged:=false) (disch:=omega) only[Tryd.f71,go_sem,↓reduceIte,e1,e2,ha1,ha2,hn1,hn2,hn3,hn4,hfl,hll,List.length_drop]
    refine hK _ ?_
    refine bU (aB (aW [5,7,8,9] rfl rfl rfl fun K hK=>?_))
    simp(failIfUnchanged:=false) (disch:=omega) only[Tryd.f71,go_sem,↓reduceIte]
    refine hK _ ?_
    refine bT ?_
    have hfs:fl (iR seed (j+1)) (k+1)=fl (iR seed (j+1)) k++iR seed (j+1) k:=rfl
    refine⟨⟨k+1,c3+4+12,_⟩,⟨by simp only;omega,by simp only;omega,by simp only;omega⟩,by simp only;omega,⟨fun _=> .inr ?_,fun j o h=>?_,U3 _⟩⟩
    ·simp only[show(2*((k+1:Nat):Int))=2*(k:Int)+2 by omega]
    simp only at h
    exact bS (by simp(failIfUnchanged:=false) (disch:=omega) only[aV,↓reduceIte,eq_self,hfs]) (bS (by simp(disch:=omega) only[aV,kE,bY,↓reduceIte,eq_self]) (bS (by simp(disch:=omega) only[aV,kE,bY,↓reduceIte,eq_self]) (cB))) j o h
   refine aI rfl (bF 4 rfl rfl (aY (aZ (bE (aB (aA rfl ?_))))))
   obtain rfl:k=M:=by omega
   rw[←hlv]
   have htk:List.take (k*8) (mO seed ht (j+1))=mO seed ht (j+1):=List.take_of_length_le (by omega)
   refine aW [7,8] rfl rfl rfl fun K hK=>?_
   simp(failIfUnchanged:=false) (disch:=omega) only[Tryd.f71,go_sem,↓reduceIte,hll1,hvs,hvl,htk]
   refine hK _ ?_
   refine aB (aW [5,7] rfl rfl rfl fun K hK=>?_)
   simp(failIfUnchanged:=false) (disch:=omega) only[Tryd.f71,go_sem,↓reduceIte]
   refine hK _ ?_
   refine bU (bT ?_)
   trace_state
   refine⟨⟨j+1,id3,c3+4+3,_⟩,⟨by simp only;omega,by simp only;omega,by simp only;omega,by simp only;omega⟩,by simp only;omega,⟨fun _=> .inr ?_,fun j o h=>?_,U3 _⟩⟩
   ·simp only[hM]
   simp only at h
   exact bS (by simp(failIfUnchanged:=false) (disch:=omega) only[aV,kE,bY,↓reduceIte,eq_self]) (bS (by simp(disch:=omega) only[aV,↓reduceIte,eq_self]) (cB)) j o h
  refine aI rfl ?_
  obtain rfl:j=ht:=by
   rcases Nat.eq_zero_or_pos (ht-j)with h0|h0
   ·omega
   have h2:2^1≤2^(ht-j):=Nat.pow_le_pow_right (by omega) h0
   omega
  refine bF 2 rfl rfl (aY (aZ (bE (aB (aA rfl ?_)))))
  have htv:List.take (j+1) (lvS seed j (j+1))=lvS seed j (j+1):=List.take_of_length_le (by omega)
  refine aW [4] rfl rfl rfl fun K hK=>?_
  simp(failIfUnchanged:=false) (disch:=omega) only[Tryd.f71,go_sem,↓reduceIte]
  refine hK _ ?_
  refine aB (aS rfl ?_)
  simp(failIfUnchanged:=false) (disch:=omega) only[cN,bV,bK,bQ,Tryd.f71,go_sem,↓reduceIte,htv,hvl]
 cases hg
theorem ok59:bX Tryd.prog GLh 71 (.pure false aCe):=⟨⟨_,Tryd.func71,rfl,rfl⟩,bJs⟩
def xM:List AV→Option AV
 |[.agg xs,.i h]=>aK (un8 xs) fun s=>aN (s.length=8∧0≤h∧h≤10) (some (.agg (c8 (iR s h.toNat 0))))
 |_=>none
theorem aZn (xs:List AV) (h:Int):xM [.agg xs,.i h]=aK (un8 xs) fun s=>aN (s.length=8∧0≤h∧h≤10) (some (.agg (c8 (iR s h.toNat 0)))):=(rfl)
attribute [go_sem] aZn
set_option maxHeartbeats 4000000 in
theorem bHm:cL Tryd.prog GLh 57 xM:=by
 refine cC Tryd.func57 (aT rfl) ?_
 intro args r hg
 unfold xM at hg
 split at hg
 ·rename_i xs h0
  replace hg:=aJ hg;obtain⟨seed,hb,hg⟩:=hg
  replace hg:=aP hg;obtain⟨⟨hs,hh0,hh⟩,hg⟩:=hg
  obtain rfl:=J0 hg
  have:=iX _ hb;subst this
  obtain⟨h,rfl⟩:=Int.eq_ofNat_of_zero_le hh0
  simp(failIfUnchanged:=false) only[U2]at*
  clear hg hb hh0
  refine⟨J1 rfl,fun nx=>?_⟩
  have hnl:=iW seed h 0
  have hlt:=aNx seed h
  have e1:(((h+1:Nat):Int)-1).toNat=h:=by omega
  refine aA rfl (aW [1,2,4] rfl rfl rfl fun K hK=>?_)
  simp(failIfUnchanged:=false) (disch:=omega) only[Tryd.f57,go_sem,↓reduceIte]
  refine hK _ ?_
  refine aB (aA rfl (aC (Γ:=bC [(71,.pure false aCe)]) [4,5] (aH ok59 aO) rfl rfl rfl (fun K hK=>?_)))
  simp(failIfUnchanged:=false) (disch:=omega) only[Tryd.f57,go_sem,↓reduceIte,hs,U2]
  refine hK _ ?_
  refine aB (aA rfl (aW [4] rfl rfl rfl fun K hK=>?_))
  simp(failIfUnchanged:=false) (disch:=omega) only[Tryd.f57,go_sem,↓reduceIte,hlt,e1,Nat.sub_self,Nat.pow_zero,Int.cast_ofNat_Int]
  refine hK _ ?_
  refine aB (aS rfl ?_)
  simp(failIfUnchanged:=false) (disch:=omega) only[cN,bV,bK,bQ,Tryd.f57,go_sem,↓reduceIte,ldV,kQ,hnl]
 cases hg
theorem cWo:bX Tryd.prog GLh 57 (.pure true xM):=⟨⟨_,Tryd.func57,rfl,rfl⟩,bHm⟩
end Go.AX

namespace Go.AX
open Go Go.Proofs
def sib (l j:Nat):Nat:=(l>>>j)^^^1
def zM (seed:List B8) (l j:Nat):List B8:=iR seed j (sib l j)
def lK (seed:List B8) (h:Nat) (leaf:W32) (m:List B8):List B8:=w4 leaf++lM seed leaf (lQ m)++fl (zM seed leaf.toNat) h
theorem qM (seed:List B8) (h:Nat) (leaf:W32) (m:List B8):(lK seed h leaf m).length=516+8*h:=by
 rw[lK,List.length_append,List.length_append,lX,nA (zM seed leaf.toNat) 8 (fun j=>iW seed j _) h];rfl
theorem cHr (l h j:Nat) (hl:l<2^h) (hj:j<h):sib l j<2^(h-j):=by
 unfold sib
 apply Nat.xor_lt_two_pow
 ·rw[Nat.shiftRight_eq_div_pow]
  rw[Nat.div_lt_iff_lt_mul (Nat.pow_pos (by omega)),←Nat.pow_add,Nat.sub_add_cancel (by omega)]
  exact hl
 exact Nat.one_lt_two_pow (by omega)
theorem cTy (leaf:W32) (j:Nat):(leaf>>>j^^^1#32).toNat=sib leaf.toNat j:=by
 rw[BitVec.toNat_xor,BitVec.toNat_ushiftRight];rfl
theorem aVa (leaf:W32) (j:Nat):leaf>>>j>>>1=leaf>>>(j+1):=by rw[←BitVec.shiftRight_add]
theorem aWw (leaf:W32) (h:Nat) (hh:h≤10):(BitVec.ofNat 32 (2^h)≤leaf)= ¬(leaf.toNat<2^h):=by
 have:=sE h hh
 rw[BitVec.le_def,BitVec.toNat_ofNat,Nat.mod_eq_of_lt (by omega),Nat.not_lt]
def aAt (seed:List B8) (h:Nat) (leaf:W32) (m:List B8):AV:=if leaf.toNat<2^h then .tup [.sl (516+8*h) (c8 (lK seed h leaf m)),.i 0]else .tup [.sl 0 [],.i 70]
theorem aLr (seed:List B8) (h:Nat) (leaf:W32) (m:List B8) (hl:leaf.toNat<2^h):aAt seed h leaf m=.tup [.sl (516+8*h) (c8 (lK seed h leaf m)),.i 0]:=J4 hl
theorem bFp (seed:List B8) (h:Nat) (leaf:W32) (m:List B8) (hl: ¬leaf.toNat<2^h):aAt seed h leaf m=.tup [.sl 0 [],.i 70]:=J3 hl
noncomputable def aAu:List AV→Option AV
 |[.rp ts,.w32 leaf,.sl n ys]=>aK (unT ts) fun p=>aK (un8 ys) fun m=>aN (m.length=n∧n≤900000000) (some (aAt p.1 p.2 leaf m))
 |_=>none
theorem aYm (ts ys:List AV) (leaf:W32) (n:Nat):aAu [.rp ts,.w32 leaf,.sl n ys]=aK (unT ts) fun p=>aK (un8 ys) fun m=>aN (m.length=n∧n≤900000000) (some (aAt p.1 p.2 leaf m)):=(rfl)
attribute [go_sem] aYm
theorem bLb (seed:List B8) (h n:Nat):(lvS seed h (n+1)).take n=lvS seed h n:=by
 rw[lvS,List.take_append_of_le_length (by rw[nE];exact U3 _),List.take_of_length_le (by rw[nE];exact U3 _)]
theorem bSn (leaf:W32) (l:List B8):AV.w8 ((leaf>>>24).setWidth 8)::.w8 ((leaf>>>16).setWidth 8)::.w8 ((leaf>>>8).setWidth 8)::.w8 (leaf.setWidth 8)::c8 l=c8 (w4 leaf++l):=rfl
set_option maxHeartbeats 4000000 in
theorem bFo:cL Tryd.prog GLh 31 aAu:=by
 refine cC Tryd.func31 (aT rfl) ?_
 intro args r hg
 unfold aAu at hg
 split at hg
 ·rename_i ts leaf n ys
  replace hg:=aJ hg;obtain⟨⟨seed,ht⟩,hb,hg⟩:=hg
  replace hg:=aJ hg;obtain⟨m,hb2,hg⟩:=hg
  replace hg:=aP hg;obtain⟨⟨hm,hbig⟩,hg⟩:=hg
  obtain rfl:=J0 hg
  obtain⟨hs,hh,rfl⟩:=aIa hb
  simp only at hs hh
  have:=iX _ hb2;subst this
  subst hm
  clear hg hb hb2
  refine⟨J1 rfl,fun nx=>?_⟩
  have hp:=sE ht hh
  have hge:=aWw leaf ht hh
  refine aA rfl (aW [0,1,2] rfl rfl rfl fun K hK=>?_)
  simp(failIfUnchanged:=false) (disch:=omega) only[Tryd.f31,go_sem,↓reduceIte]
  refine hK _ ?_
  refine aB (aA rfl (aA rfl (aC (Γ:=bC [(49,.pure true wD)]) [14,0,1,2] (aH ok54 aO) rfl rfl rfl (fun K hK=>?_))))
  simp(failIfUnchanged:=false) (disch:=omega) only[Tryd.f31,go_sem,↓reduceIte,hge]
  refine hK _ ?_
  refine aB ?_
  by_cases hl:leaf.toNat<2^ht
  ·have hr:=aLr seed ht leaf m hl
   refine gP (.tmp 14) rfl rfl rfl (fun h=>?_) (fun h=>?_)
   ·exact aI rfl (absurd hl h)
   refine aI rfl (aQ rfl (aB (aA rfl ?_)))
   have htt:=aAv seed ht hs
   have htl:=aUm seed ht hs
   have hsg:=lX seed leaf (lQ m)
   have hww:=bSn leaf (lM seed leaf (lQ m))
   have hwl:(w4 leaf++lM seed leaf (lQ m)).length=516:=by rw[List.length_append,hsg];rfl
   refine aC (Γ:=bC [(50,.fresh true yV)]) [0,1,8] (aH dQv aO) rfl rfl rfl (fun K hK=>?_)
   simp(failIfUnchanged:=false) (disch:=omega) only[Tryd.f31,go_sem,↓reduceIte,htt,htl,hs,hww]
   refine hK _ ?_
   refine aB ?_
   have e1:(((ht+1:Nat):Int)-1).toNat=ht:=by omega
   have hlt:=bLb seed ht ht
   refine aA rfl (aA rfl (bB (Γ:=aL) (fun _=>2) [1,8,45,46,47] bZ (aD _ _) rfl rfl rfl (by kernel_rfl) (fun K hK=>?_)))
   simp(failIfUnchanged:=false) (disch:=omega) only[Tryd.f31,go_sem,↓reduceIte,e1,J8,Nat.sub_zero,hlt]
   refine hK _ ?_
   refine aB ?_
   obtain⟨A,hA⟩: ∃A,w4 leaf++lM seed leaf (lQ m)=A:=⟨_,rfl⟩
   rw[hA]at hwl⊢
   have hvl:=nE seed ht ht
   refine aR 0 rfl rfl ?_
   refine bR (fun p:KIC=> {fr:=[(1,.w32 (leaf>>>p.k)),(8,.os p.id 0 (516+8*p.k) 1 true),(45,.sl ht (lvS seed ht ht)),(46,.i ht),(47,.i p.k)],hp:=upd (fun _=>none) p.id (.cells (c8 (A++fl (zM seed leaf.toNat) p.k)) true),nx:=0,cx:=p.c}) (fun p=>p.k≤ht∧p.id<p.c) (fun p=>ht-p.k) rfl ⟨⟨0,nx+2+4+19,_⟩,⟨Nat.zero_le _,by simp only;omega⟩,⟨fun _=> .inr (by simp only[BitVec.ushiftRight_zero];rfl),bS (by simp(failIfUnchanged:=false) (disch:=omega) only[aV,↓reduceIte,eq_self,fl,List.append_nil]) cB,U3 _⟩⟩ ?_
   rintro⟨k,id,c⟩ ⟨hk,hc⟩ n0
   simp only at hk hc⊢
   refine aA rfl (aW [48,1,8,45,46,47] rfl rfl rfl fun K hK=>?_)
   simp(failIfUnchanged:=false) (disch:=omega) only[Tryd.f31,go_sem,↓reduceIte]
   refine hK _ ?_
   refine aB (aA rfl (gP (.tmp 48) rfl rfl rfl (fun h=>?_) (fun h=>?_)))
   ·refine aI rfl ?_
    have hkh:k<ht:=by omega
    have hsb:=cHr leaf.toNat ht k hl hkh
    have hsw:=cTy leaf k
    have hat:=aCn seed ht k (sib leaf.toNat k) hsb
    have hll:=qE seed ht k
    have hfl:=nA (zM seed leaf.toNat) 8 (fun j=>iW seed j _) k
    have hsu:=aVa leaf k
    have hfs:fl (zM seed leaf.toNat) (k+1)=fl (zM seed leaf.toNat) k++iR seed k (sib leaf.toNat k):=rfl
    have hnl:=iW seed k (sib leaf.toNat k)
    obtain⟨N,hN⟩: ∃N,2^(ht-k)=N:=⟨_,rfl⟩
    obtain⟨I,hI⟩: ∃I,sib leaf.toNat k=I:=⟨_,rfl⟩
    rw[hN]at hsb hll
    rw[hI]at hsw hat hnl hsb hfs
    refine aQ rfl (aB (aA rfl (aR 1 rfl rfl (aA rfl (aW [1,8,10,45,46,47] rfl rfl rfl fun K hK=>?_)))))
    simp(failIfUnchanged:=false) (disch:=omega) only[Tryd.f31,go_sem,↓reduceIte,hN]
    refine hK _ ?_
    refine aB (aA rfl (aW [1,8,45,46,47] rfl rfl rfl fun K hK=>?_))
    simp(failIfUnchanged:=false) (disch:=omega) only[Tryd.f31,go_sem,↓reduceIte,hsw,hat,hnl,List.length_append,hwl,hfl]
    refine hK _ ?_
    refine aB (aW [1,8,45,46,47] rfl rfl rfl fun K hK=>?_)
    simp(failIfUnchanged:=false) (disch:=omega) only[Tryd.f31,go_sem,↓reduceIte,hsu]
    refine hK _ ?_
    refine bU (aB (aW [1,8,45,46,47] rfl rfl rfl fun K hK=>?_))
    simp(failIfUnchanged:=false) (disch:=omega) only[Tryd.f31,go_sem,↓reduceIte]
    refine hK _ ?_
    refine bT ?_
    refine⟨⟨k+1,c+1+3+6,_⟩,⟨by simp only;omega,by simp only;omega⟩,by simp only;omega,⟨fun _=> .inr ?_,fun j o h=>?_,U3 _⟩⟩
    ·simp only[Int.natCast_add,Int.natCast_one,show 516+8*(k+1)=516+8*k+8 by omega]
    simp only at h
    exact bS (by simp(failIfUnchanged:=false) (disch:=omega) only[aV,↓reduceIte,eq_self,hfs,List.append_assoc]) (cB) j o h
   refine aI rfl (bF 0 rfl rfl (aY (aZ (bE (aB (aA rfl ?_))))))
   obtain rfl:k=ht:=by omega
   have htl:A++fl (zM seed leaf.toNat) k=lK seed k leaf m:=by rw[←hA];rfl
   have htn:=qM seed k leaf m
   have htk:List.take (516+8*k) (lK seed k leaf m)=lK seed k leaf m:=List.take_of_length_le (by omega)
   rw[htl]
   refine aW [6,7] rfl rfl rfl fun K hK=>?_
   simp(failIfUnchanged:=false) (disch:=omega) only[Tryd.f31,go_sem,↓reduceIte]
   refine hK _ ?_
   refine aB (aS rfl ?_)
   simp(failIfUnchanged:=false) (disch:=omega) only[cN,bV,bK,bQ,Tryd.f31,go_sem,↓reduceIte,hr,htk,htn]
  have hr:=bFp seed ht leaf m hl
  refine gP (.tmp 14) rfl rfl rfl (fun h=>?_) (fun h=>?_)
  ·refine aI rfl (aA rfl (aW [6,7] rfl rfl rfl fun K hK=>?_))
   simp(failIfUnchanged:=false) (disch:=omega) only[Tryd.f31,go_sem,↓reduceIte]
   refine hK _ ?_
   refine aB (aS rfl (bI ?_))
   simp(failIfUnchanged:=false) (disch:=omega) only[cN,bV,bK,bQ,Tryd.f31,go_sem,↓reduceIte,hr]
  exact aI rfl (absurd hl h)
 cases hg
theorem ok55:bX Tryd.prog GLh 31 (.pure false aAu):=⟨⟨_,Tryd.func31,rfl,rfl⟩,bFo⟩
end Go.AX

namespace Go.AX
open Go Go.Proofs
def lL (l:List B8):W32:=(l.getD 0 0#8).setWidth 32 <<<24|||(l.getD 1 0#8).setWidth 32 <<<16|||(l.getD 2 0#8).setWidth 32 <<<8|||(l.getD 3 0#8).setWidth 32
def aWx (l:List B8):AV:=if 4≤l.length then .tup [.w32 (lL l),.b true]else .tup [.w32 0#32,.b false]
theorem aJl (l:List B8) (h:4≤l.length):aWx l=.tup [.w32 (lL l),.b true]:=J4 h
def aNz:List AV→Option AV
 |[.sl n xs]=>aK (un8 xs) fun b=>aN (b.length=n) (some (aWx b))
 |_=>none
def aDz (sig:List B8) (j:Nat):List B8:=(sig.drop (516+8*j)).take 8
def upV (sig n:List B8) (l:W32):Nat→List B8
 |0=>n
 |j+1=>if l>>>j&&&1#32=0#32 then upL (upV sig n l j) (aDz sig j)else upL (aDz sig j) (upV sig n l j)
theorem sY (sig n:List B8) (l:W32) (hn:n.length=8) (j:Nat):(upV sig n l j).length=8:=by
 cases j with
 |zero=>exact hn
 |succ j=>rw[upV];split<;>exact sZ _ _
theorem cEj (sig n:List B8) (l:W32) (j:Nat) (h:l>>>j&&&1#32=0#32):upL (upV sig n l j) (aDz sig j)=upV sig n l (j+1):=by rw[upV,J4 h]
theorem cEi (sig n:List B8) (l:W32) (j:Nat) (h: ¬l>>>j&&&1#32=0#32):upL (aDz sig j) (upV sig n l j)=upV sig n l (j+1):=by rw[upV,J3 h]
theorem aMd (sig:List B8) (j h:Nat) (hs:sig.length=516+8*h) (hj:j<h):(aDz sig j).length=8:=by rw[aDz,List.length_take,List.length_drop];omega
def okV (root:List B8) (h:Int) (sig:List B8):Prop:=root.length=8∧0≤h∧h≤10∧sig.length=516+8*h.toNat
def uE (msg sig:List B8):List B8:=nX (lQ msg) ((sig.drop 4).take 512)
open Classical in
noncomputable def aLo (root:List B8) (h:Int) (msg sig:List B8):Bool:=
 if okV root h sig∧(lL sig).toNat<2^h.toNat then decide (upV sig (uE msg sig) (lL sig) h.toNat=root)else false
theorem oI (root:List B8) (h:Int) (msg sig:List B8) (hn: ¬(okV root h sig∧(lL sig).toNat<2^h.toNat)):aLo root h msg sig=false:=J3 hn
theorem aHx (root:List B8) (h:Int) (msg sig:List B8) (hn:okV root h sig∧(lL sig).toNat<2^h.toNat):decide (upV sig (uE msg sig) (lL sig) h.toNat=root)=aLo root h msg sig:=by
 unfold aLo;rw[J4 hn]
noncomputable def aQq:List AV→Option AV
 |[.sl n xs,.i h,.sl m ys,.sl q zs]=>aK (un8 xs) fun root=>aK (un8 ys) fun msg=>aK (un8 zs) fun sig=>aN (root.length=n∧msg.length=m∧sig.length=q∧m≤900000000∧n≤900000000∧q≤900000000) (some (.b (aLo root h msg sig)))
 |_=>none
theorem bSq (n m q:Nat) (xs ys zs:List AV) (h:Int):aQq [.sl n xs,.i h,.sl m ys,.sl q zs]=aK (un8 xs) fun root=>aK (un8 ys) fun msg=>aK (un8 zs) fun sig=>aN (root.length=n∧msg.length=m∧sig.length=q∧m≤900000000∧n≤900000000∧q≤900000000) (some (.b (aLo root h msg sig))):=(rfl)
attribute [go_sem] List.getElem?_cons_zero List.getElem?_cons_succ bSq Bool.and_true Bool.true_and Bool.and_self
theorem bIy (h:Nat):1#32 <<<h=BitVec.ofNat 32 (2^h):=by
 apply BitVec.eq_of_toNat_eq
 simp[BitVec.toNat_shiftLeft,Nat.shiftLeft_eq]
set_option maxHeartbeats 4000000 in
theorem bUi:cL Tryd.prog GLh 13 aQq:=by
 refine cC Tryd.func13 (aT rfl) ?_
 intro args r hg
 unfold aQq at hg
 split at hg
 ·rename_i n xs h0 m ys q zs
  replace hg:=aJ hg;obtain⟨root,hb,hg⟩:=hg
  replace hg:=aJ hg;obtain⟨msg,hb2,hg⟩:=hg
  replace hg:=aJ hg;obtain⟨sig,hb3,hg⟩:=hg
  replace hg:=aP hg;obtain⟨⟨hn,hm,hq,hbig,hbig1,hbig2⟩,hg⟩:=hg
  obtain rfl:=J0 hg
  have:=iX _ hb;subst this
  have:=iX _ hb2;subst this
  have:=iX _ hb3;subst this
  subst hn;subst hm;subst hq
  clear hg hb hb2 hb3
  refine⟨J1 rfl,fun nx=>?_⟩
  refine aA rfl (aW [0,1,2,3] rfl rfl rfl fun K hK=>?_)
  simp(failIfUnchanged:=false) (disch:=omega) only[Tryd.f13,go_sem,↓reduceIte]
  refine hK _ ?_
  refine aB ?_
  by_cases hr8:root.length=8
  ·have hd1:decide ((root.length:Int)=8)=true:=J5 (by omega)
   by_cases hneg:h0<0
   ·have hd2:decide (h0<0)=true:=J5 hneg
    have hv:=oI root h0 msg sig (fun⟨⟨_,h2,_,_⟩,_⟩=>by omega)
    refine aA rfl (aA rfl (aW [33,0,1,2,3] rfl rfl rfl fun K hK=>?_))
    simp(failIfUnchanged:=false) (disch:=omega) only[Tryd.f13,go_sem,↓reduceIte,hd1,hd2,Bool.not_true]
    refine hK _ ?_
    refine aB (eC (.tmp 33) rfl rfl rfl (fun h=>?_) (fun h=>?_))
    ·refine aI rfl (aA rfl (aW [8] rfl rfl rfl fun K hK=>?_))
     simp(failIfUnchanged:=false) (disch:=omega) only[Tryd.f13,go_sem,↓reduceIte]
     refine hK _ ?_
     refine aB (aS rfl (bI ?_))
     simp(failIfUnchanged:=false) (disch:=omega) only[cN,bV,bK,bQ,Tryd.f13,go_sem,↓reduceIte,hv]
    refine aI rfl ?_
    cases h
   have hd2:decide (h0<0)=false:=J6 hneg
   by_cases hbh:10<h0
   ·have hd3:decide (10<h0)=true:=J5 hbh
    have hv:=oI root h0 msg sig (fun⟨⟨_,_,h3,_⟩,_⟩=>by omega)
    refine aA rfl (aA rfl (aW [33,0,1,2,3] rfl rfl rfl fun K hK=>?_))
    simp(failIfUnchanged:=false) (disch:=omega) only[Tryd.f13,go_sem,↓reduceIte,hd1,hd2,hd3,Bool.not_true]
    refine hK _ ?_
    refine aB (eC (.tmp 33) rfl rfl rfl (fun h=>?_) (fun h=>?_))
    ·refine aI rfl (aA rfl (aW [8] rfl rfl rfl fun K hK=>?_))
     simp(failIfUnchanged:=false) (disch:=omega) only[Tryd.f13,go_sem,↓reduceIte]
     refine hK _ ?_
     refine aB (aS rfl (bI ?_))
     simp(failIfUnchanged:=false) (disch:=omega) only[cN,bV,bK,bQ,Tryd.f13,go_sem,↓reduceIte,hv]
    refine aI rfl ?_
    cases h
   have hd3:decide (10<h0)=false:=J6 hbh
   obtain⟨ht,rfl⟩: ∃h:Nat,h0=(h:Int):=⟨h0.toNat,by omega⟩
   have hh:ht≤10:=by omega
   have hp:=sE ht hh
   by_cases hsl:sig.length=516+8*ht
   ·have hd4:decide ((sig.length:Int)=516+8*(ht:Int))=true:=J5 (by omega)
    have hok:okV root (ht:Int) sig:=⟨hr8,by omega,by omega,by simp only[U2];exact hsl⟩
    refine aA rfl (aA rfl (aW [33,0,1,2,3] rfl rfl rfl fun K hK=>?_))
    simp(failIfUnchanged:=false) (disch:=omega) only[Tryd.f13,go_sem,↓reduceIte,hd1,hd2,hd3,hd4,Bool.not_true]
    refine hK _ ?_
    refine aB (eC (.tmp 33) rfl rfl rfl (fun h=>?_) (fun h=>?_))
    ·refine aI rfl ?_
     cases h
    refine aI rfl ?_
    clear h hneg hbh hd1 hd2 hd3 hd4
    have hly:=aJl sig (by omega)
    have hl4:=cFw sig (by omega)
    have hlL:eK (List.take 4 sig)=lL sig:=hl4
    have h4:(List.take 4 sig).length=4:=by rw[List.length_take];omega
    refine aQ rfl (aB (aA rfl (aC (Γ:=bC [(32,.pure true bBg)]) [0,1,2,3,9] (aH cWj aO) rfl rfl rfl (fun K hK=>?_))))
    simp(failIfUnchanged:=false) (disch:=omega) only[Tryd.f13,go_sem,↓reduceIte,hlL,h4]
    refine hK _ ?_
    refine aB ?_
    have hsh:=bIy ht
    have hge:=aWw (lL sig) ht hh
    refine aA rfl (aA rfl (aW [40,0,1,2,3,9] rfl rfl rfl fun K hK=>?_))
    simp(failIfUnchanged:=false) (disch:=omega) only[Tryd.f13,go_sem,↓reduceIte,U2,hsh,hge]
    refine hK _ ?_
    refine aB ?_
    by_cases hlt:(lL sig).toNat<2^ht
    ·refine gP (.tmp 40) rfl rfl rfl (fun h=>?_) (fun h=>?_)
     ·exact aI rfl (absurd hlt h)
     refine aI rfl ?_
     clear h
     have hv:=aHx root (ht:Int) msg sig ⟨hok,by simp only[U2];exact hlt⟩
     simp(failIfUnchanged:=false) only[U2]at hv
     have h512:(List.take 512 (List.drop 4 sig)).length=512:=by rw[List.length_take,List.length_drop];omega
     have hop:=tH msg (List.take 512 (List.drop 4 sig)) h512
     have hov:nX (lQ msg) (List.take 512 (List.drop 4 sig))=uE msg sig:=rfl
     rw[hov]at hop
     have hol:(uE msg sig).length=8:=mV _ _
     refine aQ rfl (aB (aA rfl (aC (Γ:=bC [(33,.pure true iH)]) [0,1,3,9,10,11] (aH ok37 aO) rfl rfl rfl (fun K hK=>?_))))
     simp(failIfUnchanged:=false) (disch:=omega) only[Tryd.f13,go_sem,↓reduceIte,hop,h512]
     refine hK _ ?_
     refine aB (aA rfl (aA rfl (aW [0,1,3,9,10,11,12] rfl rfl rfl fun K hK=>?_)))
     simp(failIfUnchanged:=false) (disch:=omega) only[Tryd.f13,go_sem,↓reduceIte]
     refine hK _ ?_
     refine aB ?_
     generalize uE msg sig=nd at*
     refine aR 0 rfl rfl ?_
     refine bR (fun p:KIC=> {fr:=[(0,.sl root.length (c8 root)),(1,.i ht),(3,.sl sig.length (c8 sig)),(9,.w32 (lL sig)),(10,.op p.id 0),(11,.b true),(12,.i p.k)],hp:=upd (fun _=>none) p.id (.cells (c8 (upV sig nd (lL sig) p.k)) true),nx:=0,cx:=p.c}) (fun p=>p.k≤ht∧p.id<p.c) (fun p=>ht-p.k) rfl ⟨⟨0,_,_⟩,⟨Nat.zero_le _,by simp only;omega⟩,bD rfl rfl (U3 _)⟩ ?_
     rintro⟨k,id,c⟩ ⟨hk,hc⟩ n0
     simp only at hk hc⊢
     refine aA rfl (aA rfl (aW [50,0,1,3,9,10,11,12] rfl rfl rfl fun K hK=>?_))
     simp(failIfUnchanged:=false) (disch:=omega) only[Tryd.f13,go_sem,↓reduceIte]
     refine hK _ ?_
     refine aB (gP (.tmp 50) rfl rfl rfl (fun h=>?_) (fun h=>?_))
     ·refine aI rfl ?_
      have hkh:k<ht:=by omega
      have hsi:List.take 8 (List.drop (516+8*k) sig)=aDz sig k:=rfl
      have hsil:=aMd sig k ht hsl hkh
      have hul:=sY sig nd (lL sig) hol k
      have hul2:=sY sig nd (lL sig) hol (k+1)
      have e1:(516+8*(k:Int)).toNat=516+8*k:=by omega
      have e2:(516+8*(k:Int)+8).toNat=516+8*k+8:=by omega
      have e3:516+8*k+8-(516+8*k)=8:=by omega
      refine aQ rfl (aB (aA rfl (aR 1 rfl rfl (aA rfl (aW [0,1,3,9,10,11,12,13] rfl rfl rfl fun K hK=>?_)))))
      simp(failIfUnchanged:=false) (disch:=omega) only[Tryd.f13,go_sem,↓reduceIte]
      refine hK _ ?_
      refine aB (aA rfl (aW [0,1,3,9,10,11,12,14] rfl rfl rfl fun K hK=>?_))
      simp(failIfUnchanged:=false) (disch:=omega) only[Tryd.f13,go_sem,↓reduceIte,e1,e2,e3,hsi,hsil]
      refine hK _ ?_
      refine aB (aA rfl (aW [67,0,1,3,9,10,11,12,14] rfl rfl rfl fun K hK=>?_))
      simp(failIfUnchanged:=false) (disch:=omega) only[Tryd.f13,go_sem,↓reduceIte,U2]
      refine hK _ ?_
      refine aB (gP (.tmp 67) rfl rfl rfl (fun h=>?_) (fun h=>?_))
      ·refine aI rfl ?_
       have hu:=cEj sig nd (lL sig) k h
       refine aC (Γ:=bC [(34,.pure true nD)]) [0,1,3,9,10,11,12] (aH cKo aO) rfl rfl rfl (fun K hK=>?_)
       simp(failIfUnchanged:=false) (disch:=omega) only[Tryd.f13,go_sem,↓reduceIte,hul,hsil,hu]
       refine hK _ ?_
       refine bU (aB (aW [0,1,3,9,10,11,12] rfl rfl rfl fun K hK=>?_))
       simp(failIfUnchanged:=false) (disch:=omega) only[Tryd.f13,go_sem,↓reduceIte]
       refine hK _ ?_
       refine bT ?_
       refine⟨⟨k+1,id,_⟩,⟨by simp only;omega,by simp only;omega⟩,by simp only;omega,⟨fun _=> .inr (by simp only[Int.natCast_add,Int.natCast_one]),fun j o h=>?_,U3 _⟩⟩
       simp only at h
       exact bS (by simp(failIfUnchanged:=false) (disch:=omega) only[aV,↓reduceIte,eq_self]) (cB) j o h
      refine aI rfl ?_
      have hu:=cEi sig nd (lL sig) k h
      refine aC (Γ:=bC [(34,.pure true nD)]) [0,1,3,9,10,11,12] (aH cKo aO) rfl rfl rfl (fun K hK=>?_)
      simp(failIfUnchanged:=false) (disch:=omega) only[Tryd.f13,go_sem,↓reduceIte,hul,hsil,hu]
      refine hK _ ?_
      refine bU (aB (aW [0,1,3,9,10,11,12] rfl rfl rfl fun K hK=>?_))
      simp(failIfUnchanged:=false) (disch:=omega) only[Tryd.f13,go_sem,↓reduceIte]
      refine hK _ ?_
      refine bT ?_
      refine⟨⟨k+1,id,_⟩,⟨by simp only;omega,by simp only;omega⟩,by simp only;omega,⟨fun _=> .inr (by simp only[Int.natCast_add,Int.natCast_one]),fun j o h=>?_,U3 _⟩⟩
      simp only at h
      exact bS (by simp(failIfUnchanged:=false) (disch:=omega) only[aV,↓reduceIte,eq_self]) (cB) j o h
     refine aI rfl (bF 0 rfl rfl (aY (aZ (bE (aB (aA rfl ?_))))))
     obtain rfl:k=ht:=by omega
     have hul:=sY sig nd (lL sig) hol k
     refine bB (Γ:=aL) (fun _=>2) [8] bZ (aD _ _) rfl rfl rfl (by kernel_rfl) (fun K hK=>?_)
     simp(failIfUnchanged:=false) (disch:=omega) only[Tryd.f13,go_sem,↓reduceIte,hul,hr8,hv]
     refine hK _ ?_
     refine aB (aS rfl ?_)
     simp(failIfUnchanged:=false) (disch:=omega) only[cN,bV,bK,bQ,Tryd.f13,go_sem,↓reduceIte]
    have hv:=oI root (ht:Int) msg sig (fun⟨_,h5⟩=>hlt (by simp only[U2]at h5;exact h5))
    refine gP (.tmp 40) rfl rfl rfl (fun h=>?_) (fun h=>?_)
    ·refine aI rfl (aA rfl (aW [8] rfl rfl rfl fun K hK=>?_))
     simp(failIfUnchanged:=false) (disch:=omega) only[Tryd.f13,go_sem,↓reduceIte]
     refine hK _ ?_
     refine aB (aS rfl (bI ?_))
     simp(failIfUnchanged:=false) (disch:=omega) only[cN,bV,bK,bQ,Tryd.f13,go_sem,↓reduceIte,hv]
    exact aI rfl (absurd hlt h)
   have hd4:decide ((sig.length:Int)=516+8*(ht:Int))=false:=J6 (by omega)
   have hv:=oI root (ht:Int) msg sig (fun⟨⟨_,_,_,h4⟩,_⟩=>hsl (by simp only[U2]at h4;exact h4))
   refine aA rfl (aA rfl (aW [33,0,1,2,3] rfl rfl rfl fun K hK=>?_))
   simp(failIfUnchanged:=false) (disch:=omega) only[Tryd.f13,go_sem,↓reduceIte,hd1,hd2,hd3,hd4,Bool.not_true,Bool.not_false]
   refine hK _ ?_
   refine aB (eC (.tmp 33) rfl rfl rfl (fun h=>?_) (fun h=>?_))
   ·refine aI rfl (aA rfl (aW [8] rfl rfl rfl fun K hK=>?_))
    simp(failIfUnchanged:=false) (disch:=omega) only[Tryd.f13,go_sem,↓reduceIte]
    refine hK _ ?_
    refine aB (aS rfl (bI ?_))
    simp(failIfUnchanged:=false) (disch:=omega) only[cN,bV,bK,bQ,Tryd.f13,go_sem,↓reduceIte,hv]
   refine aI rfl ?_
   cases h
  have hd1:decide ((root.length:Int)=8)=false:=J6 (by omega)
  have hv:=oI root h0 msg sig (fun⟨⟨h1,_,_,_⟩,_⟩=>hr8 h1)
  refine aA rfl (aA rfl (aW [33,0,1,2,3] rfl rfl rfl fun K hK=>?_))
  simp(failIfUnchanged:=false) (disch:=omega) only[Tryd.f13,go_sem,↓reduceIte,hd1,Bool.not_false]
  refine hK _ ?_
  refine aB (eC (.tmp 33) rfl rfl rfl (fun h=>?_) (fun h=>?_))
  ·refine aI rfl (aA rfl (aW [8] rfl rfl rfl fun K hK=>?_))
   simp(failIfUnchanged:=false) (disch:=omega) only[Tryd.f13,go_sem,↓reduceIte]
   refine hK _ ?_
   refine aB (aS rfl (bI ?_))
   simp(failIfUnchanged:=false) (disch:=omega) only[cN,bV,bK,bQ,Tryd.f13,go_sem,↓reduceIte,hv]
  refine aI rfl ?_
  cases h
 cases hg
theorem eJv:bX Tryd.prog GLh 13 (.pure true aQq):=⟨⟨_,Tryd.func13,rfl,rfl⟩,bUi⟩
end Go.AX

namespace Go.AX
open Go Go.Proofs
set_option maxRecDepth 100000
theorem aSk (leaf:W32) (l:List B8):lL (w4 leaf++l)=leaf:=by
 apply BitVec.eq_of_toNat_eq
 have h:lL (w4 leaf++l)=(((w4 leaf).getD 0 0#8).setWidth 32 <<<24|||((w4 leaf).getD 1 0#8).setWidth 32 <<<16|||((w4 leaf).getD 2 0#8).setWidth 32 <<<8|||((w4 leaf).getD 3 0#8).setWidth 32:W32):=rfl
 rw[h,←dCf]
 exact bPq leaf
theorem sJ (seed:List B8) (h:Nat) (leaf:W32) (m:List B8):lL (lK seed h leaf m)=leaf:=by rw[lK,List.append_assoc];exact aSk _ _
theorem aYv (seed:List B8) (h:Nat) (leaf:W32) (m:List B8):((lK seed h leaf m).drop 4).take 512=lM seed leaf (lQ m):=by
 have h4:(w4 leaf).length=4:=rfl
 rw[lK,List.append_assoc,List.drop_append,List.drop_of_length_le (by rw[h4];exact U3 _),h4,Nat.sub_self,J9,List.nil_append,List.take_append_of_le_length (by rw[lX];exact U3 _),List.take_of_length_le (by rw[lX];exact U3 _)]
theorem zC (seed:List B8) (h:Nat) (leaf:W32) (m m2:List B8):uE m2 (lK seed h leaf m)=nX (lQ m2) (lM seed leaf (lQ m)):=by rw[uE,aYv]
theorem uP (seed:List B8) (h:Nat) (leaf:W32) (m:List B8) (j:Nat) (hj:j<h):aDz (lK seed h leaf m) j=zM seed leaf.toNat j:=by
 have hA:(w4 leaf++lM seed leaf (lQ m)).length=516:=by rw[List.length_append,lX];rfl
 rw[aDz,lK,List.drop_append,List.drop_of_length_le (by omega),List.nil_append,hA,show 516+8*j-516=8*j by omega]
 exact wL (zM seed leaf.toNat) 8 (fun j=>iW seed j _) h j hj
theorem cGb (leaf:W32) (j:Nat):(leaf>>>j&&&1#32=0#32)↔(leaf.toNat>>>j)%2=0:=by
 rw[←BitVec.toNat_inj,BitVec.toNat_and,BitVec.toNat_ushiftRight]
 show leaf.toNat>>>j&&&1=0↔_
 rw[Nat.and_one_is_mod]
theorem aLm (x:Nat) (h:x%2=0):x^^^1=x+1:=by
 apply Nat.eq_of_testBit_eq
 intro i
 rw[Nat.testBit_xor]
 cases i with
 |zero=>simp[h,show(x+1)%2=1 by omega]
 |succ i=>rw[Nat.testBit_succ,Nat.testBit_succ 1,Nat.testBit_succ (x+1),show(x+1)/2=x/2 by omega];simp
theorem bSk (x:Nat) (h: ¬x%2=0):x^^^1=x-1:=by
 have:=aLm (x-1) (by omega)
 have e:x=(x-1)^^^1:=by rw[this];omega
 conv=>lhs;rw[e]
 rw[Nat.xor_assoc,Nat.xor_self,Nat.xor_zero]
theorem bJl (x:Nat) (h: ¬x%2=0):2*(x/2)=x-1∧x-1+1=x:=by omega
theorem aFk (seed:List B8) (h:Nat) (leaf:W32) (m:List B8): ∀j,j≤h→upV (lK seed h leaf m) (lT seed leaf) leaf j=iR seed j (leaf.toNat>>>j)
 |0,_=>by
  rw[upV,Nat.shiftRight_zero,iR]
  congr 1
  rw[BitVec.ofNat_toNat,BitVec.setWidth_eq]
 |j+1,hj=>by
  have ih:=aFk seed h leaf m j (by omega)
  have hs:=uP seed h leaf m j (by omega)
  rw[upV,ih,hs,iR,zM,sib,Nat.shiftRight_succ]
  by_cases hb:leaf>>>j&&&1#32=0#32
  ·rw[J4 hb]
   have h2:=(cGb leaf j).1 hb
   rw[aLm _ h2,show 2*((leaf.toNat>>>j)/2)=leaf.toNat>>>j by omega]
  rw[J3 hb]
  have h2: ¬(leaf.toNat>>>j)%2=0:=fun e=>hb ((cGb leaf j).2 e)
  obtain⟨e1,e2⟩:=bJl _ h2
  rw[bSk _ h2,e1,e2]
theorem aNb (root seed:List B8) (h:Nat) (leaf:W32) (m:List B8) (hr:root.length=8) (hh:h≤10) (hl:leaf.toNat<2^h):okV root (h:Int) (lK seed h leaf m)∧(lL (lK seed h leaf m)).toNat<2^(h:Int).toNat:=by
 refine⟨⟨hr,by omega,by omega,?_⟩,?_⟩
 ·rw[qM,U2]
 rw[sJ,U2];exact hl
theorem cSx (seed:List B8) (h:Nat) (leaf:W32) (m:List B8) (hh:h≤10) (hl:leaf.toNat<2^h):aLo (iR seed h 0) (h:Int) m (lK seed h leaf m)=true:=by
 rw[←aHx _ _ _ _ (aNb (iR seed h 0) seed h leaf m (iW _ _ _) hh hl)]
 rw[U2,sJ,zC,aGf,aFk seed h leaf m h (U3 _)]
 apply J5
 congr 1
 rw[Nat.shiftRight_eq_div_pow]
 exact Nat.div_eq_of_lt hl
def lO:List B8:=[5#8,0#8,0#8,0#8,0#8,0#8,0#8,0#8]
theorem aFr:lO.length=8:=rfl
theorem aFs:big lO=360287970189639680:=by decide
theorem k8p0:aEd 360287970189639680 0 (fun _=>0)=13613509030940369981:=by kernel_rfl
theorem k8p1:aEd 360287970189639680 1 (fun _=>0)=879223787661787384:=by kernel_rfl
theorem k8p2:aEd 360287970189639680 2 (fun _=>0)=5694164919684500121:=by kernel_rfl
theorem k8p3:aEd 360287970189639680 3 (fun _=>0)=217742532806062200:=by kernel_rfl
theorem nb (i:Nat) (hi:i<4294967296):big (iR lO 0 i)=aEd 360287970189639680 i (fun _=>0):=by
 rw[iR,bVd lO aFr,aFs,BitVec.toNat_ofNat,Nat.mod_eq_of_lt hi]
theorem n0:big (iR lO 0 0)=13613509030940369981:=by rw[nb 0 (by omega),k8p0]
theorem n1:big (iR lO 0 1)=879223787661787384:=by rw[nb 1 (by omega),k8p1]
theorem n2:big (iR lO 0 2)=5694164919684500121:=by rw[nb 2 (by omega),k8p2]
theorem n3:big (iR lO 0 3)=217742532806062200:=by rw[nb 3 (by omega),k8p3]
end Go.AX

namespace Go.AX
open Go Go.Proofs
structure S8 where
 a:B8
 b:B8
 c:B8
 d:B8
 e:B8
 f:B8
 g:B8
 h:B8
def S8.l (s:S8):List B8:=[s.a,s.b,s.c,s.d,s.e,s.f,s.g,s.h]
theorem S8.len (s:S8):s.l.length=8:=rfl
theorem S8.inj {s t:S8} (h:s.l=t.l):s=t:=by
 obtain⟨_,_,_,_,_,_,_,_⟩:=s
 obtain⟨_,_,_,_,_,_,_,_⟩:=t
 simp only[S8.l,List.cons.injEq,and_true]at h
 obtain⟨rfl,rfl,rfl,rfl,rfl,rfl,rfl,rfl⟩:=h
 rfl
theorem S8.of {l:List B8} (h:l.length=8): ∃s:S8,l=s.l:=by
 match l,h with
 |[a,b,c,d,e,f,g,h],_=>exact⟨⟨a,b,c,d,e,f,g,h⟩,rfl⟩
structure KY where
 id:W32
 role:Int
 st:Int
 seed:S8
 h:Nat
 next:W32
 since:W32
 seen:W32
def kyC (k:KY):List AV:=[.w32 k.id,.i k.role,.i k.st,.w8 k.seed.a,.w8 k.seed.b,.w8 k.seed.c,.w8 k.seed.d,.w8 k.seed.e,.w8 k.seed.f,.w8 k.seed.g,.w8 k.seed.h,.i k.h,.w32 k.next,.w32 k.since,.w32 k.seen]
theorem aJn {a b:KY} (h:kyC a=kyC b):a=b:=by
 obtain⟨_,_,_,⟨_,_,_,_,_,_,_,_⟩,_,_,_,_⟩:=a
 obtain⟨_,_,_,⟨_,_,_,_,_,_,_,_⟩,_,_,_,_⟩:=b
 simp only[kyC,List.cons.injEq,AV.w32.injEq,AV.i.injEq,AV.w8.injEq,and_true]at h
 obtain⟨rfl,rfl,rfl,rfl,rfl,rfl,rfl,rfl,rfl,rfl,rfl,h1,rfl,rfl,rfl⟩:=h
 obtain rfl:=Int.ofNat.inj h1
 rfl
def uV (k:KY):AV:=.agg (kyC k)
theorem bNq {a b:KY} (h:uV a=uV b):a=b:=aJn (AV.agg.inj h)
structure TK where
 seed:S8
 h:Nat
def aOt (t:TK):AV:=.rp (trC t.seed.l t.h)
theorem bNp {a b:TK} (h:aOt a=aOt b):a=b:=by
 obtain⟨e1,e2⟩:=aUn a.seed.len b.seed.len (AV.rp.inj h)
 obtain⟨s,n⟩:=a
 obtain⟨t,m⟩:=b
 obtain rfl:=S8.inj e1
 cases e2
 rfl
structure CF where
 apx:List (List B8)
 kt:W32
 pr:W32
 dt:W32
 dp:W32
 va:W32
 le:W32
 ga:W32
 mx:W32
 salt:List B8
 iter:BitVec 16
 h:Nat
 size:BitVec 16
def cfC (c:CF):List AV:=[.sl c.apx.length (cS c.apx),.w32 c.kt,.w32 c.pr,.w32 c.dt,.w32 c.dp,.w32 c.va,.w32 c.le,.w32 c.ga,.w32 c.mx,.sl c.salt.length (c8 c.salt),.w16 c.iter,.i c.h,.w16 c.size]
theorem jI (c:CF):cfC c=[.sl c.apx.length (cS c.apx),.w32 c.kt,.w32 c.pr,.w32 c.dt,.w32 c.dp,.w32 c.va,.w32 c.le,.w32 c.ga,.w32 c.mx,.sl c.salt.length (c8 c.salt),.w16 c.iter,.i c.h,.w16 c.size]:=rfl
theorem cQp {a b:List (List B8)} (h:cS a=cS b):a=b:=by
 have h1:=aQr a
 rw[h,aQr]at h1
 exact(J0 h1).symm
theorem aKb {a b:CF} (h:cfC a=cfC b):a=b:=by
 obtain⟨_,_,_,_,_,_,_,_,_,_,_,_,_⟩:=a
 obtain⟨_,_,_,_,_,_,_,_,_,_,_,_,_⟩:=b
 simp only[cfC,List.cons.injEq,AV.w32.injEq,AV.i.injEq,AV.w16.injEq,AV.sl.injEq,and_true]at h
 obtain⟨⟨_,h1⟩,rfl,rfl,rfl,rfl,rfl,rfl,rfl,rfl,⟨_,h2⟩,rfl,h3,rfl⟩:=h
 obtain rfl:=cQp h1
 obtain rfl:=aTj h2
 obtain rfl:=Int.ofNat.inj h3
 rfl
open Classical in
noncomputable def oW (xs:List AV):Option CF:=if h: ∃c,xs=cfC c then some (Classical.choose h)else none
theorem aDi (c:CF):oW (cfC c)=some c:=by
 have hx: ∃c',cfC c=cfC c':=⟨c,rfl⟩
 unfold oW
 rw[dif_pos hx]
 exact congrArg some (aKb (Classical.choose_spec hx)).symm
theorem lF {xs:List AV} {c:CF} (h:oW xs=some c):xs=cfC c:=by
 unfold oW at h
 split at h
 ·rename_i hx
  rw[←J0 h]
  exact Classical.choose_spec hx
 cases h
structure RC where
 c:CF
 by':List (W32×KY)
 last:W32
 tr:List (W32×TK)
def eDs (l:List (W32×KY)):List (AV×AV):=l.map fun p=>(.w32 p.1,uV p.2)
def pG (l:List (W32×TK)):List (AV×AV):=l.map fun p=>(.w32 p.1,aOt p.2)
theorem aCk {α β:Type} {f:α→β} (hf: ∀a b,f a=f b→a=b): ∀ {l l':List α},l.map f=l'.map f→l=l'
 |[],[],_=>rfl
 |[],_::_,h=>by cases h
 |_::_,[],h=>by cases h
 |a::r,b::r',h=>by
  simp only[List.map_cons,List.cons.injEq]at h
  rw[hf a b h.1,aCk hf h.2]
theorem bNr {a b:List (W32×KY)} (h:eDs a=eDs b):a=b:=aCk (fun p q e=>by
 obtain⟨e1,e2⟩:=Prod.mk.inj e
 exact Prod.ext (AV.w32.inj e1) (bNq e2)) h
theorem bBr {a b:List (W32×TK)} (h:pG a=pG b):a=b:=aCk (fun p q e=>by
 obtain⟨e1,e2⟩:=Prod.mk.inj e
 exact Prod.ext (AV.w32.inj e1) (bNp e2)) h
def rgC (s m:Nat) (C:RC):List AV:=[.sl C.c.apx.length (cS C.c.apx),.w32 C.c.kt,.w32 C.c.pr,.w32 C.c.dt,.w32 C.c.dp,.w32 C.c.va,.w32 C.c.le,.w32 C.c.ga,.w32 C.c.mx,.sl C.c.salt.length (c8 C.c.salt),.w16 C.c.iter,.i C.c.h,.w16 C.c.size,.mp s,.w32 C.last,.mp m]
theorem jA (s m:Nat) (C:RC):rgC s m C=[.sl C.c.apx.length (cS C.c.apx),.w32 C.c.kt,.w32 C.c.pr,.w32 C.c.dt,.w32 C.c.dp,.w32 C.c.va,.w32 C.c.le,.w32 C.c.ga,.w32 C.c.mx,.sl C.c.salt.length (c8 C.c.salt),.w16 C.c.iter,.i C.c.h,.w16 C.c.size,.mp s,.w32 C.last,.mp m]:=rfl
theorem bUp {s m s' m':Nat} {C C':RC} (h:rgC s m C=rgC s' m' C'):s=s'∧m=m'∧C.c=C'.c∧C.last=C'.last:=by
 have e:rgC s m C=cfC C.c++[.mp s,.w32 C.last,.mp m]:=rfl
 have e':rgC s' m' C'=cfC C'.c++[.mp s',.w32 C'.last,.mp m']:=rfl
 rw[e,e']at h
 obtain⟨h1,h2⟩:=List.append_inj h rfl
 simp only[List.cons.injEq,AV.mp.injEq,AV.w32.injEq,and_true]at h2
 exact⟨h2.1,h2.2.2,aKb h1,h2.2.1⟩
structure aDt (hp:H) (d s m:Nat) (C:RC):Prop where
 hd:hp d=some (.cells (rgC s m C) true)
 hs:hp s=some (.mapo (eDs C.by') true)
 hm:hp m=some (.mapo (pG C.tr) true)
 ne:d≠s∧d≠m∧s≠m∧s≠d∧m≠d∧m≠s
def setR (d s m:Nat) (C:RC) (hp:H):H:=upd (upd (upd hp s (.mapo (eDs C.by') true)) m (.mapo (pG C.tr) true)) d (.cells (rgC s m C) true)
theorem aDt.uniq {hp:H} {d s m s' m':Nat} {C C':RC} (h:aDt hp d s m C) (h':aDt hp d s' m' C'):s=s'∧m=m'∧C=C':=by
 have e:=h.hd.symm.trans h'.hd
 obtain⟨rfl,rfl,ec,el⟩:=bUp (AO.cells.inj (J0 e)).1
 have eb:=bNr (AO.mapo.inj (J0 (h.hs.symm.trans h'.hs))).1
 have et:=bBr (AO.mapo.inj (J0 (h.hm.symm.trans h'.hm))).1
 obtain⟨c1,b1,l1,t1⟩:=C
 obtain⟨c2,b2,l2,t2⟩:=C'
 simp only at ec el eb et
 subst ec;subst el;subst eb;subst et
 exact⟨rfl,rfl,rfl⟩
structure RT where
 s:Nat
 m:Nat
 C:RC
open Classical in
noncomputable def iN (hp:H) (d:Nat):Option RT:=if h: ∃t:RT,aDt hp d t.s t.m t.C then some (Classical.choose h)else none
theorem aFy {hp:H} {d s m:Nat} {C:RC} (h:aDt hp d s m C):iN hp d=some ⟨s,m,C⟩:=by
 have hx: ∃t:RT,aDt hp d t.s t.m t.C:=⟨⟨s,m,C⟩,h⟩
 unfold iN
 rw[dif_pos hx]
 have h2:=Classical.choose_spec hx
 obtain⟨e1,e2,e3⟩:=h2.uniq h
 congr 1
 generalize Classical.choose hx=t at e1 e2 e3
 cases t;simp only at e1 e2 e3;rw[e1,e2,e3]
theorem iV {hp:H} {d:Nat} {t:RT} (h:iN hp d=some t):aDt hp d t.s t.m t.C:=by
 unfold iN at h
 split at h
 ·rename_i hx
  obtain rfl:=J0 h
  exact Classical.choose_spec hx
 cases h
theorem bGx {hp:H} {d s m:Nat} {C:RC} (h1:d≠s) (h2:d≠m) (h3:s≠m):aDt (setR d s m C hp) d s m C:=
 ⟨by simp[setR,bJ],by simp[setR,bJ,Ne.symm h1,h3],by simp[setR,bJ,Ne.symm h2],⟨h1,h2,h3,Ne.symm h1,Ne.symm h2,Ne.symm h3⟩⟩
theorem aVk (hp:H) (d s m:Nat) (C:RC) (h1:d≠s) (h2:d≠m) (h3:s≠m):iN (setR d s m C hp) d=some ⟨s,m,C⟩:=aFy (bGx h1 h2 h3)
theorem rZ (hp:H) (d s m:Nat) (C C':RC):setR d s m C' (setR d s m C hp)=setR d s m C' hp:=by
 funext k
 simp only[setR,bJ]
 by_cases h1:k=d
 ·simp[h1]
 by_cases h2:k=m
 ·simp[h2]
 by_cases h3:k=s
 ·simp[h3]
 simp[h1,h2,h3]
theorem jN (hp:H) (d s m:Nat) (C:RC) (k:Nat) (h1:k≠d) (h2:k≠s) (h3:k≠m):setR d s m C hp k=hp k:=by simp[setR,bJ,h1,h2,h3]
theorem jJ (hp:H) (d s m:Nat) (C:RC) (k:Nat) (o:AO) (h1:k≠d) (h2:k≠s) (h3:k≠m):upd (setR d s m C hp) k o=setR d s m C (upd hp k o):=by
 funext j
 simp only[setR,bJ]
 by_cases e:j=k
 ·subst e;simp[h1,h2,h3]
 simp[e]
theorem iQ {hp:H} {d s m:Nat} {C:RC} (h:aDt hp d s m C):setR d s m C hp=hp:=by
 funext k
 simp only[setR,bJ]
 by_cases h1:k=d
 ·subst h1;rw[J4 rfl,h.hd]
 rw[J3 h1]
 by_cases h2:k=m
 ·subst h2;rw[J4 rfl,h.hm]
 rw[J3 h2]
 by_cases h3:k=s
 ·subst h3;rw[J4 rfl,h.hs]
 rw[J3 h3]
theorem oK {hp t:H} {d s m:Nat} {C:RC} (h1:t d=some (.cells (rgC s m C) true)) (h2:t s=some (.mapo (eDs C.by') true)) (h3:t m=some (.mapo (pG C.tr) true))
  (h: ∀k o,k≠d→k≠s→k≠m→hp k=some o→t k=some o) (k:Nat) (o:AO) (hk:setR d s m C hp k=some o):t k=some o:=by
 simp only[setR,bJ]at hk
 by_cases e1:k=d
 ·subst e1;rw[J4 rfl]at hk;rw[h1];exact hk
 ·rw[J3 e1]at hk
  by_cases e2:k=m
  ·subst e2;rw[J4 rfl]at hk;rw[h3];exact hk
  ·rw[J3 e2]at hk
   by_cases e3:k=s
   ·subst e3;rw[J4 rfl]at hk;rw[h2];exact hk
   ·rw[J3 e3]at hk;exact h k o e1 e3 e2 hk
theorem hU {hp hp2:H} {d s m:Nat} {C:RC} (h: ∀j o,hp j=some o→hp2 j=some o) (k:Nat) (o:AO) (hk:setR d s m C hp k=some o):setR d s m C hp2 k=some o:=by
 simp only[setR,bJ]at hk⊢
 by_cases e1:k=d
 ·rw[J4 e1]at hk⊢;exact hk
 rw[J3 e1]at hk⊢
 by_cases e2:k=m
 ·rw[J4 e2]at hk⊢;exact hk
 rw[J3 e2]at hk⊢
 by_cases e3:k=s
 ·rw[J4 e3]at hk⊢;exact hk
 rw[J3 e3]at hk⊢;exact h k o hk
theorem bGy (hp:H) (d s m:Nat) (C:RC):setR d s m C hp d=some (.cells (rgC s m C) true):=by simp[setR,bJ]
theorem bGw (hp:H) (d s m:Nat) (C:RC) (h1:s≠d) (h2:s≠m):setR d s m C hp s=some (.mapo (eDs C.by') true):=by simp[setR,bJ,h1,h2]
theorem cHw (hp:H) (d s m:Nat) (C:RC) (h1:m≠d):setR d s m C hp m=some (.mapo (pG C.tr) true):=by simp[setR,bJ,h1]
theorem aZb (hp:H) (d s m:Nat) (C:RC) (l:List (W32×KY)) (h1:s≠d) (h2:s≠m):upd (setR d s m C hp) s (.mapo (eDs l) true)=setR d s m {C with by':=l} hp:=by
 funext k
 simp only[setR,bJ]
 by_cases e:k=s
 ·subst e;simp[h1,h2]
 simp[e];rfl
theorem lI {hp:H} {nx d:Nat} {o:AO} (hn: ∀id,nx≤id→hp id=none) (h:hp d=some o):d<nx:=by
 rcases Nat.lt_or_ge d nx with e|e
 ·exact e
 rw[hn d e]at h;cases h
theorem bNs (k:W32) (l:List (W32×KY)):aNp (.w32 k) (eDs l)=some ((iK k l).map uV):=aNo (kc:=.w32) xV uV k l
theorem aOu (k:W32) (v:KY) (l:List (W32×KY)):aEh (.w32 k) (uV v) (eDs l)=some (eDs (kT k v l)):=aNm (kc:=.w32) xV uV k v l
theorem bNt (k:W32) (l:List (W32×KY)):aSd (.w32 k) (eDs l)=some (eDs (eEt k l)):=aNq (kc:=.w32) xV uV k l
theorem bBs (k:W32) (l:List (W32×TK)):aNp (.w32 k) (pG l)=some ((iK k l).map aOt):=aNo (kc:=.w32) xV aOt k l
theorem aHl (k:W32) (v:TK) (l:List (W32×TK)):aEh (.w32 k) (.rp (trC v.seed.l v.h)) (pG l)=some (pG (kT k v l)):=aNm (kc:=.w32) xV aOt k v l
theorem bBt (k:W32) (l:List (W32×TK)):aSd (.w32 k) (pG l)=some (pG (eEt k l)):=aNq (kc:=.w32) xV aOt k l
theorem aOv (l:List (W32×KY)):(eDs l).length=l.length:=List.length_map _
attribute [go_sem] cHw aZb aVk rZ jN jJ aDi bNs bNt bBs aHl bBt aOv
end Go.AX

namespace Go.AX
open Go Go.Proofs
set_option maxRecDepth 8000
theorem bTl (a0 a1 a2 a3 b0 b1 b2 b3:AV):dV [a0,a1,a2,a3] 0 [b0,b1,b2,b3]=[b0,b1,b2,b3]:=(rfl)
theorem bGc (a0 a1 a2 a3 a4 a5 a6 a7 a8 a9 a10 a11 a12 b0 b1 b2 b3 b4 b5 b6 b7 b8 b9 b10 b11 b12:AV):dV [a0,a1,a2,a3,a4,a5,a6,a7,a8,a9,a10,a11,a12] 0 [b0,b1,b2,b3,b4,b5,b6,b7,b8,b9,b10,b11,b12]=[b0,b1,b2,b3,b4,b5,b6,b7,b8,b9,b10,b11,b12]:=(rfl)
theorem bGb (a0 a1 a2 a3 a4 a5 a6 a7 a8 a9 a10 a11 a12 a13 a14 b0 b1 b2 b3 b4 b5 b6 b7 b8 b9 b10 b11 b12 b13 b14:AV):dV [a0,a1,a2,a3,a4,a5,a6,a7,a8,a9,a10,a11,a12,a13,a14] 0 [b0,b1,b2,b3,b4,b5,b6,b7,b8,b9,b10,b11,b12,b13,b14]=[b0,b1,b2,b3,b4,b5,b6,b7,b8,b9,b10,b11,b12,b13,b14]:=(rfl)
attribute [go_sem] bTl bGc bGb
def apN:List B8:=[101#8,120#8,97#8,109#8,112#8,108#8,101#8]
def aHr:List AV→Option (Nat×Nat×List AV)
 |[]=>some (1,1,cS [apN])
 |_=>none
theorem bRp:aHr []=some (1,1,cS [apN]):=(rfl)
attribute [go_sem] bRp
theorem cEa:dH Tryd.prog GLh 46 aHr:=by
 refine cT Tryd.func46 (aT rfl) ?_
 intro args r hg
 unfold aHr at hg
 split at hg
 ·obtain rfl:=J0 hg
  refine⟨J1 rfl,fun nx=>?_⟩
  refine aA rfl (aW [] rfl rfl rfl fun K hK=>?_)
  simp(disch:=omega) only[Tryd.f46,go_sem]
  refine hK _ ?_
  refine aB (aA rfl (aW [0] rfl rfl rfl fun K hK=>?_))
  simp(disch:=omega) only[Tryd.f46,go_sem]
  refine hK _ ?_
  refine aB (aS rfl ?_)
  simp(disch:=omega) only[fE,eO,bV,bK,bQ,Tryd.f46,go_sem,↓reduceIte]
  rfl
 cases hg
theorem cFf:bX Tryd.prog GLh 46 (.fresh true aHr):=⟨⟨_,Tryd.func46,rfl,rfl⟩,cEa⟩
def cBk:CF:=⟨[apN],10#32,0#32,8#32,0#32,300#32,100#32,20#32,60#32,[],0#16,6,1400#16⟩
def bOj:List AV→Option AV
 |[.w16 k]=>aN (k=0#16) (some (.agg (cfC cBk)))
 |_=>none
theorem cBj (k:BitVec 16):bOj [.w16 k]=aN (k=0#16) (some (.agg (cfC cBk))):=(rfl)
attribute [go_sem] cBj
set_option maxHeartbeats 1000000 in
set_option maxRecDepth 8000 in
theorem cQi:cL Tryd.prog GLh 27 bOj:=by
 refine cC Tryd.func27 (aT rfl) ?_
 intro args r hg
 unfold bOj at hg
 split at hg
 ·rename_i k
  replace hg:=aP hg;obtain⟨rfl,hg⟩:=hg
  obtain rfl:=J0 hg
  refine⟨J1 rfl,fun nx=>?_⟩
  refine aA rfl (aW [0,2] rfl rfl rfl fun K hK=>?_)
  simp(disch:=omega) only[Tryd.f27,go_sem,↓reduceIte]
  refine hK _ ?_
  refine aB (aA rfl (aC (Γ:=bC [(46,.fresh true aHr)]) [0,2,3] (aH cFf aO) rfl rfl rfl (fun K hK=>?_)))
  simp(disch:=omega) only[Tryd.f27,go_sem,↓reduceIte,BitVec.reduceHShiftRight,BitVec.reduceAdd,BitVec.reduceMul,BitVec.reduceSetWidth,cK,List.nil_append,List.cons_append,U0,U1,J7,J9,List.all_cons,List.all_nil,Option.isSome_some,Bool.and_self]
  refine hK _ ?_
  refine aB (aA rfl (aW [0,2,3] rfl rfl rfl fun K hK=>?_))
  simp(disch:=omega) only[Tryd.f27,go_sem,↓reduceIte,BitVec.reduceHShiftRight,BitVec.reduceMod,BitVec.reduceEq]
  refine hK _ ?_
  refine aB (aA rfl (aA rfl (aW [38,2,3] rfl rfl rfl fun K hK=>?_)))
  simp(disch:=omega) only[Tryd.f27,go_sem,↓reduceIte,BitVec.reduceHShiftRight,decide_true]
  refine hK _ ?_
  refine aB (eC (.tmp 38) rfl rfl rfl (fun h=>?_) (fun h=>?_))
  ·refine aI rfl (aW [2,3] rfl rfl rfl fun K hK=>?_)
   simp(disch:=omega) only[Tryd.f27,go_sem,↓reduceIte]
   refine hK _ ?_
   refine aB (aA rfl (aW [2] rfl rfl rfl fun K hK=>?_))
   simp(disch:=omega) only[Tryd.f27,go_sem,↓reduceIte]
   refine hK _ ?_
   refine aB (aS rfl ?_)
   simp(maxSteps:=400000) (disch:=omega) only[cN,bV,bK,bQ,Tryd.f27,go_sem,↓reduceIte,jI,ldV,List.set_cons_succ,List.set_cons_zero,U0,U1,J9]
   rfl
  refine aI rfl ?_
  cases h
 cases hg
theorem cWc:bX Tryd.prog GLh 27 (.pure false bOj):=⟨⟨_,Tryd.func27,rfl,rfl⟩,cQi⟩
def aIu:List AV→Option (Nat×Nat×List AV)
 |[.v (.slice none 0 0),.w32 n,.i k]=>aN (0≤k∧k≤8) (some (k.toNat,1,c8 (beL n k.toNat k.toNat)))
 |_=>none
theorem bVb (n:W32) (k:Int):aIu [.v (.slice none 0 0),.w32 n,.i k]=aN (0≤k∧k≤8) (some (k.toNat,1,c8 (beL n k.toNat k.toNat))):=(rfl)
attribute [go_sem] bVb
set_option maxHeartbeats 4000000 in
theorem bUz:dH Tryd.prog GLh 48 aIu:=by
 refine cT Tryd.func48 (aT rfl) ?_
 intro args r hg
 unfold aIu at hg
 split at hg
 ·rename_i n k0
  replace hg:=aP hg;obtain⟨⟨hk1,hk8⟩,hg⟩:=hg
  obtain rfl:=J0 hg
  obtain⟨k,rfl⟩:=Int.eq_ofNat_of_zero_le (show 0≤k0 by omega)
  simp only[U2]at*
  clear hg
  refine⟨J1 rfl,fun nx=>?_⟩
  refine aA rfl (aW [0,1,2] rfl rfl rfl fun K hK=>?_)
  simp(disch:=omega) only[Tryd.f48,go_sem,↓reduceIte]
  refine hK _ ?_
  refine aB (aA rfl (aA rfl (aW [0,1,7] rfl rfl rfl fun K hK=>?_)))
  simp(disch:=omega) only[Tryd.f48,go_sem,↓reduceIte]
  refine hK _ ?_
  refine aB (iE 0 1 rfl (fF [0,1,7] ?_))
  simp only[iB,fU,eB,↓reduceIte,Nat.reduceEqDiff]
  refine aR 0 rfl rfl ?_
  refine bR (fun p:KIC=> {fr:=[(0,.os p.id 0 p.k 1 true),(1,.w32 n),(7,.i ((k:Int)-1-(p.k:Int)))],hp:=upd (fun _=>none) p.id (.cells (c8 (beL n k p.k)) true),nx:=0,cx:=p.c}) (fun p=>p.k≤k∧p.id<p.c) (fun p=>k-p.k) rfl ⟨⟨0,_,_⟩,⟨Nat.zero_le _,by simp only;omega⟩,bD (by simp only[Int.natCast_zero,Int.sub_zero]) rfl (U3 _)⟩ ?_
  rintro⟨j,id,c⟩ ⟨hj,hid⟩ n0
  simp only at hj hid⊢
  refine aA rfl (aA rfl (aW [11,0,1,7] rfl rfl rfl fun K hK=>?_))
  simp(disch:=omega) only[Tryd.f48,go_sem,↓reduceIte]
  refine hK _ ?_
  refine aB (gP (.tmp 11) rfl rfl rfl (fun h=>?_) (fun h=>?_))
  ·refine aI rfl ?_
   have e1:(BitVec.ofInt 64 (8*((k:Int)-1-(j:Int)))).toNat=8*(k-1-j):=by rw[BitVec.toNat_ofInt];omega
   have hl:=cZ n k j
   refine aQ rfl (aB (aA rfl (aR 1 rfl rfl (aW [0,1,7] rfl rfl rfl fun K hK=>?_))))
   simp(disch:=omega) only[Tryd.f48,go_sem,↓reduceIte,e1,hl]
   refine hK _ ?_
   refine bU (aB (aW [0,1,7] rfl rfl rfl fun K hK=>?_))
   simp(disch:=omega) only[Tryd.f48,go_sem,↓reduceIte]
   refine hK _ ?_
   refine bT ?_
   have e2:(k:Int)-1-((j:Int)+1)=(k:Int)-1-(j:Int)-1:=by omega
   have e4:beL n k (j+1)=beL n k j++[(n>>>(8*(k-1-j))).setWidth 8]:=rfl
   refine⟨⟨j+1,c+2+8,_⟩,⟨by simp only;omega,by simp only;omega⟩,by simp only;omega,⟨fun _=> .inr ?_,fun j o h=>?_,U3 _⟩⟩
   ·simp only[Int.natCast_add,Int.natCast_one,e2]
   simp only at h
   exact bS (by simp(disch:=omega) only[aV,↓reduceIte,eq_self,e4]) (cB) j o h
  refine aI rfl (bF 0 rfl rfl (aY (aZ (bE (aB (aA rfl ?_))))))
  obtain rfl:j=k:=by omega
  have hl:=cZ n j j
  refine aW [6] rfl rfl rfl fun K hK=>?_
  simp(disch:=omega) only[Tryd.f48,go_sem,↓reduceIte]
  refine hK _ ?_
  refine aB (aS rfl ?_)
  simp(disch:=omega) only[fE,eO,bV,bK,bQ,Tryd.f48,go_sem,↓reduceIte,fQ,hl]
 cases hg
theorem cVz:bX Tryd.prog GLh 48 (.fresh false aIu):=⟨⟨_,Tryd.func48,rfl,rfl⟩,bUz⟩
theorem cTh (t:BitVec 16):beL (t.setWidth 32) 2 2=[(t>>>8).setWidth 8,t.setWidth 8]:=by
 have e:(t.setWidth 32>>>8).setWidth 8=(t>>>8).setWidth 8:=by
  apply BitVec.eq_of_toNat_eq
  have:=t.isLt
  simp only[BitVec.toNat_setWidth,BitVec.toNat_ushiftRight,Nat.shiftRight_eq_div_pow];omega
 have e2:(t.setWidth 32>>>0).setWidth 8=t.setWidth 8:=by
  apply BitVec.eq_of_toNat_eq
  have:=t.isLt
  simp only[BitVec.toNat_setWidth,BitVec.toNat_ushiftRight,Nat.shiftRight_eq_div_pow];omega
 simp only[beL,List.nil_append,List.cons_append,Nat.reduceSub,Nat.reduceMul,e,e2]
theorem bOx (f:FuncId) (args:List AV) (nx n:Nat) (hp:H) (id cx:Nat) (g:List AV→Option (Nat×Nat×List AV)):uI f args 2 nx n hp id cx (some (.fresh false g))=aK (fW (fun _=>none) args) fun as_=>aK (g as_) fun r=>some (.os id 0 r.1 r.2.1 true,upd hp id (.cells r.2.2 true),cx):=(rfl)
attribute [go_sem] bOx
def wF (f:BitVec 16) (p a:B8) (k:List B8):List B8:=[(f>>>8).setWidth 8,f.setWidth 8]++[p,a]++k
def qG:List AV→Option (Nat×Nat×List AV)
 |[.agg [.w16 f,.w8 p,.w8 a,.sl n xs]]=>aK (cI xs) fun k=>aN (k.length=n∧n≤100000) (some ((wF f p a k).length,1,c8 (wF f p a k)))
 |_=>none
theorem bMg (f:BitVec 16) (p a:B8) (n:Nat) (xs:List AV):qG [.agg [.w16 f,.w8 p,.w8 a,.sl n xs]]=aK (cI xs) fun k=>aN (k.length=n∧n≤100000) (some ((wF f p a k).length,1,c8 (wF f p a k))):=(rfl)
attribute [go_sem] bMg
set_option maxHeartbeats 4000000 in
theorem bYm:dH Tryd.prog GLh 30 qG:=by
 refine cT Tryd.func30 (aT rfl) ?_
 intro args r hg
 unfold qG at hg
 split at hg
 ·rename_i f p a n xs
  replace hg:=aJ hg;obtain⟨k,hk,hg⟩:=hg
  replace hg:=aP hg;obtain⟨⟨rfl,hn⟩,hg⟩:=hg
  obtain rfl:=J0 hg
  have:=bW hk;subst this
  clear hg hk
  refine⟨J1 rfl,fun nx=>?_⟩
  have e2:=cTh f
  have ekb:[(f>>>8).setWidth 8,f.setWidth 8]++[p,a]++k=wF f p a k:=rfl
  have ekl:(wF f p a k).length=4+k.length:=by rw[←ekb];simp;omega
  refine aA rfl (aW [1] rfl rfl rfl fun K hK=>?_)
  simp(disch:=omega) only[Tryd.f30,go_sem,↓reduceIte]
  refine hK _ ?_
  refine aB (lW 1 nx 0 rfl (by simp only[aV,if_true];rfl) ?_)
  refine aA rfl (bB (Γ:=bC [(48,.fresh false aIu)]) (fun k=>if k=1 then 1 else if k=5 then 1 else if k=7 then 1 else if k=11 then 1 else 2) [2] bZ (aH cVz aO) rfl rfl rfl (by kernel_rfl) (fun K hK=>?_))
  simp(disch:=omega) only[Tryd.f30,go_sem,↓reduceIte,e2,J8,U0,U1,J7,J9]
  refine hK _ ?_
  refine aB (aS rfl ?_)
  simp(disch:=omega) only[fE,eO,bV,bK,bQ,Tryd.f30,go_sem,↓reduceIte,ekl]
  rfl
 cases hg
theorem cFg:bX Tryd.prog GLh 30 (.fresh true qG):=⟨⟨_,Tryd.func30,rfl,rfl⟩,bYm⟩
def bUe:List AV→Option AV
 |[]=>some (.agg (cfC {cBk with h:=2}))
 |_=>none
theorem bUd:bUe []=some (.agg (cfC {cBk with h:=2})):=(rfl)
attribute [go_sem] bUd
theorem cHv:cL Tryd.prog GLh 8 bUe:=by
 refine cC Tryd.func8 (aT rfl) ?_
 intro args r hg
 unfold bUe at hg
 split at hg
 ·obtain rfl:=J0 hg
  refine⟨J1 rfl,fun nx=>?_⟩
  refine aA rfl (aW [0] rfl rfl rfl fun K hK=>?_)
  simp(disch:=omega) only[Tryd.f8,go_sem,↓reduceIte]
  refine hK _ ?_
  refine aB (aA rfl (aC (Γ:=bC [(27,.pure false bOj)]) [0,1] (aH cWc aO) rfl rfl rfl (fun K hK=>?_)))
  simp(disch:=omega) only[Tryd.f8,go_sem,↓reduceIte,jI]
  refine hK _ ?_
  refine aB (aA rfl (aW [0,1] rfl rfl rfl fun K hK=>?_))
  simp(disch:=omega) only[Tryd.f8,go_sem,↓reduceIte]
  refine hK _ ?_
  refine aB (aA rfl (aW [0] rfl rfl rfl fun K hK=>?_))
  simp(disch:=omega) only[Tryd.f8,go_sem,↓reduceIte,List.set_cons_succ,List.set_cons_zero,U0,U1,J9]
  refine hK _ ?_
  refine aB (aS rfl ?_)
  simp(maxSteps:=400000) (disch:=omega) only[cN,bV,bK,bQ,Tryd.f8,go_sem,↓reduceIte,jI,ldV]
  rfl
 cases hg
theorem eJn:bX Tryd.prog GLh 8 (.pure false bUe):=⟨⟨_,Tryd.func8,rfl,rfl⟩,cHv⟩
noncomputable def aMq:List AV→H→Nat→Option (AV×H×Nat)
 |[.agg xs],hp,nx=>aK (oW xs) fun c=>some (.op (nx+6) 0,setR (nx+6) (nx+3) (nx+4) ⟨c,[],0#32,[]⟩ hp,nx+20)
 |_,_,_=>none
theorem bHs (xs:List AV) (hp:H) (nx:Nat):aMq [.agg xs] hp nx=aK (oW xs) fun c=>some (.op (nx+6) 0,setR (nx+6) (nx+3) (nx+4) ⟨c,[],0#32,[]⟩ hp,nx+20):=(rfl)
attribute [go_sem] bHs
theorem bUo:cQ Tryd.prog GLh 7 aMq:=by
 refine gF Tryd.func7 (aT rfl) ?_
 intro args hp nx r hp' nx' hg
 unfold aMq at hg
 split at hg
 ·rename_i xs
  replace hg:=aJ hg;obtain⟨c,hc,hg⟩:=hg
  have:=lF hc;subst this
  simp only[Option.some.injEq,Prod.mk.injEq]at hg;obtain⟨rfl,rfl,rfl⟩:=hg
  refine⟨J1 rfl,by omega,fun hnone=>?_⟩
  refine aA rfl (aW [1] rfl rfl rfl fun K hK=>?_)
  simp(disch:=omega) only[Tryd.f7,go_sem,↓reduceIte,jI]
  refine hK _ ?_
  refine aB (aA rfl (aW [2] rfl rfl rfl fun K hK=>?_))
  simp(disch:=omega) only[Tryd.f7,go_sem,↓reduceIte,cK,List.nil_append,List.cons_append,U0,U1,J7,J9,List.all_cons,List.all_nil,Option.isSome_some,Bool.and_self]
  refine hK _ ?_
  refine aB (aS rfl ?_)
  have hlt: ∀k o,hp k=some o→k<nx:=fun k o hk=>lI hnone hk
  refine⟨rfl,fun j o hj=>oK (C:=⟨c,[],0#32,[]⟩) ?_ ?_ ?_ ?_ j o hj,by simp only;omega⟩
  ·simp only[bJ,rgC,Nat.add_assoc,Nat.reduceAdd,if_true]
  ·simp only[bJ,Nat.add_assoc,Nat.reduceAdd]
   rw[J3 (by omega),J3 (by omega),J4 trivial];rfl
  ·simp only[bJ,Nat.add_assoc,Nat.reduceAdd]
   rw[J3 (by omega),J4 trivial];rfl
  intro k o k1 k2 k3 hk
  have:=hlt k o hk
  simp only[bJ]
  rw[J3 (by omega),J3 (by omega),J3 (by omega),J3 (by omega)];exact hk
 cases hg
theorem eJc:bX Tryd.prog GLh 7 (.heap aMq):=⟨⟨_,Tryd.func7,rfl,rfl⟩,bUo⟩
end Go.AX

namespace Go.AX
open Go Go.Proofs
set_option maxRecDepth 8000
structure ROk (C:RC):Prop where
 key: ∀id k,iK id C.by'=some k→k.id=id∧k.h≤10∧k.next.toNat≤2^k.h∧id.toNat≤C.last.toNat
 tree: ∀id t,iK id C.tr=some t→∃k,iK id C.by'=some k∧t=⟨k.seed,k.h⟩
 nb:(C.by'.map (·.1)).Nodup
 nt:(C.tr.map (·.1)).Nodup
theorem aMu {β:Type} (a:W32) (v:β): ∀l:List (W32×β),(kT a v l).map (·.1)=if a∈l.map (·.1)then l.map (·.1)else l.map (·.1)++[a]
 |[]=>by simp[kT]
 |p::r=>by
  simp only[kT]
  by_cases h:a=p.1
  ·subst h;simp
  rw[J3 h]
  simp only[List.map_cons,aMu a v r,List.mem_cons]
  by_cases h2:a∈r.map (·.1)
  ·rw[J4 h2,J4 (.inr h2)]
  rw[J3 h2,J3 (fun e=>e.elim h h2),List.cons_append]
theorem tF {β:Type} (a:W32) (v:β) (l:List (W32×β)) (h:(l.map (·.1)).Nodup):((kT a v l).map (·.1)).Nodup:=by
 rw[aMu]
 split
 ·exact h
 rename_i h2
 rw[List.nodup_append]
 exact⟨h,by simp,fun x hx y hy=>by simp at hy;subst hy;exact fun e=>h2 (e▸hx)⟩
theorem aOk {β:Type} (a:W32): ∀l:List (W32×β),a∉l.map (·.1)→iK a l=none
 |[],_=>rfl
 |p::r,h=>by
  simp only[iK]
  rw[J3 (fun e=>h (by simp[e])),aOk a r (fun e=>h (by simp only[List.map_cons,List.mem_cons];exact .inr e))]
theorem aPd {β:Type} (a:W32): ∀l:List (W32×β),∀x,x∈(eEt a l).map (·.1)→x∈l.map (·.1)
 |[],x,h=>h
 |p::r,x,h=>by
  simp only[eEt]at h
  split at h
  ·rw[List.map_cons,List.mem_cons];exact .inr h
  rw[List.map_cons,List.mem_cons]at h⊢
  exact h.imp id (aPd a r x)
theorem yA {β:Type} (a:W32): ∀l:List (W32×β),(l.map (·.1)).Nodup→((eEt a l).map (·.1)).Nodup
 |[],h=>h
 |p::r,h=>by
  rw[List.map_cons,List.nodup_cons]at h
  simp only[eEt]
  split
  ·exact h.2
  rw[List.map_cons,List.nodup_cons]
  exact⟨fun e=>h.1 (aPd a r _ e),yA a r h.2⟩
theorem sP {β:Type} (a b:W32): ∀l:List (W32×β),(l.map (·.1)).Nodup→iK a (eEt b l)=if a=b then none else iK a l
 |[],_=>by simp[eEt,iK]
 |p::r,h=>by
  rw[List.map_cons,List.nodup_cons]at h
  simp only[eEt]
  by_cases hb:b=p.1
  ·rw[J4 hb]
   by_cases ha:a=b
   ·rw[J4 ha]
    exact aOk a r (by rw[ha,hb];exact h.1)
   rw[J3 ha]
   simp only[iK]
   rw[J3 (fun e=>ha (e.trans hb.symm))]
  rw[J3 hb]
  simp only[iK]
  rw[sP a b r h.2]
  by_cases ha:a=p.1
  ·rw[J4 ha,J4 ha,J3 (fun e=>hb (e.symm.trans ha))]
  rw[J3 ha,J3 ha]
theorem jK {β:Type} (a b:W32) (v:β): ∀l:List (W32×β),iK a (kT b v l)=if a=b then some v else iK a l
 |[]=>by
  simp only[kT,iK]
 |p::r=>by
  simp only[kT]
  by_cases h:b=p.1
  ·rw[J4 h]
   simp only[iK]
   by_cases h2:a=b
   ·simp[h2]
   rw[J3 h2,J3 h2,J3 (fun e=>h2 (e.trans h.symm))]
  rw[J3 h]
  simp only[iK,jK a b v r]
  by_cases h2:a=p.1
  ·subst h2
   rw[J4 rfl,J3 (Ne.symm h),J4 rfl]
  rw[J3 h2,J3 h2]
theorem ROk.new (c:CF):ROk ⟨c,[],0#32,[]⟩:=⟨fun _ _ h=>(nomatch h),fun _ _ h=>(nomatch h),List.nodup_nil,List.nodup_nil⟩
noncomputable instance (C:RC):Decidable (ROk C):=Classical.propDecidable _
theorem vU {h:Nat} (hh:h≤10):2^h≤1024∧1≤2^h:=by
 have:h=0∨h=1∨h=2∨h=3∨h=4∨h=5∨h=6∨h=7∨h=8∨h=9∨h=10:=by omega
 rcases this with rfl|rfl|rfl|rfl|rfl|rfl|rfl|rfl|rfl|rfl|rfl<;>decide
def nlv (h:Nat):W32:=BitVec.ofNat 32 (2^h)
theorem aJh {h:Nat} (hh:h≤10):(nlv h).toNat=2^h:=by
 have:=(vU hh).1
 rw[nlv,BitVec.toNat_ofNat,Nat.mod_eq_of_lt (by omega)]
theorem aIg {h:Nat} (hh:h≤10):1#32 <<<(BitVec.ofInt 64 (h:Int)).toNat=nlv h:=by
 have e:(BitVec.ofInt 64 (h:Int)).toNat=h:=by rw[BitVec.toNat_ofInt];omega
 have:=(vU hh).1
 rw[e]
 apply BitVec.eq_of_toNat_eq
 rw[aJh hh,BitVec.toNat_shiftLeft,Nat.shiftLeft_eq,Nat.mod_eq_of_lt (by show 1*2^h<_;omega)]
 show 1*2^h=_
 omega
def lfV (C:RC) (id:W32):W32:=match iK id C.by' with
 |none=>0#32
 |some k=>nlv k.h-k.next
theorem cXx {C:RC} {id:W32} (h:iK id C.by'=none):lfV C id=0#32:=by rw[lfV,h]
theorem cFs {C:RC} {id:W32} {k:KY} (h:iK id C.by'=some k):lfV C id=nlv k.h-k.next:=by rw[lfV,h]
noncomputable def aNy:List AV→H→Nat→Option (AV×H×Nat)
 |[.op d 0,.w32 id],hp,nx=>aK (iN hp d) fun t=>aN (ROk t.C) (some (.w32 (lfV t.C id),hp,nx+50))
 |_,_,_=>none
theorem bLs (d:Nat) (id:W32) (hp:H) (nx:Nat):aNy [.op d 0,.w32 id] hp nx=aK (iN hp d) fun t=>aN (ROk t.C) (some (.w32 (lfV t.C id),hp,nx+50)):=(rfl)
attribute [go_sem] bLs
theorem lV (k:KY):uV k=.agg [.w32 k.id,.i k.role,.i k.st,.w8 k.seed.a,.w8 k.seed.b,.w8 k.seed.c,.w8 k.seed.d,.w8 k.seed.e,.w8 k.seed.f,.w8 k.seed.g,.w8 k.seed.h,.i k.h,.w32 k.next,.w32 k.since,.w32 k.seen]:=rfl
theorem zv49:zvA Tryd.prog 49=some (.agg [.w32 0#32,.i 0,.i 0,.w8 0#8,.w8 0#8,.w8 0#8,.w8 0#8,.w8 0#8,.w8 0#8,.w8 0#8,.w8 0#8,.i 0,.w32 0#32,.w32 0#32,.w32 0#32]):=by kernel_rfl
theorem zcK:cG Tryd.prog 49=some [.w32 0#32,.i 0,.i 0,.w8 0#8,.w8 0#8,.w8 0#8,.w8 0#8,.w8 0#8,.w8 0#8,.w8 0#8,.w8 0#8,.i 0,.w32 0#32,.w32 0#32,.w32 0#32]:=by kernel_rfl
attribute [go_sem] zv49 zcK
theorem jB {hp:H} {nx i:Nat} {a:AO} (hn: ∀id,nx≤id→hp id=none) (hi:nx≤i): ∀j o,hp j=some o→upd hp i a j=some o:=by
 intro j o h
 rw[bJ]
 split
 ·rename_i e;subst e;rw[hn j hi]at h;cases h
 exact h
theorem bXw:cQ Tryd.prog GLh 14 aNy:=by
 refine gF Tryd.func14 (aT rfl) ?_
 intro args hp nx r hp' nx' hg
 unfold aNy at hg
 split at hg
 ·rename_i d id
  replace hg:=aJ hg;obtain⟨⟨s,m,C⟩,hD0,hg⟩:=hg
  have hD:=iV hD0
  replace hg:=aP hg;obtain⟨hok,hg⟩:=hg
  simp only[Option.some.injEq,Prod.mk.injEq]at hg hD hok;obtain⟨rfl,rfl,rfl⟩:=hg
  refine⟨J1 rfl,by omega,fun hnone=>?_⟩
  have h1:=hD.hd;have h2:=hD.hs;have h3:=hD.hm
  have hlt: ∀k o,hp k=some o→k<nx:=fun k o hk=>lI hnone hk
  have hd:=hlt _ _ h1
  have hs:=hlt _ _ h2
  have hm:=hlt _ _ h3
  refine aA rfl (aW [0,1] rfl rfl rfl fun K hK=>?_)
  simp(disch:=omega) only[Tryd.f14,go_sem,↓reduceIte]
  refine hK _ ?_
  refine aB ?_
  rcases hk:iK id C.by' with _|k
  ·rw[cXx hk]
   refine aA rfl (aW [5,6] rfl rfl rfl fun K hK=>?_)
   simp(disch:=omega) only[Tryd.f14,go_sem,↓reduceIte,h1,h2,hk,jA,J8,J7,J9]
   refine hK _ ?_
   refine aB (aA rfl (aA rfl (aW [17,5] rfl rfl rfl fun K hK=>?_)))
   simp(disch:=omega) only[Tryd.f14,go_sem,↓reduceIte]
   refine hK _ ?_
   refine aB (eC (.tmp 17) rfl rfl rfl (fun h=>?_) (fun h=>?_))
   ·refine aI rfl (aA rfl (aW [4] rfl rfl rfl fun K hK=>?_))
    simp(disch:=omega) only[Tryd.f14,go_sem,↓reduceIte]
    refine hK _ ?_
    refine aB (aS rfl (bI ?_))
    exact⟨rfl,fun j o h=>jB hnone (by omega) j o h,by simp only;omega⟩
   refine aI rfl ?_
   cases h
  rw[cFs hk]
  obtain⟨k1,k2,k3,k4⟩:=hok.key _ _ hk
  have e1:=aIg k2
  refine aA rfl (aW [5,6] rfl rfl rfl fun K hK=>?_)
  simp(disch:=omega) only[Tryd.f14,go_sem,↓reduceIte,h1,h2,hk,jA,lV,J8,J7,J9]
  refine hK _ ?_
  refine aB (aA rfl (aA rfl (aW [17,5] rfl rfl rfl fun K hK=>?_)))
  simp(disch:=omega) only[Tryd.f14,go_sem,↓reduceIte]
  refine hK _ ?_
  refine aB (eC (.tmp 17) rfl rfl rfl (fun h=>?_) (fun h=>?_))
  ·refine aI rfl ?_
   cases h
  refine aI rfl (aQ rfl (aB (aA rfl (aW [4] rfl rfl rfl fun K hK=>?_))))
  simp(disch:=omega) only[Tryd.f14,go_sem,↓reduceIte,e1,J8,J7,J9]
  refine hK _ ?_
  refine aB (aS rfl ?_)
  exact⟨rfl,fun j o h=>jB hnone (by omega) j o h,by simp only;omega⟩
 cases hg
theorem cWe:bX Tryd.prog GLh 14 (.heap aNy):=⟨⟨_,Tryd.func14,rfl,rfl⟩,bXw⟩
def aRx (C:RC) (role:Int) (seed:S8) (st:Int) (now:W32):KY:=⟨C.last+1#32,role,st,seed,C.c.h,0#32,now,0#32⟩
def mkC (C:RC) (k:KY):RC:= {C with last:=C.last+1#32,by':=kT (C.last+1#32) k C.by'}
def mkV (C:RC) (role:Int) (seed:S8) (st:Int) (now:W32):W32×Int×RC:=
 if(role≠0∧role≠1)∨st<0∨3<st then(0#32,131,C)
 else if 16≤C.by'.length then(0#32,133,C)
 else(C.last+1#32,0,mkC C (aRx C role seed st now))
theorem bLw {C:RC} (h:C.last.toNat<1000000):(C.last+1#32).toNat=C.last.toNat+1:=by
 rw[BitVec.toNat_add]
 show(C.last.toNat+1)%2^32=_
 omega
theorem ROk.mk' {C:RC} (h:ROk C) (hl:C.last.toNat<1000000) (hh:C.c.h≤10) (role:Int) (seed:S8) (st:Int) (now:W32):ROk (mkC C (aRx C role seed st now)):=by
 have hs:=bLw hl
 have hno:iK (C.last+1#32) C.by'=none:=by
  rcases e:iK (C.last+1#32) C.by' with _|k
  ·rfl
  have:=(h.key _ _ e).2.2.2
  omega
 refine⟨fun id k hk=>?_,fun id t ht=>?_,tF _ _ _ h.nb,h.nt⟩
 ·simp only[mkC,jK]at hk
  split at hk
  ·rename_i e
   obtain rfl:=J0 hk
   subst e
   refine⟨rfl,hh,?_,?_⟩
   ·show(0#32).toNat≤_
    exact Nat.zero_le _
   exact U3 _
  obtain⟨a1,a2,a3,a4⟩:=h.key _ _ hk
  refine⟨a1,a2,a3,?_⟩
  show id.toNat≤(C.last+1#32).toNat
  omega
 obtain⟨k,a1,a2⟩:=h.tree _ _ ht
 refine⟨k,?_,a2⟩
 simp only[mkC,jK]
 rw[J3 (fun e=>by subst e;rw[hno]at a1;cases a1)]
 exact a1
theorem ROk.mkV {C:RC} (h:ROk C) (hl:C.last.toNat<1000000) (hh:C.c.h≤10) (role:Int) (seed:S8) (st:Int) (now:W32):ROk (mkV C role seed st now).2.2:=by
 unfold AX.mkV
 split
 ·exact h
 split
 ·exact h
 exact h.mk' hl hh role seed st now
def s8L:List B8→Option S8
 |[a,b,c,d,e,f,g,h]=>some ⟨a,b,c,d,e,f,g,h⟩
 |_=>none
theorem vN {l:List B8} {s:S8} (h:s8L l=some s):l=s.l:=by
 unfold s8L at h
 split at h
 ·obtain rfl:=J0 h;rfl
 cases h
noncomputable def uF:List AV→H→Nat→Option (AV×H×Nat)
 |[.op d 0,.i role,.agg xs,.i st,.w32 now],hp,nx=>aK (iN hp d) fun t=>aK (un8 xs) fun l=>aK (s8L l) fun sd=>aN (ROk t.C∧t.C.last.toNat<1000000∧t.C.c.h≤10)
   (some (.tup [.w32 (mkV t.C role sd st now).1,.i (mkV t.C role sd st now).2.1],setR d t.s t.m (mkV t.C role sd st now).2.2 hp,nx+100))
 |_,_,_=>none
theorem bKz (d:Nat) (role st:Int) (now:W32) (xs:List AV) (hp:H) (nx:Nat):uF [.op d 0,.i role,.agg xs,.i st,.w32 now] hp nx=aK (iN hp d) fun t=>aK (un8 xs) fun l=>aK (s8L l) fun sd=>aN (ROk t.C∧t.C.last.toNat<1000000∧t.C.c.h≤10)
   (some (.tup [.w32 (mkV t.C role sd st now).1,.i (mkV t.C role sd st now).2.1],setR d t.s t.m (mkV t.C role sd st now).2.2 hp,nx+100)):=(rfl)
attribute [go_sem] bKz
theorem aHm (k id:W32) (role st:Int) (a b c d e f g h:B8) (hh:Nat) (n s se:W32) (l:List (W32×KY)):aEh (.w32 k) (.agg [.w32 id,.i role,.i st,.w8 a,.w8 b,.w8 c,.w8 d,.w8 e,.w8 f,.w8 g,.w8 h,.i hh,.w32 n,.w32 s,.w32 se]) (eDs l)=some (eDs (kT k ⟨id,role,st,⟨a,b,c,d,e,f,g,h⟩,hh,n,s,se⟩ l)):=aOu k ⟨id,role,st,⟨a,b,c,d,e,f,g,h⟩,hh,n,s,se⟩ l
attribute [go_sem] aHm
theorem bXn {Q:Exit→S→Prop} {fr0:AV} {role st:Int} {now:W32} {x7:AV} {hp:H} {nx cx:Nat} (hQ:Q .normal {fr:=[(12,.b (decide ((role≠0∧role≠1)∨st<0∨3<st))),(0,fr0),(1,.i role),(3,.i st),(4,.w32 now),(7,x7)],hp:=hp,nx:=cx,cx:=cx+15}):
  Awp Tryd.prog GLh Tryd.f9.ntmps (cl (cl (cl (cr (aE Tryd.f9))))) {fr:=[(0,fr0),(1,.i role),(3,.i st),(4,.w32 now),(7,x7)],hp:=hp,nx:=nx,cx:=cx} Q:=by
 by_cases h0:role=0
 ·have d0:decide (role=0)=true:=J5 h0
  by_cases h2:st<0
  ·have d2:decide (st<0)=true:=J5 h2
   rw[J5 (by omega)]at hQ
   refine aW [12,0,1,3,4,7] rfl rfl rfl fun K hK=>?_
   simp(disch:=omega) only[Tryd.f9,go_sem,↓reduceIte,d0,d2,Bool.not_true,beq_self_eq_true]
   refine hK _ ?_
   exact hQ
  ·have d2:decide (st<0)=false:=J6 h2
   by_cases h3:3<st
   ·have d3:decide (3<st)=true:=J5 h3
    rw[J5 (by omega)]at hQ
    refine aW [12,0,1,3,4,7] rfl rfl rfl fun K hK=>?_
    simp(disch:=omega) only[Tryd.f9,go_sem,↓reduceIte,d0,d2,d3,Bool.not_true,beq_self_eq_true]
    refine hK _ ?_
    exact hQ
   ·have d3:decide (3<st)=false:=J6 h3
    rw[J6 (by omega)]at hQ
    refine aW [12,0,1,3,4,7] rfl rfl rfl fun K hK=>?_
    simp(disch:=omega) only[Tryd.f9,go_sem,↓reduceIte,d0,d2,d3,Bool.not_true,beq_self_eq_true]
    refine hK _ ?_
    exact hQ
 ·have d0:decide (role=0)=false:=J6 h0
  by_cases h1:role=1
  ·have d1:decide (role=1)=true:=J5 h1
   by_cases h2:st<0
   ·have d2:decide (st<0)=true:=J5 h2
    rw[J5 (by omega)]at hQ
    refine aW [12,0,1,3,4,7] rfl rfl rfl fun K hK=>?_
    simp(disch:=omega) only[Tryd.f9,go_sem,↓reduceIte,d0,d1,d2,Bool.not_true,Bool.not_false,beq_self_eq_true]
    refine hK _ ?_
    exact hQ
   ·have d2:decide (st<0)=false:=J6 h2
    by_cases h3:3<st
    ·have d3:decide (3<st)=true:=J5 h3
     rw[J5 (by omega)]at hQ
     refine aW [12,0,1,3,4,7] rfl rfl rfl fun K hK=>?_
     simp(disch:=omega) only[Tryd.f9,go_sem,↓reduceIte,d0,d1,d2,d3,Bool.not_true,Bool.not_false,beq_self_eq_true]
     refine hK _ ?_
     exact hQ
    ·have d3:decide (3<st)=false:=J6 h3
     rw[J6 (by omega)]at hQ
     refine aW [12,0,1,3,4,7] rfl rfl rfl fun K hK=>?_
     simp(disch:=omega) only[Tryd.f9,go_sem,↓reduceIte,d0,d1,d2,d3,Bool.not_true,Bool.not_false,beq_self_eq_true]
     refine hK _ ?_
     exact hQ
  ·have d1:decide (role=1)=false:=J6 h1
   rw[J5 (by omega)]at hQ
   refine aW [12,0,1,3,4,7] rfl rfl rfl fun K hK=>?_
   simp(disch:=omega) only[Tryd.f9,go_sem,↓reduceIte,d0,d1,Bool.not_false,beq_self_eq_true]
   refine hK _ ?_
   exact hQ
set_option maxHeartbeats 1000000 in
theorem bXo:cQ Tryd.prog GLh 9 uF:=by
 refine gF Tryd.func9 (aT rfl) ?_
 intro args hp nx r hp' nx' hg
 unfold uF at hg
 split at hg
 ·rename_i d role xs st now
  replace hg:=aJ hg;obtain⟨⟨s,m,C⟩,hD0,hg⟩:=hg
  have hD:=iV hD0
  replace hg:=aJ hg;obtain⟨l,hl8,hg⟩:=hg
  have:=iX _ hl8;subst this
  replace hg:=aJ hg;obtain⟨S,hS8,hg⟩:=hg
  have:=vN hS8;subst this
  have e0:c8 S.l=[.w8 S.a,.w8 S.b,.w8 S.c,.w8 S.d,.w8 S.e,.w8 S.f,.w8 S.g,.w8 S.h]:=rfl
  rw[e0]
  replace hg:=aP hg;obtain⟨⟨hok,hl,hc⟩,hg⟩:=hg
  simp only[Option.some.injEq,Prod.mk.injEq]at hg hD hok hl hc;obtain⟨rfl,rfl,rfl⟩:=hg
  refine⟨J1 rfl,by omega,fun hnone=>?_⟩
  have h1:=hD.hd;have h2:=hD.hs;have h3:=hD.hm
  obtain⟨n1,n2,n3,n4,n5,n6⟩:=hD.ne
  have hlt: ∀k o,hp k=some o→k<nx:=fun k o hk=>lI hnone hk
  have hd:=hlt _ _ h1
  have hs:=hlt _ _ h2
  have hm:=hlt _ _ h3
  refine aA rfl (aW [0,1,3,4,7] rfl rfl rfl fun K hK=>?_)
  simp(disch:=omega) only[Tryd.f9,go_sem,↓reduceIte]
  refine hK _ ?_
  refine aB (aA rfl (aR 0 rfl rfl (aA rfl (bXn (aB (gP (.tmp 12) rfl rfl rfl (fun h=>?_) (fun h=>?_)))))))
  ·have e:mkV C role S st now=(0#32,131,C):=J4 h
   rw[e]
   refine aA rfl (aW [10,11] rfl rfl rfl fun K hK=>?_)
   simp(disch:=omega) only[Tryd.f9,go_sem,↓reduceIte]
   refine hK _ ?_
   refine aB (aS rfl (bN (bI ?_)))
   rw[iQ hD]
   exact⟨rfl,fun j o h=>jB hnone (by omega) j o h,by simp only;omega⟩
  have hbad:=h
  clear h
  refine aA rfl (aW [27,0,1,3,4,7] rfl rfl rfl fun K hK=>?_)
  simp(disch:=omega) only[Tryd.f9,go_sem,↓reduceIte,h1,h2,jA,J8,J7,J9,aOv]
  refine hK _ ?_
  refine aB (gP (.tmp 27) rfl rfl rfl (fun h=>?_) (fun h=>?_))
  ·refine aI rfl ?_
   have e:mkV C role S st now=(0#32,133,C):=by unfold mkV;rw[J3 hbad,J4 (by omega)]
   rw[e]
   refine aA rfl (aW [10,11] rfl rfl rfl fun K hK=>?_)
   simp(disch:=omega) only[Tryd.f9,go_sem,↓reduceIte]
   refine hK _ ?_
   refine aB (aS rfl (bN (bI ?_)))
   rw[iQ hD]
   exact⟨rfl,fun j o h=>jB hnone (by omega) j o h,by simp only;omega⟩
  refine aI rfl ?_
  have e:mkV C role S st now=(C.last+1#32,0,mkC C (aRx C role S st now)):=by unfold mkV;rw[J3 hbad,J3 (by omega)]
  rw[e]
  refine aQ rfl (bU (aB (aA rfl (aW [0,1,3,4,7] rfl rfl rfl fun K hK=>?_))))
  simp(disch:=omega) only[Tryd.f9,go_sem,↓reduceIte,h1,jA,J8,List.set_cons_succ,List.set_cons_zero,J7,J9]
  refine hK _ ?_
  refine aB (aA rfl (bB (Γ:=aL) (fun _=>2) [0] bZ (aD _ _) rfl rfl rfl (by kernel_rfl) (fun K hK=>?_)))
  simp(disch:=omega) only[Tryd.f9,go_sem,↓reduceIte,h2,J8,U0,U1,J7,J9,List.all_cons,List.all_nil,Option.isSome_some,Bool.and_self,cK,List.nil_append,List.cons_append,aHm]
  refine hK _ ?_
  refine aB (aA rfl (aW [10,11] rfl rfl rfl fun K hK=>?_))
  simp(disch:=omega) only[Tryd.f9,go_sem,↓reduceIte,J8,J7,J9]
  refine hK _ ?_
  refine aB (aS rfl ?_)
  refine⟨rfl,fun j o hj=>oK (C:=mkC C (aRx C role S st now)) ?_ ?_ ?_ ?_ j o hj,by simp only;omega⟩
  ·simp(disch:=omega) only[aV,bY,↓reduceIte,eq_self]<;>rfl
  ·simp(disch:=omega) only[aV,↓reduceIte,eq_self]<;>rfl
  ·simp(disch:=omega) only[aV,bY,↓reduceIte]<;>first|exact h3|rfl
  intro k o k1 k2 k3 hk
  have:=hlt k o hk
  simp(disch:=omega) only[aV,bY,↓reduceIte]
  exact hk
 cases hg
theorem aZx:bX Tryd.prog GLh 9 (.heap uF):=⟨⟨_,Tryd.func9,rfl,rfl⟩,bXo⟩
def skC (C:RC) (id:W32) (k:KY) (n:W32):RC:= {C with by':=kT id {k with next:=n} C.by'}
def skV (C:RC) (id n:W32):Int×RC:=match iK id C.by' with
 |none=>(130,C)
 |some k=>if n≤k.next∨nlv k.h<n then(131,C)else(0,skC C id k n)
theorem cEo {C:RC} {id n:W32} (h:iK id C.by'=none):skV C id n=(130,C):=by rw[skV,h]
theorem cEn {C:RC} {id n:W32} {k:KY} (h:iK id C.by'=some k):skV C id n=if n≤k.next∨nlv k.h<n then(131,C)else(0,skC C id k n):=by rw[skV,h]
theorem ROk.skC {C:RC} (h:ROk C) {id n:W32} {k:KY} (hk:iK id C.by'=some k) (hn:n.toNat≤2^k.h):ROk (skC C id k n):=by
 obtain⟨b1,b2,b3,b4⟩:=h.key _ _ hk
 refine⟨fun i k2 hk2=>?_,fun i t ht=>?_,tF _ _ _ h.nb,h.nt⟩
 ·simp only[AX.skC,jK]at hk2
  split at hk2
  ·rename_i e
   obtain rfl:=J0 hk2
   subst e
   exact⟨b1,b2,hn,b4⟩
  exact h.key _ _ hk2
 obtain⟨k2,a1,a2⟩:=h.tree _ _ ht
 by_cases e:i=id
 ·subst e
  obtain rfl:=J0 (hk.symm.trans a1)
  exact⟨{k with next:=n},by simp only[AX.skC,jK,if_true],a2⟩
 exact⟨k2,by simp only[AX.skC,jK];rw[J3 e];exact a1,a2⟩
theorem cLl {h:Nat} {n:W32} (hh:h≤10) (hn: ¬nlv h<n):n.toNat≤2^h:=by
 rw[←aJh hh]
 exact BitVec.le_def.1 (BitVec.not_lt.1 hn)
theorem ROk.skV {C:RC} (h:ROk C) (id n:W32):ROk (skV C id n).2:=by
 rcases hk:iK id C.by' with _|k
 ·rw[cEo hk];exact h
 rw[cEn hk]
 split
 ·exact h
 rename_i hn
 exact h.skC hk (cLl (h.key _ _ hk).2.1 (fun e=>hn (.inr e)))
noncomputable def aUy:List AV→H→Nat→Option (AV×H×Nat)
 |[.op d 0,.w32 id,.w32 n],hp,nx=>aK (iN hp d) fun t=>aN (ROk t.C) (some (.i (skV t.C id n).1,setR d t.s t.m (skV t.C id n).2 hp,nx+80))
 |_,_,_=>none
theorem bGp (d:Nat) (id n:W32) (hp:H) (nx:Nat):aUy [.op d 0,.w32 id,.w32 n] hp nx=aK (iN hp d) fun t=>aN (ROk t.C) (some (.i (skV t.C id n).1,setR d t.s t.m (skV t.C id n).2 hp,nx+80)):=(rfl)
attribute [go_sem] bGp
set_option maxHeartbeats 1000000 in
theorem bTy:cQ Tryd.prog GLh 10 aUy:=by
 refine gF Tryd.func10 (aT rfl) ?_
 intro args hp nx r hp' nx' hg
 unfold aUy at hg
 split at hg
 ·rename_i d id n
  replace hg:=aJ hg;obtain⟨⟨s,m,C⟩,hD0,hg⟩:=hg
  have hD:=iV hD0
  replace hg:=aP hg;obtain⟨hok,hg⟩:=hg
  simp only[Option.some.injEq,Prod.mk.injEq]at hg hD hok;obtain⟨rfl,rfl,rfl⟩:=hg
  refine⟨J1 rfl,by omega,fun hnone=>?_⟩
  have h1:=hD.hd;have h2:=hD.hs;have h3:=hD.hm
  obtain⟨n1,n2,n3,n4,n5,n6⟩:=hD.ne
  have hlt: ∀k o,hp k=some o→k<nx:=fun k o hk=>lI hnone hk
  have hd:=hlt _ _ h1
  have hs:=hlt _ _ h2
  have hm:=hlt _ _ h3
  refine aA rfl (aW [0,1,2] rfl rfl rfl fun K hK=>?_)
  simp(disch:=omega) only[Tryd.f10,go_sem,↓reduceIte]
  refine hK _ ?_
  refine aB ?_
  rcases hk:iK id C.by' with _|k
  ·rw[cEo hk]
   refine aA rfl (aW [0,1,2,7,8] rfl rfl rfl fun K hK=>?_)
   simp(disch:=omega) only[Tryd.f10,go_sem,↓reduceIte,h1,h2,hk,jA,J8,J7,J9]
   refine hK _ ?_
   refine aB (aA rfl (aR 0 rfl rfl (aA rfl (aW [18,0,1,2,7] rfl rfl rfl fun K hK=>?_))))
   simp(disch:=omega) only[Tryd.f10,go_sem,↓reduceIte]
   refine hK _ ?_
   refine aB (eC (.tmp 18) rfl rfl rfl (fun h=>?_) (fun h=>?_))
   ·refine aI rfl (aA rfl (aW [6] rfl rfl rfl fun K hK=>?_))
    simp(disch:=omega) only[Tryd.f10,go_sem,↓reduceIte]
    refine hK _ ?_
    refine aB (aS rfl (bN (bI ?_)))
    rw[iQ hD]
    exact⟨rfl,fun j o h=>jB hnone (by omega) j o h,by simp only;omega⟩
   refine aI rfl ?_
   cases h
  obtain⟨k1,k2,k3,k4⟩:=hok.key _ _ hk
  have e1:=aIg k2
  have ek:=cEn (n:=n) hk
  refine aA rfl (aW [0,1,2,7,8] rfl rfl rfl fun K hK=>?_)
  simp(disch:=omega) only[Tryd.f10,go_sem,↓reduceIte,h1,h2,hk,jA,lV,J8,J7,J9]
  refine hK _ ?_
  refine aB (aA rfl (aR 0 rfl rfl (aA rfl (aW [18,0,1,2,7] rfl rfl rfl fun K hK=>?_))))
  simp(disch:=omega) only[Tryd.f10,go_sem,↓reduceIte]
  refine hK _ ?_
  refine aB (eC (.tmp 18) rfl rfl rfl (fun h=>?_) (fun h=>?_))
  ·refine aI rfl ?_
   cases h
  refine aI rfl ?_
  by_cases hb:n≤k.next
  ·have db:decide (n≤k.next)=true:=J5 hb
   rw[J4 (.inl hb)]at ek
   rw[ek]
   refine aA rfl (aW [21,0,1,2,7] rfl rfl rfl fun K hK=>?_)
   simp(disch:=omega) only[Tryd.f10,go_sem,↓reduceIte,db,J8,J7,J9]
   refine hK _ ?_
   refine aB (eC (.tmp 21) rfl rfl rfl (fun h=>?_) (fun h=>?_))
   ·refine aI rfl (aA rfl (aW [6] rfl rfl rfl fun K hK=>?_))
    simp(disch:=omega) only[Tryd.f10,go_sem,↓reduceIte]
    refine hK _ ?_
    refine aB (aS rfl (bN (bI ?_)))
    rw[iQ hD]
    exact⟨rfl,fun j o h=>jB hnone (by omega) j o h,by simp only;omega⟩
   refine aI rfl ?_
   cases h
  have db:decide (n≤k.next)=false:=J6 hb
  refine aA rfl (aW [21,0,1,2,7] rfl rfl rfl fun K hK=>?_)
  simp(disch:=omega) only[Tryd.f10,go_sem,↓reduceIte,e1,db,J8,J7,J9]
  refine hK _ ?_
  refine aB (gP (.tmp 21) rfl rfl rfl (fun h=>?_) (fun h=>?_))
  ·refine aI rfl ?_
   rw[J4 (.inr h)]at ek
   rw[ek]
   refine aA rfl (aW [6] rfl rfl rfl fun K hK=>?_)
   simp(disch:=omega) only[Tryd.f10,go_sem,↓reduceIte]
   refine hK _ ?_
   refine aB (aS rfl (bN (bI ?_)))
   rw[iQ hD]
   exact⟨rfl,fun j o h=>jB hnone (by omega) j o h,by simp only;omega⟩
  refine aI rfl ?_
  rw[J3 (fun e=>e.elim hb h)]at ek
  rw[ek]
  refine aQ rfl (bU (aB (aA rfl (aW [0,1,7] rfl rfl rfl fun K hK=>?_))))
  simp(disch:=omega) only[Tryd.f10,go_sem,↓reduceIte,List.set_cons_succ,List.set_cons_zero]
  refine hK _ ?_
  refine aB (aA rfl (bB (Γ:=aL) (fun _=>2) [] bZ (aD _ _) rfl rfl rfl (by kernel_rfl) (fun K hK=>?_)))
  simp(disch:=omega) only[Tryd.f10,go_sem,↓reduceIte,h1,h2,jA,J8,U0,U1,J7,J9]
  refine hK _ ?_
  refine aB (aA rfl (aW [6] rfl rfl rfl fun K hK=>?_))
  simp(disch:=omega) only[Tryd.f10,go_sem,↓reduceIte]
  refine hK _ ?_
  refine aB (aS rfl ?_)
  refine⟨rfl,fun j o hj=>oK (C:=skC C id k n) ?_ ?_ ?_ ?_ j o hj,by simp only;omega⟩
  ·simp(disch:=omega) only[aV,bY,↓reduceIte]<;>first|exact h1|rfl
  ·simp(disch:=omega) only[aV,↓reduceIte,eq_self]<;>rfl
  ·simp(disch:=omega) only[aV,bY,↓reduceIte]<;>first|exact h3|rfl
  intro k o k1 k2 k3 hk
  have:=hlt k o hk
  simp(disch:=omega) only[aV,bY,↓reduceIte]
  exact hk
 cases hg
theorem eIt:bX Tryd.prog GLh 10 (.heap aUy):=⟨⟨_,Tryd.func10,rfl,rfl⟩,bTy⟩
end Go.AX

namespace Go.AX
open Go Go.Proofs
set_option maxRecDepth 8000
open Classical in
noncomputable def zT (xs:List AV):Option KY:=if h: ∃k,xs=kyC k then some (Classical.choose h)else none
theorem sM (k:KY):zT (kyC k)=some k:=by
 have hx: ∃k',kyC k=kyC k':=⟨k,rfl⟩
 unfold zT
 rw[dif_pos hx]
 exact congrArg some (aJn (Classical.choose_spec hx)).symm
theorem aOb {xs:List AV} {k:KY} (h:zT xs=some k):xs=kyC k:=by
 unfold zT at h
 split at h
 ·rename_i hx
  rw[←J0 h]
  exact Classical.choose_spec hx
 cases h
theorem aSt (k:W32) (s:S8) (h:Nat) (l:List (W32×TK)):aEh (.w32 k) (.rp (trC s.l h)) (pG l)=some (pG (kT k ⟨s,h⟩ l)):=aHl k ⟨s,h⟩ l
attribute [go_sem] aSt
noncomputable instance:DecidableEq KY:=fun _ _=>Classical.propDecidable _
def trP (C:RC) (k:KY):List (W32×TK):=match iK k.id C.tr with
 |some _=>C.tr
 |none=>kT k.id ⟨k.seed,k.h⟩ C.tr
theorem cEk {C:RC} {k:KY} {t:TK} (h:iK k.id C.tr=some t):trP C k=C.tr:=by rw[trP,h]
theorem cEl {C:RC} {k:KY} (h:iK k.id C.tr=none):trP C k=kT k.id ⟨k.seed,k.h⟩ C.tr:=by rw[trP,h]
theorem ROk.trP {C:RC} (h:ROk C) {k:KY} (hk:iK k.id C.by'=some k):ROk {C with tr:=trP C k}:=by
 rcases e:iK k.id C.tr with _|t
 ·rw[cEl e]
  refine⟨h.key,fun i t ht=>?_,h.nb,tF _ _ _ h.nt⟩
  simp only[jK]at ht
  split at ht
  ·rename_i e2
   obtain rfl:=J0 ht
   subst e2
   exact⟨k,hk,rfl⟩
  exact h.tree _ _ ht
 rw[cEk e];exact h
noncomputable def aFl:List AV→H→Nat→Option (AV×H×Nat)
 |[.op d 0,.agg xs],hp,nx=>aK (iN hp d) fun t=>aK (zT xs) fun k=>aN (ROk t.C∧iK k.id t.C.by'=some k) (some (.rp (trC k.seed.l k.h),setR d t.s t.m {t.C with tr:=trP t.C k} hp,nx+100))
 |_,_,_=>none
theorem bFq (d:Nat) (xs:List AV) (hp:H) (nx:Nat):aFl [.op d 0,.agg xs] hp nx=aK (iN hp d) fun t=>aK (zT xs) fun k=>aN (ROk t.C∧iK k.id t.C.by'=some k) (some (.rp (trC k.seed.l k.h),setR d t.s t.m {t.C with tr:=trP t.C k} hp,nx+100)):=(rfl)
attribute [go_sem] bFq
set_option maxHeartbeats 1000000 in
theorem bSw:cQ Tryd.prog GLh 28 aFl:=by
 refine gF Tryd.func28 (aT rfl) ?_
 intro args hp nx r hp' nx' hg
 unfold aFl at hg
 split at hg
 ·rename_i d xs
  replace hg:=aJ hg;obtain⟨⟨s,m,C⟩,hD0,hg⟩:=hg
  have hD:=iV hD0
  replace hg:=aJ hg;obtain⟨k,hk0,hg⟩:=hg
  have:=aOb hk0;subst this
  replace hg:=aP hg;obtain⟨⟨hok,hk⟩,hg⟩:=hg
  simp only[Option.some.injEq,Prod.mk.injEq]at hg hD hok hk;obtain⟨rfl,rfl,rfl⟩:=hg
  refine⟨J1 rfl,by omega,fun hnone=>?_⟩
  have h1:=hD.hd;have h2:=hD.hs;have h3:=hD.hm
  obtain⟨n1,n2,n3,n4,n5,n6⟩:=hD.ne
  have hlt: ∀k o,hp k=some o→k<nx:=fun k o hk=>lI hnone hk
  have hd:=hlt _ _ h1
  have hs:=hlt _ _ h2
  have hm:=hlt _ _ h3
  obtain⟨k1,k2,k3,k4⟩:=hok.key _ _ hk
  have ekc:kyC k=[.w32 k.id,.i k.role,.i k.st,.w8 k.seed.a,.w8 k.seed.b,.w8 k.seed.c,.w8 k.seed.d,.w8 k.seed.e,.w8 k.seed.f,.w8 k.seed.g,.w8 k.seed.h,.i k.h,.w32 k.next,.w32 k.since,.w32 k.seen]:=rfl
  rw[ekc]
  have hnr:aRy [k.seed.a,k.seed.b,k.seed.c,k.seed.d,k.seed.e,k.seed.f,k.seed.g,k.seed.h] (k.h:Int)=.tup [.rp (trC k.seed.l k.h),.i 0]:=bKe k.seed.l k.h k2
  refine aA rfl (aW [0,3] rfl rfl rfl fun K hK=>?_)
  simp(disch:=omega) only[Tryd.f28,go_sem,↓reduceIte]
  refine hK _ ?_
  refine aB ?_
  rcases ht:iK k.id C.tr with _|t
  ·rw[cEl ht]
   refine aA rfl (bB (Γ:=aL) (fun k=>if k=6 then 0 else 2) [0,3,5] bZ (aD _ _) rfl rfl rfl (by kernel_rfl) (fun K hK=>?_))
   simp(disch:=omega) only[Tryd.f28,go_sem,↓reduceIte,h1,h3,ht,jA,J8,J7,J9]
   refine hK _ ?_
   refine aB (aA rfl (aA rfl (aW [14,0,3,5] rfl rfl rfl fun K hK=>?_)))
   simp(disch:=omega) only[Tryd.f28,go_sem,↓reduceIte]
   refine hK _ ?_
   refine aB (eC (.tmp 14) rfl rfl rfl (fun h=>?_) (fun h=>?_))
   ·refine aI rfl (aA rfl (aC (Γ:=bC [(47,.pure false bKg)]) [0,3,5] (aH ok51 aO) rfl rfl rfl (fun K hK=>?_)))
    simp(disch:=omega) only[Tryd.f28,go_sem,↓reduceIte,hnr,J8,U0,U1,J7,J9]
    refine hK _ ?_
    refine aB (bB (Γ:=aL) (fun _=>2) [5] bZ (aD _ _) rfl rfl rfl (by kernel_rfl) (fun K hK=>?_))
    simp(disch:=omega) only[Tryd.f28,go_sem,↓reduceIte,h1,h3,jA,J8,J7,J9]
    refine hK _ ?_
    refine aB (aA rfl (aW [4] rfl rfl rfl fun K hK=>?_))
    simp(disch:=omega) only[Tryd.f28,go_sem,↓reduceIte]
    refine hK _ ?_
    refine aB (aS rfl ?_)
    refine⟨rfl,fun j o hj=>oK (C:= {C with tr:=kT k.id ⟨k.seed,k.h⟩ C.tr}) ?_ ?_ ?_ ?_ j o hj,by simp only;omega⟩
    ·simp(disch:=omega) only[aV,bY,↓reduceIte]<;>first|exact h1|rfl
    ·simp(disch:=omega) only[aV,bY,↓reduceIte]<;>first|exact h2|rfl
    ·simp(disch:=omega) only[aV,↓reduceIte,eq_self]<;>first|exact h3|rfl
    intro k o k1 k2 k3 hk
    have:=hlt k o hk
    simp(disch:=omega) only[aV,bY,↓reduceIte]
    exact hk
   refine aI rfl ?_
   cases h
  obtain⟨k5,k6,k7⟩:=hok.tree _ _ ht
  obtain rfl:=J0 (hk.symm.trans k6)
  have et:aOt t=.rp (trC k.seed.l k.h):=by rw[k7];rfl
  rw[cEk ht]
  refine aA rfl (bB (Γ:=aL) (fun k=>if k=6 then 0 else 2) [0,3,5] bZ (aD _ _) rfl rfl rfl (by kernel_rfl) (fun K hK=>?_))
  simp(disch:=omega) only[Tryd.f28,go_sem,↓reduceIte,h1,h3,ht,et,jA,J8,J7,J9]
  refine hK _ ?_
  refine aB (aA rfl (aA rfl (aW [14,0,3,5] rfl rfl rfl fun K hK=>?_)))
  simp(disch:=omega) only[Tryd.f28,go_sem,↓reduceIte]
  refine hK _ ?_
  refine aB (eC (.tmp 14) rfl rfl rfl (fun h=>?_) (fun h=>?_))
  ·refine aI rfl ?_
   cases h
  refine aI rfl (aQ rfl (aB (aA rfl (aW [4] rfl rfl rfl fun K hK=>?_))))
  simp(disch:=omega) only[Tryd.f28,go_sem,↓reduceIte]
  refine hK _ ?_
  refine aB (aS rfl ?_)
  rw[show({c:=C.c,by':=C.by',last:=C.last,tr:=C.tr}:RC)=C from rfl,iQ hD]
  exact⟨rfl,fun j o h=>jB hnone (by omega) j o h,by simp only;omega⟩
 cases hg
theorem cFh:bX Tryd.prog GLh 28 (.heap aFl):=⟨⟨_,Tryd.func28,rfl,rfl⟩,bSw⟩
end Go.AX

namespace Go.AX
open Go Go.Proofs
set_option maxRecDepth 8000
def xFo (hp:H) (i off n:Nat):AO→Option (List B8×H)
 | .cells ys _=>aK (un8 ys) fun l=>aN (off+n≤l.length) (some ((l.drop off).take n,upd hp i (.cells ys false)))
 | .mapo _ _=>none
def xF (hp:H):AV→Option (List B8×H)
 | .sl n xs=>aK (un8 xs) fun b=>aN (b.length=n) (some (b,hp))
 | .v (.slice none 0 0)=>some ([],hp)
 | .os i off n e _=>aN (e=1) (aK (hp i) (xFo hp i off n))
 |_=>none
theorem cSs (hp:H) (n:Nat) (xs:List AV):xF hp (.sl n xs)=aK (un8 xs) fun b=>aN (b.length=n) (some (b,hp)):=(rfl)
theorem cGg (hp:H):xF hp (.v (.slice none 0 0))=some ([],hp):=(rfl)
theorem cSt (hp:H) (i off n e:Nat) (g:Bool):xF hp (.os i off n e g)=aN (e=1) (aK (hp i) (xFo hp i off n)):=(rfl)
theorem cSr (hp:H) (i off n:Nat) (ys:List AV) (mt:Bool):xFo hp i off n (.cells ys mt)=aK (un8 ys) fun l=>aN (off+n≤l.length) (some ((l.drop off).take n,upd hp i (.cells ys false))):=(rfl)
attribute [go_sem] cSs cGg cSt cSr
theorem bFg (hp:H) (i j:Nat) (a b:AO) (h:i≠j):upd (upd hp i a) j b=upd (upd hp j b) i a:=by
 funext k
 simp only[bJ]
 by_cases h1:k=i
 ·subst h1;simp[h]
 simp[h1]
theorem cSu {hp hp1:H} {x:AV} {b:List B8} {nx d s m:Nat} {C:RC} (h:xF hp x=some (b,hp1)) (hD:aDt hp d s m C) (hn: ∀id,nx≤id→hp id=none) (C':RC) (j:Nat) (a:AO) (hj:nx≤j):
  dW (setR d s m C' (upd hp j a)) x=some (.sl b.length (c8 b),setR d s m C' (upd hp1 j a)):=by
 unfold xF at h
 split at h
 ·rename_i n xs
  replace h:=aJ h;obtain⟨l,hl,h⟩:=h
  replace h:=aP h;obtain⟨hn,h⟩:=h
  simp only[Option.some.injEq,Prod.mk.injEq]at h
  obtain⟨rfl,rfl⟩:=h
  have:=iX _ hl
  subst this;subst hn
  rfl
 ·simp only[Option.some.injEq,Prod.mk.injEq]at h
  obtain⟨rfl,rfl⟩:=h
  rfl
 ·rename_i i off n e g
  replace h:=aP h;obtain⟨rfl,h⟩:=h
  replace h:=aJ h;obtain⟨o,ho,h⟩:=h
  cases o with
  |mapo es mt=>cases h
  |cells ys mt=>
   simp only[xFo]at h
   replace h:=aJ h;obtain⟨l,hl,h⟩:=h
   replace h:=aP h;obtain⟨hfit,h⟩:=h
   simp only[Option.some.injEq,Prod.mk.injEq]at h
   obtain⟨rfl,rfl⟩:=h
   have hys:=iX _ hl
   subst hys
   have hi:i<nx:=lI hn ho
   have hlen:((l.drop off).take n).length=n:=by simp;omega
   have i1:i≠d:=by
    intro e;subst e
    have:=ho.symm.trans hD.hd
    have:=(AO.cells.inj (J0 this)).1
    cases l with
    |nil=>cases this
    |cons a r=>cases (List.cons.inj this).1
   have i2:i≠s:=by
    intro e;subst e
    have:=ho.symm.trans hD.hs
    cases this
   have i3:i≠m:=by
    intro e;subst e
    have:=ho.symm.trans hD.hm
    cases this
   have e0:setR d s m C' (upd hp j a) i=some (.cells (c8 l) mt):=by
    rw[jN _ _ _ _ _ _ i1 i2 i3,bJ,J3 (by omega)];exact ho
   rw[cFx,e0,aX,cFy,cU _ (by rw[iM];omega),Nat.mul_one,tP,eEg,hlen,jJ _ _ _ _ _ _ _ i1 i2 i3,bFg _ j i _ _ (by omega)]
 ·cases h
theorem bSl {hp hp1:H} {x:AV} {b:List B8} {nx:Nat} (h:xF hp x=some (b,hp1)) (hn: ∀id,nx≤id→hp id=none): ∀id,nx≤id→hp1 id=none:=by
 unfold xF at h
 split at h
 ·rename_i n xs
  replace h:=aJ h;obtain⟨l,hl,h⟩:=h
  replace h:=aP h;obtain⟨_,h⟩:=h
  simp only[Option.some.injEq,Prod.mk.injEq]at h
  obtain⟨_,rfl⟩:=h
  exact hn
 ·simp only[Option.some.injEq,Prod.mk.injEq]at h
  obtain⟨_,rfl⟩:=h
  exact hn
 ·rename_i i off n e g
  replace h:=aP h;obtain⟨rfl,h⟩:=h
  replace h:=aJ h;obtain⟨o,ho,h⟩:=h
  cases o with
  |mapo es mt=>cases h
  |cells ys mt=>
   simp only[xFo]at h
   replace h:=aJ h;obtain⟨l,hl,h⟩:=h
   replace h:=aP h;obtain⟨hfit,h⟩:=h
   simp only[Option.some.injEq,Prod.mk.injEq]at h
   obtain⟨_,rfl⟩:=h
   have hi:i<nx:=lI hn ho
   intro id hid
   rw[bJ,J3 (by omega)]
   exact hn id hid
 cases h
def bUf (x:Option (List B8)) (a b:H):H:=match x with
 |none=>a
 |some _=>b
theorem bHc (a b:H):bUf none a b=a:=rfl
theorem eGy (x:List B8) (a b:H):bUf (some x) a b=b:=rfl
def bA:Option (List B8)→AV
 |none=> .v (.slice none 0 0)
 |some b=> .sl b.length (c8 b)
theorem eJk:bA none=.v (.slice none 0 0):=rfl
theorem eKf (b:List B8):bA (some b)=.sl b.length (c8 b):=rfl
def sgC (C:RC) (id:W32) (k:KY):RC:= {C with tr:=trP C k,by':=kT id {k with next:=k.next+1#32} C.by'}
def sgV (C:RC) (id:W32) (msg:List B8):Option (List B8)×Int×RC:=match iK id C.by' with
 |none=>(none,130,C)
 |some k=>if nlv k.h-k.next=0#32 then(none,132,C)else(some (lK k.seed.l k.h k.next msg),0,sgC C id k)
theorem cEq {C:RC} {id:W32} {msg:List B8} (h:iK id C.by'=none):sgV C id msg=(none,130,C):=by rw[sgV,h]
theorem cEp {C:RC} {id:W32} {msg:List B8} {k:KY} (h:iK id C.by'=some k):sgV C id msg=if nlv k.h-k.next=0#32 then(none,132,C)else(some (lK k.seed.l k.h k.next msg),0,sgC C id k):=by rw[sgV,h]
theorem bFx {h:Nat} {n:W32} (hh:h≤10) (hn:n.toNat≤2^h):(nlv h-n=0#32)↔n.toNat=2^h:=by
 have e:=aJh hh
 have:=(vU hh).1
 rw[←BitVec.toNat_inj,BitVec.toNat_sub,e]
 show(2^32-n.toNat+2^h)%2^32=0↔_
 omega
theorem bTj {h:Nat} {n:W32} (hh:h≤10) (hn:n.toNat≤2^h):(n+1#32).toNat=n.toNat+1:=by
 have:=(vU hh).1
 rw[BitVec.toNat_add]
 show(n.toNat+1)%2^32=_
 omega
theorem ROk.sgC {C:RC} (h:ROk C) {id:W32} {k:KY} (hk:iK id C.by'=some k) (hn: ¬nlv k.h-k.next=0#32):ROk (sgC C id k):=by
 obtain⟨b1,b2,b3,b4⟩:=h.key _ _ hk
 have h2:ROk {C with tr:=AX.trP C k}:=h.trP (by rw[b1];exact hk)
 have e1:=bTj b2 b3
 have e2:=bFx b2 b3
 have e3:k.next.toNat≠2^k.h:=fun e=>hn (e2.2 e)
 exact h2.skC (id:=id) (n:=k.next+1#32) hk (by omega)
theorem ROk.sgV {C:RC} (h:ROk C) (id:W32) (msg:List B8):ROk (sgV C id msg).2.2:=by
 rcases hk:iK id C.by' with _|k
 ·rw[cEq hk];exact h
 rw[cEp hk]
 split
 ·exact h
 rename_i hn;exact h.sgC hk hn
noncomputable def aJo:List AV→H→Nat→Option (AV×H×Nat)
 |[.op d 0,.w32 id,x],hp,nx=>aK (iN hp d) fun t=>aK (xF hp x) fun mh=>aN (ROk t.C∧mh.1.length≤900000000) (some (.tup [bA (sgV t.C id mh.1).1,.i (sgV t.C id mh.1).2.1],setR d t.s t.m (sgV t.C id mh.1).2.2 (bUf (sgV t.C id mh.1).1 hp mh.2),nx+300))
 |_,_,_=>none
theorem bAy (d:Nat) (id:W32) (x:AV) (hp:H) (nx:Nat):aJo [.op d 0,.w32 id,x] hp nx=aK (iN hp d) fun t=>aK (xF hp x) fun mh=>aN (ROk t.C∧mh.1.length≤900000000) (some (.tup [bA (sgV t.C id mh.1).1,.i (sgV t.C id mh.1).2.1],setR d t.s t.m (sgV t.C id mh.1).2.2 (bUf (sgV t.C id mh.1).1 hp mh.2),nx+300)):=(rfl)
attribute [go_sem] bAy
theorem aIn {hp:H} {d s m:Nat} {C:RC} (h:aDt hp d s m C) (j:Nat) (a:AO) (h1:j≠d) (h2:j≠s) (h3:j≠m):iN (upd hp j a) d=some ⟨s,m,C⟩:=
 aFy ⟨by rw[bJ,J3 (Ne.symm h1)];exact h.hd,by rw[bJ,J3 (Ne.symm h2)];exact h.hs,by rw[bJ,J3 (Ne.symm h3)];exact h.hm,h.ne⟩
set_option maxHeartbeats 1000000 in
theorem bMb:cQ Tryd.prog GLh 12 aJo:=by
 refine gF Tryd.func12 (aT rfl) ?_
 intro args hp nx r hp' nx' hg
 unfold aJo at hg
 split at hg
 ·rename_i d id x
  replace hg:=aJ hg;obtain⟨⟨s,m,C⟩,hD0,hg⟩:=hg
  have hD:=iV hD0
  replace hg:=aJ hg;obtain⟨⟨msg,hp1⟩,hx,hg⟩:=hg
  replace hg:=aP hg;obtain⟨⟨hok,hml⟩,hg⟩:=hg
  simp only[Option.some.injEq,Prod.mk.injEq]at hg hD hok hml;obtain⟨rfl,rfl,rfl⟩:=hg
  refine⟨J1 rfl,by omega,fun hnone=>?_⟩
  have h1:=hD.hd;have h2:=hD.hs;have h3:=hD.hm
  obtain⟨n1,n2,n3,n4,n5,n6⟩:=hD.ne
  have hlt: ∀k o,hp k=some o→k<nx:=fun k o hk=>lI hnone hk
  have hd:=hlt _ _ h1
  have hs:=hlt _ _ h2
  have hm:=hlt _ _ h3
  refine aA rfl (aW [0,1,2] rfl rfl rfl fun K hK=>?_)
  simp(disch:=omega) only[Tryd.f12,go_sem,↓reduceIte]
  refine hK _ ?_
  refine aB ?_
  rcases hk:iK id C.by' with _|k
  ·rw[cEq hk]
   refine aA rfl (aW [0,1,2,8,9] rfl rfl rfl fun K hK=>?_)
   simp(disch:=omega) only[Tryd.f12,go_sem,↓reduceIte,h1,h2,hk,jA,J8,J7,J9]
   refine hK _ ?_
   refine aB (aA rfl (aR 0 rfl rfl (aA rfl (aW [21,0,1,2,8] rfl rfl rfl fun K hK=>?_))))
   simp(disch:=omega) only[Tryd.f12,go_sem,↓reduceIte]
   refine hK _ ?_
   refine aB (eC (.tmp 21) rfl rfl rfl (fun h=>?_) (fun h=>?_))
   ·refine aI rfl (aA rfl (aW [6,7] rfl rfl rfl fun K hK=>?_))
    simp(disch:=omega) only[Tryd.f12,go_sem,↓reduceIte]
    refine hK _ ?_
    refine aB (aS rfl (bN (bI ?_)))
    rw[bHc,iQ hD]
    exact⟨rfl,fun j o h=>jB hnone (by omega) j o h,by simp only;omega⟩
   refine aI rfl ?_
   cases h
  obtain⟨k1,k2,k3,k4⟩:=hok.key _ _ hk
  have e1:=aIg k2
  have ek:=cEp (msg:=msg) hk
  refine aA rfl (aW [0,1,2,8,9] rfl rfl rfl fun K hK=>?_)
  simp(disch:=omega) only[Tryd.f12,go_sem,↓reduceIte,h1,h2,hk,jA,lV,J8,J7,J9]
  refine hK _ ?_
  refine aB (aA rfl (aR 0 rfl rfl (aA rfl (aW [21,0,1,2,8] rfl rfl rfl fun K hK=>?_))))
  simp(disch:=omega) only[Tryd.f12,go_sem,↓reduceIte]
  refine hK _ ?_
  refine aB (eC (.tmp 21) rfl rfl rfl (fun h=>?_) (fun h=>?_))
  ·refine aI rfl ?_
   cases h
  refine aI rfl ?_
  clear h
  have elf:=cFs hk
  have hru:=aIn hD
  have hno1:=bSl hx hnone
  have hx2:=cSu hx hD hnone
  have hki:iK k.id C.by'=some k:=by rw[k1];exact hk
  have hky:zT [.w32 k.id,.i k.role,.i k.st,.w8 k.seed.a,.w8 k.seed.b,.w8 k.seed.c,.w8 k.seed.d,.w8 k.seed.e,.w8 k.seed.f,.w8 k.seed.g,.w8 k.seed.h,.i k.h,.w32 k.next,.w32 k.since,.w32 k.seen]=some k:=sM k
  refine aA rfl (aC (Γ:=bC [(14,.heap aNy)]) [24,0,1,2,8] (aH cWe aO) rfl rfl rfl (fun K hK=>?_))
  simp(disch:=omega) only[Tryd.f12,go_sem,↓reduceIte,hru,hok,elf]
  refine hK _ ?_
  refine aB (gP (.tmp 24) rfl rfl rfl (fun h=>?_) (fun h=>?_))
  ·refine aI rfl ?_
   rw[J4 h]at ek
   rw[ek]
   refine aA rfl (aW [6,7] rfl rfl rfl fun K hK=>?_)
   simp(disch:=omega) only[Tryd.f12,go_sem,↓reduceIte]
   refine hK _ ?_
   refine aB (aS rfl (bN (bI ?_)))
   rw[bHc,iQ hD]
   exact⟨rfl,fun j o h=>jB hnone (by omega) j o h,by simp only;omega⟩
  refine aI rfl ?_
  rw[J3 h]at ek
  rw[ek]
  have hun:=aHz k.seed.l k.h k.seed.len k2
  have hsb:=bFx k2 k3
  have hlt2:k.next.toNat<2^k.h:=by have:k.next.toNat≠2^k.h:=fun e=>h (hsb.2 e);omega
  have htr:aAt k.seed.l k.h k.next msg=.tup [.sl (lK k.seed.l k.h k.next msg).length (c8 (lK k.seed.l k.h k.next msg)),.i 0]:=by rw[aLr _ _ _ _ hlt2,qM]
  refine aQ rfl (bU (aB (aA rfl (aKy (Γ:=bC [(28,.heap aFl),(31,.pure false aAu)]) 2 4 [0,1,2,3,4,5,6,7,8,9,10,11] [3,4,0,1,2,5,6,7,8,9,10,11] (fun k=>if k=2 then 0 else if k=6 then 0 else 2) [0,1,8,10] bZ (aH cFh (aH ok55 aO)) (by decide) rfl rfl rfl (by kernel_rfl) (fun K hK=>?_) (fun K hK=>?_)))))
  ·simp(disch:=omega) only[Tryd.f12,go_sem,nJ,lY,eDt,List.getElem?_cons_zero,List.getElem?_cons_succ,↓reduceIte,hru,hok,hki,hky,hx2,hun,htr,J8,U0,U1,J7,J9]
   refine hK _ ?_
   refine aB (aA rfl (aW [0,1,8,10] rfl rfl rfl fun K hK=>?_))
   simp(disch:=omega) only[Tryd.f12,go_sem,↓reduceIte,J8,List.set_cons_succ,List.set_cons_zero,J7,J9]
   refine hK _ ?_
   refine aB (aA rfl (bB (Γ:=aL) (fun _=>2) [10] bZ (aD _ _) rfl rfl rfl (by kernel_rfl) (fun K hK=>?_)))
   simp(disch:=omega) only[Tryd.f12,go_sem,↓reduceIte,bGy,bGw,jA,J8,U0,U1,J7,J9]
   refine hK _ ?_
   refine aB (aA rfl (aW [6,7] rfl rfl rfl fun K hK=>?_))
   simp(disch:=omega) only[Tryd.f12,go_sem,↓reduceIte]
   refine hK _ ?_
   refine aB (aS rfl ?_)
   exact⟨rfl,fun j o h=>hU (fun j2 o2 h2=>jB hno1 (by omega) j2 o2 h2) j o h,by simp only;omega⟩
  simp(disch:=omega) only[Tryd.f12,go_sem,nJ,lY,eDt,List.getElem?_cons_zero,List.getElem?_cons_succ,↓reduceIte,hru,hok,hki,hky,hx2,hun,htr,J8,U0,U1,J7,J9]
  refine hK _ ?_
  refine aB (aA rfl (aW [0,1,8,10] rfl rfl rfl fun K hK=>?_))
  simp(disch:=omega) only[Tryd.f12,go_sem,↓reduceIte,J8,List.set_cons_succ,List.set_cons_zero,J7,J9]
  refine hK _ ?_
  refine aB (aA rfl (bB (Γ:=aL) (fun _=>2) [10] bZ (aD _ _) rfl rfl rfl (by kernel_rfl) (fun K hK=>?_)))
  simp(disch:=omega) only[Tryd.f12,go_sem,↓reduceIte,bGy,bGw,jA,J8,U0,U1,J7,J9]
  refine hK _ ?_
  refine aB (aA rfl (aW [6,7] rfl rfl rfl fun K hK=>?_))
  simp(disch:=omega) only[Tryd.f12,go_sem,↓reduceIte]
  refine hK _ ?_
  refine aB (aS rfl ?_)
  exact⟨rfl,fun j o h=>hU (fun j2 o2 h2=>jB hno1 (by omega) j2 o2 h2) j o h,by simp only;omega⟩
 cases hg
theorem eFw:bX Tryd.prog GLh 12 (.heap aJo):=⟨⟨_,Tryd.func12,rfl,rfl⟩,bMb⟩
end Go.AX

namespace Go.AX
open Go Go.Proofs
set_option maxRecDepth 8000
def flK (k:KY):BitVec 16:=if k.role=1 then 257#16 else 256#16
def dkB (k:KY):List B8:=wF (flK k) 3#8 253#8 (iR k.seed.l k.h 0)
theorem aAg (k:KY):(dkB k).length=12:=by
 rw[dkB,wF,List.length_append,iW];rfl
def dtN (k:KY):Nat:=if k.role=1 then 135 else 130
theorem dAt {k:KY} (h:k.role=1):dtN k=135:=J4 h
theorem dAu {k:KY} (h: ¬k.role=1):dtN k=130:=J3 h
theorem aOi {hp t:H} {i:Nat} {a:AO} (ht:t i=some a) (hs: ∀j o,j≠i→hp j=some o→t j=some o): ∀j o,upd hp i a j=some o→t j=some o:=by
 intro j o h
 rw[bJ]at h
 split at h
 ·rename_i e;subst e;rw[ht];exact h
 rename_i e;exact hs j o e h
noncomputable def cBa (d s m:Nat) (C:RC) (hp:H) (nx:Nat):Option KY→Option (AV×H×Nat)
 |none=>some (.tup [.v (.slice none 0 0),.b false],setR d s m C hp,nx+400)
 |some k=>some (.tup [.os (nx+dtN k) 0 12 1 true,.b true],setR d s m {C with tr:=trP C k} (upd hp (nx+dtN k) (.cells (c8 (dkB k)) true)),nx+400)
theorem bOe (d s m:Nat) (C:RC) (hp:H) (nx:Nat):cBa d s m C hp nx none=some (.tup [.v (.slice none 0 0),.b false],setR d s m C hp,nx+400):=rfl
theorem bOd (d s m:Nat) (C:RC) (hp:H) (nx:Nat) (k:KY):cBa d s m C hp nx (some k)=some (.tup [.os (nx+dtN k) 0 12 1 true,.b true],setR d s m {C with tr:=trP C k} (upd hp (nx+dtN k) (.cells (c8 (dkB k)) true)),nx+400):=rfl
noncomputable def bOf:List AV→H→Nat→Option (AV×H×Nat)
 |[.op d 0,.w32 id],hp,nx=>aK (iN hp d) fun t=>aN (ROk t.C) (cBa d t.s t.m t.C hp nx (iK id t.C.by'))
 |_,_,_=>none
theorem cBb (d:Nat) (id:W32) (hp:H) (nx:Nat):bOf [.op d 0,.w32 id] hp nx=aK (iN hp d) fun t=>aN (ROk t.C) (cBa d t.s t.m t.C hp nx (iK id t.C.by')):=(rfl)
attribute [go_sem] cBb bOe bOd
set_option maxHeartbeats 1000000 in
theorem cPx:cQ Tryd.prog GLh 11 bOf:=by
 refine gF Tryd.func11 (aT rfl) ?_
 intro args hp nx r hp' nx' hg
 unfold bOf at hg
 split at hg
 ·rename_i d id
  replace hg:=aJ hg;obtain⟨⟨s,m,C⟩,hD0,hg⟩:=hg
  have hD:=iV hD0
  replace hg:=aP hg;obtain⟨hok,hg⟩:=hg
  simp only at hg hD hok
  rcases hk:iK id C.by' with _|k
  ·rw[hk,bOe]at hg
   simp only[Option.some.injEq,Prod.mk.injEq]at hg;obtain⟨rfl,rfl,rfl⟩:=hg
   refine⟨J1 rfl,by omega,fun hnone=>?_⟩
   have h1:=hD.hd;have h2:=hD.hs;have h3:=hD.hm
   refine aA rfl (aW [0,1] rfl rfl rfl fun K hK=>?_)
   simp(disch:=omega) only[Tryd.f11,go_sem,↓reduceIte]
   refine hK _ ?_
   refine aB (aA rfl (aW [0,6,7] rfl rfl rfl fun K hK=>?_))
   simp(disch:=omega) only[Tryd.f11,go_sem,↓reduceIte,h1,h2,hk,jA,J8,J7,J9]
   refine hK _ ?_
   refine aB (aA rfl (aA rfl (aW [20,0,6] rfl rfl rfl fun K hK=>?_)))
   simp(disch:=omega) only[Tryd.f11,go_sem,↓reduceIte]
   refine hK _ ?_
   refine aB (eC (.tmp 20) rfl rfl rfl (fun h=>?_) (fun h=>?_))
   ·refine aI rfl (aA rfl (aW [4,5] rfl rfl rfl fun K hK=>?_))
    simp(disch:=omega) only[Tryd.f11,go_sem,↓reduceIte]
    refine hK _ ?_
    refine aB (aS rfl (bI ?_))
    rw[iQ hD]
    exact⟨rfl,fun j o h=>jB hnone (by omega) j o h,by simp only;omega⟩
   refine aI rfl ?_
   cases h
  rw[hk,bOd]at hg
  simp only[Option.some.injEq,Prod.mk.injEq]at hg;obtain⟨rfl,rfl,rfl⟩:=hg
  refine⟨J1 rfl,by omega,fun hnone=>?_⟩
  have h1:=hD.hd;have h2:=hD.hs;have h3:=hD.hm
  obtain⟨n1,n2,n3,n4,n5,n6⟩:=hD.ne
  have hlt: ∀k o,hp k=some o→k<nx:=fun k o hk=>lI hnone hk
  have hd:=hlt _ _ h1
  have hs:=hlt _ _ h2
  have hm:=hlt _ _ h3
  obtain⟨k1,k2,k3,k4⟩:=hok.key _ _ hk
  have hki:iK k.id C.by'=some k:=by rw[k1];exact hk
  have hky:zT [.w32 k.id,.i k.role,.i k.st,.w8 k.seed.a,.w8 k.seed.b,.w8 k.seed.c,.w8 k.seed.d,.w8 k.seed.e,.w8 k.seed.f,.w8 k.seed.g,.w8 k.seed.h,.i k.h,.w32 k.next,.w32 k.since,.w32 k.seen]=some k:=sM k
  have hun:=aHz k.seed.l k.h k.seed.len k2
  have hru:=aIn hD
  have hnl:=iW k.seed.l k.h 0
  have hdl:=aAg k
  refine aA rfl (aW [0,1] rfl rfl rfl fun K hK=>?_)
  simp(disch:=omega) only[Tryd.f11,go_sem,↓reduceIte]
  refine hK _ ?_
  refine aB (aA rfl (aW [0,6,7] rfl rfl rfl fun K hK=>?_))
  simp(disch:=omega) only[Tryd.f11,go_sem,↓reduceIte,h1,h2,hk,jA,lV,J8,J7,J9]
  refine hK _ ?_
  refine aB (aA rfl (aA rfl (aW [20,0,6] rfl rfl rfl fun K hK=>?_)))
  simp(disch:=omega) only[Tryd.f11,go_sem,↓reduceIte]
  refine hK _ ?_
  refine aB (eC (.tmp 20) rfl rfl rfl (fun h=>?_) (fun h=>?_))
  ·refine aI rfl ?_
   cases h
  refine aI rfl ?_
  clear h
  refine aQ rfl (aB (aA rfl (aC (Γ:=bC [(28,.heap aFl),(29,.pure true aMp)]) [6,8] (aH cFh (aH ok52 aO)) rfl rfl rfl (fun K hK=>?_))))
  simp(disch:=omega) only[Tryd.f11,go_sem,↓reduceIte,hru,hok,hki,hky,hun,U0,U1,J9]
  refine hK _ ?_
  refine aB (aA rfl (aW [6,9] rfl rfl rfl fun K hK=>?_))
  simp(disch:=omega) only[Tryd.f11,go_sem,↓reduceIte,List.all_cons,List.all_nil,Option.isSome_some,Bool.and_self]
  refine hK _ ?_
  refine aB (aA rfl (aA rfl (aW [29,9] rfl rfl rfl fun K hK=>?_)))
  simp(disch:=omega) only[Tryd.f11,go_sem,↓reduceIte,J8,J7,J9]
  refine hK _ ?_
  refine aB (gP (.tmp 29) rfl rfl rfl (fun h=>?_) (fun h=>?_))
  ·refine aI rfl ?_
   have edk:wF 257#16 3#8 253#8 (iR k.seed.l k.h 0)=dkB k:=by unfold dkB flK;rw[J4 h]
   refine aW [9] rfl rfl rfl fun K hK=>?_
   simp(disch:=omega) only[Tryd.f11,go_sem,↓reduceIte,BitVec.reduceOr,J8,List.set_cons_zero,J9]
   refine hK _ ?_
   refine aB (aA rfl (aC (Γ:=bC [(30,.fresh true qG)]) [4,5] (aH cFg aO) rfl rfl rfl (fun K hK=>?_)))
   simp(disch:=omega) only[Tryd.f11,go_sem,↓reduceIte,hnl,edk,hdl,U0,U1,J9]
   refine hK _ ?_
   refine aB (aS rfl ?_)
   have edn:=dAt h
   rw[edn]
   refine⟨by simp only[Nat.add_assoc,Nat.reduceAdd];rfl,fun j o h=>hU (fun j2 o2 h2=>?_) j o h,by simp only;omega⟩
   refine aOi ?_ ?_ j2 o2 h2
   ·simp only[Nat.add_assoc,Nat.reduceAdd,bJ,if_true]
   intro j3 o3 hne h3
   have:=hlt j3 o3 h3
   simp(disch:=omega) only[aV,bY,↓reduceIte]
   exact h3
  refine aI rfl ?_
  have edk:wF 256#16 3#8 253#8 (iR k.seed.l k.h 0)=dkB k:=by unfold dkB flK;rw[J3 h]
  refine aQ rfl (aB (aA rfl (aC (Γ:=bC [(30,.fresh true qG)]) [4,5] (aH cFg aO) rfl rfl rfl (fun K hK=>?_))))
  simp(disch:=omega) only[Tryd.f11,go_sem,↓reduceIte,hnl,edk,hdl,U0,U1,J9]
  refine hK _ ?_
  refine aB (aS rfl ?_)
  have edn:=dAu h
  rw[edn]
  refine⟨by simp only[Nat.add_assoc,Nat.reduceAdd];rfl,fun j o h=>hU (fun j2 o2 h2=>?_) j o h,by simp only;omega⟩
  refine aOi ?_ ?_ j2 o2 h2
  ·simp only[Nat.add_assoc,Nat.reduceAdd,bJ,if_true]
  intro j3 o3 hne h3
  have:=hlt j3 o3 h3
  simp(disch:=omega) only[aV,bY,↓reduceIte]
  exact h3
 cases hg
theorem cWf:bX Tryd.prog GLh 11 (.heap bOf):=⟨⟨_,Tryd.func11,rfl,rfl⟩,cPx⟩
end Go.AX

namespace Go.AX
open Go Go.Proofs
abbrev T32:=BitVec 32
def ltN (x y:T32):Bool:=decide (x.toNat<y.toNat)
def cA (d:Array T32):List AV:=d.toList.map .w32
theorem cQr (d:Array T32):(cA d).length=d.size:=by simp[cA]
theorem aXt (d:Array T32) (k:Nat) (h:k<d.size):((cA d).drop k).head? =some (.w32 d[k]!):=by
 rw[List.head?_drop,cA,List.getElem?_map,Array.getElem?_toList,Array.getElem?_eq_getElem h,getElem!_pos d k h];rfl
theorem aTi (d:Array T32) (k:Nat) (x:T32):(cA d).set k (.w32 x)=cA (d.setIfInBounds k x):=by
 simp[cA,List.map_set]
theorem dZ (d:Array T32):AV.noMem.noMemL (cA d)=true:=by
 unfold cA
 generalize d.toList=l
 induction l with
 |nil=>rfl
 |cons x l ih=>show(AV.noMem (.w32 x)&&AV.noMem.noMemL (l.map .w32))=true;rw[ih];rfl
def unA:List AV→Option (List T32)
 |[]=>some []
 | .w32 x::r=>aK (unA r) fun l=>some (x::l)
 |_=>none
theorem dO: ∀ {xs:List AV} {l:List T32},unA xs=some l→xs=cA l.toArray
 |[],l,h=>by obtain rfl:=J0 h;rfl
 |x::r,l,h=>by
  cases x<;>simp only[unA]at h<;>first|(cases h;done)|skip
  replace h:=aJ h;obtain⟨m,hm,h⟩:=h
  obtain rfl:=J0 h
  have:=dO hm
  rw[this];simp[cA]
theorem bFk (d:Array T32):unA (cA d)=some d.toList:=by
 unfold cA
 generalize d.toList=l
 induction l with
 |nil=>rfl
 |cons x l ih=>show aK (unA (l.map .w32)) (fun l=>some (x::l))=_;rw[ih,aX]
theorem cW (d:Array T32) (i j:Nat):(Sort.swp d i j).size=d.size:=by simp[Sort.swp]
theorem qW:Sort.SWO ltN where
 irrefl x:=by simp[ltN]
 trans x y z h1 h2:=by simp only[ltN,decide_eq_true_eq]at*;omega
 ntrans x y z h1 h2:=by simp only[ltN,decide_eq_false_iff_not]at*;omega
def iU (l:List T32):List T32:=(Sort.sort ltN l.toArray).toList
theorem kC (l:List T32):(iU l).Perm l:=by
 have h:=(Sort.sort_sorts ltN qW l.toArray).1
 obtain⟨h1,_,h3⟩:=h
 unfold iU
 have e1:(Sort.sort ltN l.toArray).extract 0 l.toArray.size=Sort.sort ltN l.toArray:=by rw[←h1];exact Array.extract_size
 rw[e1,Array.extract_size]at h3
 exact h3
theorem aFo (l:List T32):(iU l).length=l.length:=(kC l).length_eq
theorem nY (l:List T32):(iU l).Pairwise fun a b=>a.toNat≤b.toNat:=by
 have h:=(Sort.sort_sorts ltN qW l.toArray)
 obtain⟨⟨h1,_,_⟩,h2⟩:=h
 rw[List.pairwise_iff_getElem]
 intro i j hi hj hij
 have hs:(iU l).length=l.toArray.size:=by rw[aFo];simp
 have:=h2 i j (Nat.zero_le _) hij (by omega)
 have e: ∀k (hk:k<(iU l).length),(Sort.sort ltN l.toArray)[k]! =(iU l)[k]:=by
  intro k hk
  rw[getElem!_pos _ k (by rw[h1];omega)];rfl
 rw[e j hj,e i hi]at this
 simp only[ltN,decide_eq_false_iff_not]at this
 omega
attribute [go_sem] Array.size_setIfInBounds cW cQr aXt aTi dZ bFk
end Go.AX

namespace Go.AX
open Go Go.Proofs
structure SDC where
 k:Nat
 d:Array T32
 c:Nat
theorem cMm (x y:T32):decide (x<y)=ltN x y:=by
 unfold ltN;rw[decide_eq_decide,BitVec.lt_def]
def bKh:List AV→Option AV
 |[.w32 _]=>some (.b false)
 |_=>none
theorem bWy (x:T32):bKh [.w32 x]=some (.b false):=(rfl)
def dY:List AV→Option AV
 |[.w32 x,.w32 y]=>some (.b (ltN x y))
 |_=>none
theorem bLn (x y:T32):dY [.w32 x,.w32 y]=some (.b (ltN x y)):=(rfl)
attribute [go_sem] bWy bLn
set_option maxHeartbeats 1000000 in
theorem cLo:cL Tryd.prog GLh 96 bKh:=by
 refine cC Tryd.func96 (aT rfl) ?_
 intro args r hg
 unfold bKh at hg
 split at hg
 ·rename_i x
  obtain rfl:=J0 hg
  refine⟨J1 rfl,fun nx=>?_⟩
  refine aA rfl (aW [0] rfl rfl rfl fun K hK=>?_)
  simp(disch:=omega) only[Tryd.f96,go_sem,↓reduceIte]
  refine hK _ ?_
  refine aB (aA rfl (aW [2] rfl rfl rfl fun K hK=>?_))
  simp(disch:=omega) only[Tryd.f96,go_sem,↓reduceIte,decide_true,Bool.not_true]
  refine hK _ ?_
  refine aB (aS rfl ?_)
  simp(disch:=omega) only[cN,bV,bK,bQ,Tryd.f96,go_sem,↓reduceIte]
 cases hg
theorem cKg:bX Tryd.prog GLh 96 (.pure true bKh):=⟨⟨_,Tryd.func96,rfl,rfl⟩,cLo⟩
set_option maxHeartbeats 1000000 in
theorem bXs:cL Tryd.prog GLh 84 dY:=by
 refine cC Tryd.func84 (aT rfl) ?_
 intro args r hg
 unfold dY at hg
 split at hg
 ·rename_i x y
  obtain rfl:=J0 hg
  refine⟨J1 rfl,fun nx=>?_⟩
  refine aA rfl (aW [0,1] rfl rfl rfl fun K hK=>?_)
  simp(disch:=omega) only[Tryd.f84,go_sem,↓reduceIte]
  refine hK _ ?_
  refine aB (aA rfl (aC (Γ:=bC [(96,.pure true bKh)]) [4] (aH cKg aO) rfl rfl rfl (fun K hK=>?_)))
  simp(disch:=omega) only[Tryd.f84,go_sem,↓reduceIte,cMm]
  refine hK _ ?_
  refine aB (aS rfl ?_)
  simp(disch:=omega) only[cN,bV,bK,bQ,Tryd.f84,go_sem,↓reduceIte]
 cases hg
theorem jC:bX Tryd.prog GLh 84 (.pure true dY):=⟨⟨_,Tryd.func84,rfl,rfl⟩,bXs⟩
def bMq:List AV→List AV→Option (AV×List AV)
 |[.os _ 0 n 1 _,.i a,.i b],xs=>aK (unA xs) fun l=>aN (l.length=n∧0≤a∧a≤b∧b≤n∧n≤1000000) (some (.tup [],cA (Sort.insertionSort ltN l.toArray a.toNat b.toNat)))
 |_,_=>none
theorem bYt (id n:Nat) (gg:Bool) (a b:Int) (xs:List AV):bMq [.os id 0 n 1 gg,.i a,.i b] xs=aK (unA xs) fun l=>aN (l.length=n∧0≤a∧a≤b∧b≤n∧n≤1000000) (some (.tup [],cA (Sort.insertionSort ltN l.toArray a.toNat b.toNat))):=(rfl)
attribute [go_sem] bYt
theorem bMp (a j:Nat) (d:Array T32):Sort.insInner ltN a (j+1) d=if j+1>a&&ltN d[j+1]! d[j]! then Sort.insInner ltN a j (Sort.swp d (j+1) j)else d:=by rw[Sort.insInner]
set_option maxHeartbeats 1000000 in
theorem cNh:cQ Tryd.prog GLh 78 (dP bMq):=by
 refine dN Tryd.func78 (aT rfl) ?_
 intro id off n e gg rest nx xs r ys hg
 unfold bMq at hg
 split at hg
 ·rename_i id2 n2 gg2 a0 b0 heq
  simp only[List.cons.injEq,AV.os.injEq]at heq
  obtain⟨⟨rfl,rfl,rfl,rfl,rfl⟩,rfl⟩:=heq
  replace hg:=aJ hg;obtain⟨l,hl,hg⟩:=hg
  replace hg:=aP hg;obtain⟨⟨hn,ha,hab,hbn,hbig⟩,hg⟩:=hg
  simp only[Option.some.injEq,Prod.mk.injEq]at hg;obtain⟨rfl,rfl⟩:=hg
  have:=dO hl;subst this
  obtain⟨a,rfl⟩:=Int.eq_ofNat_of_zero_le ha
  obtain⟨b,rfl⟩:=Int.eq_ofNat_of_zero_le (show 0≤b0 by omega)
  simp only[U2]at*
  obtain⟨d,hd⟩: ∃d,l.toArray=d:=⟨_,rfl⟩
  have hds:d.size=n:=by rw[←hd];simpa using hn
  rw[hd]
  refine⟨J1 rfl,fun hid=>?_⟩
  obtain⟨R,hR⟩: ∃R,Sort.insertionSort ltN d a b=R:=⟨_,rfl⟩
  have hR0:Sort.insOuter ltN a b (a+1) d=R:=hR
  rw[hR]
  have hab2:a≤b:=by omega
  have hbn2:b≤n:=by omega
  clear hR hl hn ha hab hbn
  refine aA rfl (aW [0,1,2,6] rfl rfl rfl fun K hK=>?_)
  simp(disch:=omega) only[Tryd.f78,go_sem,↓reduceIte]
  refine hK _ ?_
  refine aB (aR 0 rfl rfl ?_)
  refine bR (fun p:SDC=> {fr:=[(0,.os id 0 n 1 gg),(1,.i a),(2,.i b),(6,.i p.k)],hp:=upd (fun _=>none) id (.cells (cA p.d) true),nx:=0,cx:=p.c}) (fun p=>Sort.insOuter ltN a b p.k p.d=R∧p.d.size=n∧a<p.k∧id<p.c) (fun p=>b-p.k) rfl ⟨⟨a+1,d,_⟩,⟨hR0,hds,Nat.lt_succ_self _,by simp only;omega⟩,bD (by simp only[Int.natCast_add,Int.natCast_one]) rfl (U3 _)⟩ ?_
  rintro⟨k,d1,c⟩ ⟨hr1,hs1,hk,hc⟩ n0
  simp only at hr1 hs1 hk hc⊢
  refine aA rfl (aA rfl (aW [12,0,1,2,6] rfl rfl rfl fun K hK=>?_))
  simp(disch:=omega) only[Tryd.f78,go_sem,↓reduceIte]
  refine hK _ ?_
  refine aB (gP (.tmp 12) rfl rfl rfl (fun h=>?_) (fun h=>?_))
  ·refine aI rfl ?_
   have hkb:k<b:=by omega
   rw[Sort.insOuter,J4 hkb]at hr1
   obtain⟨R2,hR2⟩: ∃R2,Sort.insInner ltN a k d1=R2:=⟨_,rfl⟩
   rw[hR2]at hr1
   refine aQ rfl (aB (aA rfl (aR 1 rfl rfl (aA rfl (aW [0,1,2,6,7] rfl rfl rfl fun K hK=>?_)))))
   simp(disch:=omega) only[Tryd.f78,go_sem,↓reduceIte]
   refine hK _ ?_
   refine aB (aR 2 rfl rfl ?_)
   refine bR (fun q:SDC=> {fr:=[(0,.os id 0 n 1 gg),(1,.i a),(2,.i b),(6,.i k),(7,.i q.k)],hp:=upd (fun _=>none) id (.cells (cA q.d) true),nx:=0,cx:=q.c}) (fun q=>Sort.insInner ltN a q.k q.d=R2∧q.d.size=n∧q.k≤k∧id<q.c) (fun q=>q.k) rfl ⟨⟨k,d1,_⟩,⟨hR2,hs1,U3 _,by simp only;omega⟩,bD rfl rfl (U3 _)⟩ ?_
   rintro⟨j,d2,c2⟩ ⟨hr2,hs2,hj,hc2⟩ n0
   simp only at hr2 hs2 hj hc2⊢
   by_cases hja:a<j
   ·obtain⟨i,rfl⟩: ∃i,j=i+1:=⟨j-1,by omega⟩
    have hd1:decide ((a:Int)<((i+1:Nat):Int))=true:=J5 (by omega)
    have e1:((i+1:Nat):Int)-1=(i:Int):=by omega
    have hgt:(decide (i+1>a))=true:=J5 (by omega)
    rw[bMp,hgt,Bool.true_and]at hr2
    obtain⟨v,hv⟩: ∃v,ltN d2[i+1]! d2[i]! =v:=⟨_,rfl⟩
    rw[hv]at hr2
    refine aA rfl (aA rfl (bB (Γ:=bC [(84,.pure true dY)]) (fun k=>if k=13 then 0 else 2) [30,0,1,2,6,7] bZ (aH jC aO) rfl rfl rfl (by kernel_rfl) (fun K hK=>?_)))
    simp(disch:=omega) only[Tryd.f78,go_sem,↓reduceIte,hd1,e1,hv,U2]
    refine hK _ ?_
    refine aB ?_
    cases v
    ·simp only[Bool.false_eq_true,if_false]at hr2
     refine eC (.tmp 30) rfl rfl rfl (fun h=>?_) (fun h=>?_)
     ·refine aI rfl ?_
      cases h
     refine aI rfl (bF 2 rfl rfl (aY (aZ (bE (bU (aB ?_))))))
     subst hr2
     refine aW [0,1,2,6] rfl rfl rfl fun K hK=>?_
     simp(disch:=omega) only[Tryd.f78,go_sem,↓reduceIte]
     refine hK _ ?_
     refine bT ?_
     refine⟨⟨k+1,d2,_⟩,⟨hr1,hs2,by simp only;omega,by simp only;omega⟩,by simp only;omega,bD (by simp only[Int.natCast_add,Int.natCast_one]) rfl (U3 _)⟩
    simp only[if_true]at hr2
    have hsw:(d2.setIfInBounds (i+1) d2[i]!).setIfInBounds i d2[i+1]! =Sort.swp d2 (i+1) i:=rfl
    refine eC (.tmp 30) rfl rfl rfl (fun h=>?_) (fun h=>?_)
    ·refine aQ rfl (aB (aA rfl (aR 3 rfl rfl (bB (Γ:=aL) (fun _=>2) [0,1,2,6,7] bZ (aD _ _) rfl rfl rfl (by kernel_rfl) (fun K hK=>?_)))))
     simp(disch:=omega) only[Tryd.f78,go_sem,↓reduceIte,e1,hsw,U2]
     refine hK _ ?_
     refine bU (aB (aW [0,1,2,6,7] rfl rfl rfl fun K hK=>?_))
     simp(disch:=omega) only[Tryd.f78,go_sem,↓reduceIte,e1]
     refine hK _ ?_
     refine bT ?_
     refine⟨⟨i,Sort.swp d2 (i+1) i,_⟩,⟨hr2,by simp only[cW];exact hs2,by simp only;omega,by simp only;omega⟩,by simp only;omega,⟨fun _=> .inr rfl,bS (by simp(disch:=omega) only[aV,↓reduceIte,eq_self]) cB,U3 _⟩⟩
    cases h
   have hd1:decide ((a:Int)<(j:Int))=false:=J6 (by omega)
   have hr3:d2=R2:=by
    rw[←hr2]
    cases j with
    |zero=>rfl
    |succ i=>
     have hgt:(decide (i+1>a))=false:=J6 (by omega)
     rw[bMp,hgt];rfl
   subst hr3
   refine aA rfl (aA rfl (bB (Γ:=bC [(84,.pure true dY)]) (fun k=>if k=13 then 0 else 2) [30,0,1,2,6,7] bZ (aH jC aO) rfl rfl rfl (by kernel_rfl) (fun K hK=>?_)))
   simp(disch:=omega) only[Tryd.f78,go_sem,↓reduceIte,hd1]
   refine hK _ ?_
   refine aB (eC (.tmp 30) rfl rfl rfl (fun h=>?_) (fun h=>?_))
   ·refine aI rfl ?_
    cases h
   refine aI rfl (bF 2 rfl rfl (aY (aZ (bE (bU (aB (aW [0,1,2,6] rfl rfl rfl fun K hK=>?_)))))))
   simp(disch:=omega) only[Tryd.f78,go_sem,↓reduceIte]
   refine hK _ ?_
   refine bT ?_
   refine⟨⟨k+1,d2,_⟩,⟨hr1,hs2,by simp only;omega,by simp only;omega⟩,by simp only;omega,bD (by simp only[Int.natCast_add,Int.natCast_one]) rfl (U3 _)⟩
  refine aI rfl (bF 0 rfl rfl (aY (aZ (bE ?_))))
  have hkb: ¬k<b:=by omega
  rw[Sort.insOuter,J3 hkb]at hr1
  subst hr1
  exact⟨rfl,by simp only[aV,if_true],rfl,dZ _⟩
 cases hg
theorem cVt:bX Tryd.prog GLh 78 (.heap (dP bMq)):=⟨⟨_,Tryd.func78,rfl,rfl⟩,cNh⟩
end Go.AX

namespace Go.AX
open Go Go.Proofs
theorem aMf (hi first root:Nat) (d:Array T32) (h:hi≤2*root+1):Sort.siftDown ltN hi first root d=d:=by rw[Sort.siftDown,dif_pos h]
theorem bGr (hi first root:Nat) (d:Array T32) (h:2*root+2<hi) (hl:ltN d[first+(2*root+1)]! d[first+(2*root+2)]! =true):Sort.siftDown ltN hi first root d=if !ltN d[first+root]! d[first+(2*root+2)]! then d else Sort.siftDown ltN hi first (2*root+2) (Sort.swp d (first+root) (first+(2*root+2))):=by
 rw[Sort.siftDown,dif_neg (by omega),J4 (by rw[show first+(2*root+1)+1=first+(2*root+2)by omega,hl,Bool.and_true];exact J5 (by omega)),dif_pos h]
theorem aMe (hi first root:Nat) (d:Array T32) (h:2*root+1<hi) (hl:(decide (2*root+2<hi)&&ltN d[first+(2*root+1)]! d[first+(2*root+2)]!)=false):Sort.siftDown ltN hi first root d=if !ltN d[first+root]! d[first+(2*root+1)]! then d else Sort.siftDown ltN hi first (2*root+1) (Sort.swp d (first+root) (first+(2*root+1))):=by
 rw[Sort.siftDown,dif_neg (by omega),J3 (by rw[show first+(2*root+1)+1=first+(2*root+2)by omega,show 2*root+1+1=2*root+2 by omega,hl];simp)]
def aYx:List AV→List AV→Option (AV×List AV)
 |[.os _ 0 n 1 _,.i lo,.i hi,.i first],xs=>aK (unA xs) fun l=>aN (l.length=n∧0≤lo∧lo≤n∧0≤hi∧0≤first∧first+hi≤n∧n≤1000000) (some (.tup [],cA (Sort.siftDown ltN hi.toNat first.toNat lo.toNat l.toArray)))
 |_,_=>none
theorem bUa (id n:Nat) (gg:Bool) (lo hi first:Int) (xs:List AV):aYx [.os id 0 n 1 gg,.i lo,.i hi,.i first] xs=aK (unA xs) fun l=>aN (l.length=n∧0≤lo∧lo≤n∧0≤hi∧0≤first∧first+hi≤n∧n≤1000000) (some (.tup [],cA (Sort.siftDown ltN hi.toNat first.toNat lo.toNat l.toArray))):=(rfl)
attribute [go_sem] bUa
set_option maxHeartbeats 2000000 in
theorem cHq:cQ Tryd.prog GLh 91 (dP aYx):=by
 refine dN Tryd.func91 (aT rfl) ?_
 intro id off n e gg rest nx xs r ys hg
 unfold aYx at hg
 split at hg
 ·rename_i id2 n2 gg2 lo0 hi0 first0 heq
  simp only[List.cons.injEq,AV.os.injEq]at heq
  obtain⟨⟨rfl,rfl,rfl,rfl,rfl⟩,rfl⟩:=heq
  replace hg:=aJ hg;obtain⟨l,hl,hg⟩:=hg
  replace hg:=aP hg;obtain⟨⟨hn,hlo,hlon,hhi,hfi,hfn,hbig⟩,hg⟩:=hg
  simp only[Option.some.injEq,Prod.mk.injEq]at hg;obtain⟨rfl,rfl⟩:=hg
  have:=dO hl;subst this
  obtain⟨lo,rfl⟩:=Int.eq_ofNat_of_zero_le hlo
  obtain⟨hi,rfl⟩:=Int.eq_ofNat_of_zero_le hhi
  obtain⟨first,rfl⟩:=Int.eq_ofNat_of_zero_le hfi
  simp only[U2]at*
  obtain⟨d,hd⟩: ∃d,l.toArray=d:=⟨_,rfl⟩
  have hds:d.size=n:=by rw[←hd];simpa using hn
  have hlon2:lo≤n:=by omega
  have hfn2:first+hi≤n:=by omega
  rw[hd]
  refine⟨J1 rfl,fun hid=>?_⟩
  obtain⟨R,hR⟩: ∃R,Sort.siftDown ltN hi first lo d=R:=⟨_,rfl⟩
  rw[hR]
  clear hl hn hlo hlon hhi hfi hfn
  refine aA rfl (aW [0,2,3,8] rfl rfl rfl fun K hK=>?_)
  simp(disch:=omega) only[Tryd.f91,go_sem,↓reduceIte]
  refine hK _ ?_
  refine aB (aR 0 rfl rfl ?_)
  refine bR (fun p:SDC=> {fr:=[(0,.os id 0 n 1 gg),(2,.i hi),(3,.i first),(8,.i p.k)],hp:=upd (fun _=>none) id (.cells (cA p.d) true),nx:=0,cx:=p.c}) (fun p=>Sort.siftDown ltN hi first p.k p.d=R∧p.d.size=n∧p.k≤n∧id<p.c) (fun p=>2*n-p.k) rfl ⟨⟨lo,d,_⟩,⟨hR,hds,hlon2,by simp only;omega⟩,bD rfl rfl (U3 _)⟩ ?_
  rintro⟨k,d1,c⟩ ⟨hr1,hs1,hk,hc⟩ n0
  simp only at hr1 hs1 hk hc⊢
  refine aR 1 rfl rfl (aA rfl (aW [0,2,3,8,9] rfl rfl rfl fun K hK=>?_))
  simp(disch:=omega) only[Tryd.f91,go_sem,↓reduceIte]
  refine hK _ ?_
  refine aB (aA rfl (aA rfl (aW [16,0,2,3,8,9] rfl rfl rfl fun K hK=>?_)))
  simp(disch:=omega) only[Tryd.f91,go_sem,↓reduceIte]
  refine hK _ ?_
  refine aB (gP (.tmp 16) rfl rfl rfl (fun h=>?_) (fun h=>?_))
  ·refine aI rfl ?_
   have hke:hi≤2*k+1:=by omega
   rw[aMf _ _ _ _ hke]at hr1
   subst hr1
   refine bF 0 rfl rfl (aY (mW (aZ (bE ?_)) rfl))
   exact⟨rfl,by simp only[aV,if_true],rfl,dZ _⟩
  refine aI rfl (aQ rfl (aB (aA rfl (aA rfl ?_))))
  have hk1:2*k+1<hi:=by omega
  clear h
  have e9:(first:Int)+(2*(k:Int)+1)=((first+(2*k+1):Nat):Int):=by omega
  have e9b:((first+(2*k+1):Nat):Int)+1=((first+(2*k+2):Nat):Int):=by omega
  by_cases hk2:2*k+2<hi
  ·have hd1:decide (2*(k:Int)+1+1<(hi:Int))=true:=J5 (by omega)
   have hb1:first+(2*k+1)<n:=by omega
   have hb2:first+(2*k+2)<n:=by omega
   obtain⟨u,hu⟩: ∃u,ltN d1[first+(2*k+1)]! d1[first+(2*k+2)]! =u:=⟨_,rfl⟩
   refine bB (Γ:=bC [(84,.pure true dY)]) (fun k=>if k=18 then 0 else 2) [36,0,2,3,8,9] bZ (aH jC aO) rfl rfl rfl (by kernel_rfl) (fun K hK=>?_)
   simp(disch:=omega) only[Tryd.f91,go_sem,↓reduceIte,hd1,e9,e9b,hu,U2]
   refine hK _ ?_
   refine aB ?_
   cases u
   ·rw[aMe _ _ _ _ hk1 (by rw[hu,Bool.and_false])]at hr1
    refine eC (.tmp 36) rfl rfl rfl (fun h=>?_) (fun h=>?_)
    ·refine aI rfl ?_
     cases h
    refine aI rfl (aQ rfl (aB (aA rfl (aA rfl ?_))))
    obtain⟨ch,hch⟩: ∃ch,2*k+1=ch:=⟨_,rfl⟩
    have ech:2*(k:Int)+1=(ch:Int):=by omega
    rw[hch]at hr1
    rw[ech]
    clear e9 e9b hu
    have hchn:first+ch<n:=by omega
    have hkn:first+k<n:=by omega
    obtain⟨v,hv⟩: ∃v,ltN d1[first+k]! d1[first+ch]! =v:=⟨_,rfl⟩
    rw[hv]at hr1
    have e2:((first:Int)+(k:Int)).toNat=first+k:=by omega
    have e3:((first:Int)+(ch:Int)).toNat=first+ch:=by omega
    refine bB (Γ:=bC [(84,.pure true dY)]) (fun k=>if k=12 then 0 else 2) [52,0,2,3,8,9] bZ (aH jC aO) rfl rfl rfl (by kernel_rfl) (fun K hK=>?_)
    simp(disch:=omega) only[Tryd.f91,go_sem,↓reduceIte,e2,e3,hv]
    refine hK _ ?_
    refine aB ?_
    cases v
    ·simp only[Bool.not_false,if_true]at hr1
     subst hr1
     refine eC (.tmp 52) rfl rfl rfl (fun h=>?_) (fun h=>?_)
     ·exact aI rfl (aS rfl (bI (bN (dF (bN (⟨rfl,by simp only[aV,if_true],rfl,dZ _⟩))))))
     refine aI rfl ?_
     cases h
    simp only[Bool.not_true,Bool.false_eq_true,if_false]at hr1
    refine eC (.tmp 52) rfl rfl rfl (fun h=>?_) (fun h=>?_)
    ·cases h
    refine aQ rfl (aB (aA rfl ?_))
    have hsw:(d1.setIfInBounds (first+k) d1[first+ch]!).setIfInBounds (first+ch) d1[first+k]! =Sort.swp d1 (first+k) (first+ch):=rfl
    refine bB (Γ:=aL) (fun _=>2) [0,2,3,9] bZ (aD _ _) rfl rfl rfl (by kernel_rfl) (fun K hK=>?_)
    simp(disch:=omega) only[Tryd.f91,go_sem,↓reduceIte,e2,e3,hsw]
    refine hK _ ?_
    refine aB (aW [0,2,3,8] rfl rfl rfl fun K hK=>?_)
    simp(disch:=omega) only[Tryd.f91,go_sem,↓reduceIte]
    refine hK _ ?_
    refine bU (bT ?_)
    refine⟨⟨ch,Sort.swp d1 (first+k) (first+ch),_⟩,⟨hr1,by simp only[cW];exact hs1,by simp only;omega,by simp only;omega⟩,by simp only;omega,⟨fun _=> .inr rfl,bS (by simp(disch:=omega) only[aV,↓reduceIte,eq_self]) cB,U3 _⟩⟩
   rw[bGr _ _ _ _ hk2 hu]at hr1
   refine eC (.tmp 36) rfl rfl rfl (fun h=>?_) (fun h=>?_)
   ·refine aW [0,2,3,8,9] rfl rfl rfl fun K hK=>?_
    simp(disch:=omega) only[Tryd.f91,go_sem,↓reduceIte]
    refine hK _ ?_
    refine aB ?_
    obtain⟨ch,hch⟩: ∃ch,2*k+2=ch:=⟨_,rfl⟩
    have ech:2*(k:Int)+1+1=(ch:Int):=by omega
    rw[hch]at hr1
    rw[ech]
    clear e9 e9b hu
    have hchn:first+ch<n:=by omega
    have hkn:first+k<n:=by omega
    obtain⟨v,hv⟩: ∃v,ltN d1[first+k]! d1[first+ch]! =v:=⟨_,rfl⟩
    rw[hv]at hr1
    have e2:((first:Int)+(k:Int)).toNat=first+k:=by omega
    have e3:((first:Int)+(ch:Int)).toNat=first+ch:=by omega
    refine aA rfl (aA rfl (bB (Γ:=bC [(84,.pure true dY)]) (fun k=>if k=12 then 0 else 2) [52,0,2,3,8,9] bZ (aH jC aO) rfl rfl rfl (by kernel_rfl) (fun K hK=>?_)))
    simp(disch:=omega) only[Tryd.f91,go_sem,↓reduceIte,e2,e3,hv]
    refine hK _ ?_
    refine aB ?_
    cases v
    ·simp only[Bool.not_false,if_true]at hr1
     subst hr1
     refine eC (.tmp 52) rfl rfl rfl (fun h=>?_) (fun h=>?_)
     ·exact aI rfl (aS rfl (bI (bN (dF (bN (⟨rfl,by simp only[aV,if_true],rfl,dZ _⟩))))))
     refine aI rfl ?_
     cases h
    simp only[Bool.not_true,Bool.false_eq_true,if_false]at hr1
    refine eC (.tmp 52) rfl rfl rfl (fun h=>?_) (fun h=>?_)
    ·cases h
    refine aQ rfl (aB (aA rfl ?_))
    have hsw:(d1.setIfInBounds (first+k) d1[first+ch]!).setIfInBounds (first+ch) d1[first+k]! =Sort.swp d1 (first+k) (first+ch):=rfl
    refine bB (Γ:=aL) (fun _=>2) [0,2,3,9] bZ (aD _ _) rfl rfl rfl (by kernel_rfl) (fun K hK=>?_)
    simp(disch:=omega) only[Tryd.f91,go_sem,↓reduceIte,e2,e3,hsw]
    refine hK _ ?_
    refine aB (aW [0,2,3,8] rfl rfl rfl fun K hK=>?_)
    simp(disch:=omega) only[Tryd.f91,go_sem,↓reduceIte]
    refine hK _ ?_
    refine bU (bT ?_)
    refine⟨⟨ch,Sort.swp d1 (first+k) (first+ch),_⟩,⟨hr1,by simp only[cW];exact hs1,by simp only;omega,by simp only;omega⟩,by simp only;omega,⟨fun _=> .inr rfl,bS (by simp(disch:=omega) only[aV,↓reduceIte,eq_self]) cB,U3 _⟩⟩
   cases h
  have hd1:decide (2*(k:Int)+1+1<(hi:Int))=false:=J6 (by omega)
  refine bB (Γ:=bC [(84,.pure true dY)]) (fun k=>if k=18 then 0 else 2) [36,0,2,3,8,9] bZ (aH jC aO) rfl rfl rfl (by kernel_rfl) (fun K hK=>?_)
  simp(disch:=omega) only[Tryd.f91,go_sem,↓reduceIte,hd1]
  refine hK _ ?_
  refine aB ?_
  rw[aMe _ _ _ _ hk1 (by rw[J6 (by omega: ¬2*k+2<hi),Bool.false_and])]at hr1
  refine eC (.tmp 36) rfl rfl rfl (fun h=>?_) (fun h=>?_)
  ·refine aI rfl ?_
   cases h
  refine aI rfl (aQ rfl (aB (aA rfl (aA rfl ?_))))
  obtain⟨ch,hch⟩: ∃ch,2*k+1=ch:=⟨_,rfl⟩
  have ech:2*(k:Int)+1=(ch:Int):=by omega
  rw[hch]at hr1
  rw[ech]
  clear e9 e9b
  have hchn:first+ch<n:=by omega
  have hkn:first+k<n:=by omega
  obtain⟨v,hv⟩: ∃v,ltN d1[first+k]! d1[first+ch]! =v:=⟨_,rfl⟩
  rw[hv]at hr1
  have e2:((first:Int)+(k:Int)).toNat=first+k:=by omega
  have e3:((first:Int)+(ch:Int)).toNat=first+ch:=by omega
  refine bB (Γ:=bC [(84,.pure true dY)]) (fun k=>if k=12 then 0 else 2) [52,0,2,3,8,9] bZ (aH jC aO) rfl rfl rfl (by kernel_rfl) (fun K hK=>?_)
  simp(disch:=omega) only[Tryd.f91,go_sem,↓reduceIte,e2,e3,hv]
  refine hK _ ?_
  refine aB ?_
  cases v
  ·simp only[Bool.not_false,if_true]at hr1
   subst hr1
   refine eC (.tmp 52) rfl rfl rfl (fun h=>?_) (fun h=>?_)
   ·exact aI rfl (aS rfl (bI (bN (dF (bN (⟨rfl,by simp only[aV,if_true],rfl,dZ _⟩))))))
   refine aI rfl ?_
   cases h
  simp only[Bool.not_true,Bool.false_eq_true,if_false]at hr1
  refine eC (.tmp 52) rfl rfl rfl (fun h=>?_) (fun h=>?_)
  ·cases h
  refine aQ rfl (aB (aA rfl ?_))
  have hsw:(d1.setIfInBounds (first+k) d1[first+ch]!).setIfInBounds (first+ch) d1[first+k]! =Sort.swp d1 (first+k) (first+ch):=rfl
  refine bB (Γ:=aL) (fun _=>2) [0,2,3,9] bZ (aD _ _) rfl rfl rfl (by kernel_rfl) (fun K hK=>?_)
  simp(disch:=omega) only[Tryd.f91,go_sem,↓reduceIte,e2,e3,hsw]
  refine hK _ ?_
  refine aB (aW [0,2,3,8] rfl rfl rfl fun K hK=>?_)
  simp(disch:=omega) only[Tryd.f91,go_sem,↓reduceIte]
  refine hK _ ?_
  refine bU (bT ?_)
  refine⟨⟨ch,Sort.swp d1 (first+k) (first+ch),_⟩,⟨hr1,by simp only[cW];exact hs1,by simp only;omega,by simp only;omega⟩,by simp only;omega,⟨fun _=> .inr rfl,bS (by simp(disch:=omega) only[aV,↓reduceIte,eq_self]) cB,U3 _⟩⟩
 cases hg
theorem bJb:bX Tryd.prog GLh 91 (.heap (dP aYx)):=⟨⟨_,Tryd.func91,rfl,rfl⟩,cHq⟩
theorem aYw (hi first:Nat): ∀(m root:Nat) (d:Array T32),hi-root≤m→(Sort.siftDown ltN hi first root d).size=d.size:=by
 intro m
 induction m with
 |zero=>intro root d h;rw[aMf _ _ _ _ (by omega)]
 |succ m ih=>
  intro root d h
  rw[Sort.siftDown]
  split
  ·rfl
  split
  ·split
   ·rfl
   split
   ·rw[ih _ _ (by omega),cW]
   rfl
  split
  ·rfl
  rw[ih _ _ (by omega),cW]
theorem aBd (hi first root:Nat) (d:Array T32):(Sort.siftDown ltN hi first root d).size=d.size:=aYw hi first _ root d (U3 _)
def bMx:List AV→List AV→Option (AV×List AV)
 |[.os _ 0 n 1 _,.i a,.i b],xs=>aK (unA xs) fun l=>aN (l.length=n∧0≤a∧a<b∧b≤n∧n≤1000000) (some (.tup [],cA (Sort.heapSort ltN l.toArray a.toNat b.toNat)))
 |_,_=>none
theorem bZu (id n:Nat) (gg:Bool) (a b:Int) (xs:List AV):bMx [.os id 0 n 1 gg,.i a,.i b] xs=aK (unA xs) fun l=>aN (l.length=n∧0≤a∧a<b∧b≤n∧n≤1000000) (some (.tup [],cA (Sort.heapSort ltN l.toArray a.toNat b.toNat))):=(rfl)
attribute [go_sem] bZu aBd Array.toArray_toList Array.length_toList
set_option maxHeartbeats 2000000 in
theorem cOh:cQ Tryd.prog GLh 79 (dP bMx):=by
 refine dN Tryd.func79 (aT rfl) ?_
 intro id off n e gg rest nx xs r ys hg
 unfold bMx at hg
 split at hg
 ·rename_i id2 n2 gg2 a0 b0 heq
  simp only[List.cons.injEq,AV.os.injEq]at heq
  obtain⟨⟨rfl,rfl,rfl,rfl,rfl⟩,rfl⟩:=heq
  replace hg:=aJ hg;obtain⟨l,hl,hg⟩:=hg
  replace hg:=aP hg;obtain⟨⟨hn,ha,hab,hbn,hbig⟩,hg⟩:=hg
  simp only[Option.some.injEq,Prod.mk.injEq]at hg;obtain⟨rfl,rfl⟩:=hg
  have:=dO hl;subst this
  obtain⟨a,rfl⟩:=Int.eq_ofNat_of_zero_le ha
  obtain⟨b,rfl⟩:=Int.eq_ofNat_of_zero_le (show 0≤b0 by omega)
  simp only[U2]at*
  obtain⟨d,hd⟩: ∃d,l.toArray=d:=⟨_,rfl⟩
  have hds:d.size=n:=by rw[←hd];simpa using hn
  have hab2:a<b:=by omega
  have hbn2:b≤n:=by omega
  rw[hd]
  refine⟨J1 rfl,fun hid=>?_⟩
  obtain⟨R,hR⟩: ∃R,Sort.heapSort ltN d a b=R:=⟨_,rfl⟩
  obtain⟨H,hH⟩: ∃H:Nat,b-a=H:=⟨_,rfl⟩
  obtain⟨B,hB⟩: ∃B,Sort.heapBuild ltN H a ((H-1)/2+1) d=B:=⟨_,rfl⟩
  rw[hR]
  rw[Sort.heapSort,hH,hB]at hR
  have eH:(b:Int)-(a:Int)=(H:Int):=by omega
  have eq2:((H:Int)-1).tdiv 2=(((H-1)/2:Nat):Int):=by rw[Int.tdiv_eq_ediv_of_nonneg (by omega)];omega
  clear hl hn ha hab hbn
  refine aA rfl (aW [0,1,2,6] rfl rfl rfl fun K hK=>?_)
  simp(disch:=omega) only[Tryd.f79,go_sem,↓reduceIte]
  refine hK _ ?_
  refine aB (aA rfl (aW [0,1,2,6,7] rfl rfl rfl fun K hK=>?_))
  simp(disch:=omega) only[Tryd.f79,go_sem,↓reduceIte]
  refine hK _ ?_
  refine aB (aA rfl (aW [0,6,7,8] rfl rfl rfl fun K hK=>?_))
  simp(disch:=omega) only[Tryd.f79,go_sem,↓reduceIte,eH]
  refine hK _ ?_
  refine aB (aA rfl (aA rfl (aW [0,6,7,8,9] rfl rfl rfl fun K hK=>?_)))
  simp(disch:=omega) only[Tryd.f79,go_sem,↓reduceIte,eq2]
  refine hK _ ?_
  refine aB (aR 0 rfl rfl ?_)
  refine bR (fun p:SDC=> {fr:=[(0,.os id 0 n 1 gg),(6,.i a),(7,.i 0),(8,.i H),(9,.i ((p.k:Int)-1))],hp:=upd (fun _=>none) id (.cells (cA p.d) true),nx:=0,cx:=p.c}) (fun p=>Sort.heapBuild ltN H a p.k p.d=B∧p.d.size=n∧p.k≤H∧id<p.c) (fun p=>p.k) rfl ⟨⟨(H-1)/2+1,d,_⟩,⟨hB,hds,by simp only;omega,by simp only;omega⟩,bD (by simp only[Int.natCast_add,Int.natCast_one,Int.add_sub_cancel]) rfl (U3 _)⟩ ?_
  rintro⟨k,d1,c⟩ ⟨hr1,hs1,hk,hc⟩ n0
  simp only at hr1 hs1 hk hc⊢
  refine aA rfl (aA rfl (aW [19,0,6,7,8,9] rfl rfl rfl fun K hK=>?_))
  simp(disch:=omega) only[Tryd.f79,go_sem,↓reduceIte]
  refine hK _ ?_
  refine aB (gP (.tmp 19) rfl rfl rfl (fun h=>?_) (fun h=>?_))
  ·refine aI rfl ?_
   obtain⟨i,rfl⟩: ∃i,k=i+1:=⟨k-1,by omega⟩
   have e1:((i+1:Nat):Int)-1=(i:Int):=by omega
   rw[Sort.heapBuild]at hr1
   refine aQ rfl (aB (aA rfl (aR 1 rfl rfl (aC (Γ:=bC [(91,.heap (dP aYx))]) [0,6,7,8,9] (aH bJb aO) rfl rfl rfl (fun K hK=>?_)))))
   simp(disch:=omega) only[Tryd.f79,go_sem,↓reduceIte,e1,hs1,U2]
   refine hK _ ?_
   refine bU (aB (aW [0,6,7,8,9] rfl rfl rfl fun K hK=>?_))
   simp(disch:=omega) only[Tryd.f79,go_sem,↓reduceIte]
   refine hK _ ?_
   refine bT ?_
   refine⟨⟨i,Sort.siftDown ltN H a i d1,_⟩,⟨hr1,by simp only[aBd];exact hs1,by simp only;omega,by simp only;omega⟩,by simp only;omega,⟨fun _=> .inr rfl,bS (by simp(disch:=omega) only[aV,↓reduceIte,eq_self]) cB,U3 _⟩⟩
  refine aI rfl (bF 0 rfl rfl (aY (aZ (bE (aB (aA rfl ?_))))))
  obtain rfl:k=0:=by omega
  rw[Sort.heapBuild]at hr1
  subst hr1
  refine aW [0,6,7,10] rfl rfl rfl fun K hK=>?_
  simp(disch:=omega) only[Tryd.f79,go_sem,↓reduceIte]
  refine hK _ ?_
  refine aB (aR 2 rfl rfl ?_)
  refine bR (fun p:SDC=> {fr:=[(0,.os id 0 n 1 gg),(6,.i a),(7,.i 0),(10,.i ((p.k:Int)-1))],hp:=upd (fun _=>none) id (.cells (cA p.d) true),nx:=0,cx:=p.c}) (fun p=>Sort.heapPop ltN a p.k p.d=R∧p.d.size=n∧p.k≤H∧id<p.c) (fun p=>p.k) rfl ⟨⟨H,d1,_⟩,⟨hR,hs1,U3 _,by simp only;omega⟩,bD rfl rfl (U3 _)⟩ ?_
  rintro⟨k,d2,c2⟩ ⟨hr2,hs2,hk2,hc2⟩ n0
  simp only at hr2 hs2 hk2 hc2⊢
  refine aA rfl (aA rfl (aW [30,0,6,7,10] rfl rfl rfl fun K hK=>?_))
  simp(disch:=omega) only[Tryd.f79,go_sem,↓reduceIte]
  refine hK _ ?_
  refine aB (gP (.tmp 30) rfl rfl rfl (fun h=>?_) (fun h=>?_))
  ·refine aI rfl ?_
   obtain⟨i,rfl⟩: ∃i,k=i+1:=⟨k-1,by omega⟩
   have e1:((i+1:Nat):Int)-1=(i:Int):=by omega
   have e2:((a:Int)+(i:Int)).toNat=a+i:=by omega
   have hsw:(d2.setIfInBounds a d2[a+i]!).setIfInBounds (a+i) d2[a]! =Sort.swp d2 a (a+i):=rfl
   have hss:(Sort.swp d2 a (a+i)).size=n:=by rw[cW];exact hs2
   rw[Sort.heapPop]at hr2
   refine aQ rfl (aB (aA rfl (aR 3 rfl rfl (aA rfl (bB (Γ:=aL) (fun _=>2) [0,6,7,10] bZ (aD _ _) rfl rfl rfl (by kernel_rfl) (fun K hK=>?_))))))
   simp(disch:=omega) only[Tryd.f79,go_sem,↓reduceIte,e1,e2,hsw]
   refine hK _ ?_
   refine aB (aC (Γ:=bC [(91,.heap (dP aYx))]) [0,6,7,10] (aH bJb aO) rfl rfl rfl (fun K hK=>?_))
   simp(disch:=omega) only[Tryd.f79,go_sem,↓reduceIte,hss,U2]
   refine hK _ ?_
   refine bU (aB (aW [0,6,7,10] rfl rfl rfl fun K hK=>?_))
   simp(disch:=omega) only[Tryd.f79,go_sem,↓reduceIte]
   refine hK _ ?_
   refine bT ?_
   refine⟨⟨i,Sort.siftDown ltN i a 0 (Sort.swp d2 a (a+i)),_⟩,⟨hr2,by simp only[aBd];exact hss,by simp only;omega,by simp only;omega⟩,by simp only;omega,⟨fun _=> .inr rfl,bS (by simp(disch:=omega) only[aV,↓reduceIte,eq_self]) cB,U3 _⟩⟩
  refine aI rfl (bF 2 rfl rfl (aY (aZ (bE ?_))))
  obtain rfl:k=0:=by omega
  rw[Sort.heapPop]at hr2
  subst hr2
  exact⟨rfl,by simp only[aV,if_true],rfl,dZ _⟩
 cases hg
theorem cVs:bX Tryd.prog GLh 79 (.heap (dP bMx)):=⟨⟨_,Tryd.func79,rfl,rfl⟩,cOh⟩
end Go.AX
