/-
  Disk, part Aa: the statement DiskPlays, walked.
-/
import Derived.Test.YtkpgebeipmedeaaBC
namespace Go.AX
open Go Go.Proofs
set_option maxRecDepth 8000
structure ACT where
 w:Int
 i:Int
 n:Int
 keep:BitVec 64
 x:B8
def yO (a:ACT):List AV:=[.i a.w,.i a.i,.i a.n,.w64 a.keep,.w8 a.x]
def mN:List ACT→List AV
 |[]=>[]
 |a::r=>yO a++mN r
theorem aHw: ∀A:List ACT,(mN A).length=5*A.length
 |[]=>rfl
 |a::r=>by rw[mN,List.length_append,aHw r,List.length_cons];show 5+_=_;omega
theorem aQk: ∀(A:List ACT) (k:Nat),k<A.length→((mN A).drop (k*5)).take 5=yO (A.getD k ⟨0,0,0,0#64,0#8⟩)
 |[],k,h=>by simp at h
 |a::r,0,_=>by
  show((yO a++mN r).take 5)=yO a
  rfl
 |a::r,k+1,h=>by
  have:(k+1)*5=(yO a).length+k*5:=by show _=5+_;omega
  rw[mN,this,←List.drop_drop,List.drop_left]
  exact aQk r k (by simpa using h)
theorem aHv: ∀A:List ACT,(A.map yO).flatten=mN A
 |[]=>rfl
 |a::r=>by rw[List.map_cons,List.flatten_cons,aHv r];rfl
def unA:List AV→Option (List ACT)
 |[]=>some []
 | .i w::.i i::.i n::.w64 k::.w8 x::r=>aK (unA r) fun l=>some (⟨w,i,n,k,x⟩::l)
 |_=>none
theorem dO: ∀ {l:List AV} {A:List ACT},unA l=some A→l=mN A
 |[],A,h=>by cases h;rfl
 | .i w::.i i::.i n::.w64 k::.w8 x::r,A,h=>by
  rw[unA]at h
  replace h:=aJ h;obtain⟨l,hl,h⟩:=h
  obtain rfl:=J0 h
  rw[dO hl]
  rfl
theorem dVh: ∀(A:List ACT),unA (mN A)=some A
 |[]=>rfl
 |a::r=>by
  show aK (unA (mN r)) (fun l=>some (a::l))=_
  rw[dVh r]
  rfl
def eAw:List AV→Option AV
 |[.i _,.i _,.sl k xs]=>aK (unA xs) fun A=>aN (A.length=k∧k≤9223372036854775807) (some (.b true))
 |_=>none
theorem eCo {n:Int} {N:Nat} (h:(if n<1 then 1 else n)=(N:Int)) (h2:N≤4096):(wit n 1 4096).toNat=N:=by
 unfold wit
 rw[h,J3 (by omega)]
 exact U2 _
theorem eCn {n:Int} {N:Nat} (h:(if n<64 then 64 else n)=(N:Int)) (h2:N≤4096):(wit n 64 4096).toNat=N:=by
 unfold wit
 rw[h,J3 (by omega)]
 exact U2 _
theorem PR.init {N Z:Nat} (_:1≤N):PR N Z (iM Z N) ⟨List.replicate N (List.replicate Z 0#8),true,[],-1,false⟩:=by
 refine⟨⟨by simp,fun k hk=>?_,fun i hi=>(by cases hi),List.nodup_nil,fun k hk _=>rfl⟩,rfl,by simp[iM],by simp[iM],?_,?_,rfl,rfl,by simp[iM]⟩
 ·simp only[iM,iK,dZg]
  rfl
 ·intro r hr;rw[eBv]at hr;rw[List.eq_of_mem_replicate hr,List.length_replicate]
 intro r hr;rw[List.eq_of_mem_replicate hr,List.length_replicate]
theorem ib4:pE Try.prog 4=true:=by kernel_rfl
structure PLI where
 i:Nat
 h:H
 I:MI
 d:Nat
 s:Nat
 m:Nat
 M:MC
 C:DC
 c:Nat
structure PLJ where
 h:H
 d:Nat
 s:Nat
 m:Nat
 M:MC
 C:DC
 c:Nat
set_option maxHeartbeats 8000000 in
theorem eBp (n z:Int) (A:List ACT) (hlen:A.length≤9223372036854775807) {N Z:Nat} (hZ:(if z<64 then 64 else z)=(Z:Int)) {h1:H} {I:MI} {d0 s0 m0 c1 nx1:Nat} {C0:DC} (hM1:MM h1 I d0 s0 m0 (iM Z N) C0) (hPR0:PR N Z (iM Z N) C0) (hnz:1≤N∧N≤4000∧1≤Z∧Z≤4096)
  (hlt:I.mm<c1∧I.li<c1∧I.si<c1∧I.fi<c1∧d0<c1∧s0<c1∧m0<c1):
  Awp Try.prog GLh Try.f5.ntmps (cr (cr (cr (cr (cr (cr (cr (aE Try.f5)))))))) {fr:=[(0,.i n),(1,.i z),(2,.sl A.length (mN A)),(7,.op d0 0),(8,.op I.mm 0),(9,.i N)],hp:=h1,nx:=nx1,cx:=c1} (cN Try.prog Try.f5.results.toList (.b true)):=by
 have hal:=aHw A
 have hsz0:=eAd hPR0 hnz.1
 have hrl0:=hPR0.rel.len
 have hdk0:=mK hM1.hd
 have h4:=hM1.hm
 rw[eBv,List.length_replicate]at h4
 have dN:decide ((N:Int)=(N:Int))=true:=J5 rfl
 have dZ:decide ((Z:Int)=(Z:Int))=true:=J5 rfl
 refine cP rfl ?_
 refine cP rfl ?_
 refine aYa (Γ:=bC [(8,.heap dGz),(9,.heap dGx)]) (fun k=>if k=1 then true else if k=5 then true else false) [(1,5)] (fun k=>if k=10 then 0 else if k=1 then 0 else 2) [94,2,7,8] mixed (aH ok8 (aH ok9 aO)) rfl rfl rfl (by kernel_rfl) (fun K hK=>?_)
 simp(maxSteps:=400000) (disch:=omega) only[Try.f5,go_sem,and_self,and_true,true_and,↓reduceIte,h4,hdk0,hsz0,hrl0,hZ,J8,J9]
 refine hK _ ?_
 refine aB ?_
 refine eC (.tmp 94) rfl rfl rfl (fun h=>?_) (fun h=>?_)
 ·skip
  refine aI rfl ?_
  cases h
 ·skip
  refine aI rfl ?_
  clear h
  refine aQ rfl ?_
  refine aB ?_
  refine cP rfl ?_
  refine cP rfl ?_
  refine bA [2,7,8,10] rfl rfl rfl fun K hK=>?_
  simp(disch:=omega) only[Try.f5,go_sem,↓reduceIte]
  refine hK _ ?_
  refine aB ?_
  refine aR 2 rfl rfl ?_
  refine bR (fun p:PLI=> {fr:=[(2,.sl A.length (mN A)),(7,.op p.d 0),(8,.op I.mm 0),(10,.i p.i)],hp:=p.h,nx:=0,cx:=p.c}) (fun p=>p.i≤A.length∧ST N Z p.h I p.d p.s p.m p.M p.C p.c) (fun p=>A.length-p.i) rfl ⟨⟨0,h1,I,d0,s0,m0,iM Z N,C0,_⟩,⟨Nat.zero_le _,⟨hM1,hPR0,by simp only;exact⟨by omega,by omega,by omega,by omega,by omega,by omega,by omega⟩,by omega⟩⟩,bD rfl rfl (U3 _)⟩ ?_
  rintro⟨i,g,I0,d,s,m,M,C,c⟩ ⟨hi,hS⟩ n0
  simp only at hi hS⊢
  refine cP rfl ?_
  refine cP rfl ?_
  refine bA [98,2,7,8,10] rfl rfl rfl fun K hK=>?_
  simp(disch:=omega) only[Try.f5,go_sem,↓reduceIte]
  refine hK _ ?_
  refine aB ?_
  refine gP (.tmp 98) rfl rfl rfl (fun h=>?_) (fun h=>?_)
  ·skip
   refine aI rfl ?_
   have hiA:i<A.length:=by omega
   have hrow:=aQk A i hiA
   have hdl:5≤(List.drop (i*5) (mN A)).length:=by rw[List.length_drop];omega
   obtain⟨⟨w,ix,nn,keep,x⟩,hx⟩: ∃X,A.getD i ⟨0,0,0,0#64,0#8⟩=X:=⟨_,rfl⟩
   rw[hx,yO]at hrow
   simp only at hrow
   clear h
   refine aQ rfl ?_
   refine aB ?_
   refine cP rfl ?_
   refine aR 3 rfl rfl ?_
   refine cP rfl ?_
   have st5:dV [AV.i 0,AV.i 0,AV.i 0,AV.w64 0#64,AV.w8 0#8] 0 [AV.i w,AV.i ix,AV.i nn,AV.w64 keep,AV.w8 x]=[AV.i w,AV.i ix,AV.i nn,AV.w64 keep,AV.w8 x]:=rfl
   refine bA [2,7,8,10,11] rfl rfl rfl fun K hK=>?_
   simp(disch:=omega) only[Try.f5,go_sem,↓reduceIte,hrow,hdl,st5]
   refine hK _ ?_
   refine aB ?_
   obtain⟨e,he0⟩: ∃y,c+4+4=y:=⟨_,rfl⟩
   rw[he0]
   have hS1:=hS.upd (i:=e) (.cells [.i w,.i ix,.i nn,.w64 keep,.w8 x] true) (by omega)
   have he1:(Go.AX.upd g e (.cells [.i w,.i ix,.i nn,.w64 keep,.w8 x] true)) e=some (.cells [.i w,.i ix,.i nn,.w64 keep,.w8 x] true):=by rw[bJ,J4 rfl]
   obtain⟨g1,hg1⟩: ∃y,Go.AX.upd g e (.cells [.i w,.i ix,.i nn,.w64 keep,.w8 x] true)=y:=⟨_,rfl⟩
   rw[hg1]at hS1 he1⊢
   clear hg1
   have h4:=hS1.mm.hm
   have hll:=hS1.pr.ll
   have l0:=hS1.lt
   have hpl:=dZv ix ((N:Int)+2) (by omega) (by omega)
   obtain⟨q,hq⟩: ∃q,plc ix ((N:Int)+2)=q:=⟨_,rfl⟩
   rw[hq]at hpl
   refine cP rfl ?_
   refine aYa (Γ:=bC [(14,.pure true eAe)]) (fun k=>if k=1 then true else if k=5 then true else false) [(1,5)] (fun k=>if k=8 then 0 else 2) [2,7,8,10,11,12] mixed (aH eCe aO) rfl rfl rfl (by kernel_rfl) (fun K hK=>?_)
   simp(maxSteps:=400000) (disch:=omega) only[Try.f5,go_sem,and_self,and_true,true_and,ne_eq,↓reduceIte,he1,h4,hll,hq,J8,J7,J9]
   refine hK _ ?_
   refine aB ?_
   obtain⟨at_,hat⟩: ∃y,q-1=y:=⟨_,rfl⟩
   rw[hat]
   have hat2: -1≤at_∧at_≤4096:=by omega
   clear hat hpl hq
   refine cP rfl ?_
   refine dWd (fun p:Nat=> {fr:=[(2,.sl A.length (mN A)),(7,.op d 0),(8,.op I.mm 0),(10,.i i),(11,.op e 0),(12,.i at_),(13,.b (decide (0≤at_∧at_<(N:Int))))],hp:=g1,nx:=0,cx:=p}) (fun p=>c+4+6≤p) ?_ ?_
   ·skip
    by_cases ha0:0≤at_
    ·skip
     have f0:decide (0≤at_)=true:=J5 ha0
     refine bA [2,7,8,10,11,12,13] rfl rfl rfl fun K hK=>?_
     simp(disch:=omega) only[Try.f5,go_sem,↓reduceIte,h4,hll,f0,J8,J9]
     refine hK _ ?_
     refine dWa ?_
     refine⟨_,?_,bD ?_ rfl (U3 _)⟩
     ·omega
     ·have:decide (0≤at_∧at_<(N:Int))=decide (at_<(N:Int)):=decide_eq_decide.2 ⟨fun h=>h.2,fun h=>⟨ha0,h⟩⟩
      simp only[this]
    ·skip
     have f0:decide (0≤at_)=false:=J6 ha0
     refine bA [2,7,8,10,11,12,13] rfl rfl rfl fun K hK=>?_
     simp(disch:=omega) only[Try.f5,go_sem,↓reduceIte,f0]
     refine hK _ ?_
     refine dWa ?_
     refine⟨_,?_,bD ?_ rfl (U3 _)⟩
     ·omega
     ·have:decide (0≤at_∧at_<(N:Int))=false:=J6 fun h=>ha0 h.1
      simp only[this]
   rintro c2 hc2 n0
   obtain⟨inb,hin⟩: ∃y,decide (0≤at_∧at_<(N:Int))=y:=⟨_,rfl⟩
   rw[hin]
   have hec:c≤e∧e<c2:=by omega
   have hcc:c≤c2:=by omega
   refine cP rfl ?_
   refine dWd (fun p:PLJ=> {fr:=[(2,.sl A.length (mN A)),(7,.op p.d 0),(8,.op I.mm 0),(10,.i i),(12,.i at_),(13,.b inb)],hp:=p.h,nx:=0,cx:=p.c}) (fun p=>ST N Z p.h I p.d p.s p.m p.M p.C p.c∧c≤p.c) ?_ ?_
   ·skip
    refine cP rfl ?_
    refine bA [2,7,8,10,11,12,13,127] rfl rfl rfl fun K hK=>?_
    simp(disch:=omega) only[Try.f5,go_sem,↓reduceIte,he1,J8,J9]
    refine hK _ ?_
    refine aB ?_
    refine aR 4 rfl rfl ?_
    refine cP rfl ?_
    refine dWd (fun p:Nat=> {fr:=[(2,.sl A.length (mN A)),(7,.op d 0),(8,.op I.mm 0),(10,.i i),(11,.op e 0),(12,.i at_),(13,.b inb),(127,.i w),(128,.b (decide (w=0∨w=1∨w=2)))],hp:=g1,nx:=0,cx:=p}) (fun p=>c2≤p) ?_ ?_
    ·skip
     by_cases hw0:w=0
     ·skip
      have d0:decide (w=0)=true:=J5 hw0
      have dd:decide (w=0∨w=1∨w=2)=true:=J5 (.inl hw0)
      refine cP rfl ?_
      refine bA [2,7,8,10,11,12,13,127,128] rfl rfl rfl fun K hK=>?_
      simp(disch:=omega) only[Try.f5,go_sem,↓reduceIte,d0]
      refine hK _ ?_
      refine aB ?_
      refine eC (.tmp 128) rfl rfl rfl (fun h=>?_) (fun h=>?_)
      ·skip
       clear h
       refine aQ rfl ?_
       refine dWa ?_
       refine⟨_,?_,bD ?_ rfl (U3 _)⟩
       ·omega
       ·simp only[dd]
      ·skip
       cases h
     ·skip
      have d0:decide (w=0)=false:=J6 hw0
      refine cP rfl ?_
      refine bA [2,7,8,10,11,12,13,127,128] rfl rfl rfl fun K hK=>?_
      simp(disch:=omega) only[Try.f5,go_sem,↓reduceIte,d0]
      refine hK _ ?_
      refine aB ?_
      refine eC (.tmp 128) rfl rfl rfl (fun h=>?_) (fun h=>?_)
      ·skip
       cases h
      ·skip
       clear h
       refine cP rfl ?_
       by_cases hw1:w=1
       ·skip
        have d1:decide (w=1)=true:=J5 hw1
        have dd:decide (w=0∨w=1∨w=2)=true:=J5 (.inr (.inl hw1))
        refine bA [2,7,8,10,11,12,13,127,128] rfl rfl rfl fun K hK=>?_
        simp(disch:=omega) only[Try.f5,go_sem,↓reduceIte,d1]
        refine hK _ ?_
        refine aB ?_
        refine eC (.tmp 128) rfl rfl rfl (fun h=>?_) (fun h=>?_)
        ·skip
         clear h
         refine aQ rfl ?_
         refine dWa ?_
         refine⟨_,?_,bD ?_ rfl (U3 _)⟩
         ·omega
         ·simp only[dd]
        ·skip
         cases h
       ·skip
        have d1:decide (w=1)=false:=J6 hw1
        have dd:decide (w=0∨w=1∨w=2)=decide (w=2):=decide_eq_decide.2 ⟨fun h=>h.elim (fun h=>absurd h hw0) fun h=>h.elim (fun h=>absurd h hw1) id,fun h=> .inr (.inr h)⟩
        refine bA [2,7,8,10,11,12,13,127,128] rfl rfl rfl fun K hK=>?_
        simp(disch:=omega) only[Try.f5,go_sem,↓reduceIte,d1]
        refine hK _ ?_
        refine aB ?_
        refine eC (.tmp 128) rfl rfl rfl (fun h=>?_) (fun h=>?_)
        ·skip
         cases h
        ·skip
         clear h
         refine bA [2,7,8,10,11,12,13,127,128] rfl rfl rfl fun K hK=>?_
         simp(disch:=omega) only[Try.f5,go_sem,↓reduceIte]
         refine hK _ ?_
         refine dWa ?_
         refine⟨_,?_,bD ?_ rfl (U3 _)⟩
         ·omega
         ·simp only[dd]
    rintro c3 hc3 n0
    refine eC (.tmp 128) rfl rfl rfl (fun h=>?_) (fun h=>?_)
    ·skip
     clear h
     refine fF [2,7,8,10,11,12,13] ?_
     simp only[iB,fU,eB,↓reduceIte,Nat.reduceEqDiff]
     refine eCw hS1 he1 (by omega) hat2 hin.symm (fun h' M' C' c' nx' hS' hc'=>?_)
     refine bU (dWa ?_)
     exact⟨⟨h',d,s,m,M',C',c'⟩,⟨hS',by simp only;omega⟩,bD rfl rfl (U3 _)⟩
    ·skip
     clear h
     refine cP rfl ?_
     by_cases hw3:w=3
     ·skip
      have d3:decide (w=3)=true:=J5 hw3
      refine bA [192,2,7,8,10,11,12,13,127] rfl rfl rfl fun K hK=>?_
      simp(disch:=omega) only[Try.f5,go_sem,↓reduceIte,d3]
      refine hK _ ?_
      refine aB ?_
      refine eC (.tmp 192) rfl rfl rfl (fun h=>?_) (fun h=>?_)
      ·skip
       refine aI rfl ?_
       clear h
       refine fF [2,7,8,10,11,12,13] ?_
       simp only[iB,fU,eB,↓reduceIte,Nat.reduceEqDiff]
       refine eCx hS1 (by omega) (fun h' M' C' c' nx' hS' hc'=>?_)
       refine bU (dWa ?_)
       exact⟨⟨h',d,s,m,M',C',c'⟩,⟨hS',by simp only;omega⟩,bD rfl rfl (U3 _)⟩
      ·skip
       refine aI rfl ?_
       cases h
     ·skip
      have d3:decide (w=3)=false:=J6 hw3
      refine bA [192,2,7,8,10,11,12,13,127] rfl rfl rfl fun K hK=>?_
      simp(disch:=omega) only[Try.f5,go_sem,↓reduceIte,d3]
      refine hK _ ?_
      refine aB ?_
      refine eC (.tmp 192) rfl rfl rfl (fun h=>?_) (fun h=>?_)
      ·skip
       refine aI rfl ?_
       cases h
      ·skip
       refine aI rfl ?_
       clear h
       refine cP rfl ?_
       by_cases hw4:w=4
       ·skip
        have d4:decide (w=4)=true:=J5 hw4
        refine bA [235,2,7,8,10,11,12,13,127] rfl rfl rfl fun K hK=>?_
        simp(disch:=omega) only[Try.f5,go_sem,↓reduceIte,d4]
        refine hK _ ?_
        refine aB ?_
        refine eC (.tmp 235) rfl rfl rfl (fun h=>?_) (fun h=>?_)
        ·skip
         refine aI rfl ?_
         clear h
         refine fF [2,7,8,10,11,12,13] ?_
         simp only[iB,fU,eB,↓reduceIte,Nat.reduceEqDiff]
         refine eCy hS1 he1 (by omega) (fun h' M' C' c' nx' hS' hc'=>?_)
         refine bU (dWa ?_)
         exact⟨⟨h',d,s,m,M',C',c'⟩,⟨hS',by simp only;omega⟩,bD rfl rfl (U3 _)⟩
        ·skip
         refine aI rfl ?_
         cases h
       ·skip
        have d4:decide (w=4)=false:=J6 hw4
        refine bA [235,2,7,8,10,11,12,13,127] rfl rfl rfl fun K hK=>?_
        simp(disch:=omega) only[Try.f5,go_sem,↓reduceIte,d4]
        refine hK _ ?_
        refine aB ?_
        refine eC (.tmp 235) rfl rfl rfl (fun h=>?_) (fun h=>?_)
        ·skip
         refine aI rfl ?_
         cases h
        ·skip
         refine aI rfl ?_
         clear h
         refine cP rfl ?_
         by_cases hw5:w=5
         ·skip
          have d5:decide (w=5)=true:=J5 hw5
          refine bA [252,2,7,8,10,11,12,13,127] rfl rfl rfl fun K hK=>?_
          simp(disch:=omega) only[Try.f5,go_sem,↓reduceIte,d5]
          refine hK _ ?_
          refine aB ?_
          refine eC (.tmp 252) rfl rfl rfl (fun h=>?_) (fun h=>?_)
          ·skip
           refine aI rfl ?_
           clear h
           refine fF [2,7,8,10,11,12,13] ?_
           simp only[iB,fU,eB,↓reduceIte,Nat.reduceEqDiff]
           refine eCz hS1 he1 (by omega) (fun h' M' C' c' nx' hS' hc'=>?_)
           refine bU (dWa ?_)
           exact⟨⟨h',d,s,m,M',C',c'⟩,⟨hS',by simp only;omega⟩,bD rfl rfl (U3 _)⟩
          ·skip
           refine aI rfl ?_
           cases h
         ·skip
          have d5:decide (w=5)=false:=J6 hw5
          refine bA [252,2,7,8,10,11,12,13,127] rfl rfl rfl fun K hK=>?_
          simp(disch:=omega) only[Try.f5,go_sem,↓reduceIte,d5]
          refine hK _ ?_
          refine aB ?_
          refine eC (.tmp 252) rfl rfl rfl (fun h=>?_) (fun h=>?_)
          ·skip
           refine aI rfl ?_
           cases h
          ·skip
           refine aI rfl ?_
           clear h
           refine cP rfl ?_
           by_cases hw6:w=6
           ·skip
            have d6:decide (w=6)=true:=J5 hw6
            refine bA [321,2,7,8,10,12,13] rfl rfl rfl fun K hK=>?_
            simp(disch:=omega) only[Try.f5,go_sem,↓reduceIte,d6]
            refine hK _ ?_
            refine aB ?_
            refine eC (.tmp 321) rfl rfl rfl (fun h=>?_) (fun h=>?_)
            ·skip
             refine aI rfl ?_
             clear h
             refine fF [2,7,8,10,12,13] ?_
             simp only[iB,fU,eB,↓reduceIte,Nat.reduceEqDiff]
             refine eDa hS1 (by omega) (fun h' d' s' m' M' C' c' nx' hS' hc'=>?_)
             refine bU (dWa ?_)
             exact⟨⟨h',d',s',m',M',C',c'⟩,⟨hS',by simp only;omega⟩,bD rfl rfl (U3 _)⟩
            ·skip
             refine aI rfl ?_
             cases h
           ·skip
            have d6:decide (w=6)=false:=J6 hw6
            refine bA [321,2,7,8,10,12,13] rfl rfl rfl fun K hK=>?_
            simp(disch:=omega) only[Try.f5,go_sem,↓reduceIte,d6]
            refine hK _ ?_
            refine aB ?_
            refine eC (.tmp 321) rfl rfl rfl (fun h=>?_) (fun h=>?_)
            ·skip
             refine aI rfl ?_
             cases h
            ·skip
             refine aI rfl ?_
             clear h
             refine aQ rfl ?_
             refine bU (dWa ?_)
             refine⟨⟨g1,d,s,m,M,C,_⟩,⟨hS1.up (by simp only;omega),by simp only;omega⟩,bD rfl rfl (U3 _)⟩
   rintro⟨g5,d5,s5,m5,M5,C5,c5⟩ ⟨hS5,hc5⟩ n0
   simp only at hS5 hc5⊢
   have hk5:=mK hS5.mm.hd
   have hrl5:=hS5.pr.rel.len
   have hll5:=hS5.pr.ll
   have hde:=hS5.pr.de
   have h6:=hS5.mm.hm
   have h7:=hS5.mm.hl
   have l5:=hS5.lt
   cases hd5:M5.dead
   ·skip
    have hcd:C5.dead=false:=by rw[←hde];exact hd5
    rw[hd5,hll5]at h6
    by_cases hr:0≤at_∧at_<(N:Int)
    ·skip
     have hib:inb=true:=by rw[←hin];exact J5 hr
     obtain⟨k,rfl⟩:=Int.eq_ofNat_of_zero_le hr.1
     simp only[]at*
     have hkN:k<N:=by omega
     obtain⟨b,hb⟩: ∃b,M5.l.getD k []=b:=⟨_,rfl⟩
     have hbl:b.length=Z:=by rw[←hb];exact hS5.pr.lz _ (dZp (by omega))
     have hhd:=dZe M5.l k (by omega)
     rw[hb]at hhd
     have hrv:=hS5.pr.rel.read hkN
     simp only[hb]at hrv
     obtain⟨j,hj7,hrd⟩: ∃j:Nat,(71≤j∧j≤77)∧∀nx,rdG [.op d5 0,.i k] g5 nx=some (.tup [.os (nx+j) 0 b.length 1 true,.i 0],Go.AX.upd g5 (nx+j) (.cells (c8 b) true),nx+100):=by
      have ha:atV C5 k=0:=by unfold atV;rw[J3 (by rw[hcd];decide),J3 (by omega)]
      rcases hg:iK (k:Int) C5.dirty with _|b'
      ·rw[hg]at hrv
       simp only at hrv
       refine⟨77,by omega,fun nx=>?_⟩
       rw[dNz,hk5,aX]
       simp only
       rw[ha,dQi,hg,dQh,U2,hrv,aX,cU _ (by omega)]
      ·rw[hg]at hrv
       simp only[Option.some.injEq]at hrv
       subst hrv
       refine⟨71,by omega,fun nx=>?_⟩
       rw[dNz,hk5,aX]
       simp only
       rw[ha,dQi,hg,dQg,cU _ (by omega)]
     refine cP rfl ?_
     refine aC (Γ:=bC [(13,.heap rdG)]) [2,7,8,10,12,13,23,24] (aH dQy aO) rfl rfl rfl (fun K hK=>?_)
     simp(disch:=omega) only[Try.f5,go_sem,↓reduceIte,hrd]
     refine hK _ ?_
     refine aB ?_
     refine pS 23 (c5+8+j) 0 _ 1 rfl (by rw[bJ,J4 rfl]) (by rw[hT];omega) ?_
     rw[J9,List.take_of_length_le (by rw[hT];omega),lN]
     have hS7:=hS5.upd (i:=c5+8+j) (.cells (c8 b) false) (by omega)
     obtain⟨g7,hg7⟩: ∃y,Go.AX.upd g5 (c5+8+j) (.cells (c8 b) false)=y:=⟨_,rfl⟩
     rw[hg7]at hS7⊢
     clear hg7
     have h8:=hS7.mm.hm
     have h9:=hS7.mm.hl
     have hk7:=mK hS7.mm.hd
     rw[hd5,hll5]at h8
     have dbb:decide (b=b)=true:=J5 rfl
     have hll6:(M5.l.map zP).length=N:=by rw[List.length_map];exact hll5
     refine cP rfl ?_
     refine bA [2,7,8,10,12,13,23,24,25] rfl rfl rfl fun K hK=>?_
     simp(disch:=omega) only[Try.f5,go_sem,↓reduceIte]
     refine hK _ ?_
     refine aB ?_
     refine cP rfl ?_
     refine aR 12 rfl rfl ?_
     refine cP rfl ?_
     refine bA [341,2,7,8,10,12,13,23,24,25] rfl rfl rfl fun K hK=>?_
     simp(disch:=omega) only[Try.f5,go_sem,↓reduceIte,h8,J8,J7,J9]
     refine hK _ ?_
     refine aB ?_
     refine eC (.tmp 341) rfl rfl rfl (fun h=>?_) (fun h=>?_)
     ·skip
      refine aI rfl ?_
      cases h
     ·skip
      refine aI rfl ?_
      clear h
      refine cP rfl ?_
      refine bA [346,2,7,8,10,12,23,24,25] rfl rfl rfl fun K hK=>?_
      simp(disch:=omega) only[Try.f5,go_sem,↓reduceIte,hib,Bool.not_true]
      refine hK _ ?_
      refine aB ?_
      refine eC (.tmp 346) rfl rfl rfl (fun h=>?_) (fun h=>?_)
      ·skip
       refine aI rfl ?_
       cases h
      ·skip
       refine aI rfl ?_
       clear h
       refine aQ rfl ?_
       refine bU (aB ?_)
       refine cP rfl ?_
       refine aYa (Γ:=bC [(18,.heap dWf),(19,.pure true dJq)]) (fun k=>if k=1 then true else if k=5 then true else false) [(1,5)] (fun k=>if k=33 then 0 else if k=1 then 0 else 2) [385,2,7,8,10] mixed (aH eBs (aH eCd aO)) rfl rfl rfl (by kernel_rfl) (fun K hK=>?_)
       simp(maxSteps:=400000) (disch:=omega) only[Try.f5,go_sem,and_self,and_true,true_and,↓reduceIte,ib4,h8,h9,hk7,hcd,hhd,U2,J8,J7,J9]
       refine hK _ ?_
       refine aB ?_
       refine eC (.tmp 385) rfl rfl rfl (fun h=>?_) (fun h=>?_)
       ·skip
        refine aI rfl ?_
        cases h
       ·skip
        refine aI rfl ?_
        clear h
        refine aQ rfl ?_
        refine bU (aB ?_)
        refine bA [2,7,8,10] rfl rfl rfl fun K hK=>?_
        simp(disch:=omega) only[Try.f5,go_sem,↓reduceIte]
        refine hK _ ?_
        refine bT ?_
        refine⟨⟨i+1,g7,I,d5,s5,m5,M5,C5,_⟩,⟨by simp only;omega,hS7.up (by simp only;omega)⟩,by simp only;omega,bD ?_ rfl (U3 _)⟩
        simp only[Int.natCast_add,Int.natCast_one]
    ·skip
     have hib:inb=false:=by rw[←hin];exact J6 hr
     have hrd: ∀nx,rdG [.op d5 0,.i at_] g5 nx=some (.tup [.v (.slice none 0 0),.i 80],g5,nx+100):=fun nx=>by
      have ha:atV C5 at_=80:=by unfold atV;rw[J3 (by rw[hcd];decide),J4 (by omega)]
      rw[dNz,hk5,aX]
      simp only
      rw[ha]
      rfl
     refine cP rfl ?_
     refine aC (Γ:=bC [(13,.heap rdG)]) [2,7,8,10,12,13,23,24] (aH dQy aO) rfl rfl rfl (fun K hK=>?_)
     simp(disch:=omega) only[Try.f5,go_sem,↓reduceIte,hrd]
     refine hK _ ?_
     refine aB ?_
     refine cP rfl ?_
     refine bA [2,7,8,10,12,13,23,24,25] rfl rfl rfl fun K hK=>?_
     simp(disch:=omega) only[Try.f5,go_sem,↓reduceIte]
     refine hK _ ?_
     refine aB ?_
     refine cP rfl ?_
     refine aR 12 rfl rfl ?_
     refine cP rfl ?_
     refine bA [341,2,7,8,10,12,13,23,24,25] rfl rfl rfl fun K hK=>?_
     simp(disch:=omega) only[Try.f5,go_sem,↓reduceIte,h6,J8,J7,J9]
     refine hK _ ?_
     refine aB ?_
     refine eC (.tmp 341) rfl rfl rfl (fun h=>?_) (fun h=>?_)
     ·skip
      refine aI rfl ?_
      cases h
     ·skip
      refine aI rfl ?_
      clear h
      refine cP rfl ?_
      refine bA [346,2,7,8,10,12,23,24,25] rfl rfl rfl fun K hK=>?_
      simp(disch:=omega) only[Try.f5,go_sem,↓reduceIte,hib,Bool.not_false]
      refine hK _ ?_
      refine aB ?_
      refine eC (.tmp 346) rfl rfl rfl (fun h=>?_) (fun h=>?_)
      ·skip
       refine aI rfl ?_
       clear h
       refine bA [2,7,8,10,12,23,24,25] rfl rfl rfl fun K hK=>?_
       simp(disch:=omega) only[Try.f5,go_sem,↓reduceIte]
       refine hK _ ?_
       refine bU (aB ?_)
       refine cP rfl ?_
       refine aYa (Γ:=bC [(18,.heap dWf),(19,.pure true dJq)]) (fun k=>if k=1 then true else if k=5 then true else false) [(1,5)] (fun k=>if k=33 then 0 else if k=1 then 0 else 2) [385,2,7,8,10] mixed (aH eBs (aH eCd aO)) rfl rfl rfl (by kernel_rfl) (fun K hK=>?_)
       simp(maxSteps:=400000) (disch:=omega) only[Try.f5,go_sem,and_self,and_true,true_and,↓reduceIte,ib4,h6,hk5,hcd,J8,J7,J9]
       refine hK _ ?_
       refine aB ?_
       refine eC (.tmp 385) rfl rfl rfl (fun h=>?_) (fun h=>?_)
       ·skip
        refine aI rfl ?_
        cases h
       ·skip
        refine aI rfl ?_
        clear h
        refine aQ rfl ?_
        refine bU (aB ?_)
        refine bA [2,7,8,10] rfl rfl rfl fun K hK=>?_
        simp(disch:=omega) only[Try.f5,go_sem,↓reduceIte]
        refine hK _ ?_
        refine bT ?_
        refine⟨⟨i+1,g5,I,d5,s5,m5,M5,C5,_⟩,⟨by simp only;omega,hS5.up (by simp only;omega)⟩,by simp only;omega,bD ?_ rfl (U3 _)⟩
        simp only[Int.natCast_add,Int.natCast_one]
      ·skip
       refine aI rfl ?_
       cases h
   ·skip
    have hcd:C5.dead=true:=by rw[←hde];exact hd5
    rw[hd5,hll5]at h6
    have hrd: ∀nx,rdG [.op d5 0,.i at_] g5 nx=some (.tup [.v (.slice none 0 0),.i 82],g5,nx+100):=fun nx=>by
     have ha:atV C5 at_=82:=by unfold atV;rw[J4 hcd]
     rw[dNz,hk5,aX]
     simp only
     rw[ha]
     rfl
    refine cP rfl ?_
    refine aC (Γ:=bC [(13,.heap rdG)]) [2,7,8,10,12,13,23,24] (aH dQy aO) rfl rfl rfl (fun K hK=>?_)
    simp(disch:=omega) only[Try.f5,go_sem,↓reduceIte,hrd]
    refine hK _ ?_
    refine aB ?_
    refine cP rfl ?_
    refine bA [2,7,8,10,12,13,23,24,25] rfl rfl rfl fun K hK=>?_
    simp(disch:=omega) only[Try.f5,go_sem,↓reduceIte]
    refine hK _ ?_
    refine aB ?_
    refine cP rfl ?_
    refine aR 12 rfl rfl ?_
    refine cP rfl ?_
    refine bA [341,2,7,8,10,12,13,23,24,25] rfl rfl rfl fun K hK=>?_
    simp(disch:=omega) only[Try.f5,go_sem,↓reduceIte,h6,J8,J7,J9]
    refine hK _ ?_
    refine aB ?_
    refine eC (.tmp 341) rfl rfl rfl (fun h=>?_) (fun h=>?_)
    ·skip
     refine aI rfl ?_
     clear h
     refine bA [2,7,8,10,12,23,24,25] rfl rfl rfl fun K hK=>?_
     simp(disch:=omega) only[Try.f5,go_sem,↓reduceIte]
     refine hK _ ?_
     refine bU (aB ?_)
     refine cP rfl ?_
     refine aYa (Γ:=bC [(18,.heap dWf),(19,.pure true dJq)]) (fun k=>if k=1 then true else if k=5 then true else false) [(1,5)] (fun k=>if k=33 then 0 else if k=1 then 0 else 2) [385,2,7,8,10] mixed (aH eBs (aH eCd aO)) rfl rfl rfl (by kernel_rfl) (fun K hK=>?_)
     simp(maxSteps:=400000) (disch:=omega) only[Try.f5,go_sem,and_self,and_true,true_and,↓reduceIte,ib4,h6,hk5,hcd,J8,J7,J9]
     refine hK _ ?_
     refine aB ?_
     refine eC (.tmp 385) rfl rfl rfl (fun h=>?_) (fun h=>?_)
     ·skip
      refine aI rfl ?_
      cases h
     ·skip
      refine aI rfl ?_
      clear h
      refine aQ rfl ?_
      refine bU (aB ?_)
      refine bA [2,7,8,10] rfl rfl rfl fun K hK=>?_
      simp(disch:=omega) only[Try.f5,go_sem,↓reduceIte]
      refine hK _ ?_
      refine bT ?_
      refine⟨⟨i+1,g5,I,d5,s5,m5,M5,C5,_⟩,⟨by simp only;omega,hS5.up (by simp only;omega)⟩,by simp only;omega,bD ?_ rfl (U3 _)⟩
      simp only[Int.natCast_add,Int.natCast_one]
    ·skip
     refine aI rfl ?_
     cases h
  ·skip
   refine aI rfl ?_
   obtain rfl:i=A.length:=by omega
   refine bF 2 rfl rfl ?_
   refine aY (aZ (bE ?_))
   refine aB ?_
   refine cP rfl ?_
   refine bA [6] rfl rfl rfl fun K hK=>?_
   simp(disch:=omega) only[Try.f5,go_sem,↓reduceIte]
   refine hK _ ?_
   refine aB ?_
   refine aS rfl ?_
   simp(disch:=omega) only[cN,bV,bK,bQ,Try.f5,go_sem,↓reduceIte]
set_option maxHeartbeats 8000000 in
theorem eBr:cL Try.prog GLh 5 eAw:=by
 refine cC Try.func5 (aT rfl) ?_
 intro args r hg
 unfold eAw at hg
 split at hg
 ·rename_i n0 z0 k xs
  replace hg:=aJ hg;obtain⟨A,hA,hg⟩:=hg
  have:=dO hA;subst this
  replace hg:=aP hg;obtain⟨⟨rfl,hlen⟩,hg⟩:=hg
  obtain rfl:=J0 hg
  have hal:=aHw A
  clear hg
  refine⟨J1 rfl,fun nx=>?_⟩
  refine cP rfl (bA [0,1,2] rfl rfl rfl fun K hK=>?_)
  simp(disch:=omega) only[Try.f5,go_sem,↓reduceIte]
  refine hK _ ?_
  refine aB (cP rfl (cP rfl (aC (Γ:=bC [(6,.pure true knG)]) [27,0,1,2] (aH ok6 aO) rfl rfl rfl (fun K hK=>?_))))
  simp(disch:=omega) only[Try.f5,go_sem,↓reduceIte]
  refine hK _ ?_
  refine aB (eC (.tmp 27) rfl rfl rfl (fun h=>?_) (fun h=>?_))
  ·refine aI rfl ?_
   cases h
  refine aI rfl ?_
  clear h
  refine aQ rfl (aB (cP rfl (cP rfl ?_)))
  by_cases h60:60<A.length
  ·have d6:decide ((60:Int)<(A.length:Int))=true:=J5 (by omega)
   refine bA [30,0,1,2] rfl rfl rfl fun K hK=>?_
   simp(disch:=omega) only[Try.f5,go_sem,↓reduceIte,d6]
   refine hK _ ?_
   refine aB (eC (.tmp 30) rfl rfl rfl (fun h=>?_) (fun h=>?_))
   ·refine aI rfl (cP rfl (bA [6] rfl rfl rfl fun K hK=>?_))
    simp(disch:=omega) only[Try.f5,go_sem,↓reduceIte]
    refine hK _ ?_
    refine aB (aS rfl (bI ?_))
    simp(disch:=omega) only[cN,bV,bK,bQ,Try.f5,go_sem,↓reduceIte]
   refine aI rfl ?_
   cases h
  have d6:decide ((60:Int)<(A.length:Int))=false:=J6 (by omega)
  refine bA [30,0,1,2] rfl rfl rfl fun K hK=>?_
  simp(disch:=omega) only[Try.f5,go_sem,↓reduceIte,d6]
  refine hK _ ?_
  refine aB (eC (.tmp 30) rfl rfl rfl (fun h=>?_) (fun h=>?_))
  ·refine aI rfl ?_
   cases h
  refine aI rfl ?_
  clear h
  refine aQ rfl (aB (cP rfl ?_))
  have hp6:=dZv n0 6 (by decide) (by decide)
  have hp150:=dZv z0 150 (by decide) (by decide)
  obtain⟨n1,hn1⟩: ∃q,plc n0 6=q:=⟨_,rfl⟩
  obtain⟨z,hz⟩: ∃q,plc z0 150=q:=⟨_,rfl⟩
  rw[hn1]at hp6
  rw[hz]at hp150
  refine aC (Γ:=bC [(14,.pure true eAe)]) [0,1,2] (aH eCe aO) rfl rfl rfl (fun K hK=>?_)
  simp(disch:=omega) only[Try.f5,go_sem,↓reduceIte,hn1,hz]
  refine hK _ ?_
  refine aB ?_
  obtain⟨n,hn⟩: ∃q,n1-1=q:=⟨_,rfl⟩
  rw[hn]
  obtain⟨N,hN⟩: ∃N:Nat,(if n<1 then 1 else n)=(N:Int):=⟨(if n<1 then 1 else n).toNat,by split<;>omega⟩
  obtain⟨Z,hZ⟩: ∃Z:Nat,(if z<64 then 64 else z)=(Z:Int):=⟨(if z<64 then 64 else z).toNat,by split<;>omega⟩
  have hN4:1≤N∧N≤5:=by split at hN<;>omega
  have hZ4:64≤Z∧Z≤150:=by split at hZ<;>omega
  have hwn:=eCo hN (by omega)
  have hwz:=eCn hZ (by omega)
  have hnw:nwC n z=⟨List.replicate N (List.replicate Z 0#8),true,[],-1,false⟩:=by unfold nwC dGw;rw[hwn,hwz]
  refine cP rfl (aC (Γ:=bC [(7,.heap bKg)]) [0,1,2,7] (aH ok7 aO) rfl rfl rfl (fun K hK=>?_))
  simp(disch:=omega) only[Try.f5,go_sem,↓reduceIte,hwn,hnw]
  refine hK _ ?_
  refine aB ?_
  obtain⟨c0,hc0⟩: ∃y,nx+1+2+3+7+4=y:=⟨_,rfl⟩
  rw[hc0]
  obtain⟨d0,hd0⟩: ∃y,c0+3=y:=⟨_,rfl⟩
  obtain⟨s0,hs0⟩: ∃y,c0+16*N+3=y:=⟨_,rfl⟩
  obtain⟨m0,hm0⟩: ∃y,c0+1=y:=⟨_,rfl⟩
  rw[hd0,hs0,hm0]
  have hD0:aZo (bO d0 s0 m0 ⟨List.replicate N (List.replicate Z 0#8),true,[],-1,false⟩ fun _=>none) d0 s0 m0 ⟨List.replicate N (List.replicate Z 0#8),true,[],-1,false⟩:=dEp (by omega) (by omega) (by omega)
  have hPR0:=PR.init (N:=N) (Z:=Z) hN4.1
  obtain⟨C0,hC0⟩: ∃y,(⟨List.replicate N (List.replicate Z 0#8),true,[],-1,false⟩:DC)=y:=⟨_,rfl⟩
  rw[hC0]at hD0 hPR0⊢
  obtain⟨H0,hH0⟩: ∃y,(bO d0 s0 m0 C0 fun _=>none)=y:=⟨_,rfl⟩
  rw[hH0]at hD0⊢
  refine eBq n z (mN A) A.length _ N Z _ d0 s0 m0 C0 H0 hN hZ (by omega) (by omega) hD0 (by omega) (fun h1 I c1 nx1 hM1 hI1=>?_)
  exact eBp n z A hlen hZ hM1 hPR0 ⟨by omega,by omega,by omega,by omega⟩ (by omega)
 cases hg
end Go.AX
