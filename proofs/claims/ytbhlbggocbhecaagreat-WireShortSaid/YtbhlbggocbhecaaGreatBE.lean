/-
  Wire, part gD: a message made as short as it must be. Wire, part gE: in plain words: records of owners of one letter are read as they were written. Wire, part gF: in plain words: what is made short has whole sets, and reads as it was. Wire, part gG: bytes, records held against each other. Wire, part gH: the walk of WireShort.
-/
import Derived.Test.YtbhlbggocbhecaaGreatBD
namespace Go.AX
open Go Go.Proofs
set_option maxRecDepth 20000
def shM (tc:Bool) (l:List RC):MD:=⟨0#16,true,0,false,tc,false,false,0,[],l,[],[],false,0#16,false⟩
structure OkS (l:List RC):Prop where
 len:l.length≤100
 all:fXw l
 nm: ∀c∈l,okN c.nm∧c.d.length≤256
theorem OkS.take {l:List RC} (h:OkS l) (k:Nat):OkS (l.take k):=
 ⟨by rw[List.length_take];have:=h.len;omega,fun c hc=>h.all c (List.mem_of_mem_take hc),fun c hc=>h.nm c (List.mem_of_mem_take hc)⟩
theorem fWh: ∀ {l:List RC},(∀c∈l,okN c.nm∧c.d.length≤256)→fIl l≤523*l.length
 |[],_=>U3 _
 |c::r,h=>by
  have h1:=(h c (List.mem_cons_self ..)).1.2
  have h2:=(h c (List.mem_cons_self ..)).2
  have h3:=fWh (l:=r) fun c hc=>h c (List.mem_cons_of_mem _ hc)
  have h4:(eRs c.nm).length+1=wl c.nm:=by
   have: ∀n:Nm,(eRs n).length+1=wl n:=fun n=>by
    induction n with
    |nil=>rfl
    |cons l r ih=>rw[gX,eKu];omega
   exact this c.nm
  have h5:fIl (c::r)=szR c+fIl r:=by rw[fIl,List.map_cons,List.sum_cons];rfl
  rw[h5,szR,List.length_cons];omega
theorem fYu {l:List RC} (h:OkS l) (tc:Bool):RX2 (shM tc l):=by
 have h1:=h.len
 have h2:=fWh h.nm
 refine⟨⟨Int.le_refl 0,(by decide:(0:Int)≤15),Int.le_refl 0,Nat.zero_le _,(fun q hq=>nomatch hq),⟨by show l.length≤65535;omega,fun c hc=>⟨(h.nm c hc).1,by have:=(h.nm c hc).2;omega⟩⟩,⟨Nat.zero_le _,fun c hc=>nomatch hc⟩,⟨Nat.zero_le _,fun c hc=>nomatch hc⟩⟩,?_⟩
 show fIp []+fJm [l,[],[]]≤60000
 have e:fJm [l,[],[]]=fIl l:=by simp[fJm,fIl]
 rw[e]
 show 0+fIl l≤60000
 omega
def fWf (S:Nat):Nat→Bool→List RC→Bool×List RC
 |0,tc,l=>(tc,l)
 |f+1,tc,l=>if(mbS (shM tc l)).length≤S then(tc,l)else fWf S f true (l.take (fWa l))
theorem fXo {l:List RC} (h:0<l.length):fWa l<l.length:=by
 unfold fWa
 split
 ·exact h
 rename_i c _
 have:=fWs l c.nm (l.length-1)
 omega
def fXu (tc:Bool) (l:List RC) (s:Int):AV:=
 .tup [.sl (mbS (shM (fWf (if s<512 then 512 else s.toNat) (l.length+1) tc l).1 (fWf (if s<512 then 512 else s.toNat) (l.length+1) tc l).2)).length (c8 (mbS (shM (fWf (if s<512 then 512 else s.toNat) (l.length+1) tc l).1 (fWf (if s<512 then 512 else s.toNat) (l.length+1) tc l).2))),.i 0]
open Classical in
noncomputable def fXn:List AV→Option AV
 |[.agg xs,.i s]=>aK (fJd xs) fun M=>if M=shM M.tc M.an∧OkS M.an then some (fXu M.tc M.an s)else none
 |_=>none
theorem fYk {l:List RC} (h:OkS l) (tc:Bool) (s:Int):fXn [.agg (mdA (shM tc l)),.i s]=some (fXu tc l s):=by
 show aK (fJd (mdA (shM tc l))) _=_
 rw[fLx,aX,J4 ⟨rfl,h⟩];rfl
theorem fXe (tc:Bool) (l:List RC):mdA (shM tc l)=[.w16 0#16,.b true,.i 0,.b false,.b tc,.b false,.b false,.i 0,.sl 0 [],.sl l.length (rcC l),.sl 0 [],.sl 0 [],.b false,.w16 0#16,.b false]:=by
 simp only[mdA,shM,qsC,rcC,List.length_nil]
theorem fXl (tc:Bool):(mbS (shM tc [])).length=12:=by cases tc<;>decide
theorem fYr {g:H} {a:Nat} {x:AO} (h1:g a=some x): ∀j o,upd (fun _=>none) a x j=some o→g j=some o:=by
 intro j o h
 rw[bJ]at h
 split at h
 ·rename_i e;rw[e,h1];exact h
 cases h
structure FTI where
 tc:Bool
 l:List RC
 f:Nat
 c:Nat
set_option maxHeartbeats 8000000 in
theorem fYi:fHn Tryz.prog GLh 13 fXn:=by
 refine zK Tryz.func13 (aT rfl) ?_
 intro args r hg
 unfold fXn at hg
 split at hg
 ·rename_i xs s
  replace hg:=aJ hg;obtain⟨M,hM,hg⟩:=hg
  by_cases hc:M=shM M.tc M.an∧OkS M.an
  rotate_left
  ·rw[J3 hc]at hg;cases hg
  rw[J4 hc]at hg
  obtain⟨hMs,hok⟩:=hc
  obtain rfl:=J0 hg
  have:=fJz hM;subst this
  refine⟨J1 rfl,fun nx=>?_⟩
  clear hg hM
  obtain⟨tc0,htc⟩: ∃t,M.tc=t:=⟨_,rfl⟩
  obtain⟨l0,hl0⟩: ∃l,M.an=l:=⟨_,rfl⟩
  rw[htc,hl0]at hMs⊢
  rw[hl0]at hok
  subst hMs
  unfold fXu
  obtain⟨S,hS⟩: ∃S,(if s<512 then 512 else s.toNat)=S:=⟨_,rfl⟩
  rw[hS]
  have hS2:(if s<512 then(512:Int)else s)=(S:Int):=by
   rw[←hS];split
   ·rfl
   omega
  have hS5:512≤S:=by rw[←hS];split<;>omega
  obtain⟨R,hR⟩: ∃R,fWf S (l0.length+1) tc0 l0=R:=⟨_,rfl⟩
  rw[hR,fXe]
  refine aA rfl (aW [1,2] rfl rfl rfl fun K hK=>?_)
  simp(disch:=omega) only[Tryz.f13,go_sem,↓reduceIte]
  refine hK _ ?_
  refine aB (aA rfl (aW [1,2] rfl rfl rfl fun K hK=>?_))
  simp(disch:=omega) only[Tryz.f13,go_sem,↓reduceIte,hS2]
  refine hK _ ?_
  refine aB ?_
  have hid: ∀l:List B8,AV.ids (.tup [.sl l.length (c8 l),.i 0])=0:=fun l=>by
   show max (AV.ids (.sl l.length (c8 l))) (max 0 0)=0
   rw[eLf];rfl
  refine aR 0 rfl rfl ?_
  refine bR (fun p:FTI=> {fr:=[(1,.i (S:Int)),(2,.op nx 0)],hp:=upd (fun _=>none) nx (.cells [.w16 0#16,.b true,.i 0,.b false,.b p.tc,.b false,.b false,.i 0,.sl 0 [],.sl p.l.length (rcC p.l),.sl 0 [],.sl 0 [],.b false,.w16 0#16,.b false] true),nx:=0,cx:=p.c}) (fun p=>OkS p.l∧fWf S p.f p.tc p.l=R∧p.l.length<p.f∧nx<p.c) (fun p=>p.l.length) rfl ⟨⟨tc0,l0,l0.length+1,_⟩,⟨hok,hR,Nat.lt_succ_self _,by simp only;omega⟩,bD rfl rfl (U3 _)⟩ ?_
  rintro⟨tc,l,f,c⟩ ⟨ho,hr,hf,hc⟩ n0
  simp only at ho hr hf hc⊢
  obtain⟨g,rfl⟩: ∃g,f=g+1:=⟨f-1,by omega⟩
  have hby:=fOz (fLx (shM tc l)) (fYu ho tc) (by show(0:Int)≤15;decide)
  rw[fXe]at hby
  rw[fWf]at hr
  have hll:=ho.len
  refine aR 1 rfl rfl (aA rfl (aC (Γ:=bC [(11,.heap byH)]) [1,2,6,7] (aH fLs aO) rfl rfl rfl (fun K hK=>?_)))
  simp(disch:=omega) only[Tryz.f13,go_sem,↓reduceIte,hby,hid,fIx,fIy,U0,U1,J9]
  refine hK _ ?_
  refine aB ?_
  have dz:decide ((0:Int)=0)=true:=rfl
  by_cases hle:(mbS (shM tc l)).length≤S
  ·rw[J4 hle]at hr
   subst hr
   have dl:decide (((mbS (shM tc l)).length:Int)≤(S:Int))=true:=J5 (by omega)
   refine aA rfl (aA rfl (aW [26,1,2,6,7] rfl rfl rfl fun K hK=>?_))
   simp(disch:=omega) only[Tryz.f13,go_sem,↓reduceIte,dl]
   refine hK _ ?_
   refine aB (cV (.tmp 26) rfl rfl rfl (fun h=>?_) (fun h=>?_))
   ·refine aI rfl ?_
    clear h
    refine aA rfl (aW [4,5] rfl rfl rfl fun K hK=>?_)
    simp(disch:=omega) only[Tryz.f13,go_sem,↓reduceIte]
    refine hK _ ?_
    refine aB (aS rfl (bI (bN (dF (bN ?_)))))
    simp(disch:=omega) only[fHo,bV,bK,bQ,Tryz.f13,go_sem,↓reduceIte]
   refine aI rfl ?_
   cases h
  rw[J3 hle]at hr
  have dl:decide (((mbS (shM tc l)).length:Int)≤(S:Int))=false:=J6 (by omega)
  have h0:0<l.length:=by
   rcases l with _|⟨x,r⟩
   ·rw[fXl]at hle;omega
   exact Nat.succ_pos _
  have hw:=fXz h0 (by omega) ho.all
  have hwl:=fXo h0
  have hl0:decide ((0:Int)<(l.length:Int))=true:=J5 (by omega)
  refine aA rfl (aA rfl (aW [26,1,2,6,7] rfl rfl rfl fun K hK=>?_))
  simp(disch:=omega) only[Tryz.f13,go_sem,↓reduceIte,dl]
  refine hK _ ?_
  refine aB (cV (.tmp 26) rfl rfl rfl (fun h=>?_) (fun h=>?_))
  ·refine aI rfl ?_
   cases h
  refine aI rfl ?_
  clear h
  refine aQ rfl (aB (aR 2 rfl rfl (aA rfl (aW [31,1,2,6,7] rfl rfl rfl fun K hK=>?_))))
  simp(disch:=omega) only[Tryz.f13,go_sem,↓reduceIte]
  refine hK _ ?_
  refine aB (cV (.tmp 31) rfl rfl rfl (fun h=>?_) (fun h=>?_))
  ·refine aI rfl ?_
   cases h
  refine aI rfl ?_
  clear h
  refine aA rfl (aW [40,1,2,6,7] rfl rfl rfl fun K hK=>?_)
  simp(disch:=omega) only[Tryz.f13,go_sem,↓reduceIte]
  refine hK _ ?_
  refine aB (cV (.tmp 40) rfl rfl rfl (fun h=>?_) (fun h=>?_))
  ·refine aI rfl ?_
   cases h
  refine aI rfl ?_
  clear h
  refine aA rfl (aW [50,1,2,6,7] rfl rfl rfl fun K hK=>?_)
  simp(disch:=omega) only[Tryz.f13,go_sem,↓reduceIte,hl0]
  refine hK _ ?_
  refine aB (cV (.tmp 50) rfl rfl rfl (fun h=>?_) (fun h=>?_))
  ·refine aI rfl ?_
   clear h
   refine aC (Γ:=bC [(30,.pure false dJc)]) [1,2] (aH fZb aO) rfl rfl rfl (fun K hK=>?_)
   simp(disch:=omega) only[Tryz.f13,go_sem,↓reduceIte,hw,fV,dW,J8,List.set_cons_succ,List.set_cons_zero,J7,J9]
   refine hK _ ?_
   refine bU (bU (bT ?_))
   have htl:(l.take (fWa l)).length=fWa l:=by rw[List.length_take];omega
   refine⟨⟨true,l.take (fWa l),g,_⟩,⟨ho.take _,hr,by simp only[htl];omega,by simp only;omega⟩,by simp only[htl];exact hwl,⟨fun _=> .inr rfl,fun i o hi=>fYr (by simp(disch:=omega) only[aV,↓reduceIte,htl]) i o hi,U3 _⟩⟩
  refine aI rfl ?_
  cases h
 cases hg
end Go.AX

namespace Go.AX
open Go Go.Proofs
set_option maxRecDepth 20000
theorem fWg {β:Type} (a b:List B8) (v:β): ∀l:List (List B8×β),iK a (kT b v l)=if a=b then some v else iK a l
 |[]=>by simp only[kT,iK]
 |p::r=>by
  simp only[kT]
  by_cases h:b=p.1
  ·rw[J4 h]
   simp only[iK]
   by_cases h2:a=b
   ·rw[J4 h2,J4 h2]
   rw[J3 h2,J3 h2,J3 (by rw[←h];exact h2)]
  rw[J3 h]
  simp only[iK]
  rw[fWg a b v r]
  by_cases h2:a=b
  ·subst h2
   rw[J3 h,J4 rfl,J4 rfl]
  rw[J3 h2]
  simp only[J3 h2]
structure PlA (B:List B8) (a:Nat) (y:B8):Prop where
 h0:B.getD a 0#8=1#8
 h1:B.getD (a+1) 0#8=y
 h2:B.getD (a+2) 0#8=0#8
 hl:a+3≤B.length
theorem fXs {B:List B8} {a:Nat} (h:a<B.length):(B.drop a).take 1=[B.getD a 0#8]:=by
 rw[List.drop_eq_getElem_cons h,U0,U1,List.getD_eq_getElem?_getD,List.getElem?_eq_getElem h];rfl
theorem PlA.step {B:List B8} {a:Nat} {y:B8} (h:PlA B a y) (bg:Nat) (en:Option Nat):fHj B ⟨bg,a,en,1,[]⟩=.go ⟨bg,a+2,en,3,[[y]]⟩∧fHj B ⟨bg,a+2,en,3,[[y]]⟩=.done [[y]] (en.getD (a+3)):=by
 have hl:=h.hl
 constructor
 ·unfold fHj
  simp only
  rw[J3 (by omega),h.h0,J3 (by decide),J3 (by decide),J3 (by rw[show(1#8:B8).toNat=1 from rfl];omega),J3 (by decide)]
  rw[show(1#8:B8).toNat=1 from rfl,fXs (by omega),h.h1]
  rfl
 unfold fHj
 simp only
 rw[J3 (by omega),h.h2,J4 (by decide)]
theorem fXk {B:List B8} {a:Nat} {y:B8} (h:PlA B a y):fJj B a=some ([[y]],a+3):=by
 have hl:=h.hl
 obtain⟨s1,s2⟩:=h.step a none
 unfold fJj
 obtain⟨f,hf⟩: ∃f,nMu B (ns0 a)=f+1:=⟨nMu B (ns0 a)-1,by have:1≤nMu B (ns0 a):=by {show 1≤a*(B.length+1)+(B.length-a);omega};omega⟩
 rw[hf,show ns0 a=⟨a,a,none,1,[]⟩from rfl,fIo s1,fJi s2];rfl
theorem fYf {B:List B8} {a p:Nat} {y:B8} (h:PlA B a y) (hap:a<p) (ha:a<16384) (hp:p+2≤B.length) (p0:(B.getD p 0#8).toNat=192+a/256) (p1:(B.getD (p+1) 0#8).toNat=a%256):fJj B p=some ([[y]],p+2):=by
 have s0:fHj B (ns0 p)=.go ⟨a,a,some (p+2),1,[]⟩:=by
  show fHj B ⟨p,p,none,1,[]⟩=_
  unfold fHj
  simp only
  have e:(192+a/256-192)*256+a%256=a:=by omega
  rw[J3 (by omega),p0,J3 (by omega),J4 (by omega),J3 (by omega),p1,e,J3 (by omega)];rfl
 obtain⟨s1,s2⟩:=h.step a (some (p+2))
 unfold fJj
 have hm1:=fIu s0
 have hm2:=fIu s1
 obtain⟨f,hf⟩: ∃f,nMu B (ns0 p)=f+2:=⟨nMu B (ns0 p)-2,by omega⟩
 rw[hf,fIo s0,fIo s1,fJi s2];rfl
theorem fYh {v:Nat} (h:v<65536):(fRs (beL (BitVec.ofInt 32 (v:Int)) 2 2)).toNat=v∧∃x y:B8,beL (BitVec.ofInt 32 (v:Int)) 2 2=[x,y]∧x.toNat=v/256∧y.toNat=v%256:=by
 have hv:(BitVec.ofInt 32 (v:Int)).toNat=v:=by rw[BitVec.toNat_ofInt];omega
 obtain⟨x,hx⟩: ∃x:B8,((BitVec.ofInt 32 (v:Int))>>>(8*(2-1-0))).setWidth 8=x:=⟨_,rfl⟩
 obtain⟨y,hy⟩: ∃y:B8,((BitVec.ofInt 32 (v:Int))>>>(8*(2-1-1))).setWidth 8=y:=⟨_,rfl⟩
 have hx2:x.toNat=v/256:=by
  rw[←hx,BitVec.toNat_setWidth,BitVec.toNat_ushiftRight,hv,Nat.shiftRight_eq_div_pow];omega
 have hy2:y.toNat=v%256:=by
  rw[←hy,BitVec.toNat_setWidth,BitVec.toNat_ushiftRight,hv,Nat.shiftRight_eq_div_pow,show 2^(8*(2-1-1))=1 from rfl,Nat.div_one]
 have hb:beL (BitVec.ofInt 32 (v:Int)) 2 2=[x,y]:=by rw[←hx,←hy];rfl
 refine⟨?_,x,y,hb,hx2,hy2⟩
 have h1:=x.isLt
 have h2:=y.isLt
 rw[hb]
 show(((((0#32 <<<8)|||x.setWidth 32) <<<8)|||y.setWidth 32).toNat)=_
 have e0:((0#32 <<<8)|||x.setWidth 32)=x.setWidth 32:=by rw[show(0#32 <<<8)=0#32 from rfl,BitVec.zero_or]
 rw[e0,BitVec.toNat_or]
 have e1:((x.setWidth 32:W32) <<<8).toNat=x.toNat <<<8:=by
  rw[BitVec.toNat_shiftLeft,BitVec.toNat_setWidth,Nat.shiftLeft_eq,Nat.shiftLeft_eq];omega
 have e2:(y.setWidth 32:W32).toNat=y.toNat:=by rw[BitVec.toNat_setWidth];omega
 rw[e1,e2,←Nat.shiftLeft_add_eq_or_of_lt h2,Nat.shiftLeft_eq,hx2,hy2];omega
theorem ptr2 {a:Nat} (h:a<16384): ∃x y:B8,beL (49152#32|||BitVec.ofInt 32 (a:Int)) 2 2=[x,y]∧x.toNat=192+a/256∧y.toNat=a%256:=by
 have e:49152#32|||BitVec.ofInt 32 (a:Int)=BitVec.ofInt 32 ((49152+a:Nat):Int):=by
  apply BitVec.eq_of_toNat_eq
  have h1:(BitVec.ofInt 32 (a:Int)).toNat=a:=by rw[BitVec.toNat_ofInt];omega
  have h2:(BitVec.ofInt 32 ((49152+a:Nat):Int)).toNat=49152+a:=by rw[BitVec.toNat_ofInt];omega
  rw[BitVec.toNat_or,h1,h2,show(49152#32:W32).toNat=3 <<<14 from rfl,←Nat.shiftLeft_add_eq_or_of_lt h 3]
  rfl
 obtain⟨_,x,y,e1,e2,e3⟩:=fYh (v:=49152+a) (by omega)
 exact⟨x,y,by rw[e];exact e1,by omega,by omega⟩
def rcT (d:List B8):List B8:=[0,99,0,1,0,0,0,0]++beL (BitVec.ofInt 32 (d.length:Int)) 2 2++d
theorem fWv (d:List B8):(rcT d).length=10+d.length:=by simp[rcT,cZ];omega
theorem fYw {B:List B8} {p e:Nat} {y:B8} {d t:List B8} (hn:fJj B p=some ([[y]],e)) (he:e≤B.length) (hd:B.drop e=rcT d++t) (hdl:d.length≤8192):reR B p=some (⟨[[y]],99#16,1#16,0#32,d⟩,e+10+d.length):=by
 obtain⟨g,x1,x2,hb,_,_⟩:=fYh (v:=d.length) (by omega)
 have hlen:B.length=e+(10+d.length+t.length):=by
  have:=congrArg List.length hd
  rw[List.length_drop,List.length_append,fWv]at this
  omega
 have hdr:B.drop e=[0,99,0,1,0,0,0,0,x1,x2]++(d++t):=by rw[hd,rcT,hb];simp
 have k0:n16 B e=99#16:=by unfold n16;rw[hdr];rfl
 have k2:n16 B (e+2)=1#16:=by unfold n16;rw[←List.drop_drop,hdr];rfl
 have k4:n32 B (e+2+2)=0#32:=by unfold n32;rw[←List.drop_drop,←List.drop_drop,hdr];rfl
 have k8:c16 B (e+2+2+4)=d.length:=by
  unfold c16
  rw[←List.drop_drop,←List.drop_drop,←List.drop_drop,hdr]
  show(fRs [x1,x2]).toNat=_
  rw[←hb,g]
 have k10:(B.drop (e+2+2+4+2)).take d.length=d:=by
  rw[←List.drop_drop,←List.drop_drop,←List.drop_drop,←List.drop_drop,hdr]
  show(d++t).take d.length=d
  exact List.take_left' rfl
 have ho:fTh B e:=⟨by omega,by rw[k8];omega,by rw[k0,k8];exact .inr (.inr ⟨rfl,hdl⟩)⟩
 unfold reR
 rw[hn]
 simp only
 rw[J4 ho,k0,k2,k4,k8,k10]
def IsL (c:RC):Prop:= ∃y d,c=⟨[[y]],99#16,1#16,0#32,d⟩∧d.length≤256
def WI (B:List B8) (n:Nat) (F:WF):Prop:= ∀(y:B8) (a:Nat),iK [1#8,y,0#8] F=some a→a+3≤n∧PlA B a y
theorem fWp (y:B8) (d b:List B8) (F:WF):(wrS ⟨[[y]],99#16,1#16,0#32,d⟩ b F)=((wnS [[y]] b F).1++rcT d,(wnS [[y]] b F).2.1):=by
 unfold wrS rcT
 simp only[List.append_assoc]
 rfl
theorem fWq {y:B8} {b:List B8} {F:WF} {a:Nat} (h:iK [1#8,y,0#8] F=some a):wnS [[y]] b F=(b++beL (49152#32|||BitVec.ofInt 32 (a:Int)) 2 2,F,1):=by
 rw[wnS]
 rw[show fHk [[y]]=[1#8,y,0#8]from rfl,h]
 rfl
theorem fWr {y:B8} {b:List B8} {F:WF} (h:iK [1#8,y,0#8] F=none) (hb:b.length<16384):wnS [[y]] b F=(b++[1#8,y,0#8],kT [1#8,y,0#8] b.length F,0):=by
 rw[wnS]
 rw[show fHk [[y]]=[1#8,y,0#8]from rfl,h]
 simp only[J4 hb]
 rw[wnS]
 show((b++[1#8,y])++[0#8],_,0)=_
 rw[List.append_assoc];rfl
theorem fVz: ∀(l:List RC) (b:List B8) (F:WF),(∀c∈l,IsL c)→∃t,(fJa l b F).1=b++t
 |[],b,F,_=>⟨[],by simp[fJa]⟩
 |c::r,b,F,h=>by
  obtain⟨t,ht⟩:=fVz r (wrS c b F).1 (wrS c b F).2 fun c hc=>h c (List.mem_cons_of_mem _ hc)
  obtain⟨y,d,rfl,_⟩:=h c (List.mem_cons_self ..)
  have hw: ∃s,(wrS ⟨[[y]],99#16,1#16,0#32,d⟩ b F).1=b++s:=by
   rw[fWp]
   rcases hk:iK [1#8,y,0#8] F with _|a
   ·by_cases hb:b.length<16384
    ·rw[fWr hk hb];exact⟨_,List.append_assoc _ _ _⟩
    refine⟨[1#8,y]++[0#8]++rcT d,?_⟩
    rw[wnS,show fHk [[y]]=[1#8,y,0#8]from rfl,hk]
    simp only[J3 hb]
    rw[wnS]
    show((b++[1#8,y])++[0#8])++rcT d=_
    simp
   rw[fWq hk];exact⟨_,List.append_assoc _ _ _⟩
  obtain⟨s,hs⟩:=hw
  rw[fJa,ht,hs]
  exact⟨s++t,by rw[List.append_assoc]⟩
theorem fVx {b s:List B8} {k:Nat}:(b++s).getD (b.length+k) 0#8=s.getD k 0#8:=by
 rw[List.getD_eq_getElem?_getD,List.getD_eq_getElem?_getD,List.getElem?_append_right (by omega),Nat.add_sub_cancel_left]
theorem rt {B:List B8}: ∀(l:List RC) (b:List B8) (F:WF) (acc:List RC),(∀c∈l,IsL c)→WI B b.length F→(∃t,B=(fJa l b F).1++t)→(fJa l b F).1.length≤16000→fRr B l.length b.length acc=some (acc++l,(fJa l b F).1.length)
 |[],b,F,acc,_,_,_,_=>by simp[fRr,fJa]
 |c::r,b,F,acc,hl,hI,⟨t,hB⟩,hlen=>by
  have hr: ∀c∈r,IsL c:=fun c hc=>hl c (List.mem_cons_of_mem _ hc)
  obtain⟨y,d,rfl,hd⟩:=hl _ (List.mem_cons_self ..)
  rw[fJa]at hB hlen⊢
  obtain⟨s,hs⟩:=fVz r (wrS ⟨[[y]],99#16,1#16,0#32,d⟩ b F).1 (wrS ⟨[[y]],99#16,1#16,0#32,d⟩ b F).2 hr
  have hle:(wrS ⟨[[y]],99#16,1#16,0#32,d⟩ b F).1.length≤16000:=by
   have:=congrArg List.length hs
   rw[List.length_append]at this
   omega
  have hB2:B=(wrS ⟨[[y]],99#16,1#16,0#32,d⟩ b F).1++(s++t):=by rw[hB,hs,List.append_assoc]
  have key: ∃e,fJj B b.length=some ([[y]],e)∧B=(wnS [[y]] b F).1++(rcT d++(s++t))∧(wnS [[y]] b F).1.length=e∧WI B e (wnS [[y]] b F).2.1:=by
   rw[fWp]at hB2 hle
   simp only[List.append_assoc]at hB2
   simp only[List.length_append]at hle
   rcases hk:iK [1#8,y,0#8] F with _|a
   ·have hb:b.length<16384:=by
     by_cases hb:b.length<16384
     ·exact hb
     exfalso
     obtain⟨q,hq⟩:=fVz [⟨[[y]],99#16,1#16,0#32,d⟩] b F (fun c hc=>by rw[List.mem_singleton]at hc;exact⟨y,d,hc,hd⟩)
     have:=congrArg List.length hq
     rw[fJa,fJa,fWp,List.length_append,List.length_append]at this
     omega
    rw[fWr hk hb]at hB2 hle⊢
    have hP:PlA B b.length y:=by
     have e:B=b++([1#8,y,0#8]++(rcT d++(s++t))):=by rw[hB2];simp
     refine⟨?_,?_,?_,?_⟩
     ·have:=fVx (b:=b) (s:=[1#8,y,0#8]++(rcT d++(s++t))) (k:=0)
      rw[Nat.add_zero]at this
      rw[e,this];rfl
     ·rw[e,fVx];rfl
     ·rw[e,fVx];rfl
     rw[e];simp only[List.length_append,List.length_cons,List.length_nil];omega
    refine⟨b.length+3,fXk hP,hB2,by simp,fun z a hz=>?_⟩
    rw[fWg]at hz
    split at hz
    ·rename_i hzy
     have hzy2:z=y:=by simpa using hzy
     obtain rfl:=J0 hz
     rw[hzy2]
     exact⟨U3 _,hP⟩
    obtain⟨h1,h2⟩:=hI z a hz
    exact⟨by omega,h2⟩
   obtain⟨h1,hP⟩:=hI y a hk
   rw[fWq hk]at hB2 hle⊢
   simp only[List.length_append,cZ]at hle
   obtain⟨x1,x2,e1,e2,e3⟩:=ptr2 (a:=a) (by omega)
   have e:B=b++([x1,x2]++(rcT d++(s++t))):=by rw[hB2];simp only[e1,List.append_assoc]
   have g0:B.getD b.length 0#8=x1:=by
    have:=fVx (b:=b) (s:=[x1,x2]++(rcT d++(s++t))) (k:=0)
    rw[Nat.add_zero]at this
    rw[e,this];rfl
   have g1:B.getD (b.length+1) 0#8=x2:=by rw[e,fVx];rfl
   have hBl:b.length+2≤B.length:=by rw[e];simp only[List.length_append,List.length_cons,List.length_nil];omega
   refine⟨b.length+2,fYf hP (by omega) (by omega) hBl (by rw[g0,e2]) (by rw[g1,e3]),hB2,by simp only[List.length_append,cZ],fun z a2 hz=>?_⟩
   obtain⟨q1,q2⟩:=hI z a2 hz
   exact⟨by omega,q2⟩
  obtain⟨e,hn,hBe,hel,hI2⟩:=key
  have hdr:B.drop e=rcT d++(s++t):=by rw[hBe];exact List.drop_left' hel
  have he:e≤B.length:=by rw[hBe,List.length_append];omega
  have hre:=fYw hn he hdr (by omega)
  have hT:=fWp y d b F
  have hlen2:(wrS ⟨[[y]],99#16,1#16,0#32,d⟩ b F).1.length=e+10+d.length:=by rw[hT,List.length_append,fWv];omega
  have ih:=rt r (wrS ⟨[[y]],99#16,1#16,0#32,d⟩ b F).1 (wrS ⟨[[y]],99#16,1#16,0#32,d⟩ b F).2 (acc++[⟨[[y]],99#16,1#16,0#32,d⟩]) hr (by
   rw[hlen2,hT]
   intro z a hz
   obtain⟨q1,q2⟩:=hI2 z a hz
   exact⟨by omega,q2⟩) ⟨t,hB⟩ hlen
  rw[List.length_cons,fRr,hre]
  simp only
  rw[J4 (.inr (by show(0#32:W32).toNat<_;decide))]
  rw[hlen2]at ih
  rw[ih,List.append_assoc];rfl
end Go.AX

namespace Go.AX
open Go Go.Proofs
set_option maxRecDepth 20000
theorem fWt (tc:Bool) (l:List RC):mbS (shM tc l)=(fJa l (hdB (shM tc l)) []).1:=rfl
theorem hd_f (l:List RC):hdB (shM false l)=[0,0,128,0,0,0]++beL (BitVec.ofInt 32 (l.length:Int)) 2 2++[0,0,0,0]:=by kernel_rfl
theorem hd_t (l:List RC):hdB (shM true l)=[0,0,130,0,0,0]++beL (BitVec.ofInt 32 (l.length:Int)) 2 2++[0,0,0,0]:=by kernel_rfl
theorem fYb (tc:Bool) {l:List RC} (hl:l.length<65536): ∃f x y:B8,hdB (shM tc l)=[0,0,f,0,0,0,x,y,0,0,0,0]∧(!decide ((0#32 <<<8|||f.setWidth 32)&&&2#32=0#32))=tc∧(fRs [x,y]).toNat=l.length:=by
 obtain⟨g,x,y,hb,_,_⟩:=fYh (v:=l.length) hl
 rcases tc with _|_
 ·refine⟨128#8,x,y,?_,by decide,by rw[←hb,g]⟩
  rw[hd_f,hb];rfl
 refine⟨130#8,x,y,?_,by decide,by rw[←hb,g]⟩
 rw[hd_t,hb];rfl
theorem fWj: ∀(l:List RC) (b:List B8) (F:WF),(fJa l b F).1.length≤b.length+fIl l
 |[],b,F=>U3 _
 |c::r,b,F=>by
  have h1:=fWj r (wrS c b F).1 (wrS c b F).2
  have h2:=fKj c b F
  have h5:fIl (c::r)=szR c+fIl r:=by rw[fIl,List.map_cons,List.sum_cons];rfl
  rw[fJa,h5];omega
theorem fXm: ∀(l:List RC) (k:Nat),(∀c∈l,IsL c)→ixN l k= -1
 |[],_,_=>rfl
 |c::r,k,h=>by
  obtain⟨y,d,rfl,_⟩:=h c (List.mem_cons_self ..)
  rw[ixN,J3 (by show¬(99#16:BitVec 16)=41#16;decide)]
  exact fXm r (k+1) fun c hc=>h c (List.mem_cons_of_mem _ hc)
theorem fYt (tc:Bool) {l:List RC} (h: ∀c∈l,IsL c) (hok:OkS l) (hl:l.length≤30):pmR (mbS (shM tc l))=some ⟨[],l,[],[],none⟩∧(!decide (b1 (mbS (shM tc l)) 2&&&2#32=0#32))=tc∧(mbS (shM tc l)).length≤16000:=by
 obtain⟨f,x,y,hh,htc,hxy⟩:=fYb tc (l:=l) (by omega)
 obtain⟨t,ht⟩:=fVz l (hdB (shM tc l)) [] h
 have h1:=fWj l (hdB (shM tc l)) []
 have h2:=fWh hok.nm
 have h12:(hdB (shM tc l)).length=12:=by rw[hh];rfl
 have hlen:(mbS (shM tc l)).length≤16000:=by rw[fWt];omega
 have hB:mbS (shM tc l)=hdB (shM tc l)++t:=by rw[fWt,ht]
 have hrt:=rt (B:=mbS (shM tc l)) l (hdB (shM tc l)) [] [] h (fun y a hk=>by cases hk) ⟨[],by rw[List.append_nil];rfl⟩ (by rw[←fWt];exact hlen)
 rw[h12,←fWt,List.nil_append]at hrt
 obtain⟨B,hBB⟩: ∃B,mbS (shM tc l)=B:=⟨_,rfl⟩
 rw[hBB]at hB hrt hlen⊢
 rw[hh]at hB
 have hBl:12≤B.length:=by rw[hB];simp only[List.length_append,List.length_cons];omega
 have c4:c16 B 4=0:=by rw[hB];rfl
 have c6:c16 B 6=l.length:=by rw[hB];exact hxy
 have c8:c16 B 8=0:=by rw[hB];rfl
 have c10:c16 B 10=0:=by rw[hB];rfl
 refine⟨?_,?_,hlen⟩
 ·unfold pmR
  rw[J4 hBl,c4,fJv]
  simp only
  rw[c6,hrt]
  simp only
  rw[c8,fRr]
  simp only
  rw[c10,fRr]
  simp only
  rw[J4 ⟨trivial,fXm l 0 h,rfl⟩]
  rfl
 rw[hB];exact htc
def chL (i:Nat):B8:=BitVec.ofNat 8 (97+i)
def rcs (k i j:Nat):RC:=⟨[[chL i]],99#16,1#16,0#32,List.replicate k 0#8++[BitVec.ofInt 8 (j:Int)]⟩
def prt (k i m:Nat):List RC:=(List.range m).map (rcs k i)
def sets (k:Nat):Nat→List RC
 |0=>[]
 |i+1=>sets k i++prt k i (1+i%3)
theorem fVt (k i m:Nat):(prt k i m).length=m:=by simp[prt]
theorem fXx (k i m:Nat):prt k i (m+1)=prt k i m++[rcs k i m]:=by simp[prt,List.range_succ]
theorem fWw {k i m:Nat} {c:RC} (h:c∈prt k i m): ∃j,c=rcs k i j:=by
 obtain⟨j,_,e⟩:=List.mem_map.1 h
 exact⟨j,e.symm⟩
theorem fVu {k:Nat}: ∀ {n:Nat} {c:RC},c∈sets k n→∃i j,i<n∧c=rcs k i j
 |0,c,h=>by cases h
 |n+1,c,h=>by
  rw[sets]at h
  rcases List.mem_append.1 h with h|h
  ·obtain⟨i,j,hi,e⟩:=fVu h
   exact⟨i,j,by omega,e⟩
  obtain⟨j,e⟩:=fWw h
  exact⟨n,j,by omega,e⟩
theorem fVv (k:Nat): ∀n,(sets k n).length≤3*n
 |0=>U3 _
 |n+1=>by
  have:=fVv k n
  rw[sets,List.length_append,fVt];omega
theorem fWi (k n:Nat):(sets k n).length<(sets k (n+1)).length:=by rw[sets,List.length_append,fVt];omega
theorem fWd (k:Nat) {p n:Nat} (h:p≤n): ∃t,sets k n=sets k p++t:=by
 induction n with
 |zero=>
   obtain rfl:p=0:=by omega
   exact⟨[],by simp⟩
 |succ n ih=>
  by_cases e:p=n+1
  ·subst e;exact⟨[],by simp⟩
  obtain⟨t,ht⟩:=ih (by omega)
  exact⟨t++prt k n (1+n%3),by rw[sets,ht,List.append_assoc]⟩
theorem fXb {i j:Nat} (hi:i<8) (hj:j<8) (h:chL i=chL j):i=j:=by
 have:=congrArg BitVec.toNat h
 simp only[chL,BitVec.toNat_ofNat]at this
 omega
theorem fXv {i:Nat} (hi:i<8):fWb [chL i]:=by
 intro x hx
 rw[List.mem_singleton]at hx
 subst hx
 simp only[chL,BitVec.toNat_ofNat]
 omega
theorem fWo {k i j:Nat} (hi:i<8) (hk:k≤255):IsL (rcs k i j)∧fZe [chL i] (rcs k i j)∧okN (rcs k i j).nm∧(rcs k i j).d.length≤256:=by
 have hd:(rcs k i j).d.length≤256:=by simp only[rcs,List.length_append,List.length_replicate,List.length_cons,List.length_nil];omega
 refine⟨⟨chL i,_,rfl,hd⟩,⟨rfl,rfl,rfl,fXv hi,by show 1≤1000;omega⟩,?_,hd⟩
 rcases(by omega:i=0∨i=1∨i=2∨i=3∨i=4∨i=5∨i=6∨i=7)with rfl|rfl|rfl|rfl|rfl|rfl|rfl|rfl<;>(show okN [[_]];decide)
theorem fWu {k n:Nat} (hn:n≤8) (hk:k≤255):OkS (sets k n)∧∀c∈sets k n,IsL c:=by
 have h1:=fVv k n
 refine⟨⟨by omega,fun c hc=>?_,fun c hc=>?_⟩,fun c hc=>?_⟩
 ·obtain⟨i,j,hi,rfl⟩:=fVu hc
  exact⟨_,(fWo (by omega) hk).2.1⟩
 ·obtain⟨i,j,hi,rfl⟩:=fVu hc
  exact(fWo (by omega) hk).2.2
 obtain⟨i,j,hi,rfl⟩:=fVu hc
 exact(fWo (by omega) hk).1
theorem fWk {A P:List RC} {o:Nm} (hA: ∀c∈A,c.nm≠o) (hP: ∀c∈P,c.nm=o): ∀j,j≤P.length→fWe (A++P) o (A.length+j)=A.length
 |0,_=>by
  rw[Nat.add_zero]
  rcases hl:A.length with _|a
  ·rfl
  have ha:a<A.length:=by omega
  rw[fWe,List.getElem?_append_left ha,List.getElem?_eq_getElem ha]
  simp only
  rw[J3 (hA _ (List.getElem_mem ha))]
 |j+1,h=>by
  have hj:j<P.length:=by omega
  rw[←Nat.add_assoc,fWe,List.getElem?_append_right (by omega),Nat.add_sub_cancel_left,List.getElem?_eq_getElem hj]
  simp only
  rw[J4 (hP _ (List.getElem_mem hj)),fWk hA hP j (by omega)]
theorem fXf {k n:Nat} (hn:n<8):fWa (sets k (n+1))=(sets k n).length:=by
 have hA: ∀c∈sets k n,c.nm≠[[chL n]]:=fun c hc=>by
  obtain⟨i,j,hi,rfl⟩:=fVu hc
  intro h
  have:chL i=chL n:=by simpa [rcs]using h
  have:=fXb (by omega) hn this
  omega
 have hP: ∀c∈prt k n (1+n%3),c.nm=[[chL n]]:=fun c hc=>by
  obtain⟨j,rfl⟩:=fWw hc;rfl
 have hl:(sets k (n+1)).length-1=(sets k n).length+n%3:=by rw[sets,List.length_append,fVt];omega
 have hlast:(sets k (n+1))[(sets k (n+1)).length-1]? =some (rcs k n (n%3)):=by
  rw[hl,sets,List.getElem?_append_right (by omega),Nat.add_sub_cancel_left,Nat.add_comm 1,fXx,List.getElem?_append_right (by rw[fVt];exact U3 _),fVt,Nat.sub_self];rfl
 unfold fWa
 rw[hlast]
 simp only
 rw[hl,sets]
 exact fWk hA hP (n%3) (by rw[fVt];omega)
theorem fWl {k S:Nat} (hS:512≤S) (hk:k≤255): ∀(n f:Nat) (tc:Bool),n≤8→(sets k n).length<f→∃p,p≤n∧fWf S f tc (sets k n)=(if p=n then tc else true,sets k p)∧(mbS (shM (if p=n then tc else true) (sets k p))).length≤S
 |n,0,tc,_,h=>by omega
 |0,f+1,tc,_,h=>by
  have h12:(mbS (shM tc (sets k 0))).length≤S:=by rw[sets,fXl];omega
  refine⟨0,U3 _,?_,?_⟩
  ·rw[fWf,J4 h12,J4 rfl]
  rw[J4 rfl];exact h12
 |n+1,f+1,tc,hn,h=>by
  rw[fWf]
  by_cases hle:(mbS (shM tc (sets k (n+1)))).length≤S
  ·exact⟨n+1,U3 _,by rw[J4 hle,J4 rfl],by rw[J4 rfl];exact hle⟩
  rw[J3 hle,fXf (by omega)]
  have htk:(sets k (n+1)).take (sets k n).length=sets k n:=by rw[sets];exact List.take_left' rfl
  rw[htk]
  have hlt:=fWi k n
  obtain⟨p,hp,e1,e2⟩:=fWl hS hk n f true (by omega) (by omega)
  have e3:(if p=n then true else true)=true:=by split<;>rfl
  rw[e3]at e1 e2
  refine⟨p,by omega,?_,?_⟩
  ·rw[e1,J3 (by omega)]
  rw[J3 (by omega)];exact e2
end Go.AX

namespace Go.AX
open Go Go.Proofs
set_option maxRecDepth 20000
def eNv:List AV→Option AV
 |[.sl n xs,.sl m ys]=>aK (fHq xs) fun a=>aK (fHq ys) fun b=>aN (a.length=n∧b.length=m) (some (.b (decide (a=b))))
 |_=>none
theorem fAy (n m:Nat) (xs ys:List AV):eNv [.sl n xs,.sl m ys]=aK (fHq xs) fun a=>aK (fHq ys) fun b=>aN (a.length=n∧b.length=m) (some (.b (decide (a=b)))):=(rfl)
attribute [go_sem] fAy
set_option maxHeartbeats 2000000 in
theorem eTe:fHn Tryz.prog GLh 31 eNv:=by
 refine zK Tryz.func31 (aT rfl) ?_
 intro args r hg
 unfold eNv at hg
 split at hg
 ·rename_i n xs m ys
  replace hg:=aJ hg;obtain⟨a,ha,hg⟩:=hg
  replace hg:=aJ hg;obtain⟨b,hb,hg⟩:=hg
  replace hg:=aP hg;obtain⟨⟨hn,hm⟩,hg⟩:=hg
  obtain rfl:=J0 hg
  have:=bW ha;subst this
  have:=bW hb;subst this
  subst hn;subst hm
  refine⟨J1 rfl,fun nx=>?_⟩
  clear hg ha hb
  refine aA rfl (aW [0,1] rfl rfl rfl fun K hK=>?_)
  simp(disch:=omega) only[Tryz.f31,go_sem,↓reduceIte]
  refine hK _ ?_
  refine aB (aA rfl (aW [4] rfl rfl rfl fun K hK=>?_))
  simp(disch:=omega) only[Tryz.f31,go_sem,↓reduceIte,iA]
  refine hK _ ?_
  refine aB (aS rfl ?_)
  simp(disch:=omega) only[fHo,bV,bK,bQ,Tryz.f31,go_sem,↓reduceIte]
 cases hg
theorem fZa:bX Tryz.prog GLh 31 (.pure true eNv):=⟨⟨_,Tryz.func31,rfl,rfl⟩,eTe⟩
def fXh:List AV→Option AV
 |[.agg [.sl n1 xa,.w16 t1,.w16 c1,.w32 u1,.sl m1 ya],.agg [.sl n2 xb,.w16 t2,.w16 c2,.w32 u2,.sl m2 yb]]=>aK (unS xa) fun p=>aK (unS xb) fun q=>aK (fHq ya) fun d=>aK (fHq yb) fun e=>aN (p.length=n1∧q.length=n2∧d.length=m1∧e.length=m2∧p=q∧t1=t2∧c1=c2∧u1=u2∧d=e∧n1≤100000) (some (.b true))
 |_=>none
theorem fXr (n1 n2 m1 m2:Nat) (t1 t2 c1 c2:BitVec 16) (u1 u2:W32) (xa xb ya yb:List AV):fXh [.agg [.sl n1 xa,.w16 t1,.w16 c1,.w32 u1,.sl m1 ya],.agg [.sl n2 xb,.w16 t2,.w16 c2,.w32 u2,.sl m2 yb]]=aK (unS xa) fun p=>aK (unS xb) fun q=>aK (fHq ya) fun d=>aK (fHq yb) fun e=>aN (p.length=n1∧q.length=n2∧d.length=m1∧e.length=m2∧p=q∧t1=t2∧c1=c2∧u1=u2∧d=e∧n1≤100000) (some (.b true)):=(rfl)
attribute [go_sem] fXr
set_option maxHeartbeats 4000000 in
theorem fYd:fHn Tryz.prog GLh 14 fXh:=by
 refine zK Tryz.func14 (aT rfl) ?_
 intro args r hg
 unfold fXh at hg
 split at hg
 ·rename_i n1 xa t1 c1 u1 m1 ya n2 xb t2 c2 u2 m2 yb
  replace hg:=aJ hg;obtain⟨p,h1,hg⟩:=hg
  replace hg:=aJ hg;obtain⟨q,h2,hg⟩:=hg
  replace hg:=aJ hg;obtain⟨d,h3,hg⟩:=hg
  replace hg:=aJ hg;obtain⟨e,h4,hg⟩:=hg
  replace hg:=aP hg;obtain⟨⟨rfl,rfl,rfl,rfl,rfl,rfl,rfl,rfl,rfl,hn⟩,hg⟩:=hg
  obtain rfl:=J0 hg
  have:=gT h1;subst this
  have:=gT h2;subst this
  have:=bW h3;subst this
  have:=bW h4;subst this
  refine⟨J1 rfl,fun nx=>?_⟩
  clear h1 h2 h3 h4 hg
  refine aA rfl (aW [2,3] rfl rfl rfl fun K hK=>?_)
  simp(disch:=omega) only[Tryz.f14,go_sem,↓reduceIte]
  refine hK _ ?_
  refine aB (aA rfl (aC (Γ:=bC [(15,.pure true eNi),(31,.pure true eNv)]) [4] (aH fRj (aH fZa aO)) rfl rfl rfl (fun K hK=>?_)))
  simp(maxSteps:=400000) (disch:=omega) only[Tryz.f14,go_sem,↓reduceIte,decide_true,eq_self,beq_self_eq_true,iA,aQr]
  refine hK _ ?_
  refine aB (aS rfl ?_)
  simp(disch:=omega) only[fHo,bV,bK,bQ,Tryz.f14,go_sem,↓reduceIte]
 cases hg
theorem fZc:bX Tryz.prog GLh 14 (.pure true fXh):=⟨⟨_,Tryz.func14,rfl,rfl⟩,fYd⟩
end Go.AX

namespace Go.AX
open Go Go.Proofs
set_option maxRecDepth 20000
def fYo:List AV→Option AV
 |[.w8 _,.w8 _,.i _]=>some (.b true)
 |_=>none
def hdS:List AV:=[.w16 0#16,.b true,.i 0,.b false,.b false,.b false,.b false,.i 0,.v (.slice none 0 0)]
def tlS:List AV:=[.v (.slice none 0 0),.v (.slice none 0 0),.b false,.w16 0#16,.b false]
structure WHI where
 i:Nat
 N:Nat
 c:Nat
theorem fXg: ∀k:Nat,rep k [AV.w8 0#8]=c8 (List.replicate k 0#8)
 |0=>rfl
 |k+1=>by
  show[AV.w8 0#8]++rep k [AV.w8 0#8]=_
  rw[fXg k];rfl
theorem fYq {g:H} {a b c:Nat} {x y z:AO} (h1:g a=some x) (h2:g b=some y) (h3:g c=some z): ∀j o,upd (upd (upd (fun _=>none) a x) b y) c z j=some o→g j=some o:=fTr h1 h2 h3
theorem fWx {k i m j:Nat} (h:j<m):(prt k i m)[j]? =some (rcs k i j):=by
 unfold prt
 rw[List.getElem?_map,List.getElem?_range h];rfl
theorem fXc {k p i:Nat} (h0:0<p) (hpi:p<i) (hi:i≤8): ∃m u v x y,(sets k p).length=m+1∧(sets k i)[m+1]? =some u∧(sets k i)[m]? =some v∧u.nm=[[x]]∧v.nm=[[y]]∧x≠y:=by
 obtain⟨p9,rfl⟩: ∃p9,p=p9+1:=⟨p-1,by omega⟩
 obtain⟨t2,ht2⟩:=fWd k (show p9+1+1≤i by omega)
 have hl:(sets k (p9+1)).length=(sets k p9).length+p9%3+1:=by rw[sets,List.length_append,fVt];omega
 have e1:sets k i=sets k (p9+1)++(prt k (p9+1) (1+(p9+1)%3)++t2):=by rw[ht2,sets,List.append_assoc]
 refine⟨(sets k p9).length+p9%3,rcs k (p9+1) 0,rcs k p9 (p9%3),chL (p9+1),chL p9,hl,?_,?_,rfl,rfl,fun h=>?_⟩
 ·rw[←hl,e1,List.getElem?_append_right (U3 _),Nat.sub_self,List.getElem?_append_left (by rw[fVt];omega),fWx (by omega)]
 ·rw[e1,List.getElem?_append_left (by omega),sets,List.getElem?_append_right (by omega),Nat.add_sub_cancel_left,fWx (by omega)]
 have:=fXb (by omega) (by omega) h;omega
theorem plRg {a b:Int} (h:0<b):0≤plR a b∧plR a b<b:=by
 have h1:(a.tmod b).natAbs<b.natAbs:=by rw[Int.natAbs_tmod];exact Nat.mod_lt _ (by omega)
 unfold plR
 split<;>omega
noncomputable def fYj:List AV→H→Nat→Option (AV×H×Nat):=fLr fXn
theorem fXt (args:List AV) (hp:H) (nx:Nat):fYj args hp nx=aK (gR (bUf hp) args) fun as_=>aK (fXn as_) fun r=>aN (r.ids=0) (some (r,fJn hp,nx)):=(rfl)
attribute [go_sem] fXt
theorem fYe:bX Tryz.prog GLh 13 (.heap fYj):=⟨⟨_,Tryz.func13,rfl,rfl⟩,fKh fYi⟩
set_option maxHeartbeats 16000000 in
theorem fXy:fHn Tryz.prog GLh 5 fYo:=by
 refine zK Tryz.func5 (aT rfl) ?_
 intro args r hg
 unfold fYo at hg
 split at hg
 ·rename_i nn kk size
  obtain rfl:=J0 hg
  refine⟨J1 rfl,fun nx=>?_⟩
  clear hg
  have h80:((8#8:B8)=0#8)=False:=by decide
  obtain⟨J,hJ⟩: ∃x,(nn%8#8).toNat=x:=⟨_,rfl⟩
  have hJ7:J≤7:=by
   have:(nn%8#8).toNat=nn.toNat%8:=by simp[BitVec.toNat_umod]
   omega
  obtain⟨K0,hK0⟩: ∃x,kk.toNat=x:=⟨_,rfl⟩
  have hkl:K0≤255:=by have:=kk.isLt;omega
  refine aA rfl (aW [0,1,2] rfl rfl rfl fun K hK=>?_)
  simp(disch:=omega) only[Tryz.f5,go_sem,↓reduceIte]
  refine hK _ ?_
  refine aB (aA rfl (aA rfl (aC (Γ:=bC [(6,.pure true eNl)]) [16,0,1,2] (aH okw5 aO) rfl rfl rfl (fun K hK=>?_))))
  simp(disch:=omega) only[Tryz.f5,go_sem,↓reduceIte]
  refine hK _ ?_
  refine aB (cV (.tmp 16) rfl rfl rfl (fun h=>?_) (fun h=>?_))
  ·refine aI rfl ?_
   cases h
  refine aI rfl ?_
  clear h
  refine aQ rfl (aB (aA rfl (aW [0,1,2,7] rfl rfl rfl fun K hK=>?_)))
  simp(disch:=omega) only[Tryz.f5,go_sem,↓reduceIte]
  refine hK _ ?_
  refine aB ?_
  obtain⟨X,hX⟩: ∃x,nx+1+2+1=x:=⟨_,rfl⟩
  obtain⟨c0,hc0⟩: ∃x,nx+1+2+3=x:=⟨_,rfl⟩
  have hids:X<c0:=by omega
  rw[hX,hc0]
  clear hX hc0
  refine aDn X 5 hdS tlS true (by rw[bJ,J4 rfl];rfl) (by omega) ?_
  refine aA rfl (aA rfl (aW [0,1,2,7,8] rfl rfl rfl fun K hK=>?_))
  simp(disch:=omega) only[Tryz.f5,go_sem,↓reduceIte]
  refine hK _ ?_
  refine aB (aR 0 rfl rfl ?_)
  refine bR (fun p:WHI=> {fr:=[(0,.w8 nn),(1,.w8 kk),(2,.i size),(7,.op X 0),(8,.i (p.i:Int))],hp:=upd (upd (fun _=>none) p.N (.cells (rcC (sets K0 p.i)) true)) X (.cells (hdS++ .os p.N 0 (sets K0 p.i).length 5 true::tlS) true),nx:=0,cx:=p.c}) (fun p=>p.i≤J∧X<p.N∧p.N<p.c) (fun p=>J-p.i) rfl ⟨⟨0,_,_⟩,⟨Nat.zero_le _,by simp only;omega,by simp only;omega⟩,⟨fun _=> .inr rfl,fun j o hj=>fSr (by simp(disch:=omega) only[aV,bY,↓reduceIte]<;>rfl) (by simp(disch:=omega) only[aV,↓reduceIte]<;>rfl) j o hj,U3 _⟩⟩ ?_
  rintro⟨i,N,c⟩ ⟨hi,hN1,hN2⟩ n0
  simp only at hi hN1 hN2⊢
  refine aA rfl (aA rfl (aW [22,0,1,2,7,8] rfl rfl rfl fun K hK=>?_))
  simp(disch:=omega) only[Tryz.f5,go_sem,↓reduceIte,hJ,h80]
  refine hK _ ?_
  refine aB (bA (.tmp 22) rfl rfl rfl (fun h=>?_) (fun h=>?_))
  ·refine aI rfl ?_
   have hiJ:i<J:=by omega
   have ht3:((i:Int).tmod 3)=((i%3:Nat):Int):=rfl
   have h30:((3:Int)=0)=False:=by decide
   clear h
   refine aQ rfl (aB (aA rfl (aR 1 rfl rfl (aA rfl (aW [0,1,2,7,8,9] rfl rfl rfl fun K hK=>?_)))))
   simp(disch:=omega) only[Tryz.f5,go_sem,↓reduceIte]
   refine hK _ ?_
   refine aB (aR 2 rfl rfl ?_)
   refine bR (fun p:WHI=> {fr:=[(0,.w8 nn),(1,.w8 kk),(2,.i size),(7,.op X 0),(8,.i (i:Int)),(9,.i (p.i:Int))],hp:=upd (upd (fun _=>none) p.N (.cells (rcC (sets K0 i++prt K0 i p.i)) true)) X (.cells (hdS++ .os p.N 0 ((sets K0 i).length+p.i) 5 true::tlS) true),nx:=0,cx:=p.c}) (fun p=>p.i≤1+i%3∧X<p.N∧p.N<p.c) (fun p=>1+i%3-p.i) rfl ⟨⟨0,N,_⟩,⟨Nat.zero_le _,by simp only;omega,by simp only;omega⟩,⟨fun _=> .inr rfl,fun j o hj=>fSr (by simp(disch:=omega) only[aV,bY,↓reduceIte,prt,List.range_zero,List.map_nil,List.append_nil]) (by simp(disch:=omega) only[aV,↓reduceIte]<;>rfl) j o hj,U3 _⟩⟩ ?_
   rintro⟨j,N2,c2⟩ ⟨hj,hN3,hN4⟩ n0
   simp only at hj hN3 hN4⊢
   refine aA rfl (aA rfl (aW [29,0,1,2,7,8,9] rfl rfl rfl fun K hK=>?_))
   simp(disch:=omega) only[Tryz.f5,go_sem,↓reduceIte,h30,ht3]
   refine hK _ ?_
   refine aB (bA (.tmp 29) rfl rfl rfl (fun h=>?_) (fun h=>?_))
   ·refine aI rfl ?_
    have hj1:j<1+i%3:=by omega
    have hd8: ∀y:AV,(List.drop 9 (hdS++y::tlS)).head? =some y:=fun y=>rfl
    have hs8: ∀y z:AV,(hdS++y::tlS).set 9 z=hdS++z::tlS:=fun y z=>rfl
    have hl8: ∀y:AV,(hdS++y::tlS).length=15:=fun y=>rfl
    have hsl:=fVv K0 i
    have hrl:(rcC (sets K0 i++prt K0 i j)).length=5*((sets K0 i).length+j):=by rw[fIh,List.length_append,fVt]
    have hs:ofV (Value.string {data:= #[97,98,99,100,101,102,103,104]})=.s [97#8,98#8,99#8,100#8,101#8,102#8,103#8,104#8]:=rfl
    have hch:List.take (i+1-i) (List.drop i [97#8,98#8,99#8,100#8,101#8,102#8,103#8,104#8])=[chL i]:=by
     rcases(by omega:i=0∨i=1∨i=2∨i=3∨i=4∨i=5∨i=6)with rfl|rfl|rfl|rfl|rfl|rfl|rfl<;>rfl
    have hi1:((i:Int)+1).toNat=i+1:=by omega
    have hrK:=fXg K0
    have htk:List.take (K0+1) (List.replicate K0 0#8++[BitVec.ofInt 8 (j:Int)])=List.replicate K0 0#8++[BitVec.ofInt 8 (j:Int)]:=List.take_of_length_le (by simp)
    clear h
    refine aQ rfl (aB (aA rfl (aR 3 rfl rfl (aYa (Γ:=aL) (fun k=>if k=1 then true else if k=6 then true else if k=9 then true else if k=12 then true else if k=13 then true else if k=15 then true else false) [(1,6),(1,9),(6,9),(1,12),(6,12),(9,12),(1,13),(6,13),(1,15)] (fun _=>2) [0,1,2,7,8,9] bZ (aD _ _) rfl rfl rfl (by kernel_rfl) (fun K hK=>?_)))))
    simp(maxSteps:=400000) (disch:=omega) only[Tryz.f5,go_sem,and_self,and_true,true_and,ne_eq,not_false_eq_true,↓reduceIte,hs,hch,hi1,hK0,hrK,hd8,hs8,hl8,hrl,htk,nT,U2,iM,List.length_replicate,yC,List.nil_append,List.cons_append,U0,U1,J7,J9,List.all_cons,List.all_nil,Option.isSome_some,Bool.and_self]
    refine hK _ ?_
    refine bU (aB ?_)
    have hrs:rcC (sets K0 i++prt K0 i j)++[AV.sl 1 [AV.s [chL i]],AV.w16 99#16,AV.w16 1#16,AV.w32 0#32,AV.sl (K0+1) (c8 (List.replicate K0 0#8++[BitVec.ofInt 8 (j:Int)]))]=rcC (sets K0 i++prt K0 i (j+1)):=by
     rw[fXx,←List.append_assoc,fKk (sets K0 i++prt K0 i j) [rcs K0 i j]]
     congr 1
     simp only[rcC,fLo,rcs,List.length_append,List.length_replicate,List.length_cons,List.length_nil,List.append_nil]
     rfl
    rw[hrs]
    refine aW [0,1,2,7,8,9] rfl rfl rfl fun K hK=>?_
    simp(disch:=omega) only[Tryz.f5,go_sem,↓reduceIte]
    refine hK _ ?_
    refine bT ?_
    refine⟨⟨j+1,c2+5+16,_⟩,⟨by simp only;omega,by simp only;omega,by simp only;omega⟩,by simp only;omega,⟨fun _=> .inr ?_,fun a o ha=>?_,U3 _⟩⟩
    ·simp only[Int.natCast_add,Int.natCast_one]
    simp only at ha
    exact fSr (by simp(disch:=omega) only[aV,bY,↓reduceIte]<;>rfl) (by simp(disch:=omega) only[aV,↓reduceIte]<;>rfl) a o ha
   refine aI rfl ?_
   obtain rfl:j=1+i%3:=by omega
   clear h
   refine bF 2 rfl rfl (aY (aZ (bE (bU (aB (aW [0,1,2,7,8] rfl rfl rfl fun K hK=>?_))))))
   simp(disch:=omega) only[Tryz.f5,go_sem,↓reduceIte]
   refine hK _ ?_
   refine bT ?_
   have hse:(sets K0 (i+1)).length=(sets K0 i).length+(1+i%3):=by rw[sets,List.length_append,fVt]
   refine⟨⟨i+1,N2,_⟩,⟨by simp only;omega,by simp only;omega,by simp only;omega⟩,by simp only;omega,⟨fun _=> .inr ?_,fun a o ha=>?_,U3 _⟩⟩
   ·simp only[Int.natCast_add,Int.natCast_one]
   simp only at ha
   exact fSr (by simp(disch:=omega) only[aV,bY,↓reduceIte]<;>rfl) (by simp(disch:=omega) only[aV,↓reduceIte,hse]<;>rfl) a o ha
  refine aI rfl ?_
  obtain rfl:i=J:=by omega
  clear h
  refine bF 0 rfl rfl (aY (aZ (bE (aB ?_))))
  obtain⟨q1,q2⟩:=plRg (a:=size) (b:=3000) (by decide)
  obtain⟨s0,hs0⟩:=Int.eq_ofNat_of_zero_le q1
  refine aA rfl (aC (Γ:=bC [(12,.pure true aIy)]) [2,7] (aH okv8 aO) rfl rfl rfl (fun K hK=>?_))
  simp(disch:=omega) only[Tryz.f5,go_sem,↓reduceIte,hs0]
  refine hK _ ?_
  refine aB ?_
  obtain⟨hok,hisl⟩:=fWu (k:=K0) (n:=i) (by omega) hkl
  obtain⟨S,hS⟩: ∃S,(if((s0:Nat):Int)<512 then 512 else((s0:Nat):Int).toNat)=S:=⟨_,rfl⟩
  have hS2:(if((s0:Nat):Int)<512 then(512:Int)else((s0:Nat):Int))=(S:Int):=by
   rw[←hS];split
   ·rfl
   omega
  have hS5:512≤S:=by rw[←hS];split<;>omega
  obtain⟨p,hpi,hf1,hf2⟩:=fWl (S:=S) hS5 hkl i ((sets K0 i).length+1) false (by omega) (Nat.lt_succ_self _)
  obtain⟨tc,htc⟩: ∃t,(if p=i then false else true)=t:=⟨_,rfl⟩
  rw[htc]at hf1 hf2
  obtain⟨hokp,hislp⟩:=fWu (k:=K0) (n:=p) (by omega) hkl
  have hlp:=fVv K0 p
  have hli:=fVv K0 i
  obtain⟨hpm,htcf,hBl⟩:=fYt tc hislp hokp (by omega)
  have hfit:=fYk hok false ((s0:Nat):Int)
  rw[fXe]at hfit
  unfold fXu at hfit
  rw[hS,hf1]at hfit
  simp only at hfit
  obtain⟨B,hB⟩: ∃B,mbS (shM tc (sets K0 p))=B:=⟨_,rfl⟩
  rw[hB]at hfit hpm htcf hBl hf2
  have hid: ∀l:List B8,AV.ids (.tup [.sl l.length (c8 l),.i 0])=0:=fun l=>by
   show max (AV.ids (.sl l.length (c8 l))) (max 0 0)=0
   rw[eLf];rfl
  have hrl:(rcC (sets K0 i)).length=5*(sets K0 i).length:=fIh _
  have htk:(rcC (sets K0 i)).take ((sets K0 i).length*5)=rcC (sets K0 i):=List.take_of_length_le (by omega)
  have hno:=fLp (sets K0 i)
  have hmN:isM (some (.cells (rcC (sets K0 i)) true))=false:=by cases sets K0 i<;>rfl
  refine aA rfl (aC (Γ:=bC [(13,.heap fYj)]) [2,7,10,11] (aH fYe aO) rfl rfl rfl (fun K hK=>?_))
  simp(disch:=omega) only[Tryz.f5,go_sem,↓reduceIte,fHy,hfit,hid,fIx,fIy,fCz,hmN,hrl,htk,hno,hdS,tlS,List.cons_append,List.nil_append,U0,U1,J9]
  refine hK _ ?_
  refine aB ?_
  have hms: ∃f1 f2 f3 f4 f6 f7 f8,fRt B ⟨[],sets K0 p,[],[],none⟩=[.w16 f1,.b f2,.i f3,.b f4,.b tc,.b f6,.b f7,.i f8,.sl 0 [],.sl (sets K0 p).length (rcC (sets K0 p)),.sl 0 [],.sl 0 [],.b false,.w16 0#16,.b false]:=by
   refine⟨n16 B 0,!decide (b1 B 2&&&128#32=0#32),((b1 B 2>>>3&&&15#32).toNat:Int),!decide (b1 B 2&&&4#32=0#32),!decide (b1 B 2&&&1#32=0#32),!decide (b1 B 3&&&128#32=0#32),cdO ((b1 B 3&&&15#32).toNat:Int) none,?_⟩
   simp only[fRt,htcf,szO,doO,qsC,rcC,List.length_nil,Option.isSome_none]
  obtain⟨f1,f2,f3,f4,f6,f7,f8,hms⟩:=hms
  refine aA rfl (aC (Γ:=bC [(7,.pure false fSu)]) [2,7,10,11,12,13] (aH okv9 aO) rfl rfl rfl (fun K hK=>?_))
  simp(disch:=omega) only[Tryz.f5,go_sem,↓reduceIte,hpm,hms]
  refine hK _ ?_
  refine aB ?_
  obtain⟨ts,hts⟩:=fWd K0 hpi
  have hlpi:(sets K0 i).length=(sets K0 p).length+ts.length:=by rw[hts,List.length_append]
  have hlt:p<i→(sets K0 p).length<(sets K0 i).length:=fun h=>by
   obtain⟨t2,ht2⟩:=fWd K0 (show p+1≤i by omega)
   have:=fWi K0 p
   have e:=congrArg List.length ht2
   rw[List.length_append]at e
   omega
  have hbt:(tc==decide (((sets K0 p).length:Int)<((sets K0 i).length:Int)))=true:=by
   rw[←htc]
   by_cases hpe:p=i
   ·rw[J4 hpe,hpe];simp
   rw[J3 hpe]
   have:=hlt (by omega)
   rw[J5 (by omega)];rfl
  have dz:decide ((0:Int)=0)=true:=rfl
  have dlen:decide ((S:Int)<(B.length:Int))=false:=J6 (by omega)
  have dgt:decide (((sets K0 i).length:Int)<((sets K0 p).length:Int))=false:=J6 (by omega)
  refine aA rfl (aA rfl (aW [94,7,12] rfl rfl rfl fun K hK=>?_))
  simp(maxSteps:=400000) (disch:=omega) only[Tryz.f5,go_sem,↓reduceIte,hS2,dlen,hbt,dgt,Bool.not_true,J8,J7,J9]
  refine hK _ ?_
  refine aB (cV (.tmp 94) rfl rfl rfl (fun h=>?_) (fun h=>?_))
  ·refine aI rfl ?_
   cases h
  refine aI rfl ?_
  clear h
  refine aQ rfl (aB (aA rfl (aA rfl (aW [7,12,14] rfl rfl rfl fun K hK=>?_))))
  simp(disch:=omega) only[Tryz.f5,go_sem,↓reduceIte]
  refine hK _ ?_
  refine aB ?_
  refine yK (fYq (a:=N) (b:=X) (c:=c+5+3+8+5) (x:=.cells (rcC (sets K0 i)) false) (y:=.cells [.w16 0#16,.b true,.i 0,.b false,.b false,.b false,.b false,.i 0,.v (.slice none 0 0),.os N 0 (sets K0 i).length 5 true,.v (.slice none 0 0),.v (.slice none 0 0),.b false,.w16 0#16,.b false] true) (z:=.cells [.w16 f1,.b f2,.i f3,.b f4,.b tc,.b f6,.b f7,.i f8,.sl 0 [],.sl (sets K0 p).length (rcC (sets K0 p)),.sl 0 [],.sl 0 [],.b false,.w16 0#16,.b false] true) (by simp(disch:=omega) only[aV,bY,↓reduceIte]<;>rfl) (by simp(disch:=omega) only[aV,bY,↓reduceIte]<;>rfl) (by simp(disch:=omega) only[aV,↓reduceIte]<;>rfl)) ?_
  obtain⟨T,hT⟩: ∃x,c+5+3+8+5=x:=⟨_,rfl⟩
  obtain⟨c9,hc9⟩: ∃x,c+5+3+8+8+32+1=x:=⟨_,rfl⟩
  have hTX:X<T∧N<T∧T<c9:=by omega
  rw[hT,hc9]
  have hclp:=fIh (sets K0 p)
  refine aR 4 rfl rfl ?_
  refine bR (fun p2:KC5=> {fr:=[(7,.op X 0),(12,.op T 0),(14,.i (p2.k:Int))],hp:=upd (upd (upd (fun _=>none) N (.cells (rcC (sets K0 i)) false)) X (.cells [.w16 0#16,.b true,.i 0,.b false,.b false,.b false,.b false,.i 0,.v (.slice none 0 0),.os N 0 (sets K0 i).length 5 true,.v (.slice none 0 0),.v (.slice none 0 0),.b false,.w16 0#16,.b false] true)) T (.cells [.w16 f1,.b f2,.i f3,.b f4,.b tc,.b f6,.b f7,.i f8,.sl 0 [],.sl (sets K0 p).length (rcC (sets K0 p)),.sl 0 [],.sl 0 [],.b false,.w16 0#16,.b false] true),nx:=0,cx:=p2.c}) (fun p2=>p2.k≤(sets K0 p).length∧T<p2.c) (fun p2=>(sets K0 p).length-p2.k) rfl ⟨⟨0,_⟩,⟨Nat.zero_le _,by simp only;omega⟩,bD rfl rfl (U3 _)⟩ ?_
  rintro⟨k,c2⟩ ⟨hk,hc2⟩ n0
  simp only at hk hc2⊢
  refine aA rfl (aA rfl (aW [99,7,12,14] rfl rfl rfl fun K hK=>?_))
  simp(disch:=omega) only[Tryz.f5,go_sem,↓reduceIte,J8,J7,J9]
  refine hK _ ?_
  refine aB (bA (.tmp 99) rfl rfl rfl (fun h=>?_) (fun h=>?_))
  ·refine aI rfl ?_
   have hkp:k<(sets K0 p).length:=by omega
   have hki:k<(sets K0 i).length:=by omega
   obtain⟨q,hq⟩: ∃q,(sets K0 p)[k]=q:=⟨_,rfl⟩
   have hqi:(sets K0 i)[k]=q:=by
    rw[←hq]
    have:(sets K0 i)[k]? =(sets K0 p)[k]?:=by rw[hts,List.getElem?_append_left hkp]
    rw[List.getElem?_eq_getElem hki,List.getElem?_eq_getElem hkp]at this
    exact J0 this
   have hdp:(rcC (sets K0 p)).drop (5*k)=[.sl q.nm.length (cS q.nm),.w16 q.ty,.w16 q.cl,.w32 q.ttl,.sl q.d.length (c8 q.d)]++rcC ((sets K0 p).drop (k+1)):=by
    rw[fIr,List.drop_eq_getElem_cons hkp,hq];rfl
   have hdp2:(rcC (sets K0 p)).drop (k*5)=[.sl q.nm.length (cS q.nm),.w16 q.ty,.w16 q.cl,.w32 q.ttl,.sl q.d.length (c8 q.d)]++rcC ((sets K0 p).drop (k+1)):=by rw[Nat.mul_comm];exact hdp
   have hdi:(rcC (sets K0 i)).drop (5*k)=[.sl q.nm.length (cS q.nm),.w16 q.ty,.w16 q.cl,.w32 q.ttl,.sl q.d.length (c8 q.d)]++rcC ((sets K0 i).drop (k+1)):=by
    rw[fIr,List.drop_eq_getElem_cons hki,hqi];rfl
   have hdi2:(rcC (sets K0 i)).drop (k*5)=[.sl q.nm.length (cS q.nm),.w16 q.ty,.w16 q.cl,.w32 q.ttl,.sl q.d.length (c8 q.d)]++rcC ((sets K0 i).drop (k+1)):=by rw[Nat.mul_comm];exact hdi
   have hqn:q.nm.length≤100000:=by
    obtain⟨x,e1,_⟩:=hokp.all q (hq▸List.getElem_mem hkp)
    rw[e1];show 1≤100000;omega
   clear h
   refine aQ rfl (aB (aA rfl (aR 5 rfl rfl (aA rfl (bB (Γ:=bC [(14,.pure true fXh)]) (fun k=>if k=10 then 0 else 2) [113,7,12,14] bZ (aH fZc aO) rfl rfl rfl (by kernel_rfl) (fun K hK=>?_))))))
   simp(maxSteps:=400000) (disch:=omega) only[Tryz.f5,go_sem,↓reduceIte,hdp2,hdi2,aQr,iA,eq_self,Bool.not_true,List.cons_append,List.nil_append,J8,U0,U1,J7,J9]
   refine hK _ ?_
   refine aB (cV (.tmp 113) rfl rfl rfl (fun h=>?_) (fun h=>?_))
   ·refine aI rfl ?_
    cases h
   refine aI rfl ?_
   clear h
   refine aQ rfl (bU (aB (aW [7,12,14] rfl rfl rfl fun K hK=>?_)))
   simp(disch:=omega) only[Tryz.f5,go_sem,↓reduceIte]
   refine hK _ ?_
   refine bT ?_
   refine⟨⟨k+1,_⟩,⟨by simp only;omega,by simp only;omega⟩,by simp only;omega,bD ?_ rfl (U3 _)⟩
   simp only[Int.natCast_add,Int.natCast_one]
  refine aI rfl ?_
  clear h
  refine bF 4 rfl rfl (aY (aZ (bE (aB ?_))))
  by_cases hp0:p=0
  ·have d0:decide (((sets K0 p).length:Int)=0)=true:=by rw[hp0];rfl
   refine aA rfl (bB (Γ:=bC [(15,.pure true eNi)]) (fun k=>if k=1 then 0 else if k=31 then 0 else 2) [6] bZ (aH fRj aO) rfl rfl rfl (by kernel_rfl) (fun K hK=>?_))
   simp(maxSteps:=400000) (disch:=omega) only[Tryz.f5,go_sem,↓reduceIte,d0,J8,J7,J9]
   refine hK _ ?_
   refine aB (aS rfl ?_)
   simp(disch:=omega) only[fHo,bV,bK,bQ,Tryz.f5,go_sem,↓reduceIte]
  have hlp0:0<(sets K0 p).length:=by
   obtain⟨p9,rfl⟩: ∃p9,p=p9+1:=⟨p-1,by omega⟩
   have:=fWi K0 p9;omega
  have d0:decide (((sets K0 p).length:Int)=0)=false:=J6 (by omega)
  by_cases hpe:p=i
  ·have de:decide (((sets K0 p).length:Int)=((sets K0 i).length:Int))=true:=by rw[hpe];exact J5 rfl
   refine aA rfl (bB (Γ:=bC [(15,.pure true eNi)]) (fun k=>if k=1 then 0 else if k=31 then 0 else 2) [6] bZ (aH fRj aO) rfl rfl rfl (by kernel_rfl) (fun K hK=>?_))
   simp(maxSteps:=400000) (disch:=omega) only[Tryz.f5,go_sem,↓reduceIte,d0,de,J8,J7,J9]
   refine hK _ ?_
   refine aB (aS rfl ?_)
   simp(disch:=omega) only[fHo,bV,bK,bQ,Tryz.f5,go_sem,↓reduceIte]
  have hlt2:=hlt (by omega)
  have de:decide (((sets K0 p).length:Int)=((sets K0 i).length:Int))=false:=J6 (by omega)
  obtain⟨m,u,v,x,y,hm,hu,hv,hun,hvn,hxy⟩:=fXc (k:=K0) (p:=p) (i:=i) (by omega) (by omega) (by omega)
  have hmi:m+1<(sets K0 i).length:=by omega
  have hu2:(sets K0 i)[m+1]=u:=by rw[List.getElem?_eq_getElem hmi]at hu;exact J0 hu
  have hv2:(sets K0 i)[m]'(by omega)=v:=by rw[List.getElem?_eq_getElem (by omega)]at hv;exact J0 hv
  have hdu:(rcC (sets K0 i)).drop ((m+1)*5)=[.sl u.nm.length (cS u.nm),.w16 u.ty,.w16 u.cl,.w32 u.ttl,.sl u.d.length (c8 u.d)]++rcC ((sets K0 i).drop (m+1+1)):=by
   rw[Nat.mul_comm,fIr,List.drop_eq_getElem_cons hmi,hu2];rfl
  have hdv:(rcC (sets K0 i)).drop (m*5)=[.sl v.nm.length (cS v.nm),.w16 v.ty,.w16 v.cl,.w32 v.ttl,.sl v.d.length (c8 v.d)]++rcC ((sets K0 i).drop (m+1)):=by
   rw[Nat.mul_comm,fIr,List.drop_eq_getElem_cons (by omega),hv2];rfl
  rw[hun]at hdu
  rw[hvn]at hdv
  have hm1:(((m+1:Nat):Int)-1).toNat=m:=by omega
  have dne:decide ([[x]]=[[y]])=false:=J6 (fun h=>hxy (by simpa using h))
  rw[hm]at d0 de⊢
  refine aA rfl (bB (Γ:=bC [(15,.pure true eNi)]) (fun k=>if k=1 then 0 else if k=31 then 0 else 2) [6] bZ (aH fRj aO) rfl rfl rfl (by kernel_rfl) (fun K hK=>?_))
  simp(maxSteps:=400000) (disch:=omega) only[Tryz.f5,go_sem,↓reduceIte,d0,de,hm1,hdu,hdv,aQr,dne,Bool.not_false,U2,List.cons_append,List.nil_append,List.length_cons,List.length_nil,J8,J7,J9]
  refine hK _ ?_
  refine aB (aS rfl ?_)
  simp(disch:=omega) only[fHo,bV,bK,bQ,Tryz.f5,go_sem,↓reduceIte]
 cases hg
end Go.AX
