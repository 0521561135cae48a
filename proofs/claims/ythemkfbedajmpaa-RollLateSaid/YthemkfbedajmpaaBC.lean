/-
  AX, part W: rules with the rest of the code hidden; facts of the seat's types. AX, part X: evaluation, one lemma for each shape. AX, part Y: what comes next; rows of bytes and words. AX, part Z: functions that turn one own row in place, and leave all else as it was. AX, part AyA: small laws of the walks that speak of no program. AX, more, part B: 'clear' of a slice; functions that turn one own row in place and hand back a slice of it. AX, part AyC: calls that panic: what has been done is left, and all own objects are given up. AX, part AyD: a region that draws its order and ends with a call that panics. AX, part AyE: functions that turn one own object in place, answer with what may be read from then on, or panic. AX, part AyF: functions that defer one closure, which recovers. AX, part AyG: a region that draws its order, walked in each order that it may take (where operations meet that need not wait for each other, such as a load of one own object and a store to another). AX, part AyH: a plain function that is handed a closure over an own object. AX, part AyI: a plain function that is handed something and a closure over an own object. AX, part AyJ: an own object that is no more written becomes a plain one. AX, part AyK: a region that draws its order, in which one pair of operations that don't wait for each other meets: two orders are walked.
-/
import Derived.Test.YthemkfbedajmpaaBB
import Derived.Test.YthemkfbedajmpaaProg
import Derived.KernelRfl
import Derived.Scope
import Derived.Defers
import Derived.Recover
namespace Go.AX
open Go Go.Proofs
theorem awp_regK {P : Program} {GL : Nat → Option (List AV)} {nt : Nat} {Q : Exit → S → Prop} {s : S} {code : Code} {Γ : Env} (ks : List Nat) (hΓ : EnvOK P GL Γ) (hc : isReg code = true) (hd : rDraw code = false) (ho : okDst nt (rOps code).toList = true)
    (h : ∀ K : S → Prop, (∀ t, Q .normal t → K t) → someP (runL P Γ GL (fun _ => 0) (rOps code) 0 (rOps code).toList (enterR (rOps code).size s)) fun t => K { t with fr := keepF ks t.fr }) : Awp P GL nt code s Q :=
  awp_reg ks hc hd hΓ ho (h (Q .normal) fun _ h => h)
theorem awp_drwK {P : Program} {GL : Nat → Option (List AV)} {nt : Nat} {Q : Exit → S → Prop} {s : S} {code : Code} {Γ : Env} (md : Nat → Nat) (ks : List Nat) (hm : P.follows .mixedOrders = true) (hΓ : EnvOK P GL Γ) (hc : isReg code = true) (hd : rDraw code = true) (ho : okDst nt (rOps code).toList = true) (hk : okDraw P Γ md (rOps code) = true)
    (h : ∀ K : S → Prop, (∀ t, Q .normal t → K t) → someP (runL P Γ GL md (rOps code) 0 (rOps code).toList (enterR (rOps code).size s)) fun t => K { t with fr := keepF ks t.fr }) : Awp P GL nt code s Q :=
  awp_drw md ks hm hc hd hΓ ho hk (h (Q .normal) fun _ h => h)
theorem mixed : Try.prog.follows .mixedOrders = true := by kernel_rfl
theorem sz0 : szOf Try.prog 0 = some 1 := by kernel_rfl
theorem by0 : byOf Try.prog 0 = some 0 := by kernel_rfl
theorem ag0 : isAggT Try.prog 0 = some false := by kernel_rfl
theorem sz1 : szOf Try.prog 1 = some 1 := by kernel_rfl
theorem by1 : byOf Try.prog 1 = some 8 := by kernel_rfl
theorem ag1 : isAggT Try.prog 1 = some false := by kernel_rfl
theorem sz2 : szOf Try.prog 2 = some 1 := by kernel_rfl
theorem by2 : byOf Try.prog 2 = some 8 := by kernel_rfl
theorem ag2 : isAggT Try.prog 2 = some false := by kernel_rfl
theorem zc2 : zcells Try.prog 2 = some ([.i 0]) := by kernel_rfl
theorem sz3 : szOf Try.prog 3 = some 1 := by kernel_rfl
theorem by3 : byOf Try.prog 3 = some 8 := by kernel_rfl
theorem ag3 : isAggT Try.prog 3 = some false := by kernel_rfl
theorem zc3 : zcells Try.prog 3 = some ([.i 0]) := by kernel_rfl
theorem sz4 : szOf Try.prog 4 = some 1 := by kernel_rfl
theorem by4 : byOf Try.prog 4 = some 1 := by kernel_rfl
theorem ag4 : isAggT Try.prog 4 = some false := by kernel_rfl
theorem zc4 : zcells Try.prog 4 = some ([.b false]) := by kernel_rfl
theorem sz5 : szOf Try.prog 5 = some 1 := by kernel_rfl
theorem by5 : byOf Try.prog 5 = some 1 := by kernel_rfl
theorem ag5 : isAggT Try.prog 5 = some false := by kernel_rfl
theorem zc5 : zcells Try.prog 5 = some ([.w8 0#8]) := by kernel_rfl
theorem sz6 : szOf Try.prog 6 = some 1 := by kernel_rfl
theorem by6 : byOf Try.prog 6 = some 1 := by kernel_rfl
theorem ag6 : isAggT Try.prog 6 = some false := by kernel_rfl
theorem zc6 : zcells Try.prog 6 = some ([.w8 0#8]) := by kernel_rfl
theorem sz7 : szOf Try.prog 7 = some 4 := by kernel_rfl
theorem by7 : byOf Try.prog 7 = some 24 := by kernel_rfl
theorem ag7 : isAggT Try.prog 7 = some true := by kernel_rfl
theorem zc7 : zcells Try.prog 7 = some ([.i 0, .i 0, .b false, .w8 0#8]) := by kernel_rfl
theorem sz8 : szOf Try.prog 8 = some 4 := by kernel_rfl
theorem by8 : byOf Try.prog 8 = some 24 := by kernel_rfl
theorem ag8 : isAggT Try.prog 8 = some true := by kernel_rfl
theorem zc8 : zcells Try.prog 8 = some ([.i 0, .i 0, .b false, .w8 0#8]) := by kernel_rfl
theorem sz9 : szOf Try.prog 9 = some 1 := by kernel_rfl
theorem by9 : byOf Try.prog 9 = some 16 := by kernel_rfl
theorem ag9 : isAggT Try.prog 9 = some false := by kernel_rfl
theorem zc9 : zcells Try.prog 9 = some ([.s []]) := by kernel_rfl
theorem ni9 : noIntT Try.prog 9 = true := by kernel_rfl
theorem sz10 : szOf Try.prog 10 = some 1 := by kernel_rfl
theorem by10 : byOf Try.prog 10 = some 16 := by kernel_rfl
theorem ag10 : isAggT Try.prog 10 = some false := by kernel_rfl
theorem zc10 : zcells Try.prog 10 = some ([.s []]) := by kernel_rfl
theorem ni10 : noIntT Try.prog 10 = true := by kernel_rfl
theorem sz11 : szOf Try.prog 11 = some 1 := by kernel_rfl
theorem by11 : byOf Try.prog 11 = some 16 := by kernel_rfl
theorem ag11 : isAggT Try.prog 11 = some false := by kernel_rfl
theorem zc11 : zcells Try.prog 11 = some ([.s []]) := by kernel_rfl
theorem ni11 : noIntT Try.prog 11 = true := by kernel_rfl
theorem sz12 : szOf Try.prog 12 = some 1 := by kernel_rfl
theorem by12 : byOf Try.prog 12 = some 8 := by kernel_rfl
theorem ag12 : isAggT Try.prog 12 = some false := by kernel_rfl
theorem zc12 : zcells Try.prog 12 = some ([.w64 0#64]) := by kernel_rfl
theorem sz13 : szOf Try.prog 13 = some 2 := by kernel_rfl
theorem by13 : byOf Try.prog 13 = some 24 := by kernel_rfl
theorem ag13 : isAggT Try.prog 13 = some true := by kernel_rfl
theorem zc13 : zcells Try.prog 13 = some ([.s [], .w64 0#64]) := by kernel_rfl
theorem sz14 : szOf Try.prog 14 = some 2 := by kernel_rfl
theorem by14 : byOf Try.prog 14 = some 24 := by kernel_rfl
theorem ag14 : isAggT Try.prog 14 = some true := by kernel_rfl
theorem zc14 : zcells Try.prog 14 = some ([.s [], .w64 0#64]) := by kernel_rfl
theorem sz15 : szOf Try.prog 15 = some 1 := by kernel_rfl
theorem by15 : byOf Try.prog 15 = some 8 := by kernel_rfl
theorem ag15 : isAggT Try.prog 15 = some false := by kernel_rfl
theorem zc15 : zcells Try.prog 15 = some ([.v (Value.pointer none)]) := by kernel_rfl
theorem sz16 : szOf Try.prog 16 = some 1 := by kernel_rfl
theorem by16 : byOf Try.prog 16 = some 8 := by kernel_rfl
theorem ag16 : isAggT Try.prog 16 = some false := by kernel_rfl
theorem zc16 : zcells Try.prog 16 = some ([.v (Value.pointer none)]) := by kernel_rfl
theorem sz17 : szOf Try.prog 17 = some 1 := by kernel_rfl
theorem by17 : byOf Try.prog 17 = some 8 := by kernel_rfl
theorem ag17 : isAggT Try.prog 17 = some false := by kernel_rfl
theorem zc17 : zcells Try.prog 17 = some ([.v (Value.pointer none)]) := by kernel_rfl
theorem sz18 : szOf Try.prog 18 = some 1 := by kernel_rfl
theorem by18 : byOf Try.prog 18 = some 8 := by kernel_rfl
theorem ag18 : isAggT Try.prog 18 = some true := by kernel_rfl
theorem zc18 : zcells Try.prog 18 = some ([.v (Value.pointer none)]) := by kernel_rfl
theorem sz19 : szOf Try.prog 19 = some 1 := by kernel_rfl
theorem by19 : byOf Try.prog 19 = some 8 := by kernel_rfl
theorem ag19 : isAggT Try.prog 19 = some true := by kernel_rfl
theorem zc19 : zcells Try.prog 19 = some ([.v (Value.pointer none)]) := by kernel_rfl
theorem sz20 : szOf Try.prog 20 = some 1 := by kernel_rfl
theorem by20 : byOf Try.prog 20 = some 16 := by kernel_rfl
theorem ag20 : isAggT Try.prog 20 = some false := by kernel_rfl
theorem sz21 : szOf Try.prog 21 = some 1 := by kernel_rfl
theorem by21 : byOf Try.prog 21 = some 4 := by kernel_rfl
theorem ag21 : isAggT Try.prog 21 = some false := by kernel_rfl
theorem sz22 : szOf Try.prog 22 = some 1 := by kernel_rfl
theorem by22 : byOf Try.prog 22 = some 2 := by kernel_rfl
theorem ag22 : isAggT Try.prog 22 = some false := by kernel_rfl
theorem zc22 : zcells Try.prog 22 = some ([.w16 0#16]) := by kernel_rfl
theorem sz23 : szOf Try.prog 23 = some 1 := by kernel_rfl
theorem by23 : byOf Try.prog 23 = some 4 := by kernel_rfl
theorem ag23 : isAggT Try.prog 23 = some false := by kernel_rfl
theorem zc23 : zcells Try.prog 23 = some ([.w32 0#32]) := by kernel_rfl
theorem sz24 : szOf Try.prog 24 = some 1 := by kernel_rfl
theorem by24 : byOf Try.prog 24 = some 8 := by kernel_rfl
theorem ag24 : isAggT Try.prog 24 = some false := by kernel_rfl
theorem sz25 : szOf Try.prog 25 = some 1 := by kernel_rfl
theorem by25 : byOf Try.prog 25 = some 24 := by kernel_rfl
theorem ag25 : isAggT Try.prog 25 = some false := by kernel_rfl
theorem zc25 : zcells Try.prog 25 = some ([.v (Value.slice none 0 0)]) := by kernel_rfl
theorem ni25 : noIntT Try.prog 25 = true := by kernel_rfl
theorem sz26 : szOf Try.prog 26 = some 1 := by kernel_rfl
theorem by26 : byOf Try.prog 26 = some 24 := by kernel_rfl
theorem ag26 : isAggT Try.prog 26 = some false := by kernel_rfl
theorem zc26 : zcells Try.prog 26 = some ([.v (Value.slice none 0 0)]) := by kernel_rfl
theorem ni26 : noIntT Try.prog 26 = true := by kernel_rfl
theorem sz27 : szOf Try.prog 27 = some 1 := by kernel_rfl
theorem by27 : byOf Try.prog 27 = some 24 := by kernel_rfl
theorem ag27 : isAggT Try.prog 27 = some false := by kernel_rfl
theorem zc27 : zcells Try.prog 27 = some ([.v (Value.slice none 0 0)]) := by kernel_rfl
theorem ni27 : noIntT Try.prog 27 = true := by kernel_rfl
theorem sz28 : szOf Try.prog 28 = some 13 := by kernel_rfl
theorem by28 : byOf Try.prog 28 = some 104 := by kernel_rfl
theorem ag28 : isAggT Try.prog 28 = some true := by kernel_rfl
theorem zc28 : zcells Try.prog 28 = some ([.v (Value.slice none 0 0), .w32 0#32, .w32 0#32, .w32 0#32, .w32 0#32, .w32 0#32, .w32 0#32, .w32 0#32, .w32 0#32, .v (Value.slice none 0 0), .w16 0#16, .i 0, .w16 0#16]) := by kernel_rfl
theorem sz29 : szOf Try.prog 29 = some 13 := by kernel_rfl
theorem by29 : byOf Try.prog 29 = some 104 := by kernel_rfl
theorem ag29 : isAggT Try.prog 29 = some true := by kernel_rfl
theorem zc29 : zcells Try.prog 29 = some ([.v (Value.slice none 0 0), .w32 0#32, .w32 0#32, .w32 0#32, .w32 0#32, .w32 0#32, .w32 0#32, .w32 0#32, .w32 0#32, .v (Value.slice none 0 0), .w16 0#16, .i 0, .w16 0#16]) := by kernel_rfl
theorem sz30 : szOf Try.prog 30 = some 1 := by kernel_rfl
theorem by30 : byOf Try.prog 30 = some 8 := by kernel_rfl
theorem ag30 : isAggT Try.prog 30 = some false := by kernel_rfl
theorem sz31 : szOf Try.prog 31 = some 1 := by kernel_rfl
theorem by31 : byOf Try.prog 31 = some 8 := by kernel_rfl
theorem ag31 : isAggT Try.prog 31 = some false := by kernel_rfl
theorem zc31 : zcells Try.prog 31 = some ([.v (Value.pointer none)]) := by kernel_rfl
theorem sz32 : szOf Try.prog 32 = some 1 := by kernel_rfl
theorem by32 : byOf Try.prog 32 = some 8 := by kernel_rfl
theorem ag32 : isAggT Try.prog 32 = some false := by kernel_rfl
theorem zc32 : zcells Try.prog 32 = some ([.v (Value.pointer none)]) := by kernel_rfl
theorem sz33 : szOf Try.prog 33 = some 1 := by kernel_rfl
theorem by33 : byOf Try.prog 33 = some 0 := by kernel_rfl
theorem ag33 : isAggT Try.prog 33 = some false := by kernel_rfl
theorem sz34 : szOf Try.prog 34 = some 1 := by kernel_rfl
theorem by34 : byOf Try.prog 34 = some 8 := by kernel_rfl
theorem ag34 : isAggT Try.prog 34 = some false := by kernel_rfl
theorem sz35 : szOf Try.prog 35 = some 1 := by kernel_rfl
theorem by35 : byOf Try.prog 35 = some 8 := by kernel_rfl
theorem ag35 : isAggT Try.prog 35 = some false := by kernel_rfl
theorem zc35 : zcells Try.prog 35 = some ([.i 0]) := by kernel_rfl
theorem sz36 : szOf Try.prog 36 = some 1 := by kernel_rfl
theorem by36 : byOf Try.prog 36 = some 0 := by kernel_rfl
theorem ag36 : isAggT Try.prog 36 = some false := by kernel_rfl
theorem sz37 : szOf Try.prog 37 = some 1 := by kernel_rfl
theorem by37 : byOf Try.prog 37 = some 8 := by kernel_rfl
theorem ag37 : isAggT Try.prog 37 = some false := by kernel_rfl
theorem sz38 : szOf Try.prog 38 = some 8 := by kernel_rfl
theorem by38 : byOf Try.prog 38 = some 8 := by kernel_rfl
theorem ag38 : isAggT Try.prog 38 = some true := by kernel_rfl
theorem zc38 : zcells Try.prog 38 = some (List.replicate 8 (.w8 0#8)) := by kernel_rfl
theorem sz39 : szOf Try.prog 39 = some 1 := by kernel_rfl
theorem by39 : byOf Try.prog 39 = some 24 := by kernel_rfl
theorem ag39 : isAggT Try.prog 39 = some false := by kernel_rfl
theorem zc39 : zcells Try.prog 39 = some ([.v (Value.slice none 0 0)]) := by kernel_rfl
theorem ni39 : noIntT Try.prog 39 = true := by kernel_rfl
theorem sz40 : szOf Try.prog 40 = some 1 := by kernel_rfl
theorem by40 : byOf Try.prog 40 = some 8 := by kernel_rfl
theorem ag40 : isAggT Try.prog 40 = some false := by kernel_rfl
theorem sz41 : szOf Try.prog 41 = some 1 := by kernel_rfl
theorem by41 : byOf Try.prog 41 = some 8 := by kernel_rfl
theorem ag41 : isAggT Try.prog 41 = some false := by kernel_rfl
theorem sz42 : szOf Try.prog 42 = some 1 := by kernel_rfl
theorem by42 : byOf Try.prog 42 = some 24 := by kernel_rfl
theorem ag42 : isAggT Try.prog 42 = some false := by kernel_rfl
theorem zc42 : zcells Try.prog 42 = some ([.v (Value.slice none 0 0)]) := by kernel_rfl
theorem ni42 : noIntT Try.prog 42 = true := by kernel_rfl
theorem sz43 : szOf Try.prog 43 = some 1 := by kernel_rfl
theorem by43 : byOf Try.prog 43 = some 8 := by kernel_rfl
theorem ag43 : isAggT Try.prog 43 = some false := by kernel_rfl
theorem sz44 : szOf Try.prog 44 = some 1 := by kernel_rfl
theorem by44 : byOf Try.prog 44 = some 8 := by kernel_rfl
theorem ag44 : isAggT Try.prog 44 = some false := by kernel_rfl
theorem sz45 : szOf Try.prog 45 = some 1 := by kernel_rfl
theorem by45 : byOf Try.prog 45 = some 8 := by kernel_rfl
theorem ag45 : isAggT Try.prog 45 = some false := by kernel_rfl
theorem sz46 : szOf Try.prog 46 = some 15 := by kernel_rfl
theorem by46 : byOf Try.prog 46 = some 56 := by kernel_rfl
theorem ag46 : isAggT Try.prog 46 = some true := by kernel_rfl
theorem sz47 : szOf Try.prog 47 = some 15 := by kernel_rfl
theorem by47 : byOf Try.prog 47 = some 56 := by kernel_rfl
theorem ag47 : isAggT Try.prog 47 = some true := by kernel_rfl
theorem sz48 : szOf Try.prog 48 = some 1 := by kernel_rfl
theorem by48 : byOf Try.prog 48 = some 0 := by kernel_rfl
theorem ag48 : isAggT Try.prog 48 = some false := by kernel_rfl
theorem sz49 : szOf Try.prog 49 = some 1 := by kernel_rfl
theorem by49 : byOf Try.prog 49 = some 8 := by kernel_rfl
theorem ag49 : isAggT Try.prog 49 = some false := by kernel_rfl
theorem sz50 : szOf Try.prog 50 = some 1 := by kernel_rfl
theorem by50 : byOf Try.prog 50 = some 0 := by kernel_rfl
theorem ag50 : isAggT Try.prog 50 = some false := by kernel_rfl
theorem sz51 : szOf Try.prog 51 = some 1 := by kernel_rfl
theorem by51 : byOf Try.prog 51 = some 8 := by kernel_rfl
theorem ag51 : isAggT Try.prog 51 = some false := by kernel_rfl
theorem sz52 : szOf Try.prog 52 = some 1 := by kernel_rfl
theorem by52 : byOf Try.prog 52 = some 8 := by kernel_rfl
theorem ag52 : isAggT Try.prog 52 = some false := by kernel_rfl
theorem sz53 : szOf Try.prog 53 = some 1 := by kernel_rfl
theorem by53 : byOf Try.prog 53 = some 8 := by kernel_rfl
theorem ag53 : isAggT Try.prog 53 = some false := by kernel_rfl
theorem sz54 : szOf Try.prog 54 = some 1 := by kernel_rfl
theorem by54 : byOf Try.prog 54 = some 8 := by kernel_rfl
theorem ag54 : isAggT Try.prog 54 = some false := by kernel_rfl
theorem zc54 : zcells Try.prog 54 = some ([.v (Value.pointer none)]) := by kernel_rfl
theorem sz55 : szOf Try.prog 55 = some 1 := by kernel_rfl
theorem by55 : byOf Try.prog 55 = some 24 := by kernel_rfl
theorem ag55 : isAggT Try.prog 55 = some false := by kernel_rfl
theorem zc55 : zcells Try.prog 55 = some ([.v (Value.slice none 0 0)]) := by kernel_rfl
theorem ni55 : noIntT Try.prog 55 = true := by kernel_rfl
theorem sz56 : szOf Try.prog 56 = some 1 := by kernel_rfl
theorem by56 : byOf Try.prog 56 = some 24 := by kernel_rfl
theorem ag56 : isAggT Try.prog 56 = some false := by kernel_rfl
theorem zc56 : zcells Try.prog 56 = some ([.v (Value.slice none 0 0)]) := by kernel_rfl
theorem ni56 : noIntT Try.prog 56 = true := by kernel_rfl
theorem sz57 : szOf Try.prog 57 = some 3 := by kernel_rfl
theorem by57 : byOf Try.prog 57 = some 72 := by kernel_rfl
theorem ag57 : isAggT Try.prog 57 = some true := by kernel_rfl
theorem zc57 : zcells Try.prog 57 = some ([.v (Value.slice none 0 0), .v (Value.slice none 0 0), .v (Value.slice none 0 0)]) := by kernel_rfl
theorem sz58 : szOf Try.prog 58 = some 3 := by kernel_rfl
theorem by58 : byOf Try.prog 58 = some 72 := by kernel_rfl
theorem ag58 : isAggT Try.prog 58 = some true := by kernel_rfl
theorem zc58 : zcells Try.prog 58 = some ([.v (Value.slice none 0 0), .v (Value.slice none 0 0), .v (Value.slice none 0 0)]) := by kernel_rfl
theorem sz59 : szOf Try.prog 59 = some 16 := by kernel_rfl
theorem by59 : byOf Try.prog 59 = some 144 := by kernel_rfl
theorem ag59 : isAggT Try.prog 59 = some true := by kernel_rfl
theorem zc59 : zcells Try.prog 59 = some ([.v (Value.slice none 0 0), .w32 0#32, .w32 0#32, .w32 0#32, .w32 0#32, .w32 0#32, .w32 0#32, .w32 0#32, .w32 0#32, .v (Value.slice none 0 0), .w16 0#16, .i 0, .w16 0#16, .v (Value.pointer none), .v (Value.slice none 0 0), .w32 0#32]) := by kernel_rfl
theorem sz60 : szOf Try.prog 60 = some 16 := by kernel_rfl
theorem by60 : byOf Try.prog 60 = some 144 := by kernel_rfl
theorem ag60 : isAggT Try.prog 60 = some true := by kernel_rfl
theorem zc60 : zcells Try.prog 60 = some ([.v (Value.slice none 0 0), .w32 0#32, .w32 0#32, .w32 0#32, .w32 0#32, .w32 0#32, .w32 0#32, .w32 0#32, .w32 0#32, .v (Value.slice none 0 0), .w16 0#16, .i 0, .w16 0#16, .v (Value.pointer none), .v (Value.slice none 0 0), .w32 0#32]) := by kernel_rfl
theorem sz61 : szOf Try.prog 61 = some 1 := by kernel_rfl
theorem by61 : byOf Try.prog 61 = some 8 := by kernel_rfl
theorem ag61 : isAggT Try.prog 61 = some false := by kernel_rfl
theorem sz62 : szOf Try.prog 62 = some 1 := by kernel_rfl
theorem by62 : byOf Try.prog 62 = some 0 := by kernel_rfl
theorem ag62 : isAggT Try.prog 62 = some false := by kernel_rfl
theorem sz63 : szOf Try.prog 63 = some 1 := by kernel_rfl
theorem by63 : byOf Try.prog 63 = some 8 := by kernel_rfl
theorem ag63 : isAggT Try.prog 63 = some false := by kernel_rfl
theorem sz64 : szOf Try.prog 64 = some 1 := by kernel_rfl
theorem by64 : byOf Try.prog 64 = some 8 := by kernel_rfl
theorem ag64 : isAggT Try.prog 64 = some false := by kernel_rfl
theorem sz65 : szOf Try.prog 65 = some 1 := by kernel_rfl
theorem by65 : byOf Try.prog 65 = some 8 := by kernel_rfl
theorem ag65 : isAggT Try.prog 65 = some false := by kernel_rfl
theorem sz66 : szOf Try.prog 66 = some 1 := by kernel_rfl
theorem by66 : byOf Try.prog 66 = some 8 := by kernel_rfl
theorem ag66 : isAggT Try.prog 66 = some false := by kernel_rfl
theorem sz67 : szOf Try.prog 67 = some 1 := by kernel_rfl
theorem by67 : byOf Try.prog 67 = some 8 := by kernel_rfl
theorem ag67 : isAggT Try.prog 67 = some false := by kernel_rfl
theorem sz68 : szOf Try.prog 68 = some 1 := by kernel_rfl
theorem by68 : byOf Try.prog 68 = some 8 := by kernel_rfl
theorem ag68 : isAggT Try.prog 68 = some false := by kernel_rfl
theorem sz69 : szOf Try.prog 69 = some 1 := by kernel_rfl
theorem by69 : byOf Try.prog 69 = some 8 := by kernel_rfl
theorem ag69 : isAggT Try.prog 69 = some false := by kernel_rfl
theorem sz70 : szOf Try.prog 70 = some 1 := by kernel_rfl
theorem by70 : byOf Try.prog 70 = some 8 := by kernel_rfl
theorem ag70 : isAggT Try.prog 70 = some false := by kernel_rfl
theorem sz71 : szOf Try.prog 71 = some 1 := by kernel_rfl
theorem by71 : byOf Try.prog 71 = some 8 := by kernel_rfl
theorem ag71 : isAggT Try.prog 71 = some false := by kernel_rfl
theorem zc71 : zcells Try.prog 71 = some ([.v (Value.map none)]) := by kernel_rfl
theorem sz72 : szOf Try.prog 72 = some 1 := by kernel_rfl
theorem by72 : byOf Try.prog 72 = some 8 := by kernel_rfl
theorem ag72 : isAggT Try.prog 72 = some false := by kernel_rfl
theorem zc72 : zcells Try.prog 72 = some ([.v (Value.map none)]) := by kernel_rfl
theorem sz73 : szOf Try.prog 73 = some 16 := by kernel_rfl
theorem by73 : byOf Try.prog 73 = some 128 := by kernel_rfl
theorem ag73 : isAggT Try.prog 73 = some true := by kernel_rfl
theorem zc73 : zcells Try.prog 73 = some ([.v (Value.slice none 0 0), .w32 0#32, .w32 0#32, .w32 0#32, .w32 0#32, .w32 0#32, .w32 0#32, .w32 0#32, .w32 0#32, .v (Value.slice none 0 0), .w16 0#16, .i 0, .w16 0#16, .v (Value.map none), .w32 0#32, .v (Value.map none)]) := by kernel_rfl
theorem sz74 : szOf Try.prog 74 = some 16 := by kernel_rfl
theorem by74 : byOf Try.prog 74 = some 128 := by kernel_rfl
theorem ag74 : isAggT Try.prog 74 = some true := by kernel_rfl
theorem zc74 : zcells Try.prog 74 = some ([.v (Value.slice none 0 0), .w32 0#32, .w32 0#32, .w32 0#32, .w32 0#32, .w32 0#32, .w32 0#32, .w32 0#32, .w32 0#32, .v (Value.slice none 0 0), .w16 0#16, .i 0, .w16 0#16, .v (Value.map none), .w32 0#32, .v (Value.map none)]) := by kernel_rfl
theorem sz75 : szOf Try.prog 75 = some 1 := by kernel_rfl
theorem by75 : byOf Try.prog 75 = some 8 := by kernel_rfl
theorem ag75 : isAggT Try.prog 75 = some false := by kernel_rfl
theorem sz76 : szOf Try.prog 76 = some 1 := by kernel_rfl
theorem by76 : byOf Try.prog 76 = some 8 := by kernel_rfl
theorem ag76 : isAggT Try.prog 76 = some false := by kernel_rfl
theorem sz77 : szOf Try.prog 77 = some 1 := by kernel_rfl
theorem by77 : byOf Try.prog 77 = some 8 := by kernel_rfl
theorem ag77 : isAggT Try.prog 77 = some false := by kernel_rfl
theorem sz78 : szOf Try.prog 78 = some 3 := by kernel_rfl
theorem by78 : byOf Try.prog 78 = some 24 := by kernel_rfl
theorem ag78 : isAggT Try.prog 78 = some true := by kernel_rfl
theorem zc78 : zcells Try.prog 78 = some ([.w32 0#32, .i 0, .w32 0#32]) := by kernel_rfl
theorem sz79 : szOf Try.prog 79 = some 3 := by kernel_rfl
theorem by79 : byOf Try.prog 79 = some 24 := by kernel_rfl
theorem ag79 : isAggT Try.prog 79 = some true := by kernel_rfl
theorem zc79 : zcells Try.prog 79 = some ([.w32 0#32, .i 0, .w32 0#32]) := by kernel_rfl
theorem sz80 : szOf Try.prog 80 = some 1 := by kernel_rfl
theorem by80 : byOf Try.prog 80 = some 24 := by kernel_rfl
theorem ag80 : isAggT Try.prog 80 = some false := by kernel_rfl
theorem zc80 : zcells Try.prog 80 = some ([.v (Value.slice none 0 0)]) := by kernel_rfl
theorem ni80 : noIntT Try.prog 80 = true := by kernel_rfl
theorem sz81 : szOf Try.prog 81 = some 1 := by kernel_rfl
theorem by81 : byOf Try.prog 81 = some 8 := by kernel_rfl
theorem ag81 : isAggT Try.prog 81 = some false := by kernel_rfl
theorem sz82 : szOf Try.prog 82 = some 1 := by kernel_rfl
theorem by82 : byOf Try.prog 82 = some 8 := by kernel_rfl
theorem ag82 : isAggT Try.prog 82 = some false := by kernel_rfl
theorem sz83 : szOf Try.prog 83 = some 1 := by kernel_rfl
theorem by83 : byOf Try.prog 83 = some 8 := by kernel_rfl
theorem ag83 : isAggT Try.prog 83 = some false := by kernel_rfl
theorem zc83 : zcells Try.prog 83 = some ([.w64 0#64]) := by kernel_rfl
theorem sz84 : szOf Try.prog 84 = some 1 := by kernel_rfl
theorem by84 : byOf Try.prog 84 = some 8 := by kernel_rfl
theorem ag84 : isAggT Try.prog 84 = some false := by kernel_rfl
theorem sz85 : szOf Try.prog 85 = some 1 := by kernel_rfl
theorem by85 : byOf Try.prog 85 = some 8 := by kernel_rfl
theorem ag85 : isAggT Try.prog 85 = some false := by kernel_rfl
theorem sz86 : szOf Try.prog 86 = some 1 := by kernel_rfl
theorem by86 : byOf Try.prog 86 = some 8 := by kernel_rfl
theorem ag86 : isAggT Try.prog 86 = some false := by kernel_rfl
theorem sz87 : szOf Try.prog 87 = some 1 := by kernel_rfl
theorem by87 : byOf Try.prog 87 = some 8 := by kernel_rfl
theorem ag87 : isAggT Try.prog 87 = some false := by kernel_rfl
theorem sz88 : szOf Try.prog 88 = some 1 := by kernel_rfl
theorem by88 : byOf Try.prog 88 = some 8 := by kernel_rfl
theorem ag88 : isAggT Try.prog 88 = some false := by kernel_rfl
theorem sz89 : szOf Try.prog 89 = some 1 := by kernel_rfl
theorem by89 : byOf Try.prog 89 = some 8 := by kernel_rfl
theorem ag89 : isAggT Try.prog 89 = some false := by kernel_rfl
theorem sz90 : szOf Try.prog 90 = some 1 := by kernel_rfl
theorem by90 : byOf Try.prog 90 = some 8 := by kernel_rfl
theorem ag90 : isAggT Try.prog 90 = some false := by kernel_rfl
theorem sz91 : szOf Try.prog 91 = some 1 := by kernel_rfl
theorem by91 : byOf Try.prog 91 = some 8 := by kernel_rfl
theorem ag91 : isAggT Try.prog 91 = some false := by kernel_rfl
theorem sz92 : szOf Try.prog 92 = some 1 := by kernel_rfl
theorem by92 : byOf Try.prog 92 = some 8 := by kernel_rfl
theorem ag92 : isAggT Try.prog 92 = some false := by kernel_rfl
theorem sz93 : szOf Try.prog 93 = some 1 := by kernel_rfl
theorem by93 : byOf Try.prog 93 = some 8 := by kernel_rfl
theorem ag93 : isAggT Try.prog 93 = some false := by kernel_rfl
theorem sz94 : szOf Try.prog 94 = some 1 := by kernel_rfl
theorem by94 : byOf Try.prog 94 = some 8 := by kernel_rfl
theorem ag94 : isAggT Try.prog 94 = some false := by kernel_rfl
theorem sz95 : szOf Try.prog 95 = some 1 := by kernel_rfl
theorem by95 : byOf Try.prog 95 = some 8 := by kernel_rfl
theorem ag95 : isAggT Try.prog 95 = some false := by kernel_rfl
theorem sz96 : szOf Try.prog 96 = some 1 := by kernel_rfl
theorem by96 : byOf Try.prog 96 = some 8 := by kernel_rfl
theorem ag96 : isAggT Try.prog 96 = some false := by kernel_rfl
theorem sz97 : szOf Try.prog 97 = some 1 := by kernel_rfl
theorem by97 : byOf Try.prog 97 = some 8 := by kernel_rfl
theorem ag97 : isAggT Try.prog 97 = some false := by kernel_rfl
theorem zc97 : zcells Try.prog 97 = some ([.i 0]) := by kernel_rfl
theorem sz98 : szOf Try.prog 98 = some 1 := by kernel_rfl
theorem by98 : byOf Try.prog 98 = some 0 := by kernel_rfl
theorem ag98 : isAggT Try.prog 98 = some false := by kernel_rfl
theorem sz99 : szOf Try.prog 99 = some 1 := by kernel_rfl
theorem by99 : byOf Try.prog 99 = some 8 := by kernel_rfl
theorem ag99 : isAggT Try.prog 99 = some false := by kernel_rfl
theorem sz100 : szOf Try.prog 100 = some 1 := by kernel_rfl
theorem by100 : byOf Try.prog 100 = some 8 := by kernel_rfl
theorem ag100 : isAggT Try.prog 100 = some false := by kernel_rfl
theorem sz101 : szOf Try.prog 101 = some 1 := by kernel_rfl
theorem by101 : byOf Try.prog 101 = some 8 := by kernel_rfl
theorem ag101 : isAggT Try.prog 101 = some false := by kernel_rfl
theorem sz102 : szOf Try.prog 102 = some 1 := by kernel_rfl
theorem by102 : byOf Try.prog 102 = some 0 := by kernel_rfl
theorem ag102 : isAggT Try.prog 102 = some false := by kernel_rfl
theorem sz103 : szOf Try.prog 103 = some 1 := by kernel_rfl
theorem by103 : byOf Try.prog 103 = some 8 := by kernel_rfl
theorem ag103 : isAggT Try.prog 103 = some false := by kernel_rfl
theorem sz104 : szOf Try.prog 104 = some 1 := by kernel_rfl
theorem by104 : byOf Try.prog 104 = some 8 := by kernel_rfl
theorem ag104 : isAggT Try.prog 104 = some false := by kernel_rfl
theorem sz105 : szOf Try.prog 105 = some 1 := by kernel_rfl
theorem by105 : byOf Try.prog 105 = some 8 := by kernel_rfl
theorem ag105 : isAggT Try.prog 105 = some false := by kernel_rfl
theorem zc105 : zcells Try.prog 105 = some ([.w64 0#64]) := by kernel_rfl
theorem sz106 : szOf Try.prog 106 = some 1 := by kernel_rfl
theorem by106 : byOf Try.prog 106 = some 8 := by kernel_rfl
theorem ag106 : isAggT Try.prog 106 = some false := by kernel_rfl
theorem zc106 : zcells Try.prog 106 = some ([.w64 0#64]) := by kernel_rfl
theorem sz107 : szOf Try.prog 107 = some 1 := by kernel_rfl
theorem by107 : byOf Try.prog 107 = some 8 := by kernel_rfl
theorem ag107 : isAggT Try.prog 107 = some false := by kernel_rfl
theorem sz108 : szOf Try.prog 108 = some 1 := by kernel_rfl
theorem by108 : byOf Try.prog 108 = some 8 := by kernel_rfl
theorem ag108 : isAggT Try.prog 108 = some false := by kernel_rfl
theorem sz109 : szOf Try.prog 109 = some 1 := by kernel_rfl
theorem by109 : byOf Try.prog 109 = some 8 := by kernel_rfl
theorem ag109 : isAggT Try.prog 109 = some false := by kernel_rfl
theorem sz110 : szOf Try.prog 110 = some 1 := by kernel_rfl
theorem by110 : byOf Try.prog 110 = some 8 := by kernel_rfl
theorem ag110 : isAggT Try.prog 110 = some false := by kernel_rfl
theorem zc110 : zcells Try.prog 110 = some ([.v (Value.pointer none)]) := by kernel_rfl
theorem sz111 : szOf Try.prog 111 = some 1 := by kernel_rfl
theorem by111 : byOf Try.prog 111 = some 8 := by kernel_rfl
theorem ag111 : isAggT Try.prog 111 = some false := by kernel_rfl
theorem sz112 : szOf Try.prog 112 = some 1 := by kernel_rfl
theorem by112 : byOf Try.prog 112 = some 8 := by kernel_rfl
theorem ag112 : isAggT Try.prog 112 = some false := by kernel_rfl
theorem zc112 : zcells Try.prog 112 = some ([.v (Value.pointer none)]) := by kernel_rfl
theorem sz113 : szOf Try.prog 113 = some 1 := by kernel_rfl
theorem by113 : byOf Try.prog 113 = some 0 := by kernel_rfl
theorem ag113 : isAggT Try.prog 113 = some false := by kernel_rfl
theorem sz114 : szOf Try.prog 114 = some 1 := by kernel_rfl
theorem by114 : byOf Try.prog 114 = some 8 := by kernel_rfl
theorem ag114 : isAggT Try.prog 114 = some false := by kernel_rfl
theorem sz115 : szOf Try.prog 115 = some 1 := by kernel_rfl
theorem by115 : byOf Try.prog 115 = some 8 := by kernel_rfl
theorem ag115 : isAggT Try.prog 115 = some false := by kernel_rfl
theorem sz116 : szOf Try.prog 116 = some 4 := by kernel_rfl
theorem by116 : byOf Try.prog 116 = some 40 := by kernel_rfl
theorem ag116 : isAggT Try.prog 116 = some true := by kernel_rfl
theorem zc116 : zcells Try.prog 116 = some ([.v (Value.pointer none), .v (Value.pointer none), .v (Value.pointer none), .s []]) := by kernel_rfl
theorem sz117 : szOf Try.prog 117 = some 4 := by kernel_rfl
theorem by117 : byOf Try.prog 117 = some 40 := by kernel_rfl
theorem ag117 : isAggT Try.prog 117 = some true := by kernel_rfl
theorem zc117 : zcells Try.prog 117 = some ([.v (Value.pointer none), .v (Value.pointer none), .v (Value.pointer none), .s []]) := by kernel_rfl
theorem sz118 : szOf Try.prog 118 = some 0 := by kernel_rfl
theorem by118 : byOf Try.prog 118 = some 0 := by kernel_rfl
theorem ag118 : isAggT Try.prog 118 = some true := by kernel_rfl
theorem zc118 : zcells Try.prog 118 = some (List.replicate 0 (.v (Value.pointer none))) := by kernel_rfl
theorem sz119 : szOf Try.prog 119 = some 0 := by kernel_rfl
theorem by119 : byOf Try.prog 119 = some 0 := by kernel_rfl
theorem ag119 : isAggT Try.prog 119 = some true := by kernel_rfl
theorem sz120 : szOf Try.prog 120 = some 0 := by kernel_rfl
theorem by120 : byOf Try.prog 120 = some 0 := by kernel_rfl
theorem ag120 : isAggT Try.prog 120 = some true := by kernel_rfl
theorem sz121 : szOf Try.prog 121 = some 1 := by kernel_rfl
theorem by121 : byOf Try.prog 121 = some 8 := by kernel_rfl
theorem ag121 : isAggT Try.prog 121 = some false := by kernel_rfl
theorem sz122 : szOf Try.prog 122 = some 1 := by kernel_rfl
theorem by122 : byOf Try.prog 122 = some 1 := by kernel_rfl
theorem ag122 : isAggT Try.prog 122 = some false := by kernel_rfl
theorem zc122 : zcells Try.prog 122 = some ([.w8 0#8]) := by kernel_rfl
theorem sz123 : szOf Try.prog 123 = some 1 := by kernel_rfl
theorem by123 : byOf Try.prog 123 = some 1 := by kernel_rfl
theorem ag123 : isAggT Try.prog 123 = some false := by kernel_rfl
theorem zc123 : zcells Try.prog 123 = some ([.w8 0#8]) := by kernel_rfl
theorem sz124 : szOf Try.prog 124 = some 1 := by kernel_rfl
theorem by124 : byOf Try.prog 124 = some 8 := by kernel_rfl
theorem ag124 : isAggT Try.prog 124 = some false := by kernel_rfl
theorem sz125 : szOf Try.prog 125 = some 1 := by kernel_rfl
theorem by125 : byOf Try.prog 125 = some 8 := by kernel_rfl
theorem ag125 : isAggT Try.prog 125 = some false := by kernel_rfl
theorem zc125 : zcells Try.prog 125 = some ([.v (Value.pointer none)]) := by kernel_rfl
theorem sz126 : szOf Try.prog 126 = some 1 := by kernel_rfl
theorem by126 : byOf Try.prog 126 = some 4 := by kernel_rfl
theorem ag126 : isAggT Try.prog 126 = some false := by kernel_rfl
theorem sz127 : szOf Try.prog 127 = some 1 := by kernel_rfl
theorem by127 : byOf Try.prog 127 = some 4 := by kernel_rfl
theorem ag127 : isAggT Try.prog 127 = some false := by kernel_rfl
theorem sz128 : szOf Try.prog 128 = some 11 := by kernel_rfl
theorem by128 : byOf Try.prog 128 = some 48 := by kernel_rfl
theorem ag128 : isAggT Try.prog 128 = some true := by kernel_rfl
theorem sz129 : szOf Try.prog 129 = some 11 := by kernel_rfl
theorem by129 : byOf Try.prog 129 = some 48 := by kernel_rfl
theorem ag129 : isAggT Try.prog 129 = some true := by kernel_rfl
theorem sz130 : szOf Try.prog 130 = some 1 := by kernel_rfl
theorem by130 : byOf Try.prog 130 = some 8 := by kernel_rfl
theorem ag130 : isAggT Try.prog 130 = some false := by kernel_rfl
theorem sz131 : szOf Try.prog 131 = some 1 := by kernel_rfl
theorem by131 : byOf Try.prog 131 = some 8 := by kernel_rfl
theorem ag131 : isAggT Try.prog 131 = some false := by kernel_rfl
theorem sz132 : szOf Try.prog 132 = some 1 := by kernel_rfl
theorem by132 : byOf Try.prog 132 = some 8 := by kernel_rfl
theorem ag132 : isAggT Try.prog 132 = some false := by kernel_rfl
theorem sz133 : szOf Try.prog 133 = some 1 := by kernel_rfl
theorem by133 : byOf Try.prog 133 = some 8 := by kernel_rfl
theorem ag133 : isAggT Try.prog 133 = some false := by kernel_rfl
theorem zc133 : zcells Try.prog 133 = some ([.v (Value.pointer none)]) := by kernel_rfl
theorem sz134 : szOf Try.prog 134 = some 1 := by kernel_rfl
theorem by134 : byOf Try.prog 134 = some 8 := by kernel_rfl
theorem ag134 : isAggT Try.prog 134 = some false := by kernel_rfl
theorem zc134 : zcells Try.prog 134 = some ([.v (Value.pointer none)]) := by kernel_rfl
theorem sz135 : szOf Try.prog 135 = some 1 := by kernel_rfl
theorem by135 : byOf Try.prog 135 = some 8 := by kernel_rfl
theorem ag135 : isAggT Try.prog 135 = some false := by kernel_rfl
theorem sz136 : szOf Try.prog 136 = some 1 := by kernel_rfl
theorem by136 : byOf Try.prog 136 = some 24 := by kernel_rfl
theorem ag136 : isAggT Try.prog 136 = some false := by kernel_rfl
theorem zc136 : zcells Try.prog 136 = some ([.v (Value.slice none 0 0)]) := by kernel_rfl
theorem ni136 : noIntT Try.prog 136 = true := by kernel_rfl
theorem sz137 : szOf Try.prog 137 = some 9 := by kernel_rfl
theorem by137 : byOf Try.prog 137 = some 32 := by kernel_rfl
theorem ag137 : isAggT Try.prog 137 = some true := by kernel_rfl
theorem sz138 : szOf Try.prog 138 = some 9 := by kernel_rfl
theorem by138 : byOf Try.prog 138 = some 32 := by kernel_rfl
theorem ag138 : isAggT Try.prog 138 = some true := by kernel_rfl
theorem zv133 : zvA Try.prog 133 = some (.v (Value.pointer none)) := by kernel_rfl
attribute [go_sem] sz0 sz1 sz2 sz3 sz4 sz5 sz6 sz7 sz8 sz9 sz10 sz11 sz12 sz13 sz14 sz15 sz16 sz17 sz18 sz19 sz20 sz21 sz22 sz23 sz24 sz25 sz26 sz27 sz28 sz29 sz30 sz31 sz32 sz33 sz34 sz35 sz36 sz37 sz38 sz39
attribute [go_sem] sz40 sz41 sz42 sz43 sz44 sz45 sz46 sz47 sz48 sz49 sz50 sz51 sz52 sz53 sz54 sz55 sz56 sz57 sz58 sz59 sz60 sz61 sz62 sz63 sz64 sz65 sz66 sz67 sz68 sz69 sz70 sz71 sz72 sz73 sz74 sz75 sz76 sz77 sz78 sz79
attribute [go_sem] sz80 sz81 sz82 sz83 sz84 sz85 sz86 sz87 sz88 sz89 sz90 sz91 sz92 sz93 sz94 sz95 sz96 sz97 sz98 sz99 sz100 sz101 sz102 sz103 sz104 sz105 sz106 sz107 sz108 sz109 sz110 sz111 sz112 sz113 sz114 sz115 sz116 sz117 sz118 sz119
attribute [go_sem] sz120 sz121 sz122 sz123 sz124 sz125 sz126 sz127 sz128 sz129 sz130 sz131 sz132 sz133 sz134 sz135 sz136 sz137 sz138 by0 by1 by2 by3 by4 by5 by6 by7 by8 by9 by10 by11 by12 by13 by14 by15 by16 by17 by18 by19 by20
attribute [go_sem] by21 by22 by23 by24 by25 by26 by27 by28 by29 by30 by31 by32 by33 by34 by35 by36 by37 by38 by39 by40 by41 by42 by43 by44 by45 by46 by47 by48 by49 by50 by51 by52 by53 by54 by55 by56 by57 by58 by59 by60
attribute [go_sem] by61 by62 by63 by64 by65 by66 by67 by68 by69 by70 by71 by72 by73 by74 by75 by76 by77 by78 by79 by80 by81 by82 by83 by84 by85 by86 by87 by88 by89 by90 by91 by92 by93 by94 by95 by96 by97 by98 by99 by100
attribute [go_sem] by101 by102 by103 by104 by105 by106 by107 by108 by109 by110 by111 by112 by113 by114 by115 by116 by117 by118 by119 by120 by121 by122 by123 by124 by125 by126 by127 by128 by129 by130 by131 by132 by133 by134 by135 by136 by137 by138 ag0 ag1
attribute [go_sem] ag2 ag3 ag4 ag5 ag6 ag7 ag8 ag9 ag10 ag11 ag12 ag13 ag14 ag15 ag16 ag17 ag18 ag19 ag20 ag21 ag22 ag23 ag24 ag25 ag26 ag27 ag28 ag29 ag30 ag31 ag32 ag33 ag34 ag35 ag36 ag37 ag38 ag39 ag40 ag41
attribute [go_sem] ag42 ag43 ag44 ag45 ag46 ag47 ag48 ag49 ag50 ag51 ag52 ag53 ag54 ag55 ag56 ag57 ag58 ag59 ag60 ag61 ag62 ag63 ag64 ag65 ag66 ag67 ag68 ag69 ag70 ag71 ag72 ag73 ag74 ag75 ag76 ag77 ag78 ag79 ag80 ag81
attribute [go_sem] ag82 ag83 ag84 ag85 ag86 ag87 ag88 ag89 ag90 ag91 ag92 ag93 ag94 ag95 ag96 ag97 ag98 ag99 ag100 ag101 ag102 ag103 ag104 ag105 ag106 ag107 ag108 ag109 ag110 ag111 ag112 ag113 ag114 ag115 ag116 ag117 ag118 ag119 ag120 ag121
attribute [go_sem] ag122 ag123 ag124 ag125 ag126 ag127 ag128 ag129 ag130 ag131 ag132 ag133 ag134 ag135 ag136 ag137 ag138 zc2 zc3 zc4 zc5 zc6 zc7 zc8 zc9 ni9 zc10 ni10 zc11 ni11 zc12 zc13 zc14 zc15 zc16 zc17 zc18 zc19 zc22 zc23
attribute [go_sem] zc25 ni25 zc26 ni26 zc27 ni27 zc28 zc29 zc31 zc32 zc35 zc38 zc39 ni39 zc42 ni42 zc54 zc55 ni55 zc56 ni56 zc57 zc58 zc59 zc60 zc71 zc72 zc73 zc74 zc78 zc79 zc80 ni80 zc83 zc97 zc105 zc106 zc110 zc112 zc116
attribute [go_sem] zc117 zc118 zc122 zc123 zc125 zc133 zc134 zc136 ni136 zv133 Try.underlying0 Try.underlying1 Try.underlying2 Try.underlying3 Try.underlying4 Try.underlying5 Try.underlying6 Try.underlying7 Try.underlying8 Try.underlying9 Try.underlying10 Try.underlying11 Try.underlying12 Try.underlying13 Try.underlying14 Try.underlying15 Try.underlying16 Try.underlying17 Try.underlying18 Try.underlying19 Try.underlying20 Try.underlying21 Try.underlying22 Try.underlying23 Try.underlying24 Try.underlying25 Try.underlying26 Try.underlying27 Try.underlying28 Try.underlying29
attribute [go_sem] Try.underlying30 Try.underlying31 Try.underlying32 Try.underlying33 Try.underlying34 Try.underlying35 Try.underlying36 Try.underlying37 Try.underlying38 Try.underlying39 Try.underlying40 Try.underlying41 Try.underlying42 Try.underlying43 Try.underlying44 Try.underlying45 Try.underlying46 Try.underlying47 Try.underlying48 Try.underlying49 Try.underlying50 Try.underlying51 Try.underlying52 Try.underlying53 Try.underlying54 Try.underlying55 Try.underlying56 Try.underlying57 Try.underlying58 Try.underlying59 Try.underlying60 Try.underlying61 Try.underlying62 Try.underlying63 Try.underlying64 Try.underlying65 Try.underlying66 Try.underlying67 Try.underlying68 Try.underlying69
attribute [go_sem] Try.underlying70 Try.underlying71 Try.underlying72 Try.underlying73 Try.underlying74 Try.underlying75 Try.underlying76 Try.underlying77 Try.underlying78 Try.underlying79 Try.underlying80 Try.underlying81 Try.underlying82 Try.underlying83 Try.underlying84 Try.underlying85 Try.underlying86 Try.underlying87 Try.underlying88 Try.underlying89 Try.underlying90 Try.underlying91 Try.underlying92 Try.underlying93 Try.underlying94 Try.underlying95 Try.underlying96 Try.underlying97 Try.underlying98 Try.underlying99 Try.underlying100 Try.underlying101 Try.underlying102 Try.underlying103 Try.underlying104 Try.underlying105 Try.underlying106 Try.underlying107 Try.underlying108 Try.underlying109
attribute [go_sem] Try.underlying110 Try.underlying111 Try.underlying112 Try.underlying113 Try.underlying114 Try.underlying115 Try.underlying116 Try.underlying117 Try.underlying118 Try.underlying119 Try.underlying120 Try.underlying121 Try.underlying122 Try.underlying123 Try.underlying124 Try.underlying125 Try.underlying126 Try.underlying127 Try.underlying128 Try.underlying129 Try.underlying130 Try.underlying131 Try.underlying132 Try.underlying133 Try.underlying134 Try.underlying135 Try.underlying136 Try.underlying137 Try.underlying138
end Go.AX

namespace Go.AX
open Go Go.Proofs


theorem b_add_w8 (P : Program) (t : TypeId) (a b : BitVec 8) : binT P .add t (.w8 a) (.w8 b) = some (.w8 (a + b)) := (rfl)
theorem b_sub_w8 (P : Program) (t : TypeId) (a b : BitVec 8) : binT P .sub t (.w8 a) (.w8 b) = some (.w8 (a - b)) := (rfl)
theorem b_mul_w8 (P : Program) (t : TypeId) (a b : BitVec 8) : binT P .mul t (.w8 a) (.w8 b) = some (.w8 (a * b)) := (rfl)
theorem b_and_w8 (P : Program) (t : TypeId) (a b : BitVec 8) : binT P .and t (.w8 a) (.w8 b) = some (.w8 (a &&& b)) := (rfl)
theorem b_or_w8 (P : Program) (t : TypeId) (a b : BitVec 8) : binT P .or t (.w8 a) (.w8 b) = some (.w8 (a ||| b)) := (rfl)
theorem b_xor_w8 (P : Program) (t : TypeId) (a b : BitVec 8) : binT P .xor t (.w8 a) (.w8 b) = some (.w8 (a ^^^ b)) := (rfl)
theorem b_andNot_w8 (P : Program) (t : TypeId) (a b : BitVec 8) : binT P .andNot t (.w8 a) (.w8 b) = some (.w8 (a &&& ~~~b)) := (rfl)
theorem b_quo_w8 (P : Program) (t : TypeId) (a b : BitVec 8) : binT P .quo t (.w8 a) (.w8 b) = if b = 0#8 then none else some (.w8 (a / b)) := (rfl)
theorem b_rem_w8 (P : Program) (t : TypeId) (a b : BitVec 8) : binT P .rem t (.w8 a) (.w8 b) = if b = 0#8 then none else some (.w8 (a % b)) := (rfl)
theorem b_eql_w8 (P : Program) (t : TypeId) (a b : BitVec 8) : binT P .eql t (.w8 a) (.w8 b) = some (.b (decide (a = b))) := (rfl)
theorem b_neq_w8 (P : Program) (t : TypeId) (a b : BitVec 8) : binT P .neq t (.w8 a) (.w8 b) = some (.b (!decide (a = b))) := (rfl)
theorem b_lss_w8 (P : Program) (t : TypeId) (a b : BitVec 8) : binT P .lss t (.w8 a) (.w8 b) = some (.b (decide (a < b))) := (rfl)
theorem b_leq_w8 (P : Program) (t : TypeId) (a b : BitVec 8) : binT P .leq t (.w8 a) (.w8 b) = some (.b (decide (a ≤ b))) := (rfl)
theorem b_gtr_w8 (P : Program) (t : TypeId) (a b : BitVec 8) : binT P .gtr t (.w8 a) (.w8 b) = some (.b (decide (b < a))) := (rfl)
theorem b_geq_w8 (P : Program) (t : TypeId) (a b : BitVec 8) : binT P .geq t (.w8 a) (.w8 b) = some (.b (decide (b ≤ a))) := (rfl)
theorem b_shl_w8_i (P : Program) (t : TypeId) (a : BitVec 8) (n : Int) (h : 0 ≤ n) : binT P .shl t (.w8 a) (.i n) = some (.w8 (a <<< n.toNat)) := by simp [binT, bin, shl, shAmt, h]
theorem b_shl_w8_w8 (P : Program) (t : TypeId) (a : BitVec 8) (n : BitVec 8) : binT P .shl t (.w8 a) (.w8 n) = some (.w8 (a <<< n.toNat)) := (rfl)
theorem b_shl_w8_w16 (P : Program) (t : TypeId) (a : BitVec 8) (n : BitVec 16) : binT P .shl t (.w8 a) (.w16 n) = some (.w8 (a <<< n.toNat)) := (rfl)
theorem b_shl_w8_w32 (P : Program) (t : TypeId) (a : BitVec 8) (n : BitVec 32) : binT P .shl t (.w8 a) (.w32 n) = some (.w8 (a <<< n.toNat)) := (rfl)
theorem b_shl_w8_w64 (P : Program) (t : TypeId) (a : BitVec 8) (n : BitVec 64) : binT P .shl t (.w8 a) (.w64 n) = some (.w8 (a <<< n.toNat)) := (rfl)
theorem b_shr_w8_i (P : Program) (t : TypeId) (a : BitVec 8) (n : Int) (h : 0 ≤ n) : binT P .shr t (.w8 a) (.i n) = some (.w8 (a >>> n.toNat)) := by simp [binT, bin, shr, shAmt, h]
theorem b_shr_w8_w8 (P : Program) (t : TypeId) (a : BitVec 8) (n : BitVec 8) : binT P .shr t (.w8 a) (.w8 n) = some (.w8 (a >>> n.toNat)) := (rfl)
theorem b_shr_w8_w16 (P : Program) (t : TypeId) (a : BitVec 8) (n : BitVec 16) : binT P .shr t (.w8 a) (.w16 n) = some (.w8 (a >>> n.toNat)) := (rfl)
theorem b_shr_w8_w32 (P : Program) (t : TypeId) (a : BitVec 8) (n : BitVec 32) : binT P .shr t (.w8 a) (.w32 n) = some (.w8 (a >>> n.toNat)) := (rfl)
theorem b_shr_w8_w64 (P : Program) (t : TypeId) (a : BitVec 8) (n : BitVec 64) : binT P .shr t (.w8 a) (.w64 n) = some (.w8 (a >>> n.toNat)) := (rfl)
theorem u_xor_w8 (a : BitVec 8) : un .xor (.w8 a) = some (.w8 (~~~a)) := (rfl)
theorem u_neg_w8 (a : BitVec 8) : un .neg (.w8 a) = some (.w8 (0#8 - a)) := (rfl)
theorem ix_w8 (a : BitVec 8) : ix (.w8 a) = some (a.toNat : Int) := (rfl)
theorem c_w8_w8 (a : BitVec 8) : toK .u8 (.w8 a) = some (.w8 a) := (rfl)
theorem c_w8_w16 (a : BitVec 8) : toK .u16 (.w8 a) = some (.w16 (a.setWidth 16)) := (rfl)
theorem c_w8_w32 (a : BitVec 8) : toK .u32 (.w8 a) = some (.w32 (a.setWidth 32)) := (rfl)
theorem c_w8_w64 (a : BitVec 8) : toK .u64 (.w8 a) = some (.w64 (a.setWidth 64)) := (rfl)
theorem c_i_w8 (n : Int) : toK .u8 (.i n) = some (.w8 (BitVec.ofInt 8 n)) := (rfl)
theorem c_w8_i (a : BitVec 8) : toK .i64 (.w8 a) = some (.i (a.toNat : Int)) := (rfl)
theorem b_add_w16 (P : Program) (t : TypeId) (a b : BitVec 16) : binT P .add t (.w16 a) (.w16 b) = some (.w16 (a + b)) := (rfl)
theorem b_sub_w16 (P : Program) (t : TypeId) (a b : BitVec 16) : binT P .sub t (.w16 a) (.w16 b) = some (.w16 (a - b)) := (rfl)
theorem b_mul_w16 (P : Program) (t : TypeId) (a b : BitVec 16) : binT P .mul t (.w16 a) (.w16 b) = some (.w16 (a * b)) := (rfl)
theorem b_and_w16 (P : Program) (t : TypeId) (a b : BitVec 16) : binT P .and t (.w16 a) (.w16 b) = some (.w16 (a &&& b)) := (rfl)
theorem b_or_w16 (P : Program) (t : TypeId) (a b : BitVec 16) : binT P .or t (.w16 a) (.w16 b) = some (.w16 (a ||| b)) := (rfl)
theorem b_xor_w16 (P : Program) (t : TypeId) (a b : BitVec 16) : binT P .xor t (.w16 a) (.w16 b) = some (.w16 (a ^^^ b)) := (rfl)
theorem b_andNot_w16 (P : Program) (t : TypeId) (a b : BitVec 16) : binT P .andNot t (.w16 a) (.w16 b) = some (.w16 (a &&& ~~~b)) := (rfl)
theorem b_quo_w16 (P : Program) (t : TypeId) (a b : BitVec 16) : binT P .quo t (.w16 a) (.w16 b) = if b = 0#16 then none else some (.w16 (a / b)) := (rfl)
theorem b_rem_w16 (P : Program) (t : TypeId) (a b : BitVec 16) : binT P .rem t (.w16 a) (.w16 b) = if b = 0#16 then none else some (.w16 (a % b)) := (rfl)
theorem b_eql_w16 (P : Program) (t : TypeId) (a b : BitVec 16) : binT P .eql t (.w16 a) (.w16 b) = some (.b (decide (a = b))) := (rfl)
theorem b_neq_w16 (P : Program) (t : TypeId) (a b : BitVec 16) : binT P .neq t (.w16 a) (.w16 b) = some (.b (!decide (a = b))) := (rfl)
theorem b_lss_w16 (P : Program) (t : TypeId) (a b : BitVec 16) : binT P .lss t (.w16 a) (.w16 b) = some (.b (decide (a < b))) := (rfl)
theorem b_leq_w16 (P : Program) (t : TypeId) (a b : BitVec 16) : binT P .leq t (.w16 a) (.w16 b) = some (.b (decide (a ≤ b))) := (rfl)
theorem b_gtr_w16 (P : Program) (t : TypeId) (a b : BitVec 16) : binT P .gtr t (.w16 a) (.w16 b) = some (.b (decide (b < a))) := (rfl)
theorem b_geq_w16 (P : Program) (t : TypeId) (a b : BitVec 16) : binT P .geq t (.w16 a) (.w16 b) = some (.b (decide (b ≤ a))) := (rfl)
theorem b_shl_w16_i (P : Program) (t : TypeId) (a : BitVec 16) (n : Int) (h : 0 ≤ n) : binT P .shl t (.w16 a) (.i n) = some (.w16 (a <<< n.toNat)) := by simp [binT, bin, shl, shAmt, h]
theorem b_shl_w16_w8 (P : Program) (t : TypeId) (a : BitVec 16) (n : BitVec 8) : binT P .shl t (.w16 a) (.w8 n) = some (.w16 (a <<< n.toNat)) := (rfl)
theorem b_shl_w16_w16 (P : Program) (t : TypeId) (a : BitVec 16) (n : BitVec 16) : binT P .shl t (.w16 a) (.w16 n) = some (.w16 (a <<< n.toNat)) := (rfl)
theorem b_shl_w16_w32 (P : Program) (t : TypeId) (a : BitVec 16) (n : BitVec 32) : binT P .shl t (.w16 a) (.w32 n) = some (.w16 (a <<< n.toNat)) := (rfl)
theorem b_shl_w16_w64 (P : Program) (t : TypeId) (a : BitVec 16) (n : BitVec 64) : binT P .shl t (.w16 a) (.w64 n) = some (.w16 (a <<< n.toNat)) := (rfl)
theorem b_shr_w16_i (P : Program) (t : TypeId) (a : BitVec 16) (n : Int) (h : 0 ≤ n) : binT P .shr t (.w16 a) (.i n) = some (.w16 (a >>> n.toNat)) := by simp [binT, bin, shr, shAmt, h]
theorem b_shr_w16_w8 (P : Program) (t : TypeId) (a : BitVec 16) (n : BitVec 8) : binT P .shr t (.w16 a) (.w8 n) = some (.w16 (a >>> n.toNat)) := (rfl)
theorem b_shr_w16_w16 (P : Program) (t : TypeId) (a : BitVec 16) (n : BitVec 16) : binT P .shr t (.w16 a) (.w16 n) = some (.w16 (a >>> n.toNat)) := (rfl)
theorem b_shr_w16_w32 (P : Program) (t : TypeId) (a : BitVec 16) (n : BitVec 32) : binT P .shr t (.w16 a) (.w32 n) = some (.w16 (a >>> n.toNat)) := (rfl)
theorem b_shr_w16_w64 (P : Program) (t : TypeId) (a : BitVec 16) (n : BitVec 64) : binT P .shr t (.w16 a) (.w64 n) = some (.w16 (a >>> n.toNat)) := (rfl)
theorem u_xor_w16 (a : BitVec 16) : un .xor (.w16 a) = some (.w16 (~~~a)) := (rfl)
theorem u_neg_w16 (a : BitVec 16) : un .neg (.w16 a) = some (.w16 (0#16 - a)) := (rfl)
theorem ix_w16 (a : BitVec 16) : ix (.w16 a) = some (a.toNat : Int) := (rfl)
theorem c_w16_w8 (a : BitVec 16) : toK .u8 (.w16 a) = some (.w8 (a.setWidth 8)) := (rfl)
theorem c_w16_w16 (a : BitVec 16) : toK .u16 (.w16 a) = some (.w16 a) := (rfl)
theorem c_w16_w32 (a : BitVec 16) : toK .u32 (.w16 a) = some (.w32 (a.setWidth 32)) := (rfl)
theorem c_w16_w64 (a : BitVec 16) : toK .u64 (.w16 a) = some (.w64 (a.setWidth 64)) := (rfl)
theorem c_i_w16 (n : Int) : toK .u16 (.i n) = some (.w16 (BitVec.ofInt 16 n)) := (rfl)
theorem c_w16_i (a : BitVec 16) : toK .i64 (.w16 a) = some (.i (a.toNat : Int)) := (rfl)
theorem b_add_w32 (P : Program) (t : TypeId) (a b : BitVec 32) : binT P .add t (.w32 a) (.w32 b) = some (.w32 (a + b)) := (rfl)
theorem b_sub_w32 (P : Program) (t : TypeId) (a b : BitVec 32) : binT P .sub t (.w32 a) (.w32 b) = some (.w32 (a - b)) := (rfl)
theorem b_mul_w32 (P : Program) (t : TypeId) (a b : BitVec 32) : binT P .mul t (.w32 a) (.w32 b) = some (.w32 (a * b)) := (rfl)
theorem b_and_w32 (P : Program) (t : TypeId) (a b : BitVec 32) : binT P .and t (.w32 a) (.w32 b) = some (.w32 (a &&& b)) := (rfl)
theorem b_or_w32 (P : Program) (t : TypeId) (a b : BitVec 32) : binT P .or t (.w32 a) (.w32 b) = some (.w32 (a ||| b)) := (rfl)
theorem b_xor_w32 (P : Program) (t : TypeId) (a b : BitVec 32) : binT P .xor t (.w32 a) (.w32 b) = some (.w32 (a ^^^ b)) := (rfl)
theorem b_andNot_w32 (P : Program) (t : TypeId) (a b : BitVec 32) : binT P .andNot t (.w32 a) (.w32 b) = some (.w32 (a &&& ~~~b)) := (rfl)
theorem b_quo_w32 (P : Program) (t : TypeId) (a b : BitVec 32) : binT P .quo t (.w32 a) (.w32 b) = if b = 0#32 then none else some (.w32 (a / b)) := (rfl)
theorem b_rem_w32 (P : Program) (t : TypeId) (a b : BitVec 32) : binT P .rem t (.w32 a) (.w32 b) = if b = 0#32 then none else some (.w32 (a % b)) := (rfl)
theorem b_eql_w32 (P : Program) (t : TypeId) (a b : BitVec 32) : binT P .eql t (.w32 a) (.w32 b) = some (.b (decide (a = b))) := (rfl)
theorem b_neq_w32 (P : Program) (t : TypeId) (a b : BitVec 32) : binT P .neq t (.w32 a) (.w32 b) = some (.b (!decide (a = b))) := (rfl)
theorem b_lss_w32 (P : Program) (t : TypeId) (a b : BitVec 32) : binT P .lss t (.w32 a) (.w32 b) = some (.b (decide (a < b))) := (rfl)
theorem b_leq_w32 (P : Program) (t : TypeId) (a b : BitVec 32) : binT P .leq t (.w32 a) (.w32 b) = some (.b (decide (a ≤ b))) := (rfl)
theorem b_gtr_w32 (P : Program) (t : TypeId) (a b : BitVec 32) : binT P .gtr t (.w32 a) (.w32 b) = some (.b (decide (b < a))) := (rfl)
theorem b_geq_w32 (P : Program) (t : TypeId) (a b : BitVec 32) : binT P .geq t (.w32 a) (.w32 b) = some (.b (decide (b ≤ a))) := (rfl)
theorem b_shl_w32_i (P : Program) (t : TypeId) (a : BitVec 32) (n : Int) (h : 0 ≤ n) : binT P .shl t (.w32 a) (.i n) = some (.w32 (a <<< n.toNat)) := by simp [binT, bin, shl, shAmt, h]
theorem b_shl_w32_w8 (P : Program) (t : TypeId) (a : BitVec 32) (n : BitVec 8) : binT P .shl t (.w32 a) (.w8 n) = some (.w32 (a <<< n.toNat)) := (rfl)
theorem b_shl_w32_w16 (P : Program) (t : TypeId) (a : BitVec 32) (n : BitVec 16) : binT P .shl t (.w32 a) (.w16 n) = some (.w32 (a <<< n.toNat)) := (rfl)
theorem b_shl_w32_w32 (P : Program) (t : TypeId) (a : BitVec 32) (n : BitVec 32) : binT P .shl t (.w32 a) (.w32 n) = some (.w32 (a <<< n.toNat)) := (rfl)
theorem b_shl_w32_w64 (P : Program) (t : TypeId) (a : BitVec 32) (n : BitVec 64) : binT P .shl t (.w32 a) (.w64 n) = some (.w32 (a <<< n.toNat)) := (rfl)
theorem b_shr_w32_i (P : Program) (t : TypeId) (a : BitVec 32) (n : Int) (h : 0 ≤ n) : binT P .shr t (.w32 a) (.i n) = some (.w32 (a >>> n.toNat)) := by simp [binT, bin, shr, shAmt, h]
theorem b_shr_w32_w8 (P : Program) (t : TypeId) (a : BitVec 32) (n : BitVec 8) : binT P .shr t (.w32 a) (.w8 n) = some (.w32 (a >>> n.toNat)) := (rfl)
theorem b_shr_w32_w16 (P : Program) (t : TypeId) (a : BitVec 32) (n : BitVec 16) : binT P .shr t (.w32 a) (.w16 n) = some (.w32 (a >>> n.toNat)) := (rfl)
theorem b_shr_w32_w32 (P : Program) (t : TypeId) (a : BitVec 32) (n : BitVec 32) : binT P .shr t (.w32 a) (.w32 n) = some (.w32 (a >>> n.toNat)) := (rfl)
theorem b_shr_w32_w64 (P : Program) (t : TypeId) (a : BitVec 32) (n : BitVec 64) : binT P .shr t (.w32 a) (.w64 n) = some (.w32 (a >>> n.toNat)) := (rfl)
theorem u_xor_w32 (a : BitVec 32) : un .xor (.w32 a) = some (.w32 (~~~a)) := (rfl)
theorem u_neg_w32 (a : BitVec 32) : un .neg (.w32 a) = some (.w32 (0#32 - a)) := (rfl)
theorem ix_w32 (a : BitVec 32) : ix (.w32 a) = some (a.toNat : Int) := (rfl)
theorem c_w32_w8 (a : BitVec 32) : toK .u8 (.w32 a) = some (.w8 (a.setWidth 8)) := (rfl)
theorem c_w32_w16 (a : BitVec 32) : toK .u16 (.w32 a) = some (.w16 (a.setWidth 16)) := (rfl)
theorem c_w32_w32 (a : BitVec 32) : toK .u32 (.w32 a) = some (.w32 a) := (rfl)
theorem c_w32_w64 (a : BitVec 32) : toK .u64 (.w32 a) = some (.w64 (a.setWidth 64)) := (rfl)
theorem c_i_w32 (n : Int) : toK .u32 (.i n) = some (.w32 (BitVec.ofInt 32 n)) := (rfl)
theorem c_w32_i (a : BitVec 32) : toK .i64 (.w32 a) = some (.i (a.toNat : Int)) := (rfl)
theorem b_add_w64 (P : Program) (t : TypeId) (a b : BitVec 64) : binT P .add t (.w64 a) (.w64 b) = some (.w64 (a + b)) := (rfl)
theorem b_sub_w64 (P : Program) (t : TypeId) (a b : BitVec 64) : binT P .sub t (.w64 a) (.w64 b) = some (.w64 (a - b)) := (rfl)
theorem b_mul_w64 (P : Program) (t : TypeId) (a b : BitVec 64) : binT P .mul t (.w64 a) (.w64 b) = some (.w64 (a * b)) := (rfl)
theorem b_and_w64 (P : Program) (t : TypeId) (a b : BitVec 64) : binT P .and t (.w64 a) (.w64 b) = some (.w64 (a &&& b)) := (rfl)
theorem b_or_w64 (P : Program) (t : TypeId) (a b : BitVec 64) : binT P .or t (.w64 a) (.w64 b) = some (.w64 (a ||| b)) := (rfl)
theorem b_xor_w64 (P : Program) (t : TypeId) (a b : BitVec 64) : binT P .xor t (.w64 a) (.w64 b) = some (.w64 (a ^^^ b)) := (rfl)
theorem b_andNot_w64 (P : Program) (t : TypeId) (a b : BitVec 64) : binT P .andNot t (.w64 a) (.w64 b) = some (.w64 (a &&& ~~~b)) := (rfl)
theorem b_quo_w64 (P : Program) (t : TypeId) (a b : BitVec 64) : binT P .quo t (.w64 a) (.w64 b) = if b = 0#64 then none else some (.w64 (a / b)) := (rfl)
theorem b_rem_w64 (P : Program) (t : TypeId) (a b : BitVec 64) : binT P .rem t (.w64 a) (.w64 b) = if b = 0#64 then none else some (.w64 (a % b)) := (rfl)
theorem b_eql_w64 (P : Program) (t : TypeId) (a b : BitVec 64) : binT P .eql t (.w64 a) (.w64 b) = some (.b (decide (a = b))) := (rfl)
theorem b_neq_w64 (P : Program) (t : TypeId) (a b : BitVec 64) : binT P .neq t (.w64 a) (.w64 b) = some (.b (!decide (a = b))) := (rfl)
theorem b_lss_w64 (P : Program) (t : TypeId) (a b : BitVec 64) : binT P .lss t (.w64 a) (.w64 b) = some (.b (decide (a < b))) := (rfl)
theorem b_leq_w64 (P : Program) (t : TypeId) (a b : BitVec 64) : binT P .leq t (.w64 a) (.w64 b) = some (.b (decide (a ≤ b))) := (rfl)
theorem b_gtr_w64 (P : Program) (t : TypeId) (a b : BitVec 64) : binT P .gtr t (.w64 a) (.w64 b) = some (.b (decide (b < a))) := (rfl)
theorem b_geq_w64 (P : Program) (t : TypeId) (a b : BitVec 64) : binT P .geq t (.w64 a) (.w64 b) = some (.b (decide (b ≤ a))) := (rfl)
theorem b_shl_w64_i (P : Program) (t : TypeId) (a : BitVec 64) (n : Int) (h : 0 ≤ n) : binT P .shl t (.w64 a) (.i n) = some (.w64 (a <<< n.toNat)) := by simp [binT, bin, shl, shAmt, h]
theorem b_shl_w64_w8 (P : Program) (t : TypeId) (a : BitVec 64) (n : BitVec 8) : binT P .shl t (.w64 a) (.w8 n) = some (.w64 (a <<< n.toNat)) := (rfl)
theorem b_shl_w64_w16 (P : Program) (t : TypeId) (a : BitVec 64) (n : BitVec 16) : binT P .shl t (.w64 a) (.w16 n) = some (.w64 (a <<< n.toNat)) := (rfl)
theorem b_shl_w64_w32 (P : Program) (t : TypeId) (a : BitVec 64) (n : BitVec 32) : binT P .shl t (.w64 a) (.w32 n) = some (.w64 (a <<< n.toNat)) := (rfl)
theorem b_shl_w64_w64 (P : Program) (t : TypeId) (a : BitVec 64) (n : BitVec 64) : binT P .shl t (.w64 a) (.w64 n) = some (.w64 (a <<< n.toNat)) := (rfl)
theorem b_shr_w64_i (P : Program) (t : TypeId) (a : BitVec 64) (n : Int) (h : 0 ≤ n) : binT P .shr t (.w64 a) (.i n) = some (.w64 (a >>> n.toNat)) := by simp [binT, bin, shr, shAmt, h]
theorem b_shr_w64_w8 (P : Program) (t : TypeId) (a : BitVec 64) (n : BitVec 8) : binT P .shr t (.w64 a) (.w8 n) = some (.w64 (a >>> n.toNat)) := (rfl)
theorem b_shr_w64_w16 (P : Program) (t : TypeId) (a : BitVec 64) (n : BitVec 16) : binT P .shr t (.w64 a) (.w16 n) = some (.w64 (a >>> n.toNat)) := (rfl)
theorem b_shr_w64_w32 (P : Program) (t : TypeId) (a : BitVec 64) (n : BitVec 32) : binT P .shr t (.w64 a) (.w32 n) = some (.w64 (a >>> n.toNat)) := (rfl)
theorem b_shr_w64_w64 (P : Program) (t : TypeId) (a : BitVec 64) (n : BitVec 64) : binT P .shr t (.w64 a) (.w64 n) = some (.w64 (a >>> n.toNat)) := (rfl)
theorem u_xor_w64 (a : BitVec 64) : un .xor (.w64 a) = some (.w64 (~~~a)) := (rfl)
theorem u_neg_w64 (a : BitVec 64) : un .neg (.w64 a) = some (.w64 (0#64 - a)) := (rfl)
theorem ix_w64 (a : BitVec 64) : ix (.w64 a) = some (a.toNat : Int) := (rfl)
theorem c_w64_w8 (a : BitVec 64) : toK .u8 (.w64 a) = some (.w8 (a.setWidth 8)) := (rfl)
theorem c_w64_w16 (a : BitVec 64) : toK .u16 (.w64 a) = some (.w16 (a.setWidth 16)) := (rfl)
theorem c_w64_w32 (a : BitVec 64) : toK .u32 (.w64 a) = some (.w32 (a.setWidth 32)) := (rfl)
theorem c_w64_w64 (a : BitVec 64) : toK .u64 (.w64 a) = some (.w64 a) := (rfl)
theorem c_i_w64 (n : Int) : toK .u64 (.i n) = some (.w64 (BitVec.ofInt 64 n)) := (rfl)
theorem c_w64_i (a : BitVec 64) : toK .i64 (.w64 a) = some (.i (W (a.toNat : Int))) := (rfl)
theorem c_i_i (n : Int) : toK .i64 (.i n) = some (.i (W n)) := (rfl)
theorem ix_i (n : Int) : ix (.i n) = some n := (rfl)
theorem b_add_i (P : Program) (t : TypeId) (a b : Int) : binT P .add t (.i a) (.i b) = some (.i (W (a + b))) := (rfl)
theorem b_sub_i (P : Program) (t : TypeId) (a b : Int) : binT P .sub t (.i a) (.i b) = some (.i (W (a - b))) := (rfl)
theorem b_mul_i (P : Program) (t : TypeId) (a b : Int) : binT P .mul t (.i a) (.i b) = some (.i (W (a * b))) := (rfl)
theorem b_and_i (P : Program) (t : TypeId) (a b : Int) : binT P .and t (.i a) (.i b) = some (.i (iand a b)) := (rfl)
theorem b_or_i (P : Program) (t : TypeId) (a b : Int) : binT P .or t (.i a) (.i b) = some (.i (ior a b)) := (rfl)
theorem b_xor_i (P : Program) (t : TypeId) (a b : Int) : binT P .xor t (.i a) (.i b) = some (.i (ixor a b)) := (rfl)
theorem b_eql_i (P : Program) (t : TypeId) (a b : Int) : binT P .eql t (.i a) (.i b) = some (.b (decide (a = b))) := (rfl)
theorem b_neq_i (P : Program) (t : TypeId) (a b : Int) : binT P .neq t (.i a) (.i b) = some (.b (!decide (a = b))) := (rfl)
theorem b_lss_i (P : Program) (t : TypeId) (a b : Int) : binT P .lss t (.i a) (.i b) = some (.b (decide (a < b))) := (rfl)
theorem b_leq_i (P : Program) (t : TypeId) (a b : Int) : binT P .leq t (.i a) (.i b) = some (.b (decide (a ≤ b))) := (rfl)
theorem b_gtr_i (P : Program) (t : TypeId) (a b : Int) : binT P .gtr t (.i a) (.i b) = some (.b (decide (b < a))) := (rfl)
theorem b_geq_i (P : Program) (t : TypeId) (a b : Int) : binT P .geq t (.i a) (.i b) = some (.b (decide (b ≤ a))) := (rfl)
theorem b_quo_i (P : Program) (t : TypeId) (a b : Int) : binT P .quo t (.i a) (.i b) = if b = 0 then none else some (.i (W (a.tdiv b))) := (rfl)
theorem b_rem_i (P : Program) (t : TypeId) (a b : Int) : binT P .rem t (.i a) (.i b) = if b = 0 then none else some (.i (a.tmod b)) := (rfl)
theorem b_shl_i_i (P : Program) (t : TypeId) (a n : Int) (h : 0 ≤ n) : binT P .shl t (.i a) (.i n) = some (.i (W (a * 2 ^ (min n.toNat 64)))) := by simp [binT, bin, shl, shAmt, h]
theorem b_shr_i_i (P : Program) (t : TypeId) (a n : Int) (h : 0 ≤ n) : binT P .shr t (.i a) (.i n) = some (.i (a.fdiv (2 ^ (min n.toNat 64)))) := by simp [binT, bin, shr, shAmt, h]
theorem b_shl_i_w64 (P : Program) (t : TypeId) (a : Int) (n : BitVec 64) : binT P .shl t (.i a) (.w64 n) = some (.i (W (a * 2 ^ (min n.toNat 64)))) := (rfl)
theorem b_shr_i_w64 (P : Program) (t : TypeId) (a : Int) (n : BitVec 64) : binT P .shr t (.i a) (.w64 n) = some (.i (a.fdiv (2 ^ (min n.toNat 64)))) := (rfl)
theorem b_add_s (P : Program) (t : TypeId) (a b : List (BitVec 8)) : binT P .add t (.s a) (.s b) = if a.length + b.length ≤ 9223372036854775807 then some (.s (a ++ b)) else none := (rfl)
theorem b_eql_s (P : Program) (t : TypeId) (a b : List (BitVec 8)) : binT P .eql t (.s a) (.s b) = some (.b (decide (a = b))) := (rfl)
theorem b_neq_s (P : Program) (t : TypeId) (a b : List (BitVec 8)) : binT P .neq t (.s a) (.s b) = some (.b (!decide (a = b))) := (rfl)
theorem b_lss_s (P : Program) (t : TypeId) (a b : List (BitVec 8)) : binT P .lss t (.s a) (.s b) = some (.b (bless a b)) := (rfl)
theorem b_leq_s (P : Program) (t : TypeId) (a b : List (BitVec 8)) : binT P .leq t (.s a) (.s b) = some (.b (bless a b || decide (a = b))) := (rfl)
theorem b_gtr_s (P : Program) (t : TypeId) (a b : List (BitVec 8)) : binT P .gtr t (.s a) (.s b) = some (.b (!(bless a b || decide (a = b)))) := (rfl)
theorem b_geq_s (P : Program) (t : TypeId) (a b : List (BitVec 8)) : binT P .geq t (.s a) (.s b) = some (.b (!bless a b)) := (rfl)
theorem b_eql_b (P : Program) (t : TypeId) (a b : Bool) (h : P.underlying t = some .bool) : binT P .eql t (.b a) (.b b) = some (.b (a == b)) := by simp [binT, isBoolT, h, guardO]
theorem b_neq_b (P : Program) (t : TypeId) (a b : Bool) (h : P.underlying t = some .bool) : binT P .neq t (.b a) (.b b) = some (.b (!(a == b))) := by simp [binT, isBoolT, h, guardO]
theorem u_neg_i (a : Int) : un .neg (.i a) = some (.i (W (0 - a))) := (rfl)
theorem u_not_b (a : Bool) : un .not (.b a) = some (.b (!a)) := (rfl)

def nilC : AV → Option AV
  | .op id off => some (.op id off)
  | .rp xs => some (.rp xs)
  | _ => none
def pickC : AV → AV → AV → Option AV
  | .b t, a, b => some (if t then a else b)
  | _, _, _ => none
def loadF (P : Program) (t : TypeId) (hp : H) : AV → Option AV
  | .rp ys => ldV P t ys
  | .op id off => obind (hp id) fun o => match o with | .cells xs _ => ldV P t (xs.drop off) | _ => none
  | _ => none
def loadO (P : Program) (t : TypeId) (off : Nat) : AO → Option AV
  | .cells xs _ => ldV P t (xs.drop off)
  | _ => none
def iaF (P : Program) (x : AV) (j : Int) : Option TypeDesc → Option AV
  | some (.slice e) => obind (szOf P e) fun z => match x with
      | .sl n xs => guardO (0 ≤ j ∧ j < n) (some (.rp (xs.drop (j.toNat * z))))
      | .os id off n e' _ => guardO (e' = z ∧ 0 ≤ j ∧ j < n) (some (.op id (off + j.toNat * z)))
      | _ => none
  | some (.array n e) => obind (szOf P e) fun z => guardO (0 ≤ j ∧ j < n) (match x with
      | .rp xs => some (.rp (xs.drop (j.toNat * z)))
      | .op id off => some (.op id (off + j.toNat * z))
      | _ => none)
  | _ => none
def idF (P : Program) (x : AV) (j : Int) : Option TypeDesc → Option AV
  | some (.array n e) => obind (szOf P e) fun z => guardO (0 ≤ j ∧ j < n) (match x with
      | .agg cs => ldV P e (cs.drop (j.toNat * z))
      | _ => none)
  | some .string => match x with
      | .s l => guardO (0 ≤ j) (obind l[j.toNat]? fun c => some (.w8 c))
      | _ => none
  | _ => none
def spF (x : AV) : Option TypeDesc → Option AV
  | some (.array n _) => guardO (0 < n) (match x with
      | .sl m xs => guardO (n ≤ m) (some (.rp xs))
      | .os id off m _ _ => guardO (n ≤ m) (some (.op id off))
      | _ => none)
  | _ => none
def faF (P : Program) (x : AV) (f : Nat) : Option TypeDesc → Option AV
  | some (.struct fs) => obind fs[f]? fun fd => obind (szOf P fd.type) fun n => guardO (0 < n) (match x with
      | .op id off => some (.op id (off + fd.offset))
      | .rp xs => some (.rp (xs.drop fd.offset))
      | _ => none)
  | _ => none
def fdF (P : Program) (x : AV) (f : Nat) : Option TypeDesc → Option AV
  | some (.struct fs) => obind fs[f]? fun fd => match x with
      | .agg cs => ldV P fd.type (cs.drop fd.offset)
      | _ => none
  | _ => none
def exF (k : Nat) : AV → Option AV
  | .tup xs => xs[k]?
  | _ => none
def ldF (P : Program) (t : TypeId) (ys : List AV) : Option Bool → Option AV
  | some true => obind (szOf P t) fun n => guardO (n ≤ ys.length) (some (.agg (ys.take n)))
  | some false => ys.head?
  | none => none
def slF (P : Program) (x : AV) (lo hi : Option AV) : Option TypeDesc → Option AV
  | some (.slice e) => obind (szOf P e) fun z => match x with
    | .sl n xs => obind (loIx lo) fun l => obind (hiIx hi n) fun h => guardO (0 ≤ l ∧ l ≤ h ∧ h ≤ n) (some (.sl (h.toNat - l.toNat) ((xs.drop (l.toNat * z)).take ((h.toNat - l.toNat) * z))))
    | .os id off n e' g => obind (loIx lo) fun l => obind (hiIx hi n) fun h => guardO (e' = z ∧ 0 ≤ l ∧ l ≤ h ∧ h ≤ n) (some (.os id (off + l.toNat * z) (h.toNat - l.toNat) z g))
    | .v (.slice none 0 0) => obind (loIx lo) fun l => obind (hiIx hi 0) fun h => guardO (0 ≤ l ∧ l ≤ h ∧ h ≤ 0) (some (.v (.slice none 0 0)))
    | _ => none
  | some (.array n e) => obind (szOf P e) fun z => obind (loIx lo) fun l => obind (hiIx hi n) fun h => guardO (0 ≤ l ∧ l ≤ h ∧ h ≤ n) (match x with
    | .rp xs => some (.sl (h.toNat - l.toNat) ((xs.drop (l.toNat * z)).take ((h.toNat - l.toNat) * z)))
    | .op id off => some (.os id (off + l.toNat * z) (h.toNat - l.toNat) z false)
    | _ => none)
  | some .string => match x with
    | .s c => obind (loIx lo) fun l => obind (hiIx hi c.length) fun h => guardO (0 ≤ l ∧ l ≤ h ∧ h ≤ c.length) (some (.s ((c.drop l.toNat).take (h.toNat - l.toNat))))
    | _ => none
  | _ => none
def cpO (i off n e' z m : Nat) (ys : List AV) (hp : H) : AO → Option (AV × H)
  | .cells xs mt => guardO (mt = true ∧ e' = z ∧ off + n * z ≤ xs.length) (some (.i (min m n : Nat), upd hp i (.cells (splice xs off (ys.take (min m n * z))) true)))
  | _ => none
def cpF (P : Program) (hp : H) (x y : AV) : Option TypeDesc → Option (AV × H)
  | some (.slice e) => obind (szOf P e) fun z => obind (srcA hp z y) fun my => match x with
    | .os i off n e' _ => obind (hp i) (cpO i off n e' z my.1 my.2 hp)
    | _ => none
  | _ => none
def bsF (P : Program) (len : Nat) (ps : List (Nat × AV)) : Option TypeDesc → Option (Nat × List AV)
  | some (.slice e) => obind (szOf P e) fun z => guardO (0 < z ∧ len * z ≤ 16777216) (obind (zcells P e) fun zs => guardO (zs.length = z)
      (obind (fillA (fun k => some (k * z, z)) (rep len zs) ps) fun cs => some (z, cs)))
  | _ => none
def sq1 : Option (List AV) → Option AV
  | some [c] => some c
  | _ => none
def bdS (z m : Nat) (zs : List AV) (ps : List (Nat × AV)) : Option (List AV) → Option AV
  | some cs => some (.agg cs)
  | none => obind (fillA (fun k => some (k * z, z)) zs ps) fun cs => guardO (0 < m) (some (.agg cs))
def bdF (P : Program) (n : Nat) (ps : List (Nat × AV)) : Option (List AV) → Option TypeDesc → Option AV
  | some zs, some (.struct fs) => obind (fillA (fun k => obind fs[k]? fun fd => obind (szOf P fd.type) fun n => some (fd.offset, n)) zs ps) fun cs =>
        guardO (fs.toList.all (fun fd => (szOf P fd.type).isSome) = true) (some (.agg cs))
  | some zs, some (.array m e) => obind (szOf P e) fun z => bdS z m zs ps (if z = 1 ∧ zs.length = n then seqA 0 ps else none)
  | _, _ => none
def stF (z : Option Nat) (hp : H) (cx : Nat) : AV → Option (List AV) → Option (AV × H × Nat)
  | .op i off, some cs => obind z fun z => obind (hp i) fun o => match o with
      | .cells xs mt => guardO (mt = true ∧ cs.length = z ∧ off + z ≤ xs.length) (some (.junk, upd hp i (.cells (storeL xs off cs) true), cx))
      | _ => none
  | _, _ => none
def stO (z : Nat) (hp : H) (cx i off : Nat) (cs : List AV) : AO → Option (AV × H × Nat)
  | .cells xs mt => guardO (mt = true ∧ cs.length = z ∧ off + z ≤ xs.length) (some (.junk, upd hp i (.cells (storeL xs off cs) true), cx))
  | _ => none
def capF (d : Option TypeDesc) (x : AV) : Option AV :=
  match d, x with
  | some (.slice _), .v (.slice none 0 0) => some (.i 0)
  | _, _ => none
def lenF (x : AV) : Option TypeDesc → Option AV
  | some (.slice _) => match x with
    | .sl n _ => some (.i n)
    | .os _ _ n _ _ => some (.i n)
    | .v (.slice none 0 0) => some (.i 0)
    | _ => none
  | some .string => match x with | .s l => some (.i l.length) | _ => none
  | some (.array n _) => some (.i n)
  | _ => none
def apO (z by_ id off n e' : Nat) (g : Bool) (i : Nat) (m : Nat) (ys : List AV) (hp : H) : AO → Option (AV × H)
  | .cells xs mt => guardO (mt = true ∧ g = true ∧ e' = z ∧ off + n * z = xs.length ∧ n + m ≤ 140737488355328 ∧ (n + m) * by_ ≤ 140737488355328)
          (some (.os id 0 (n + m) z true, upd (del hp i) id (.cells (xs.drop off ++ ys) true)))
  | _ => none
def apF (P : Program) (hp : H) (id : Nat) (x y : AV) : Option TypeDesc → Option (AV × H)
  | some (.slice e) => obind (szOf P e) fun z => obind (byOf P e) fun by_ => obind (zcells P e) fun zs => guardO (0 < z ∧ zs.length = z) (obind (srcA hp z y) fun my => obind (frzL hp my.2) fun fy => apTl z by_ x my.1 fy.1 fy.2 id)
  | _ => none
def azF (P : Program) (hp : H) (id : Nat) (x y : AV) : Option TypeDesc → Option (AV × H)
  | some (.slice e) => obind (szOf P e) fun z => obind (byOf P e) fun by_ => obind (zcells P e) fun zs => guardO (0 < z ∧ zs.length = z) (obind (cntA y) fun m => guardO (m ≤ 140737488355328 ∧ m * by_ ≤ 140737488355328) (apTail z by_ x m (rep m zs) hp id))
  | _ => none
def apU (P : Program) (hp : H) (id : Nat) (x y : AV) (t : TypeId) : Option TypeDesc → Option (AV × H)
  | some (.int _) => azF P hp id x y (P.underlying t)
  | some _ => apF P hp id x y (P.underlying t)
  | none => none
def mkO (i off n e' : Nat) (g : Bool) (hp : H) : AO → Option (AV × H)
  | .cells xs mt => guardO (mt = true ∧ 0 < n) (some (.os i off n e' g, upd hp i (.cells xs true)))
  | _ => none
def mkG (hp : H) : AV → Option (AV × H)
  | .os i off n e' g => obind (hp i) fun o => match o with
      | .cells xs mt => guardO (mt = true ∧ 0 < n) (some (.os i off n e' g, upd hp i (.cells xs true)))
      | _ => none
  | _ => none
def mkF (hp : H) (x : AV) : Option TypeDesc → Option (AV × H)
  | some (.int .u8) => mkG hp x
  | _ => none
def cvF (hp hp2 : H) (cx id : Nat) (x : AV) (ue : TypeId → Option TypeDesc) (sd : Bool) : Option TypeDesc → Option TypeDesc → Option (AV × H × Nat)
  | some _, some (.int k) => obind (toK k x) fun y => some (y, hp, cx)
  | some (.slice e), some .string => match ue e with
      | some (.int .u8) => obind (obind (slCells hp2 1 x) fun nl => obind (unW8 nl.2) fun l => some (.s l)) fun y => some (y, hp, cx)
      | _ => none
  | some .string, some (.slice e) => match ue e, x with
      | some (.int .u8), .s l => guardO (l.length ≤ 140737488355328) (some (.os id 0 l.length 1 true, upd hp id (.cells (l.map .w8) true), cx))
      | _, _ => none
  | some (.slice _), some (.slice e) => guardO (sd = true) (obind (mkF hp x (ue e)) fun p => some (p.1, p.2, cx))
  | some _, some .string => match x with | .s l => some (.s l, hp, cx) | _ => none
  | _, _ => none

def msF (P : Program) (id : Nat) (l c : AV) : Option TypeDesc → Option (AV × List AV)
  | some (.slice e) => obind (szOf P e) fun z => obind (byOf P e) fun by_ => obind (zcells P e) fun zs => obind (ix l) fun l => obind (ix c) fun c =>
      guardO (0 < z ∧ zs.length = z ∧ 0 ≤ l ∧ l ≤ c ∧ c ≤ 140737488355328 ∧ c * by_ ≤ 140737488355328) (some (.os id 0 l.toNat z true, rep l.toNat zs))
  | _ => none
theorem e_move {P : Program} {Γ : Env} {ρ : Operand → AV} {m nx n id cx : Nat} {hp : H} {x : Operand} : eff P Γ (.move x) ρ m nx n hp id cx = some (ρ x, hp, cx) := (rfl)
theorem e_assign {P : Program} {Γ : Env} {ρ : Operand → AV} {m nx n id cx : Nat} {hp : H} {x : Operand} : eff P Γ (.assign x) ρ m nx n hp id cx = some (ρ x, hp, cx) := (rfl)
theorem e_bin {P : Program} {Γ : Env} {ρ : Operand → AV} {m nx n id cx : Nat} {hp : H} {o : BinOp} {t ty : TypeId} {x y : Operand} : eff P Γ (.binOp o t x y ty) ρ m nx n hp id cx = obind (binT P o t (ρ x) (ρ y)) fun y => some (y, hp, cx) := (rfl)
theorem e_un {P : Program} {Γ : Env} {ρ : Operand → AV} {m nx n id cx : Nat} {hp : H} {o : UnOp} {t : TypeId} {x : Operand} : eff P Γ (.unOp o t x) ρ m nx n hp id cx = obind (un o (ρ x)) fun y => some (y, hp, cx) := (rfl)
theorem e_nil {P : Program} {Γ : Env} {ρ : Operand → AV} {m nx n id cx : Nat} {hp : H} {x : Operand} : eff P Γ (.nilCheck x) ρ m nx n hp id cx = obind (nilC (ρ x)) fun y => some (y, hp, cx) := by simp only [eff, cls, pureOp]; cases ρ x <;> rfl
theorem e_pick {P : Program} {Γ : Env} {ρ : Operand → AV} {m nx n id cx : Nat} {hp : H} {c x y : Operand} : eff P Γ (.pick c x y) ρ m nx n hp id cx = obind (pickC (ρ c) (ρ x) (ρ y)) fun y => some (y, hp, cx) := by simp only [eff, cls, pureOp]; cases ρ c <;> rfl
theorem e_load {P : Program} {Γ : Env} {ρ : Operand → AV} {m nx n id cx : Nat} {hp : H} {t : TypeId} {x : Operand} : eff P Γ (.load t x) ρ m nx n hp id cx = obind (loadF P t (hsel m nx n hp) (ρ x)) fun y => some (y, hp, cx) := by simp only [eff, cls, readOp]; cases ρ x <;> rfl
theorem e_ia {P : Program} {Γ : Env} {ρ : Operand → AV} {m nx n id cx : Nat} {hp : H} {t : TypeId} {x j : Operand} : eff P Γ (.indexAddr t x j) ρ m nx n hp id cx = obind (ix (ρ j)) fun j => obind (iaF P (ρ x) j (P.underlying t)) fun y => some (y, hp, cx) := by
  simp only [eff, cls, pureOp]
  cases ix (ρ j) with
  | none => rfl
  | some j => simp only [obind_some]; cases P.underlying t with
    | none => rfl
    | some d => cases d <;> rfl
theorem e_idx {P : Program} {Γ : Env} {ρ : Operand → AV} {m nx n id cx : Nat} {hp : H} {t : TypeId} {x j : Operand} : eff P Γ (.index t x j) ρ m nx n hp id cx = obind (ix (ρ j)) fun j => obind (idF P (ρ x) j (P.underlying t)) fun y => some (y, hp, cx) := by
  simp only [eff, cls, pureOp]
  cases ix (ρ j) with
  | none => rfl
  | some j => simp only [obind_some]; cases P.underlying t with
    | none => rfl
    | some d => cases d <;> rfl
theorem e_sp {P : Program} {Γ : Env} {ρ : Operand → AV} {m nx n id cx : Nat} {hp : H} {t : TypeId} {x : Operand} : eff P Γ (.sliceToArrayPointer t x) ρ m nx n hp id cx = obind (spF (ρ x) (P.underlying t)) fun y => some (y, hp, cx) := by
  simp only [eff, cls, pureOp]; cases P.underlying t with
  | none => rfl
  | some d => cases d <;> rfl
theorem e_fa {P : Program} {Γ : Env} {ρ : Operand → AV} {m nx n id cx : Nat} {hp : H} {t : TypeId} {x : Operand} {f : Nat} : eff P Γ (.fieldAddr t x f) ρ m nx n hp id cx = obind (faF P (ρ x) f (P.underlying t)) fun y => some (y, hp, cx) := by
  simp only [eff, cls, pureOp]; cases P.underlying t with
  | none => rfl
  | some d => cases d <;> rfl
theorem e_fd {P : Program} {Γ : Env} {ρ : Operand → AV} {m nx n id cx : Nat} {hp : H} {t : TypeId} {x : Operand} {f : Nat} : eff P Γ (.field t x f) ρ m nx n hp id cx = obind (fdF P (ρ x) f (P.underlying t)) fun y => some (y, hp, cx) := by
  simp only [eff, cls, pureOp]; cases P.underlying t with
  | none => rfl
  | some d => cases d <;> rfl
theorem e_ex {P : Program} {Γ : Env} {ρ : Operand → AV} {m nx n id cx : Nat} {hp : H} {x : Operand} {k : Nat} : eff P Γ (.extract x k) ρ m nx n hp id cx = obind (exF k (ρ x)) fun y => some (y, hp, cx) := by simp only [eff, cls, pureOp]; cases ρ x <;> rfl
theorem e_slice {P : Program} {Γ : Env} {ρ : Operand → AV} {m nx n id cx : Nat} {hp : H} {t : TypeId} {x : Operand} {lo hi : Option Operand} : eff P Γ (.slice t x lo hi none) ρ m nx n hp id cx = obind (slF P (ρ x) (lo.map ρ) (hi.map ρ) (P.underlying t)) fun y => some (y, hp, cx) := by
  simp only [eff, cls, pureOp, sliceA]
  cases P.underlying t with
  | none => rfl
  | some d => cases d <;> rfl
theorem e_alloc {P : Program} {Γ : Env} {ρ : Operand → AV} {m nx n id cx : Nat} {hp : H} {t : TypeId} : eff P Γ (.alloc t) ρ m nx n hp id cx = obind (zcells P t) fun zs => some (.op id 0, upd hp id (.cells zs true), cx) := by simp only [eff, cls, newOp]; cases zcells P t <;> rfl
theorem e_make {P : Program} {Γ : Env} {ρ : Operand → AV} {m nx n id cx : Nat} {hp : H} {t : TypeId} {l c : Operand} : eff P Γ (.makeSlice t l c) ρ m nx n hp id cx = obind (msF P id (ρ l) (ρ c) (P.underlying t)) fun p => some (p.1, upd hp id (.cells p.2 true), cx) := by simp only [eff, cls, newOp]; cases P.underlying t with | none => rfl | some d => cases d <;> rfl
theorem msF_sl (P id l c e) : msF P id l c (some (.slice e)) = obind (szOf P e) fun z => obind (byOf P e) fun by_ => obind (zcells P e) fun zs => obind (ix l) fun l => obind (ix c) fun c => guardO (0 < z ∧ zs.length = z ∧ 0 ≤ l ∧ l ≤ c ∧ c ≤ 140737488355328 ∧ c * by_ ≤ 140737488355328) (some (.os id 0 l.toNat z true, rep l.toNat zs)) := (rfl)
theorem e_box {P : Program} {Γ : Env} {ρ : Operand → AV} {m nx n id cx : Nat} {hp : H} {t : TypeId} {x : Operand} : eff P Γ (.box t x) ρ m nx n hp id cx = obind (cellsV (ρ x)) fun cs => some (.op id 0, upd hp id (.cells cs true), cx) := by simp only [eff, cls, newOp]; cases cellsV (ρ x) <;> rfl
theorem e_store {P : Program} {Γ : Env} {ρ : Operand → AV} {m nx n id cx : Nat} {hp : H} {t : TypeId} {a x : Operand} : eff P Γ (.store t a x) ρ m nx n hp id cx = stF (szOf P t) hp cx (ρ a) (cellsV (ρ x)) := by
  simp only [eff, cls, writeOp]
  cases ρ a with
  | op i off =>
    cases cellsV (ρ x) with
    | none => rfl
    | some cs =>
      cases szOf P t with
      | none => rfl
      | some z =>
        simp only [stF, obind_some]
        cases hp i with
        | none => rfl
        | some o => cases o <;> first | rfl | (simp only [obind_some, guardO]; split <;> rfl)
  | _ => rfl
theorem e_conv {P : Program} {Γ : Env} {ρ : Operand → AV} {m nx n id cx : Nat} {hp : H} {s d : TypeId} {x : Operand} : eff P Γ (.convert s d x) ρ m nx n hp id cx = cvF hp (hsel m nx n hp) cx id (ρ x) P.underlying (decide (s = d)) (P.underlying s) (P.underlying d) := by
  simp only [eff, cls, pureOp, readOp, newOp, writeOp]
  generalize hs : P.underlying s = us
  generalize hd : P.underlying d = ud
  cases us with
  | none => cases ud with
    | none => rfl
    | some b => cases b <;> rfl
  | some a =>
    cases ud with
    | none => cases a <;> rfl
    | some b =>
      cases b with
      | int k => cases a <;> rfl
      | string =>
        cases a with
        | slice e =>
          simp only [cvF]
          cases P.underlying e with
          | none => rfl
          | some f => cases f with
            | int k => cases k <;> rfl
            | _ => rfl
        | _ => simp only [cvF, obind_some]; cases ρ x <;> rfl
      | slice e =>
        cases a with
        | string =>
          simp only [cvF]
          cases P.underlying e with
          | none => rfl
          | some f => cases f with
            | int k =>
              cases k with
              | u8 => cases ρ x with
                | s l => simp only [guardO]; split <;> rfl
                | _ => rfl
              | _ => rfl
            | _ => rfl
        | slice e2 =>
          simp only [cvF, guardO, decide_eq_true_eq]
          by_cases hsd : s = d
          · rw [if_pos hsd, if_pos hsd]
            simp only [markA, mkF]
            cases P.underlying e with
            | none => rfl
            | some f => cases f with
              | int k =>
                cases k with
                | u8 => cases ρ x <;> rfl
                | _ => rfl
              | _ => rfl
          · rw [if_neg hsd, if_neg hsd]; rfl
        | _ => rfl
      | _ => cases a <;> rfl
theorem e_build {P : Program} {Γ : Env} {ρ : Operand → AV} {m nx n id cx : Nat} {hp : H} {t : TypeId} {parts : Array (Nat × Operand)} : eff P Γ (.build t parts) ρ m nx n hp id cx = obind (bdF P parts.size (parts.toList.map fun p => (p.1, ρ p.2)) (zcells P t) (P.underlying t)) fun y => some (y, hp, cx) := by
  simp only [eff, cls, pureOp]
  cases zcells P t with
  | none => rfl
  | some zs =>
    simp only [obind_some]
    cases P.underlying t with
    | none => rfl
    | some d =>
      cases d with
      | array m e =>
        simp only [bdF]
        cases szOf P e with
        | none => rfl
        | some z =>
          simp only [obind_some]
          split <;> (rename_i h; simp only [h, bdS, obind_some])
      | _ => rfl
theorem e_bslice {P : Program} {Γ : Env} {ρ : Operand → AV} {m nx n id cx : Nat} {hp : H} {t : TypeId} {len : Nat} {parts : Array (Nat × Operand)} : eff P Γ (.buildSlice t len parts) ρ m nx n hp id cx = obind (bsF P len (parts.toList.map fun p => (p.1, ρ p.2)) (P.underlying t)) fun p => some (.os id 0 len p.1 true, upd hp id (.cells p.2 true), cx) := by
  simp only [eff, cls, newOp]
  cases P.underlying t with
  | none => rfl
  | some d =>
    cases d with
    | slice e =>
      simp only [bsF]
      cases szOf P e with
      | none => rfl
      | some z =>
        simp only [obind_some, guardO]
        split
        · cases zcells P e with
          | none => rfl
          | some zs =>
            simp only [obind_some]
            split
            · cases fillA (fun k => some (k * z, z)) (rep len zs) (parts.toList.map fun p => (p.1, ρ p.2)) <;> rfl
            · rfl
        · rfl
    | _ => rfl
theorem e_call {P : Program} {Γ : Env} {ρ : Operand → AV} {m nx n id cx : Nat} {hp : H} {f : Operand} {args : Array Operand} {ats : Array TypeId} : eff P Γ (.call { callee := .value f, args := args, argTypes := ats }) ρ m nx n hp id cx = (match ρ f with | .fn f caps => callA Γ f (args.toList.map ρ ++ caps) m nx n hp id cx | _ => none) := (rfl)
theorem ea_call {P : Program} {Γ : Env} {GL : Nat → Option (List AV)} {fr : List (Nat × AV)} {m nx n id cx : Nat} {hp : H} {f : FuncId} {args : Array Operand} {ats : Array TypeId} : eff P Γ (.call { callee := .value (.func f), args := args, argTypes := ats }) (ev GL fr) m nx n hp id cx = callA Γ f (args.toList.map (ev GL fr)) m nx n hp id cx := by simp [eff, cls, callOp, ev]
def lenG (hp : H) (x : AV) : Option TypeDesc → Option AV
  | some (.map _ _) => obind (mpOf hp x) fun es => some (.i es.length)
  | d => lenF x d
theorem ea_len {P : Program} {Γ : Env} {ρ : Operand → AV} {m nx n id cx : Nat} {hp : H} {x : Operand} {t : TypeId} : eff P Γ (.call { callee := .builtin .len, args := #[x], argTypes := #[t] }) ρ m nx n hp id cx = obind (lenG (hsel m nx n hp) (ρ x) (P.underlying t)) fun y => some (y, hp, cx) := by
  simp only [eff, cls, isMapT, pureOp, readOp, callLen, lenA, lenMA, lenG, lenF]
  cases P.underlying t with
  | none => rfl
  | some d => cases d <;> rfl
theorem lenG_sl (hp x e) : lenG hp x (some (.slice e)) = lenF x (some (.slice e)) := (rfl)
theorem lenG_s (hp x) : lenG hp x (some .string) = lenF x (some .string) := (rfl)
theorem lenG_arr (hp x n e) : lenG hp x (some (.array n e)) = lenF x (some (.array n e)) := (rfl)
theorem lenG_map (hp x k e) : lenG hp x (some (.map k e)) = obind (mpOf hp x) fun es => some (.i es.length) := (rfl)
def mpO : AO → Option (List (AV × AV))
  | .mapo es _ => some es
  | _ => none
theorem mpOf_mp (hp : H) (id : Nat) : mpOf hp (.mp id) = obind (hp id) mpO := (rfl)
theorem mpOf_nil (hp : H) : mpOf hp (.v (.map none)) = some [] := (rfl)
theorem mpO_m (es mt) : mpO (.mapo es mt) = some es := (rfl)
theorem ea_cap {P : Program} {Γ : Env} {ρ : Operand → AV} {m nx n id cx : Nat} {hp : H} {x : Operand} {t : TypeId} : eff P Γ (.call { callee := .builtin .cap, args := #[x], argTypes := #[t] }) ρ m nx n hp id cx = obind (capF (P.underlying t) (ρ x)) fun y => some (y, hp, cx) := (rfl)
theorem capF_nil (e) : capF (some (.slice e)) (.v (.slice none 0 0)) = some (.i 0) := (rfl)
theorem ea_append {P : Program} {Γ : Env} {ρ : Operand → AV} {m nx n id cx : Nat} {hp : H} {x y : Operand} {t t2 : TypeId} : eff P Γ (.call { callee := .builtin .append, args := #[x, y], argTypes := #[t, t2] }) ρ m nx n hp id cx = obind (apU P hp id (ρ x) (ρ y) t (P.underlying t2)) fun p => some (p.1, p.2, cx) := by
  simp only [eff, cls, writeOp]
  congr 1
  cases h2 : P.underlying t2 with
  | none => simp [noIntT, isIntT, h2, guardO, apU]
  | some d =>
    cases d with
    | int k =>
      simp only [noIntT, isIntT, h2, guardO, apU, appendZ, azF]
      cases P.underlying t with
      | none => rfl
      | some d => cases d <;> rfl
    | _ =>
      simp only [noIntT, h2, apU, appendA, apF, if_true]
      cases P.underlying t with
      | none => rfl
      | some d => cases d <;> rfl
theorem ea_copy {P : Program} {Γ : Env} {ρ : Operand → AV} {m nx n id cx : Nat} {hp : H} {x y : Operand} {t t2 : TypeId} : eff P Γ (.call { callee := .builtin .copy, args := #[x, y], argTypes := #[t, t2] }) ρ m nx n hp id cx = obind (cpF P hp (ρ x) (ρ y) (P.underlying t)) fun p => some (p.1, p.2, cx) := by
  simp only [eff, cls, writeOp, copyA]
  cases P.underlying t with
  | none => rfl
  | some d => cases d <;> rfl
theorem nilC_op (id off : Nat) : nilC (.op id off) = some (.op id off) := (rfl)
theorem nilC_rp (xs : List AV) : nilC (.rp xs) = some (.rp xs) := (rfl)
theorem pickC_b (t : Bool) (a b : AV) : pickC (.b t) a b = some (if t then a else b) := (rfl)
theorem loadF_rp {P : Program} {hp : H} (t : TypeId) (ys : List AV) : loadF P t hp (.rp ys) = ldF P t ys (isAggT P t) := by simp only [loadF, ldV]; cases isAggT P t with | none => rfl | some b => cases b <;> rfl
theorem loadO_c {P : Program} (t : TypeId) (off : Nat) (xs : List AV) (mt : Bool) : loadO P t off (.cells xs mt) = ldF P t (xs.drop off) (isAggT P t) := by simp only [loadO, ldV]; cases isAggT P t with | none => rfl | some b => cases b <;> rfl
theorem loadF_op {P : Program} {hp : H} (t : TypeId) (id off : Nat) : loadF P t hp (.op id off) = obind (hp id) (loadO P t off) := (rfl)
theorem ldF_agg {P : Program} (t : TypeId) (ys : List AV) : ldF P t ys (some true) = obind (szOf P t) fun n => guardO (n ≤ ys.length) (some (.agg (ys.take n))) := (rfl)
theorem ldF_sc {P : Program} (t : TypeId) (ys : List AV) : ldF P t ys (some false) = ys.head? := (rfl)
theorem iaF_sl {P : Program} (n : Nat) (xs : List AV) (j : Int) (e : TypeId) : iaF P (.sl n xs) j (some (.slice e)) = obind (szOf P e) fun z => guardO (0 ≤ j ∧ j < n) (some (.rp (xs.drop (j.toNat * z)))) := (rfl)
theorem iaF_os {P : Program} (id off n e2 : Nat) (g : Bool) (j : Int) (e : TypeId) : iaF P (.os id off n e2 g) j (some (.slice e)) = obind (szOf P e) fun z => guardO (e2 = z ∧ 0 ≤ j ∧ j < n) (some (.op id (off + j.toNat * z))) := (rfl)
theorem iaF_rp {P : Program} (n : Nat) (xs : List AV) (j : Int) (e : TypeId) : iaF P (.rp xs) j (some (.array n e)) = obind (szOf P e) fun z => guardO (0 ≤ j ∧ j < n) (some (.rp (xs.drop (j.toNat * z)))) := (rfl)
theorem iaF_op {P : Program} (n id off : Nat) (j : Int) (e : TypeId) : iaF P (.op id off) j (some (.array n e)) = obind (szOf P e) fun z => guardO (0 ≤ j ∧ j < n) (some (.op id (off + j.toNat * z))) := (rfl)
theorem idF_agg {P : Program} (n : Nat) (xs : List AV) (j : Int) (e : TypeId) : idF P (.agg xs) j (some (.array n e)) = obind (szOf P e) fun z => guardO (0 ≤ j ∧ j < n) (ldF P e (xs.drop (j.toNat * z)) (isAggT P e)) := by simp only [idF, ldV]; cases isAggT P e with | none => rfl | some b => cases b <;> rfl
theorem idF_s {P : Program} (l : List (BitVec 8)) (j : Int) : idF P (.s l) j (some .string) = guardO (0 ≤ j) (obind l[j.toNat]? fun c => some (.w8 c)) := (rfl)
theorem spF_sl (m n : Nat) (xs : List AV) (e : TypeId) : spF (.sl m xs) (some (.array n e)) = guardO (0 < n) (guardO (n ≤ m) (some (.rp xs))) := (rfl)
theorem spF_os (id off m n e2 : Nat) (g : Bool) (e : TypeId) : spF (.os id off m e2 g) (some (.array n e)) = guardO (0 < n) (guardO (n ≤ m) (some (.op id off))) := (rfl)
theorem exF_tup (k : Nat) (xs : List AV) : exF k (.tup xs) = xs[k]? := (rfl)
theorem stF_op (z : Option Nat) (hp : H) (cx i off : Nat) (cs : List AV) : stF z hp cx (.op i off) (some cs) = obind z fun z => obind (hp i) (stO z hp cx i off cs) := (rfl)
theorem stO_c (z : Nat) (hp : H) (cx i off : Nat) (cs xs : List AV) (mt : Bool) : stO z hp cx i off cs (.cells xs mt) = guardO (mt = true ∧ cs.length = z ∧ off + z ≤ xs.length) (some (.junk, upd hp i (.cells (storeL xs off cs) true), cx)) := (rfl)
theorem cellsV_w8 (x) : cellsV (.w8 x) = some [.w8 x] := (rfl)
theorem cellsV_w16 (x) : cellsV (.w16 x) = some [.w16 x] := (rfl)
theorem cellsV_w32 (x) : cellsV (.w32 x) = some [.w32 x] := (rfl)
theorem cellsV_w64 (x) : cellsV (.w64 x) = some [.w64 x] := (rfl)
theorem cellsV_i (x) : cellsV (.i x) = some [.i x] := (rfl)
theorem cellsV_b (x) : cellsV (.b x) = some [.b x] := (rfl)
theorem cellsV_s (x) : cellsV (.s x) = some [.s x] := (rfl)
theorem cellsV_agg (x) : cellsV (.agg x) = some x := (rfl)
theorem cellsV_sl (n xs) : cellsV (.sl n xs) = some [.sl n xs] := (rfl)
theorem cellsV_rp (xs) : cellsV (.rp xs) = some [.rp xs] := (rfl)
theorem cellsV_os (i o n e g) : cellsV (.os i o n e g) = some [.os i o n e g] := (rfl)
theorem cellsV_op (i o) : cellsV (.op i o) = some [.op i o] := (rfl)
theorem storeL_1 (xs : List AV) (off : Nat) (c : AV) : storeL xs off [c] = xs.set off c := (rfl)
theorem hsel_0 (nx n : Nat) (hp : H) : hsel 0 nx n hp = hp := (rfl)
theorem hsel_1 (nx n : Nat) (hp : H) : hsel 1 nx n hp = fun _ => none := (rfl)
theorem hsel_lt (m nx n id : Nat) (hp : H) (hm : 2 ≤ m) (h : id < nx) : hsel m nx n hp id = hp id := by unfold hsel; split <;> first | omega | exact if_neg (by omega)
theorem lenF_sl (n xs e) : lenF (.sl n xs) (some (.slice e)) = some (.i n) := (rfl)
theorem lenF_os (id off n e2 g e) : lenF (.os id off n e2 g) (some (.slice e)) = some (.i n) := (rfl)
theorem lenF_nil (e) : lenF (.v (.slice none 0 0)) (some (.slice e)) = some (.i 0) := (rfl)
theorem lenF_s (l) : lenF (.s l) (some .string) = some (.i l.length) := (rfl)
theorem lenF_arr (x n e) : lenF x (some (.array n e)) = some (.i n) := (rfl)
theorem cvF_int (hp hp2 cx id x ue sd a k) : cvF hp hp2 cx id x ue sd (some a) (some (.int k)) = obind (toK k x) fun y => some (y, hp, cx) := by cases a <;> rfl
theorem cvF_str (hp hp2 cx id l ue sd) : cvF hp hp2 cx id (.s l) ue sd (some .string) (some .string) = some (.s l, hp, cx) := (rfl)
theorem cvF_b2s (hp hp2 cx id x ue sd e) (h : ue e = some (.int .u8)) : cvF hp hp2 cx id x ue sd (some (.slice e)) (some .string) = obind (slCells hp2 1 x) fun nl => obind (unW8 nl.2) fun l => some (.s l, hp, cx) := by simp only [cvF, h]; cases slCells hp2 1 x with | none => rfl | some y => simp only [obind_some]; cases unW8 y.2 <;> rfl
theorem cvF_s2b (hp hp2 cx id l ue sd e) (h : ue e = some (.int .u8)) : cvF hp hp2 cx id (.s l) ue sd (some .string) (some (.slice e)) = guardO (l.length ≤ 140737488355328) (some (.os id 0 l.length 1 true, upd hp id (.cells (l.map .w8) true), cx)) := by simp only [cvF, h]

def callS (_ : FuncId) (args : List AV) (m nx n : Nat) (hp : H) (id cx : Nat) : Option Spec → Option (AV × H × Nat)
  | some (.pure true g) => obind (borrowD (hsel m nx n hp) args) fun as_ => obind (g as_) fun r => guardO (r.noMem = true) (some (r, hp, cx))
  | some (.pure false g) => if m = 0 then obind (frzArgs hp args) fun ah => obind (g ah.1) fun r => some (r, ah.2, cx)
      else obind (borrowL (fun _ => none) args) fun as_ => obind (g as_) fun r => some (r, hp, cx)
  | some (.fresh true g) => obind (borrowD (hsel m nx n hp) args) fun as_ => obind (g as_) fun r => guardO (AV.noMem.noMemL r.2.2 = true) (some (.os id 0 r.1 r.2.1 true, upd hp id (.cells r.2.2 true), cx))
  | some (.fresh false g) => if m = 0 then obind (frzArgs hp args) fun ah => obind (g ah.1) fun r => some (.os id 0 r.1 r.2.1 true, upd ah.2 id (.cells r.2.2 true), cx)
      else obind (borrowL (fun _ => none) args) fun as_ => obind (g as_) fun r => some (.os id 0 r.1 r.2.1 true, upd hp id (.cells r.2.2 true), cx)
  | some (.heap g) => guardO (m = 0) (g args hp cx)
  | none => none
def envL : List (Nat × Spec) → Env
  | [], _ => none
  | (k, s) :: r, f => if f = k then some s else envL r f


/-- An operation without what only the order needs. -/
structure LOp where
  d : Option Tmp
  op : Op
  g : Option (Option Tmp × Bool)
def light (ops : Array Oper) (o : Oper) : LOp := ⟨o.dst, o.op, o.guard.map fun p => ((ops[p.1]?).bind (·.dst), p.2)⟩
def gdS (fr : List (Nat × AV)) : Option (Option Tmp × Bool) → Option Bool
  | none => some true
  | some (some t, want) => guardB want (look fr t)
  | some (none, _) => none
def stepP (P : Program) (Γ : Env) (GL : Nat → Option (List AV)) (m n k : Nat) (o : LOp) (s : S) : Option S :=
  obind (gdS s.fr o.g) fun b => match b with
    | true => obind (eff P Γ o.op (ev GL s.fr) m s.nx n s.hp (s.nx + k) s.cx) fun r => some { fr := putA o.d r.1 s.fr, hp := r.2.1, nx := s.nx, cx := r.2.2 }
    | false => some { s with fr := putA o.d (.tup []) s.fr }
def runP (P : Program) (Γ : Env) (GL : Nat → Option (List AV)) (md : Nat → Nat) (n : Nat) : Nat → List LOp → S → Option S
  | _, [], s => some s
  | k, o :: r, s => obind (stepP P Γ GL (md k) n k o s) fun s' => runP P Γ GL md n (k + 1) r s'
theorem step_eq (P : Program) (Γ : Env) (GL : Nat → Option (List AV)) (md : Nat → Nat) (ops : Array Oper) (k : Nat) (o : Oper) (s : S) : stepO P Γ GL md ops k o s = stepP P Γ GL (md k) ops.size k (light ops o) s := by
  have : gdO ops s.fr o = gdS s.fr (light ops o).g := by
    unfold gdO light
    cases o.guard with
    | none => rfl
    | some p =>
      simp only [Option.map_some]
      cases (ops[p.1]?).bind (·.dst) <;> rfl
  unfold stepO stepP
  rw [this]; rfl
theorem run_eq (P : Program) (Γ : Env) (GL : Nat → Option (List AV)) (md : Nat → Nat) (ops : Array Oper) : ∀ (l : List Oper) (k : Nat) (s : S), runL P Γ GL md ops k l s = runP P Γ GL md ops.size k (l.map (light ops)) s
  | [], _, _ => rfl
  | o :: r, k, s => by
    simp only [runL, List.map_cons, runP, step_eq]
    congr 1
    funext s'
    exact run_eq P Γ GL md ops r (k + 1) s'
def runQ (P : Program) (Γ : Env) (GL : Nat → Option (List AV)) (md : Nat → Nat) (n : Nat) (l : List LOp) (s : S) : Option S := runP P Γ GL md n 0 l s
def lights (c : Code) : List LOp := (rOps c).toList.map (light (rOps c))
def rN (c : Code) : Nat := (rOps c).size
@[congr] theorem runP_congr {P : Program} {Γ : Env} {GL : Nat → Option (List AV)} {md : Nat → Nat} {n k k' : Nat} {l : List LOp} {s s' : S} (hk : k = k') (h : s = s') : runP P Γ GL md n k l s = runP P Γ GL md n k' l s' := by rw [h, hk]
theorem awp_regP {P : Program} {GL : Nat → Option (List AV)} {nt : Nat} {Q : Exit → S → Prop} {s : S} {code : Code} {Γ : Env} (ks : List Nat) (hΓ : EnvOK P GL Γ) (hc : isReg code = true) (hd : rDraw code = false) (ho : okDst nt (rOps code).toList = true)
    (h : ∀ K : S → Prop, (∀ t, Q .normal t → K t) → someP (runQ P Γ GL (fun _ => 0) (rN code) (lights code) (enterR (rN code) s)) fun t => K { t with fr := keepF ks t.fr }) : Awp P GL nt code s Q := by
  refine awp_regK ks hΓ hc hd ho fun K hK => ?_
  rw [run_eq]; exact h K hK
theorem awp_drwP {P : Program} {GL : Nat → Option (List AV)} {nt : Nat} {Q : Exit → S → Prop} {s : S} {code : Code} {Γ : Env} (md : Nat → Nat) (ks : List Nat) (hm : P.follows .mixedOrders = true) (hΓ : EnvOK P GL Γ) (hc : isReg code = true) (hd : rDraw code = true) (ho : okDst nt (rOps code).toList = true) (hk : okDraw P Γ md (rOps code) = true)
    (h : ∀ K : S → Prop, (∀ t, Q .normal t → K t) → someP (runQ P Γ GL md (rN code) (lights code) (enterR (rN code) s)) fun t => K { t with fr := keepF ks t.fr }) : Awp P GL nt code s Q := by
  refine awp_drwK md ks hm hΓ hc hd ho hk fun K hK => ?_
  rw [run_eq]; exact h K hK
/-- A step, by its guard. -/
def stepB (P : Program) (Γ : Env) (GL : Nat → Option (List AV)) (m n k : Nat) (d : Option Tmp) (op : Op) (fr : List (Nat × AV)) (hp : H) (nx cx : Nat) : Bool → Option S
  | true => obind (eff P Γ op (ev GL fr) m nx n hp (nx + k) cx) fun r => some { fr := putA d r.1 fr, hp := r.2.1, nx := nx, cx := r.2.2 }
  | false => some { fr := putA d (.tup []) fr, hp := hp, nx := nx, cx := cx }

theorem bdF_arr (P n ps zs m e) : bdF P n ps (some zs) (some (.array m e)) = obind (szOf P e) fun z => bdS z m zs ps (if z = 1 ∧ zs.length = n then seqA 0 ps else none) := (rfl)
theorem bdS_some (z m zs ps cs) : bdS z m zs ps (some cs) = some (.agg cs) := (rfl)
theorem bdS_none (z m zs ps) : bdS z m zs ps none = obind (fillA (fun k => some (k * z, z)) zs ps) fun cs => guardO (0 < m) (some (.agg cs)) := (rfl)
theorem seqA_nil (k) : seqA k [] = some [] := (rfl)
theorem seqA_cons (k i v r) : seqA k ((i, v) :: r) = guardO (i = k) (obind (sq1 (cellsV v)) fun c => obind (seqA (k + 1) r) fun r => some (c :: r)) := by simp only [seqA]; cases cellsV v with | none => rfl | some l => cases l with | nil => rfl | cons a b => cases b <;> rfl
theorem sq1_1 (c) : sq1 (some [c]) = some c := (rfl)
theorem nm_w8 (x) : AV.noMem (.w8 x) = true := (rfl)
theorem nm_w16 (x) : AV.noMem (.w16 x) = true := (rfl)
theorem nm_w32 (x) : AV.noMem (.w32 x) = true := (rfl)
theorem nm_w64 (x) : AV.noMem (.w64 x) = true := (rfl)
theorem nm_i (x) : AV.noMem (.i x) = true := (rfl)
theorem nm_b (x) : AV.noMem (.b x) = true := (rfl)
theorem nm_s (x) : AV.noMem (.s x) = true := (rfl)
theorem slF_sl (P n xs lo hi e) : slF P (.sl n xs) lo hi (some (.slice e)) = obind (szOf P e) fun z => obind (loIx lo) fun l => obind (hiIx hi n) fun h => guardO (0 ≤ l ∧ l ≤ h ∧ h ≤ n) (some (.sl (h.toNat - l.toNat) ((xs.drop (l.toNat * z)).take ((h.toNat - l.toNat) * z)))) := (rfl)
theorem slF_os (P id off n e2 g lo hi e) : slF P (.os id off n e2 g) lo hi (some (.slice e)) = obind (szOf P e) fun z => obind (loIx lo) fun l => obind (hiIx hi n) fun h => guardO (e2 = z ∧ 0 ≤ l ∧ l ≤ h ∧ h ≤ n) (some (.os id (off + l.toNat * z) (h.toNat - l.toNat) z g)) := (rfl)
theorem slF_nil (P lo hi e) : slF P (.v (.slice none 0 0)) lo hi (some (.slice e)) = obind (szOf P e) fun _ => obind (loIx lo) fun l => obind (hiIx hi 0) fun h => guardO (0 ≤ l ∧ l ≤ h ∧ h ≤ 0) (some (.v (.slice none 0 0))) := (rfl)
theorem slF_op (P id off n lo hi e) : slF P (.op id off) lo hi (some (.array n e)) = obind (szOf P e) fun z => obind (loIx lo) fun l => obind (hiIx hi n) fun h => guardO (0 ≤ l ∧ l ≤ h ∧ h ≤ n) (some (.os id (off + l.toNat * z) (h.toNat - l.toNat) z false)) := (rfl)
theorem slF_rp (P xs n lo hi e) : slF P (.rp xs) lo hi (some (.array n e)) = obind (szOf P e) fun z => obind (loIx lo) fun l => obind (hiIx hi n) fun h => guardO (0 ≤ l ∧ l ≤ h ∧ h ≤ n) (some (.sl (h.toNat - l.toNat) ((xs.drop (l.toNat * z)).take ((h.toNat - l.toNat) * z)))) := (rfl)
theorem slF_s (P c lo hi) : slF P (.s c) lo hi (some .string) = obind (loIx lo) fun l => obind (hiIx hi c.length) fun h => guardO (0 ≤ l ∧ l ≤ h ∧ h ≤ c.length) (some (.s ((c.drop l.toNat).take (h.toNat - l.toNat)))) := (rfl)
theorem loIx_none : loIx none = some 0 := (rfl)
theorem loIx_some (v) : loIx (some v) = ix v := (rfl)
theorem hiIx_none (n : Nat) : hiIx none n = some (n : Int) := (rfl)
theorem hiIx_some (v n) : hiIx (some v) n = ix v := (rfl)
theorem cpF_os (P hp i off n e2 g y e) : cpF P hp (.os i off n e2 g) y (some (.slice e)) = obind (szOf P e) fun z => obind (srcA hp z y) fun my => obind (hp i) (cpO i off n e2 z my.1 my.2 hp) := (rfl)
theorem cpO_c (i off n e2 z m ys hp xs mt) : cpO i off n e2 z m ys hp (.cells xs mt) = guardO (mt = true ∧ e2 = z ∧ off + n * z ≤ xs.length) (some (.i (min m n : Nat), upd hp i (.cells (splice xs off (ys.take (min m n * z))) true))) := (rfl)
theorem bsF_sl (P len ps e) : bsF P len ps (some (.slice e)) = obind (szOf P e) fun z => guardO (0 < z ∧ len * z ≤ 16777216) (obind (zcells P e) fun zs => guardO (zs.length = z) (obind (fillA (fun k => some (k * z, z)) (rep len zs) ps) fun cs => some (z, cs))) := (rfl)
theorem fillA_nil (pl cells) : fillA pl cells [] = some cells := (rfl)
theorem fillA_cons (pl cells i v r) : fillA pl cells ((i, v) :: r) = obind (pl i) fun os => obind (cellsV v) fun vc => guardO (vc.length = os.2 ∧ os.1 + os.2 ≤ cells.length) (fillA pl (splice cells os.1 vc) r) := (rfl)
theorem rep_1 (x : AV) : rep 1 [x] = [x] := (rfl)
theorem rep_4 (x : AV) : rep 4 [x] = [x, x, x, x] := (rfl)
theorem sp_1 (x y : AV) : splice [x] 0 [y] = [y] := (rfl)
theorem sp_40 (a b c d y : AV) : splice [a, b, c, d] 0 [y] = [y, b, c, d] := (rfl)
theorem sp_41 (a b c d y : AV) : splice [a, b, c, d] 1 [y] = [a, y, c, d] := (rfl)
theorem sp_42 (a b c d y : AV) : splice [a, b, c, d] 2 [y] = [a, b, y, d] := (rfl)
theorem sp_43 (a b c d y : AV) : splice [a, b, c, d] 3 [y] = [a, b, c, y] := (rfl)
theorem noInt_sl (P : Program) (t e : TypeId) (h : P.underlying t = some (.slice e)) : noIntT P t = true := by simp only [noIntT, h]
theorem noInt_s (P : Program) (t : TypeId) (h : P.underlying t = some .string) : noIntT P t = true := by simp only [noIntT, h]
theorem callA_S (Γ : Env) (f : FuncId) (args : List AV) (m nx n : Nat) (hp : H) (id cx : Nat) : callA Γ f args m nx n hp id cx = callS f args m nx n hp id cx (Γ f) := by unfold callA callS; rfl
theorem callS_p (f args m nx n hp id cx g) : callS f args m nx n hp id cx (some (.pure true g)) = obind (borrowD (hsel m nx n hp) args) fun as_ => obind (g as_) fun r => guardO (r.noMem = true) (some (r, hp, cx)) := (rfl)
theorem callS_q0 (f args nx n hp id cx g) : callS f args 0 nx n hp id cx (some (.pure false g)) = obind (frzArgs hp args) fun ah => obind (g ah.1) fun r => some (r, ah.2, cx) := (rfl)
theorem callS_q1 (f args nx n hp id cx g) : callS f args 1 nx n hp id cx (some (.pure false g)) = obind (borrowL (fun _ => none) args) fun as_ => obind (g as_) fun r => some (r, hp, cx) := (rfl)
theorem callS_f (f args m nx n hp id cx g) : callS f args m nx n hp id cx (some (.fresh true g)) = obind (borrowD (hsel m nx n hp) args) fun as_ => obind (g as_) fun r => guardO (AV.noMem.noMemL r.2.2 = true) (some (.os id 0 r.1 r.2.1 true, upd hp id (.cells r.2.2 true), cx)) := (rfl)
theorem callS_g0 (f args nx n hp id cx g) : callS f args 0 nx n hp id cx (some (.fresh false g)) = obind (frzArgs hp args) fun ah => obind (g ah.1) fun r => some (.os id 0 r.1 r.2.1 true, upd ah.2 id (.cells r.2.2 true), cx) := (rfl)
theorem callS_h (f args nx n hp id cx g) : callS f args 0 nx n hp id cx (some (.heap g)) = g args hp cx := by simp [callS, guardO]
theorem envL_cons (k s r f) : envL ((k, s) :: r) f = if f = k then some s else envL r f := (rfl)
theorem sp_none (P Γ GL m n k d op) (fr hp nx cx) : stepP P Γ GL m n k { d := some d, op := op, g := none } { fr := fr, hp := hp, nx := nx, cx := cx } = obind (eff P Γ op (ev GL fr) m nx n hp (nx + k) cx) fun r => some { fr := (d, r.1) :: fr, hp := r.2.1, nx := nx, cx := r.2.2 } := (rfl)
theorem sp_nodst (P Γ GL m n k op) (fr hp nx cx) : stepP P Γ GL m n k { d := none, op := op, g := none } { fr := fr, hp := hp, nx := nx, cx := cx } = obind (eff P Γ op (ev GL fr) m nx n hp (nx + k) cx) fun r => some { fr := fr, hp := r.2.1, nx := nx, cx := r.2.2 } := (rfl)
theorem sp_some (P Γ GL m n k d op t want) (fr hp nx cx) : stepP P Γ GL m n k { d := d, op := op, g := some (some t, want) } { fr := fr, hp := hp, nx := nx, cx := cx } = obind (guardB want (look fr t)) fun g => stepB P Γ GL m n k d op fr hp nx cx g := by simp only [stepP, gdS]; cases guardB want (look fr t) with | none => rfl | some g => cases g <;> rfl
theorem look_cons (k x r t) : look ((k, x) :: r) t = if k = t then x else look r t := (rfl)
theorem ob_some {α β : Type} (x : α) (f : α → Option β) : obind (some x) f = f x := (rfl)
theorem sm_some (t : S) (Q : S → Prop) : someP (some t) Q = Q t := (rfl)
theorem kf_nil (fr : List (Nat × AV)) : keepF [] fr = [] := (rfl)
theorem kf_cons (k : Nat) (ks : List Nat) (fr : List (Nat × AV)) : keepF (k :: ks) fr = (k, look fr k) :: keepF ks fr := (rfl)
theorem en_R (n : Nat) (fr hp nx cx) : enterR n { fr := fr, hp := hp, nx := nx, cx := cx } = { fr := fr, hp := hp, nx := cx, cx := cx + n } := (rfl)
theorem pt_some (d x fr) : putA (some d) x fr = (d, x) :: fr := (rfl)
theorem pt_none (x fr) : putA none x fr = fr := (rfl)
theorem up_app (h : H) (id o k) : upd h id o k = if k = id then some o else h k := (rfl)
theorem de_app (h : H) (id k) : del h id k = if k = id then none else h k := (rfl)
theorem ofv_u8 (n : Int) : ofV (.int .u8 n) = if 0 ≤ n ∧ n < 256 then .w8 (BitVec.ofInt 8 n) else .v (.int .u8 n) := (rfl)
theorem ofv_u16 (n : Int) : ofV (.int .u16 n) = if 0 ≤ n ∧ n < 65536 then .w16 (BitVec.ofInt 16 n) else .v (.int .u16 n) := (rfl)
theorem ofv_u32 (n : Int) : ofV (.int .u32 n) = if 0 ≤ n ∧ n < 4294967296 then .w32 (BitVec.ofInt 32 n) else .v (.int .u32 n) := (rfl)
theorem ofv_u64 (n : Int) : ofV (.int .u64 n) = if 0 ≤ n ∧ n < 18446744073709551616 then .w64 (BitVec.ofInt 64 n) else .v (.int .u64 n) := (rfl)
theorem ofv_i64 (n : Int) : ofV (.int .i64 n) = .i n := (rfl)
theorem ofv_bool (x : Bool) : ofV (.bool x) = .b x := (rfl)
theorem ofv_slice : ofV (.slice none 0 0) = .v (.slice none 0 0) := (rfl)
theorem fst_mk {α β : Type} (a : α) (b : β) : (a, b).1 = a := (rfl)
theorem snd_mk {α β : Type} (a : α) (b : β) : (a, b).2 = b := (rfl)
theorem gdF_b (want x : Bool) : guardB want (.b x) = some (x == want) := (rfl)
theorem gdF_u (want : Bool) : guardB want (.tup []) = some false := (rfl)
theorem runQ_P (P Γ GL md n l s) : runQ P Γ GL md n l s = runP P Γ GL md n 0 l s := (rfl)
theorem runP_nil (P Γ GL md n k s) : runP P Γ GL md n k [] s = some s := (rfl)
theorem runP_cons (P Γ GL md n k o r s) : runP P Γ GL md n k (o :: r) s = obind (stepP P Γ GL (md k) n k o s) fun s2 => runP P Γ GL md n (k + 1) r s2 := (rfl)
theorem ev_tmp (GL fr t) : ev GL fr (.tmp t) = look fr t := (rfl)
theorem ev_const (GL fr v) : ev GL fr (.const v) = ofV v := (rfl)
theorem ev_func (GL fr f) : ev GL fr (.func f) = .fn f [] := (rfl)
theorem ev_glob (GL : Nat → Option (List AV)) (fr g xs) (h : GL g = some xs) : ev GL fr (.global g) = .rp xs := by simp only [ev, h]
theorem borrowL_nil (hp : H) : borrowL hp [] = some [] := (rfl)
theorem borrowL_cons (hp : H) (x r) : borrowL hp (x :: r) = obind (borrow1 hp x) fun y => obind (borrowL hp r) fun l => some (y :: l) := (rfl)
def bwO (off n e : Nat) : AO → Option AV
  | .cells xs _ => guardO (off + n * e ≤ xs.length) (some (.sl n ((xs.drop off).take (n * e))))
  | _ => none
def bwP (off : Nat) : AO → Option AV
  | .cells xs _ => some (.rp (xs.drop off))
  | _ => none
def fzO (hp : H) (id off n e : Nat) : AO → Option (AV × H)
  | .cells xs _ => guardO (off + n * e ≤ xs.length) (some (.sl n ((xs.drop off).take (n * e)), upd hp id (.cells xs false)))
  | _ => none
def fzP (hp : H) (id off : Nat) : AO → Option (AV × H)
  | .cells xs _ => some (.rp (xs.drop off), upd hp id (.cells xs false))
  | _ => none
def scO (z off n e : Nat) : AO → Option (Nat × List AV)
  | .cells xs _ => guardO (e = z ∧ off + n * z ≤ xs.length) (some (n, (xs.drop off).take (n * z)))
  | _ => none

theorem bw_w8 (hp : H) (x) : borrow1 hp (.w8 x) = some (.w8 x) := (rfl)
theorem fz_w8 (hp : H) (x) : frzArg hp (.w8 x) = some (.w8 x, hp) := (rfl)
theorem bw_w16 (hp : H) (x) : borrow1 hp (.w16 x) = some (.w16 x) := (rfl)
theorem fz_w16 (hp : H) (x) : frzArg hp (.w16 x) = some (.w16 x, hp) := (rfl)
theorem bw_w32 (hp : H) (x) : borrow1 hp (.w32 x) = some (.w32 x) := (rfl)
theorem fz_w32 (hp : H) (x) : frzArg hp (.w32 x) = some (.w32 x, hp) := (rfl)
theorem bw_w64 (hp : H) (x) : borrow1 hp (.w64 x) = some (.w64 x) := (rfl)
theorem fz_w64 (hp : H) (x) : frzArg hp (.w64 x) = some (.w64 x, hp) := (rfl)
theorem bw_i (hp : H) (x) : borrow1 hp (.i x) = some (.i x) := (rfl)
theorem fz_i (hp : H) (x) : frzArg hp (.i x) = some (.i x, hp) := (rfl)
theorem bw_b (hp : H) (x) : borrow1 hp (.b x) = some (.b x) := (rfl)
theorem fz_b (hp : H) (x) : frzArg hp (.b x) = some (.b x, hp) := (rfl)
theorem bw_s (hp : H) (x) : borrow1 hp (.s x) = some (.s x) := (rfl)
theorem fz_s (hp : H) (x) : frzArg hp (.s x) = some (.s x, hp) := (rfl)
theorem bw_agg (hp : H) (x) : borrow1 hp (.agg x) = some (.agg x) := (rfl)
theorem fz_agg (hp : H) (x) : frzArg hp (.agg x) = some (.agg x, hp) := (rfl)
theorem bw_rp (hp : H) (x) : borrow1 hp (.rp x) = some (.rp x) := (rfl)
theorem fz_rp (hp : H) (x) : frzArg hp (.rp x) = some (.rp x, hp) := (rfl)
theorem bw_sl (hp : H) (n xs) : borrow1 hp (.sl n xs) = some (.sl n xs) := (rfl)
theorem fz_sl (hp : H) (n xs) : frzArg hp (.sl n xs) = some (.sl n xs, hp) := (rfl)
theorem bw_nil (hp : H) : borrow1 hp (.v (.slice none 0 0)) = some (.v (.slice none 0 0)) := (rfl)
theorem fz_nil (hp : H) : frzArg hp (.v (.slice none 0 0)) = some (.sl 0 [], hp) := (rfl)
theorem bw_os (hp : H) (id off n e g) : borrow1 hp (.os id off n e g) = obind (hp id) (bwO off n e) := (rfl)
theorem fz_os (hp : H) (id off n e g) : frzArg hp (.os id off n e g) = obind (hp id) (fzO hp id off n e) := (rfl)
theorem bw_op (hp : H) (id off) : borrow1 hp (.op id off) = obind (hp id) (bwP off) := (rfl)
theorem fz_op (hp : H) (id off) : frzArg hp (.op id off) = obind (hp id) (fzP hp id off) := (rfl)
theorem bwO_c (off n e xs mt) : bwO off n e (.cells xs mt) = guardO (off + n * e ≤ xs.length) (some (.sl n ((xs.drop off).take (n * e)))) := (rfl)
theorem bwP_c (off xs mt) : bwP off (.cells xs mt) = some (.rp (xs.drop off)) := (rfl)
theorem fzO_c (hp id off n e xs mt) : fzO hp id off n e (.cells xs mt) = guardO (off + n * e ≤ xs.length) (some (.sl n ((xs.drop off).take (n * e)), upd hp id (.cells xs false))) := (rfl)
theorem fzP_c (hp id off xs mt) : fzP hp id off (.cells xs mt) = some (.rp (xs.drop off), upd hp id (.cells xs false)) := (rfl)
theorem frzArgs_nil (hp : H) : frzArgs hp [] = some ([], hp) := (rfl)
theorem frzArgs_cons (hp : H) (x r) : frzArgs hp (x :: r) = obind (frzArg hp x) fun y => obind (frzArgs y.2 r) fun l => some (y.1 :: l.1, l.2) := (rfl)
theorem slCells_sl (hp : H) (z n xs) : slCells hp z (.sl n xs) = guardO (xs.length = n * z) (some (n, xs)) := (rfl)
theorem slCells_nil (hp : H) (z) : slCells hp z (.v (.slice none 0 0)) = some (0, []) := (rfl)
theorem slCells_os (hp : H) (z id off n e g) : slCells hp z (.os id off n e g) = obind (hp id) (scO z off n e) := (rfl)
theorem scO_c (z off n e xs mt) : scO z off n e (.cells xs mt) = guardO (e = z ∧ off + n * z ≤ xs.length) (some (n, (xs.drop off).take (n * z))) := (rfl)
theorem srcA_s (hp : H) (z l) : srcA hp z (.s l) = guardO (z = 1) (some (l.length, l.map .w8)) := (rfl)
theorem srcA_sl (hp : H) (z n xs) : srcA hp z (.sl n xs) = guardO (xs.length = n * z) (some (n, xs)) := (rfl)
theorem srcA_nil (hp : H) (z) : srcA hp z (.v (.slice none 0 0)) = some (0, []) := (rfl)
theorem srcA_os (hp : H) (z id off n e g) : srcA hp z (.os id off n e g) = obind (hp id) (scO z off n e) := (rfl)
theorem apF_sl (P : Program) (hp : H) (id x y e) : apF P hp id x y (some (.slice e)) = obind (szOf P e) fun z => obind (byOf P e) fun by_ => obind (zcells P e) fun zs => guardO (0 < z ∧ zs.length = z) (obind (srcA hp z y) fun my => obind (frzL hp my.2) fun fy => apTl z by_ x my.1 fy.1 fy.2 id) := (rfl)
theorem azF_sl (P : Program) (hp : H) (id x y e) : azF P hp id x y (some (.slice e)) = obind (szOf P e) fun z => obind (byOf P e) fun by_ => obind (zcells P e) fun zs => guardO (0 < z ∧ zs.length = z) (obind (cntA y) fun m => guardO (m ≤ 140737488355328 ∧ m * by_ ≤ 140737488355328) (apTail z by_ x m (rep m zs) hp id)) := (rfl)
theorem cntA_i (n : Int) : cntA (.i n) = guardO (0 ≤ n) (some n.toNat) := (rfl)
theorem apU_i (P hp id x y t k) : apU P hp id x y t (some (.int k)) = azF P hp id x y (P.underlying t) := (rfl)
theorem apU_sl (P hp id x y t e) : apU P hp id x y t (some (.slice e)) = apF P hp id x y (P.underlying t) := (rfl)
theorem apU_s (P hp id x y t) : apU P hp id x y t (some .string) = apF P hp id x y (P.underlying t) := (rfl)
theorem apTail_nil (z by_ m ys hp id) : apTail z by_ (.v (.slice none 0 0)) m ys hp id = guardO (m ≤ 140737488355328 ∧ m * by_ ≤ 140737488355328) (some (.os id 0 m z true, upd hp id (.cells ys true))) := (rfl)
theorem apTail_os (z by_ m ys hp id i off n e2 g) : apTail z by_ (.os i off n e2 g) m ys hp id = obind (hp i) (apO z by_ id off n e2 g i m ys hp) := by unfold apTail apO; rfl
theorem cvF_mk (hp hp2 cx id x ue sd e0 e) : cvF hp hp2 cx id x ue sd (some (.slice e0)) (some (.slice e)) = guardO (sd = true) (obind (mkF hp x (ue e)) fun p => some (p.1, p.2, cx)) := (rfl)
theorem mkF_8 (hp x) : mkF hp x (some (.int .u8)) = mkG hp x := (rfl)
theorem mkG_os (hp i off n e2 g) : mkG hp (.os i off n e2 g) = obind (hp i) (mkO i off n e2 g hp) := by unfold mkG mkO; rfl
theorem mkO_c (i off n e2 g hp xs mt) : mkO i off n e2 g hp (.cells xs mt) = guardO (mt = true ∧ 0 < n) (some (.os i off n e2 g, upd hp i (.cells xs true))) := (rfl)
theorem apO_c (z by_ id off n e2 g i m ys hp xs mt) : apO z by_ id off n e2 g i m ys hp (.cells xs mt) = guardO (mt = true ∧ g = true ∧ e2 = z ∧ off + n * z = xs.length ∧ n + m ≤ 140737488355328 ∧ (n + m) * by_ ≤ 140737488355328) (some (.os id 0 (n + m) z true, upd (del hp i) id (.cells (xs.drop off ++ ys) true))) := (rfl)
theorem frzL_no (hp : H) (xs : List AV) (h : noOs xs = true) : frzL hp xs = some (xs, hp) := if_pos h
theorem sb_t (P Γ GL m n k d op fr hp nx cx) : stepB P Γ GL m n k d op fr hp nx cx true = obind (eff P Γ op (ev GL fr) m nx n hp (nx + k) cx) fun r => some { fr := putA d r.1 fr, hp := r.2.1, nx := nx, cx := r.2.2 } := (rfl)
theorem sb_f (P Γ GL m n k d op fr hp nx cx) : stepB P Γ GL m n k d op fr hp nx cx false = some { fr := putA d (.tup []) fr, hp := hp, nx := nx, cx := cx } := (rfl)
theorem bq_tt : (true == true) = true := (rfl)
theorem bq_tf : (true == false) = false := (rfl)
theorem bq_ft : (false == true) = false := (rfl)
theorem bq_ff : (false == false) = true := (rfl)
theorem borrowD_nil (hp : H) : borrowD hp [] = some [] := (rfl)
theorem borrowD_cons (hp : H) (x r) : borrowD hp (x :: r) = obind (immF 4 hp x) fun y => obind (borrowD hp r) fun l => some (y :: l) := (rfl)
theorem immM_nil (f) : immM f [] = some [] := (rfl)
theorem immM_cons (f x r) : immM f (x :: r) = obind (f x) fun y => obind (immM f r) fun l => some (y :: l) := (rfl)
def imO (n : Nat) (hp : H) (off m e : Nat) : AO → Option AV
  | .cells xs _ => guardO (off + m * e ≤ xs.length) (obind (immL (immF n hp) ((xs.drop off).take (m * e))) fun l => some (.sl m l))
  | _ => none
def imP (n : Nat) (hp : H) (off : Nat) : AO → Option AV
  | .cells xs _ => obind (immL (immF n hp) (xs.drop off)) fun l => some (.rp l)
  | _ => none
def imX (f : AV → Option AV) (xs : List AV) : Bool → Option (List AV) | true => some xs | false => immM f xs
theorem imO_c (n hp off m e xs mt) : imO n hp off m e (.cells xs mt) = guardO (off + m * e ≤ xs.length) (obind (immL (immF n hp) ((xs.drop off).take (m * e))) fun l => some (.sl m l)) := (rfl)
theorem imP_c (n hp off xs mt) : imP n hp off (.cells xs mt) = obind (immL (immF n hp) (xs.drop off)) fun l => some (.rp l) := (rfl)
theorem immL_x (f xs) : immL f xs = imX f xs (noOwn xs) := by unfold immL imX; cases noOwn xs <;> rfl
theorem imX_t (f xs) : imX f xs true = some xs := (rfl)
theorem imX_f (f xs) : imX f xs false = immM f xs := (rfl)
theorem noOwn_nil : noOwn [] = true := (rfl)
theorem noOwn_w8 (x r) : noOwn (.w8 x :: r) = noOwn r := (rfl)
theorem noOwn_w16 (x r) : noOwn (.w16 x :: r) = noOwn r := (rfl)
theorem noOwn_w32 (x r) : noOwn (.w32 x :: r) = noOwn r := (rfl)
theorem noOwn_w64 (x r) : noOwn (.w64 x :: r) = noOwn r := (rfl)
theorem noOwn_i (x r) : noOwn (.i x :: r) = noOwn r := (rfl)
theorem noOwn_b (x r) : noOwn (.b x :: r) = noOwn r := (rfl)
theorem noOwn_s (x r) : noOwn (.s x :: r) = noOwn r := (rfl)
theorem noOwn_rp (x r) : noOwn (.rp x :: r) = noOwn r := (rfl)
theorem noOwn_sl (n x r) : noOwn (.sl n x :: r) = noOwn r := (rfl)
theorem noOwn_os (a b c d e r) : noOwn (.os a b c d e :: r) = false := (rfl)
theorem noOwn_op (a b r) : noOwn (.op a b :: r) = false := (rfl)
theorem noOwn_nils (r) : noOwn (.v (.slice none 0 0) :: r) = false := (rfl)
theorem im4_w8 (hp : H) (x) : immF 4 hp (.w8 x) = some (.w8 x) := (rfl)
theorem im4_w16 (hp : H) (x) : immF 4 hp (.w16 x) = some (.w16 x) := (rfl)
theorem im4_w32 (hp : H) (x) : immF 4 hp (.w32 x) = some (.w32 x) := (rfl)
theorem im4_w64 (hp : H) (x) : immF 4 hp (.w64 x) = some (.w64 x) := (rfl)
theorem im4_i (hp : H) (x) : immF 4 hp (.i x) = some (.i x) := (rfl)
theorem im4_b (hp : H) (x) : immF 4 hp (.b x) = some (.b x) := (rfl)
theorem im4_s (hp : H) (x) : immF 4 hp (.s x) = some (.s x) := (rfl)
theorem im4_rp (hp : H) (x) : immF 4 hp (.rp x) = some (.rp x) := (rfl)
theorem im4_sl (hp : H) (n x) : immF 4 hp (.sl n x) = some (.sl n x) := (rfl)
theorem im4_nil (hp : H) : immF 4 hp (.v (.slice none 0 0)) = some (.sl 0 []) := (rfl)
theorem im4_os (hp : H) (id off m e g) : immF 4 hp (.os id off m e g) = obind (hp id) (imO 3 hp off m e) := (rfl)
theorem im4_op (hp : H) (id off) : immF 4 hp (.op id off) = obind (hp id) (imP 3 hp off) := (rfl)
theorem im4_agg (hp : H) (xs) : immF 4 hp (.agg xs) = obind (immL (immF 3 hp) xs) fun l => some (.agg l) := (rfl)
theorem im4_tup (hp : H) (xs) : immF 4 hp (.tup xs) = obind (immL (immF 3 hp) xs) fun l => some (.tup l) := (rfl)
theorem im3_w8 (hp : H) (x) : immF 3 hp (.w8 x) = some (.w8 x) := (rfl)
theorem im3_w16 (hp : H) (x) : immF 3 hp (.w16 x) = some (.w16 x) := (rfl)
theorem im3_w32 (hp : H) (x) : immF 3 hp (.w32 x) = some (.w32 x) := (rfl)
theorem im3_w64 (hp : H) (x) : immF 3 hp (.w64 x) = some (.w64 x) := (rfl)
theorem im3_i (hp : H) (x) : immF 3 hp (.i x) = some (.i x) := (rfl)
theorem im3_b (hp : H) (x) : immF 3 hp (.b x) = some (.b x) := (rfl)
theorem im3_s (hp : H) (x) : immF 3 hp (.s x) = some (.s x) := (rfl)
theorem im3_rp (hp : H) (x) : immF 3 hp (.rp x) = some (.rp x) := (rfl)
theorem im3_sl (hp : H) (n x) : immF 3 hp (.sl n x) = some (.sl n x) := (rfl)
theorem im3_nil (hp : H) : immF 3 hp (.v (.slice none 0 0)) = some (.sl 0 []) := (rfl)
theorem im3_os (hp : H) (id off m e g) : immF 3 hp (.os id off m e g) = obind (hp id) (imO 2 hp off m e) := (rfl)
theorem im3_op (hp : H) (id off) : immF 3 hp (.op id off) = obind (hp id) (imP 2 hp off) := (rfl)
theorem im3_agg (hp : H) (xs) : immF 3 hp (.agg xs) = obind (immL (immF 2 hp) xs) fun l => some (.agg l) := (rfl)
theorem im3_tup (hp : H) (xs) : immF 3 hp (.tup xs) = obind (immL (immF 2 hp) xs) fun l => some (.tup l) := (rfl)
theorem im2_w8 (hp : H) (x) : immF 2 hp (.w8 x) = some (.w8 x) := (rfl)
theorem im2_w16 (hp : H) (x) : immF 2 hp (.w16 x) = some (.w16 x) := (rfl)
theorem im2_w32 (hp : H) (x) : immF 2 hp (.w32 x) = some (.w32 x) := (rfl)
theorem im2_w64 (hp : H) (x) : immF 2 hp (.w64 x) = some (.w64 x) := (rfl)
theorem im2_i (hp : H) (x) : immF 2 hp (.i x) = some (.i x) := (rfl)
theorem im2_b (hp : H) (x) : immF 2 hp (.b x) = some (.b x) := (rfl)
theorem im2_s (hp : H) (x) : immF 2 hp (.s x) = some (.s x) := (rfl)
theorem im2_rp (hp : H) (x) : immF 2 hp (.rp x) = some (.rp x) := (rfl)
theorem im2_sl (hp : H) (n x) : immF 2 hp (.sl n x) = some (.sl n x) := (rfl)
theorem im2_nil (hp : H) : immF 2 hp (.v (.slice none 0 0)) = some (.sl 0 []) := (rfl)
theorem im2_os (hp : H) (id off m e g) : immF 2 hp (.os id off m e g) = obind (hp id) (imO 1 hp off m e) := (rfl)
theorem im2_op (hp : H) (id off) : immF 2 hp (.op id off) = obind (hp id) (imP 1 hp off) := (rfl)
theorem im2_agg (hp : H) (xs) : immF 2 hp (.agg xs) = obind (immL (immF 1 hp) xs) fun l => some (.agg l) := (rfl)
theorem im2_tup (hp : H) (xs) : immF 2 hp (.tup xs) = obind (immL (immF 1 hp) xs) fun l => some (.tup l) := (rfl)
theorem b_eql_agg (P : Program) (t : TypeId) (xs ys : List AV) : binT P .eql t (.agg xs) (.agg ys) = guardO (P.eqGuardType P.depth t = false) (obind (eqT P 6 t (.agg xs) (.agg ys)) fun r => some (.b (r))) := (rfl)
theorem b_eql_no (P : Program) (t : TypeId) (id off : Nat) : binT P .eql t (.v (.pointer none)) (.op id off) = guardO (isPtrT P t = true) (some (.b (false))) := (rfl)
theorem b_eql_on (P : Program) (t : TypeId) (id off : Nat) : binT P .eql t (.op id off) (.v (.pointer none)) = guardO (isPtrT P t = true) (some (.b (false))) := (rfl)
theorem b_eql_nr (P : Program) (t : TypeId) (xs : List AV) : binT P .eql t (.v (.pointer none)) (.rp xs) = guardO (isPtrT P t = true) (some (.b (false))) := (rfl)
theorem b_eql_rn (P : Program) (t : TypeId) (xs : List AV) : binT P .eql t (.rp xs) (.v (.pointer none)) = guardO (isPtrT P t = true) (some (.b (false))) := (rfl)
theorem b_eql_nn (P : Program) (t : TypeId) : binT P .eql t (.v (.pointer none)) (.v (.pointer none)) = guardO (isPtrT P t = true) (some (.b (true))) := (rfl)
theorem b_neq_agg (P : Program) (t : TypeId) (xs ys : List AV) : binT P .neq t (.agg xs) (.agg ys) = guardO (P.eqGuardType P.depth t = false) (obind (eqT P 6 t (.agg xs) (.agg ys)) fun r => some (.b (!r))) := (rfl)
theorem b_neq_no (P : Program) (t : TypeId) (id off : Nat) : binT P .neq t (.v (.pointer none)) (.op id off) = guardO (isPtrT P t = true) (some (.b (!false))) := (rfl)
theorem b_neq_on (P : Program) (t : TypeId) (id off : Nat) : binT P .neq t (.op id off) (.v (.pointer none)) = guardO (isPtrT P t = true) (some (.b (!false))) := (rfl)
theorem b_neq_nr (P : Program) (t : TypeId) (xs : List AV) : binT P .neq t (.v (.pointer none)) (.rp xs) = guardO (isPtrT P t = true) (some (.b (!false))) := (rfl)
theorem b_neq_rn (P : Program) (t : TypeId) (xs : List AV) : binT P .neq t (.rp xs) (.v (.pointer none)) = guardO (isPtrT P t = true) (some (.b (!false))) := (rfl)
theorem b_neq_nn (P : Program) (t : TypeId) : binT P .neq t (.v (.pointer none)) (.v (.pointer none)) = guardO (isPtrT P t = true) (some (.b (!true))) := (rfl)
theorem ofv_ptr : ofV (.pointer none) = .v (.pointer none) := (rfl)
theorem nm_agg (xs) : AV.noMem (.agg xs) = AV.noMem.noMemL xs := (rfl)
theorem nm_tup (xs) : AV.noMem (.tup xs) = AV.noMem.noMemL xs := (rfl)
theorem nmL_nil : AV.noMem.noMemL [] = true := (rfl)
theorem nmL_cons (x r) : AV.noMem.noMemL (x :: r) = (AV.noMem x && AV.noMem.noMemL r) := (rfl)
attribute [go_sem] initS frOf List.length_replicate List.size_toArray guardO_True guardO_true List.map_cons List.map_nil List.length_cons List.length_nil List.append_nil List.cons_append List.nil_append Option.map_some Option.map_none Nat.add_zero Nat.zero_add Nat.mul_one Nat.one_mul Nat.zero_mul and_true true_and and_self and_false false_and if_true if_false Bool.not_true Bool.not_false decide_true decide_false List.drop_zero eq_self b_add_w8 b_sub_w8 b_mul_w8 b_and_w8 b_or_w8 b_xor_w8 b_andNot_w8
attribute [go_sem] b_quo_w8 b_rem_w8 b_eql_w8 b_neq_w8 b_lss_w8 b_leq_w8 b_gtr_w8 b_geq_w8 b_shl_w8_i b_shl_w8_w8 b_shl_w8_w16 b_shl_w8_w32 b_shl_w8_w64 b_shr_w8_i b_shr_w8_w8 b_shr_w8_w16 b_shr_w8_w32 b_shr_w8_w64 u_xor_w8 u_neg_w8 ix_w8 c_w8_w8 c_w8_w16 c_w8_w32 c_w8_w64 c_i_w8 c_w8_i b_add_w16 b_sub_w16 b_mul_w16 b_and_w16 b_or_w16 b_xor_w16 b_andNot_w16 b_quo_w16 b_rem_w16 b_eql_w16 b_neq_w16 b_lss_w16 b_leq_w16
attribute [go_sem] b_gtr_w16 b_geq_w16 b_shl_w16_i b_shl_w16_w8 b_shl_w16_w16 b_shl_w16_w32 b_shl_w16_w64 b_shr_w16_i b_shr_w16_w8 b_shr_w16_w16 b_shr_w16_w32 b_shr_w16_w64 u_xor_w16 u_neg_w16 ix_w16 c_w16_w8 c_w16_w16 c_w16_w32 c_w16_w64 c_i_w16 c_w16_i b_add_w32 b_sub_w32 b_mul_w32 b_and_w32 b_or_w32 b_xor_w32 b_andNot_w32 b_quo_w32 b_rem_w32 b_eql_w32 b_neq_w32 b_lss_w32 b_leq_w32 b_gtr_w32 b_geq_w32 b_shl_w32_i b_shl_w32_w8 b_shl_w32_w16 b_shl_w32_w32
attribute [go_sem] b_shl_w32_w64 b_shr_w32_i b_shr_w32_w8 b_shr_w32_w16 b_shr_w32_w32 b_shr_w32_w64 u_xor_w32 u_neg_w32 ix_w32 c_w32_w8 c_w32_w16 c_w32_w32 c_w32_w64 c_i_w32 c_w32_i b_add_w64 b_sub_w64 b_mul_w64 b_and_w64 b_or_w64 b_xor_w64 b_andNot_w64 b_quo_w64 b_rem_w64 b_eql_w64 b_neq_w64 b_lss_w64 b_leq_w64 b_gtr_w64 b_geq_w64 b_shl_w64_i b_shl_w64_w8 b_shl_w64_w16 b_shl_w64_w32 b_shl_w64_w64 b_shr_w64_i b_shr_w64_w8 b_shr_w64_w16 b_shr_w64_w32 b_shr_w64_w64
attribute [go_sem] u_xor_w64 u_neg_w64 ix_w64 c_w64_w8 c_w64_w16 c_w64_w32 c_w64_w64 c_i_w64 c_w64_i c_i_i ix_i b_add_i b_sub_i b_mul_i b_and_i b_or_i b_xor_i b_eql_i b_neq_i b_lss_i b_leq_i b_gtr_i b_geq_i b_quo_i b_rem_i b_shl_i_i b_shr_i_i b_shl_i_w64 b_shr_i_w64 b_add_s b_eql_s b_neq_s b_lss_s b_leq_s b_gtr_s b_geq_s b_eql_b b_neq_b u_neg_i u_not_b
attribute [go_sem] e_move e_assign e_bin e_un e_nil e_pick e_load e_ia e_idx e_sp e_fa e_fd e_ex e_slice e_alloc e_make msF_sl e_box e_store e_conv e_build e_bslice e_call ea_call ea_len lenG_sl lenG_s lenG_arr lenG_map mpOf_mp mpOf_nil mpO_m ea_cap capF_nil ea_append ea_copy nilC_op nilC_rp pickC_b loadF_rp loadO_c loadF_op ldF_agg ldF_sc iaF_sl iaF_os iaF_rp
attribute [go_sem] iaF_op idF_agg idF_s spF_sl spF_os exF_tup stF_op stO_c cellsV_w8 cellsV_w16 cellsV_w32 cellsV_w64 cellsV_i cellsV_b cellsV_s cellsV_agg cellsV_sl cellsV_rp cellsV_os cellsV_op storeL_1 hsel_0 hsel_1 hsel_lt lenF_sl lenF_os lenF_nil lenF_s lenF_arr cvF_int cvF_str cvF_b2s cvF_s2b bdF_arr bdS_some bdS_none seqA_nil seqA_cons sq1_1 nm_w8
attribute [go_sem] nm_w16 nm_w32 nm_w64 nm_i nm_b nm_s slF_sl slF_os slF_nil slF_op slF_rp slF_s loIx_none loIx_some hiIx_none hiIx_some cpF_os cpO_c bsF_sl fillA_nil fillA_cons rep_1 rep_4 sp_1 sp_40 sp_41 sp_42 sp_43 noInt_sl noInt_s callA_S callS_p callS_q0 callS_q1 callS_f callS_g0 callS_h envL_cons sp_none sp_nodst
/-! Slices with their capacity told; appends to parts of own rows. -/
def slF3 (P : Program) (x : AV) (lo : Option AV) (hi mx : AV) : Option TypeDesc → Option AV
  | some (.slice e) => obind (szOf P e) fun z => match x with
    | .os id off n e' g => obind (loIx lo) fun l => obind (ix hi) fun h => obind (ix mx) fun m => guardO (e' = z ∧ 0 ≤ l ∧ l ≤ h ∧ h ≤ m ∧ m ≤ n) (some (.os id (off + l.toNat * z) (h.toNat - l.toNat) z g))
    | _ => none
  | _ => none
theorem e_slice3 {P : Program} {Γ : Env} {ρ : Operand → AV} {m nx n id cx : Nat} {hp : H} {t : TypeId} {x : Operand} {lo : Option Operand} {hi mx : Operand} : eff P Γ (.slice t x lo (some hi) (some mx)) ρ m nx n hp id cx = obind (slF3 P (ρ x) (lo.map ρ) (ρ hi) (ρ mx) (P.underlying t)) fun y => some (y, hp, cx) := by
  simp only [eff, cls, pureOp, sliceA3, Option.map_some, Option.isSome_some, true_and]
  cases P.underlying t with
  | none => rfl
  | some d => cases d <;> rfl
theorem slF3_os (P : Program) (id off n e' : Nat) (g : Bool) (lo : Option AV) (hi mx : AV) (e : TypeId) : slF3 P (.os id off n e' g) lo hi mx (some (.slice e)) = obind (szOf P e) fun z => obind (loIx lo) fun l => obind (ix hi) fun h => obind (ix mx) fun m => guardO (e' = z ∧ 0 ≤ l ∧ l ≤ h ∧ h ≤ m ∧ m ≤ n) (some (.os id (off + l.toNat * z) (h.toNat - l.toNat) z g)) := (rfl)
def apTO (z by_ id off n e' : Nat) (g : Bool) (i : Nat) (m : Nat) (ys : List AV) (hp : H) : AO → Option (AV × H)
  | .cells xs mt => eqO (off + n * z) xs.length (apO z by_ id off n e' g i m ys hp (.cells xs mt)) (apCut z by_ i off n e' g m ys hp id xs mt)
  | _ => none
theorem apTl_nil (z by_ m ys hp id) : apTl z by_ (.v (.slice none 0 0)) m ys hp id = guardO (m ≤ 140737488355328 ∧ m * by_ ≤ 140737488355328) (some (.os id 0 m z true, upd hp id (.cells ys true))) := (rfl)
theorem apTl_os (z by_ m ys hp id i off n e2 g) : apTl z by_ (.os i off n e2 g) m ys hp id = obind (hp i) (apTO z by_ id off n e2 g i m ys hp) := by
  unfold apTl apTO
  simp only
  cases h : hp i with
  | none => rfl
  | some o => cases o <;> first | rfl | simp only [obind_some, apTail_os, h]
theorem apTO_c (z by_ id off n e2 g i m ys hp xs mt) : apTO z by_ id off n e2 g i m ys hp (.cells xs mt) = eqO (off + n * z) xs.length (apO z by_ id off n e2 g i m ys hp (.cells xs mt)) (apCut z by_ i off n e2 g m ys hp id xs mt) := (rfl)
theorem eqO_t {α : Type} (a b : Nat) (x y : Option α) (h : a = b) : eqO a b x y = x := if_pos h
theorem eqO_s {α : Type} (a : Nat) (x y : Option α) : eqO a a x y = x := if_pos rfl
theorem eqO_f (a b : Nat) (x) (z by_ i off n e' g m ys hp id xs mt) (h : a ≠ b) : eqO a b x (apCut z by_ i off n e' g m ys hp id xs mt) = guardO (mt = true ∧ g = true ∧ e' = z ∧ off + n * z ≤ xs.length ∧ n + m ≤ 140737488355328 ∧ (n + m) * by_ ≤ 140737488355328)
    (some (.os id 0 (n + m) z true, upd (del hp i) id (.cells ((xs.drop off).take (n * z) ++ ys) true))) := if_neg h
attribute [go_sem] sp_some look_cons ob_some sm_some kf_nil kf_cons en_R pt_some pt_none up_app de_app ofv_u8 ofv_u16 ofv_u32 ofv_u64 ofv_i64 ofv_bool ofv_slice fst_mk snd_mk gdF_b runQ_P runP_nil runP_cons ev_tmp ev_const ev_func ev_glob borrowL_nil borrowL_cons bw_w8 fz_w8 bw_w16 fz_w16 bw_w32 fz_w32 bw_w64 fz_w64 bw_i fz_i
attribute [go_sem] bw_b fz_b bw_s fz_s bw_agg fz_agg bw_rp fz_rp bw_sl fz_sl bw_nil fz_nil bw_os fz_os bw_op fz_op bwO_c bwP_c fzO_c fzP_c frzArgs_nil frzArgs_cons slCells_sl slCells_nil slCells_os scO_c srcA_s srcA_sl srcA_nil srcA_os apF_sl azF_sl cntA_i apU_i apU_sl apU_s apTail_nil apTail_os cvF_mk mkF_8
attribute [go_sem] mkG_os mkO_c apO_c frzL_no sb_t sb_f bq_tt bq_tf bq_ft bq_ff borrowD_nil borrowD_cons immM_nil immM_cons imO_c imP_c immL_x imX_t imX_f noOwn_nil noOwn_w8 noOwn_w16 noOwn_w32 noOwn_w64 noOwn_i noOwn_b noOwn_s noOwn_rp noOwn_sl noOwn_os noOwn_op noOwn_nils im4_w8 im4_w16 im4_w32 im4_w64 im4_i im4_b im4_s im4_rp
attribute [go_sem] im4_sl im4_nil im4_os im4_op im4_agg im4_tup im3_w8 im3_w16 im3_w32 im3_w64 im3_i im3_b im3_s im3_rp im3_sl im3_nil im3_os im3_op im3_agg im3_tup im2_w8 im2_w16 im2_w32 im2_w64 im2_i im2_b im2_s im2_rp im2_sl im2_nil im2_os im2_op im2_agg im2_tup b_eql_agg b_eql_no b_eql_on b_eql_nr b_eql_rn b_eql_nn
attribute [go_sem] b_neq_agg b_neq_no b_neq_on b_neq_nr b_neq_rn b_neq_nn ofv_ptr nm_agg nm_tup nmL_nil nmL_cons
attribute [go_sem] gdF_u e_slice3 slF3_os apTl_nil apTl_os apTO_c eqO_s eqO_t eqO_f
attribute [go_sem] Option.getD_some bodyOf cl cr rOps lights light rN List.getElem?_toArray List.getElem?_cons_zero List.getElem?_cons_succ Option.bind_some
end Go.AX

namespace Go.AX
open Go Go.Proofs

section
variable {P : Program} {GL : Nat → Option (List AV)} {nt : Nat} {b : Code} {Q : Exit → S → Prop} {t : S}
theorem nx_then (h : Awp P GL nt b t Q) : andThenQ P GL nt b Q .normal t := h
theorem nx_blk {id : Nat} (h : Q .normal t) : inBlockQ id Q .normal t := h
theorem nx_ex_then {i : Nat} (h : Q (.exit i) t) : andThenQ P GL nt b Q (.exit i) t := h
theorem nx_ex_loop {ι : Type} {st : ι → S} {inv : ι → Prop} {μ : ι → Nat} {j : ι} {i : Nat} (h : Q (.exit i) t) : loopQ st inv μ j Q (.exit i) t := h
theorem nx_ex_blk {i : Nat} (h : Q .normal t) : inBlockQ i Q (.exit i) t := by simp only [inBlockQ]; exact h
theorem nx_ex_out {i j : Nat} (h : Q (.exit i) t) (hn : (i == j) = false) : inBlockQ j Q (.exit i) t := by simp only [inBlockQ]; rw [if_neg (by simpa using hn)]; exact h
theorem nx_loop {ι : Type} {st : ι → S} {inv : ι → Prop} {μ : ι → Nat} {i : ι} (h : ∃ j, inv j ∧ μ j < μ i ∧ Sub (st j) t) : loopQ st inv μ i Q .normal t := h
theorem nx_ret_then (h : Q .ret t) : andThenQ P GL nt b Q .ret t := h
theorem nx_ret_blk {id : Nat} (h : Q .ret t) : inBlockQ id Q .ret t := h
theorem nx_ret_loop {ι : Type} {st : ι → S} {inv : ι → Prop} {μ : ι → Nat} {j : ι} (h : Q .ret t) : loopQ st inv μ j Q .ret t := h
theorem awp_exitN {s : S} {code : Code} (i : Nat) (hc : isExit code = true) (hi : bId code = i) (h : Q (.exit i) s) : Awp P GL nt code s Q := awp_exitP hc (hi ▸ h)
theorem awp_blockN {s : S} {code : Code} (i : Nat) (hc : isBlock code = true) (hi : bId code = i) (h : Awp P GL nt (cl code) s (inBlockQ i Q)) : Awp P GL nt code s Q := awp_blockP hc (hi ▸ h)
theorem awp_ifD {s : S} {code : Code} {p : Prop} [Decidable p] (o : Operand) (hc : isCond code = true) (ho : cOp code = o) (hb : ev GL s.fr o = .b (decide p)) (ht : p → Awp P GL nt (cl code) s Q) (hf : ¬ p → Awp P GL nt (cr code) s Q) : Awp P GL nt code s Q :=
  awp_if hc (by rw [ho]; exact hb) (fun h => ht (of_decide_eq_true h)) (fun h => hf (of_decide_eq_false h))
theorem awp_ifE {s : S} {code : Code} {p : Prop} [Decidable p] (o : Operand) (hc : isCond code = true) (ho : cOp code = o) (hb : ev GL s.fr o = .b (!decide p)) (ht : ¬ p → Awp P GL nt (cl code) s Q) (hf : p → Awp P GL nt (cr code) s Q) : Awp P GL nt code s Q :=
  awp_if hc (by rw [ho]; exact hb) (fun h => ht (of_decide_eq_false (by simpa using h))) (fun h => hf (of_decide_eq_true (by simpa using h)))
theorem awp_ifB {s : S} {code : Code} {x : Bool} (o : Operand) (hc : isCond code = true) (ho : cOp code = o) (hb : ev GL s.fr o = .b x) (ht : x = true → Awp P GL nt (cl code) s Q) (hf : x = false → Awp P GL nt (cr code) s Q) : Awp P GL nt code s Q :=
  awp_if hc (by rw [ho]; exact hb) ht hf
theorem awp_drop {n : Nat} {z : AV} {l : List (Nat × AV)} {hp : H} {nx cx : Nat} {code : Code} (hn : look l n = .junk) (h : Awp P GL nt code { fr := l, hp := hp, nx := nx, cx := cx } Q) : Awp P GL nt code { fr := (n, z) :: l, hp := hp, nx := nx, cx := cx } Q :=
  awp_sub h ⟨fun k => by
    by_cases e : n = k
    · subst e; exact .inl hn
    · right; show look l k = if n = k then z else look l k; rw [if_neg e], fun _ _ h => h, Nat.le_refl _⟩ rfl

/-- What is known of a function that is called. -/
def EntOK (P : Program) (GL : Nat → Option (List AV)) (f : Nat) (s : Spec) : Prop :=
  Callable P f ∧ match s with
    | .pure _ g => PureOK P GL f g
    | .fresh _ g => FreshOK P GL f g
    | .heap g => HeapOK P GL f g
theorem envOK_nil : EnvOK P GL (envL []) := fun f s h => by cases h
theorem envOK_cons {f : Nat} {s : Spec} {l : List (Nat × Spec)} (h : EntOK P GL f s) (hl : EnvOK P GL (envL l)) : EnvOK P GL (envL ((f, s) :: l)) := by
  intro f' s' h'
  rw [envL_cons] at h'
  split at h'
  · rename_i e; subst e
    obtain rfl := Option.some.inj h'
    exact h
  · exact hl f' s' h'
end

theorem sub_same {s t : S} (h1 : s.fr = t.fr) (h2 : s.hp = t.hp) (h3 : t.cx ≤ s.cx) : Sub s t := ⟨fun _ => .inr (by rw [h1]), fun _ _ h => by rw [← h2]; exact h, h3⟩
theorem upd_upd (h : H) (i : Nat) (a b : AO) : upd (upd h i a) i b = upd h i b := by funext k; unfold upd; split <;> rfl
def c8 (l : List (BitVec 8)) : List AV := l.map .w8
def c32 (l : List (BitVec 32)) : List AV := l.map .w32
theorem c8_len (l : List (BitVec 8)) : (c8 l).length = l.length := List.length_map ..
theorem c32_len (l : List (BitVec 32)) : (c32 l).length = l.length := List.length_map ..
theorem c8_head (l : List (BitVec 8)) (k : Nat) (h : k < l.length) : ((c8 l).drop k).head? = some (.w8 (l.getD k 0#8)) := by
  rw [List.head?_drop]; simp [c8, List.getElem?_map, List.getElem?_eq_getElem h]
theorem c32_head (l : List (BitVec 32)) (k : Nat) (h : k < l.length) : ((c32 l).drop k).head? = some (.w32 (l.getD k 0#32)) := by
  rw [List.head?_drop]; simp [c32, List.getElem?_map, List.getElem?_eq_getElem h]
theorem c8_head0 (l : List (BitVec 8)) (h : 0 < l.length) : (c8 l).head? = some (.w8 (l.getD 0 0#8)) := c8_head l 0 h
theorem c32_head0 (l : List (BitVec 32)) (h : 0 < l.length) : (c32 l).head? = some (.w32 (l.getD 0 0#32)) := c32_head l 0 h
theorem c8_set (l : List (BitVec 8)) (k : Nat) (x : BitVec 8) : (c8 l).set k (.w8 x) = c8 (l.set k x) := by simp [c8, List.map_set]
theorem c32_set (l : List (BitVec 32)) (k : Nat) (x : BitVec 32) : (c32 l).set k (.w32 x) = c32 (l.set k x) := by simp [c32, List.map_set]
theorem c8_drop (l : List (BitVec 8)) (k : Nat) : (c8 l).drop k = c8 (l.drop k) := by simp [c8, List.map_drop]
theorem c8_take (l : List (BitVec 8)) (k : Nat) : (c8 l).take k = c8 (l.take k) := by simp [c8, List.map_take]
theorem c8_app (l m : List (BitVec 8)) : c8 l ++ c8 m = c8 (l ++ m) := by simp [c8]
theorem c32_app (l m : List (BitVec 32)) : c32 l ++ c32 m = c32 (l ++ m) := by simp [c32]
theorem c8_rep (n : Nat) (x : BitVec 8) : List.replicate n (AV.w8 x) = c8 (List.replicate n x) := by simp [c8]
theorem c32_rep (n : Nat) (x : BitVec 32) : List.replicate n (AV.w32 x) = c32 (List.replicate n x) := by simp [c32]
theorem c8_noOs (l : List (BitVec 8)) : noOs (c8 l) = true := by
  simp only [noOs, c8, Bool.not_eq_true', List.any_eq_false, List.mem_map]
  rintro _ ⟨x, _, rfl⟩; simp [isOs]
def splice8 (l : List (BitVec 8)) (k : Nat) (m : List (BitVec 8)) : List (BitVec 8) := l.take k ++ m ++ l.drop (k + m.length)
theorem splice_all (xs cs : List AV) (h : cs.length = xs.length) : splice xs 0 cs = cs := by
  simp only [splice, List.take_zero, List.nil_append, Nat.zero_add]
  rw [List.drop_eq_nil_of_le (by omega), List.append_nil]
theorem frzL_c8 (hp : H) (l : List (BitVec 8)) : frzL hp (c8 l) = some (c8 l, hp) := if_pos (c8_noOs l)
theorem c8_noOwn (l : List (BitVec 8)) : noOwn (c8 l) = true := by
  simp only [noOwn, c8, List.all_eq_true, List.mem_map]
  rintro _ ⟨x, _, rfl⟩; rfl
end Go.AX

namespace Go.AX
open Go Go.Proofs

def mutH (g : List AV → List AV → Option (AV × List AV)) : List AV → H → Nat → Option (AV × H × Nat)
  | .os id off n e gg :: rest, hp, nx => obind (hp id) fun o => match o with
    | .cells xs mt => guardO (mt = true) (obind (g (.os id off n e gg :: rest) xs) fun p => some (p.1, upd hp id (.cells p.2 true), nx))
    | _ => none
  | _, _, _ => none
def mutO (g : List AV → List AV → Option (AV × List AV)) (args : List AV) (id : Nat) (hp : H) (nx : Nat) : AO → Option (AV × H × Nat)
  | .cells xs mt => guardO (mt = true) (obind (g args xs) fun p => some (p.1, upd hp id (.cells p.2 true), nx))
  | _ => none
theorem mutH_os (g : List AV → List AV → Option (AV × List AV)) (id off n e : Nat) (gg : Bool) (rest : List AV) (hp : H) (nx : Nat) : mutH g (.os id off n e gg :: rest) hp nx = obind (hp id) (mutO g (.os id off n e gg :: rest) id hp nx) := by
  unfold mutH mutO; rfl
theorem mutO_c (g : List AV → List AV → Option (AV × List AV)) (args : List AV) (id : Nat) (hp : H) (nx : Nat) (xs : List AV) (mt : Bool) : mutO g args id hp nx (.cells xs mt) = guardO (mt = true) (obind (g args xs) fun p => some (p.1, upd hp id (.cells p.2 true), nx)) := (rfl)
attribute [go_sem] mutH_os mutO_c
structure MutEnd (P : Program) (rs : List ResultVar) (r : AV) (id : Nat) (ys : List AV) (t : S) : Prop where
  res : resA P rs t = some r
  row : t.hp id = some (.cells ys true)
  nm : r.noMem = true
  nms : AV.noMem.noMemL ys = true
def mutQ (P : Program) (rs : List ResultVar) (r : AV) (id : Nat) (ys : List AV) : Exit → S → Prop
  | .ret, t => MutEnd P rs r id ys t
  | .normal, t => MutEnd P rs r id ys t
  | _, _ => False

section
variable {P : Program} {GL : Nat → Option (List AV)}

theorem mut_of_awp {f : FuncId} {fn : Func} {code : Code} {g : List AV → List AV → Option (AV × List AV)} (hf : P.funcs[f]? = some fn) (hb : fn.body = some code)
    (h : ∀ id off n e gg rest nx xs r ys, g (.os id off n e gg :: rest) xs = some (r, ys) → rest.length + 1 ≤ fn.ntmps ∧ (id < nx → Awp P GL fn.ntmps code (initS (.os id off n e gg :: rest) (upd (fun _ => none) id (.cells xs true)) nx) (mutQ P fn.results.toList r id ys))) : HeapOK P GL f (mutH g) := by
  intro c σ I w hp nx args vals r hp' nx' hGL hi hs hr hg
  unfold mutH at hg
  split at hg
  case h_2 => cases hg
  rename_i id off n e gg rest
  replace hg := obind_inv hg; obtain ⟨o, ho, hg⟩ := hg
  obtain ⟨xs, mt, rfl⟩ : ∃ a b, o = AO.cells a b := by cases o <;> first | exact ⟨_, _, rfl⟩ | (simp at hg)
  simp only at hg
  replace hg := guardO_inv hg; obtain ⟨hmt, hg⟩ := hg
  subst hmt
  replace hg := obind_inv hg; obtain ⟨⟨r0, ys⟩, hgg, hg⟩ := hg
  simp only [Option.some.injEq, Prod.mk.injEq] at hg
  obtain ⟨rfl, rfl, rfl⟩ := hg
  obtain ⟨hlen, haw⟩ := h id off n e gg rest nx xs r0 ys hgg
  refine ⟨Nat.le_refl _, ?_⟩
  have hset : σ id ≠ .unset := by
    intro hu
    have := hi.own id _ ho
    simp [OwnRel, hu] at this
  have hid : id < nx := by
    apply Classical.byContradiction
    intro hc
    exact hset (hi.un id (by omega))
  have get1 : ∀ k o, upd (fun _ => none : H) id (.cells xs true) k = some o → k = id ∧ o = .cells xs true := by
    intro k o hk
    rw [upd_apply] at hk
    split at hk
    · rename_i e; exact ⟨e, (Option.some.inj hk).symm⟩
    · cases hk
  have hnI : ∀ blk base sz, σ id = .at_ blk base sz → ¬ I blk := by
    intro blk base sz e1
    have := hi.own id _ ho
    simp only [OwnRel, e1] at this
    exact this.2.1 trivial
  have hi' : Inv { w0 := w, σ0 := σ, I0 := I, O := fun k => ∃ base sz, σ id = .at_ k base sz, GL := GL, nt := fn.ntmps, u0 := fun k => k < nx ∧ σ k = .unset } σ I w (upd (fun _ => none) id (.cells xs true)) (fun k => nx ≤ k ∨ (k < nx ∧ σ k = .unset)) := by
    refine ⟨fun _ _ => rfl, fun _ h => h, fun _ _ => rfl, rfl, rfl, rfl, Nat.le_refl _, fun _ _ _ => rfl, hi.ilt, fun k o hk => ?_, fun k k' zs o' blk base sz base' sz' h1 hm h2 hne e1 => ?_, fun k zs blk base sz h1 hm e1 => ?_, fun k hk => hk.elim (hi.un k) (fun h => h.2), fun g xs hg => hi.glob g xs (by rw [hGL]; exact hg), fun _ h => .inl h⟩
    · obtain ⟨rfl, rfl⟩ := get1 k o hk; exact hi.own _ _ ho
    · obtain ⟨rfl, _⟩ := get1 k _ h1
      obtain ⟨rfl, _⟩ := get1 k' _ h2
      exact absurd rfl hne
    · obtain ⟨rfl, _⟩ := get1 k _ h1
      exact .inr ⟨base, sz, e1⟩
  have hQ : ∀ e t, mutQ P fn.results.toList r0 id ys e t → (e = .ret ∨ e = .normal) ∧ MutEnd P fn.results.toList r0 id ys t := by
    intro e t hq; cases e <;> first | exact ⟨.inl rfl, hq⟩ | exact ⟨.inr rfl, hq⟩ | exact hq.elim
  refine run_fn hf hb _ rfl rfl rfl (by simpa using hlen) (fun e t hq => (hQ e t hq).1) (haw hid) hi' (fun _ h => h.1) hs hr ?_
  intro e t a w' hq hR
  obtain ⟨⟨σ', I', a1, a2, a3⟩, _⟩ := hR
  obtain ⟨q1, q2, q3, q4⟩ := (hQ e t hq).2
  obtain ⟨v, hv, hrel⟩ := resA_sound (P := P) a1 a3 q1
  have hold : ∀ k, k < w.heap.size → (∀ base sz, σ id ≠ .at_ k base sz) → w'.heap[k]? = w.heap[k]? := fun k hk hn => a1.old k hk (fun ⟨base, sz, e⟩ => hn base sz e)
  have hIs : ∀ k, I k → w'.heap[k]? = w.heap[k]? := fun k hk => hold k (hi.ilt k hk) (fun base sz e => hnI k base sz e hk)
  have get : ∀ k o, upd hp id (.cells ys true) k = some o → (k = id ∧ o = .cells ys true) ∨ (k ≠ id ∧ hp k = some o) := by
    intro k o hk
    rw [upd_apply] at hk
    split at hk
    · rename_i e; exact .inl ⟨e, (Option.some.inj hk).symm⟩
    · rename_i e; exact .inr ⟨e, hk⟩
  refine ⟨v, hv, v, σ, I, rfl, ?_, hrel.noMem q3, ⟨fun _ _ => rfl, fun _ h => h, hIs⟩, fun _ _ h => h⟩
  refine ⟨hi.ext, hi.imm, fun k hk => by rw [hIs k (hi.imm k hk)]; exact hi.iw k hk, by rw [a1.os]; exact hi.os, by rw [a1.tape]; exact hi.tape, by rw [a1.output]; exact hi.output, Nat.le_trans hi.size a1.size, fun k hk hO => ?_, fun k hk => Nat.lt_of_lt_of_le (hi.ilt k hk) a1.size, fun k o hk => ?_, (hi.updIL ho (.cells ys true) fun _ => rfl).1, (hi.updIL ho (.cells ys true) fun _ => rfl).2, hi.un, fun g zs hg => (hi.glob g zs hg).mono (fun _ _ => rfl) (fun _ h => h) hIs, hi.inew⟩
  · rw [hold k (Nat.lt_of_lt_of_le hk hi.size) (fun base sz e => ?_)]
    · exact hi.old k hk hO
    · rcases hi.lim id _ k base sz ho rfl e with h5 | h5
      · omega
      · exact hO h5
  · rcases get k o hk with ⟨rfl, rfl⟩ | ⟨hne, h2⟩
    · have h3 := a1.own k _ q2
      have h4 : σ' k = σ k := a2.loc k hset
      have h6 := hi.own k _ ho
      simp only [OwnRel, h4] at h3 h6 ⊢
      cases e5 : σ k with
      | unset => exact absurd e5 hset
      | nil => simp only [e5] at h3 ⊢; exact h3
      | at_ blk base sz =>
        simp only [e5] at h3 h6 ⊢
        obtain ⟨⟨⟨cs, T, lo, hi2, b1, b2, b3, b4, b5⟩, b6⟩, b7⟩ := h3
        exact ⟨⟨⟨cs, T, lo, hi2, b1, b2, b3, b4, fun i hi3 => (b5 i hi3).noMem (AV.noMem_get ys q4 i hi3)⟩, b6⟩, h6.2⟩
    · have h3 := hi.own k o h2
      refine h3.mono (fun _ _ => rfl) (fun _ h => h) hIs fun blk base sz e1 => ⟨hold blk (h3.lt e1) (fun base' sz' e2 => ?_), fun _ h => h⟩
      exact hi.inj id k _ o blk base' sz' base sz ho rfl h2 (fun e => hne e.symm) e2 e1
end
end Go.AX

namespace Go.AX
open Go Go.Proofs
variable {P : Program} {GL : Nat → Option (List AV)} {nt : Nat} {code : Code} {Q : Exit → S → Prop} {s t : S}

abbrev B8 := BitVec 8
abbrev W32 := BitVec 32
def word (b : List B8) (i : Nat) : W32 :=
  (b.getD (4 * i) 0#8).setWidth 32 <<< 24 ||| (b.getD (4 * i + 1) 0#8).setWidth 32 <<< 16 ||| (b.getD (4 * i + 2) 0#8).setWidth 32 <<< 8 ||| (b.getD (4 * i + 3) 0#8).setWidth 32
def w16 (b : List B8) : Nat → List W32
  | 0 => List.replicate 64 0#32
  | i + 1 => (w16 b i).set i (word b i)
def un8 : List AV → Option (List B8)
  | [] => some []
  | .w8 x :: r => obind (un8 r) fun l => some (x :: l)
  | _ :: _ => none
theorem un8_c8 (l : List B8) : un8 (c8 l) = some l := by
  induction l with
  | nil => rfl
  | cons x r ih => show obind (un8 (c8 r)) _ = _; rw [ih]; rfl
theorem un8_inv : ∀ (xs : List AV) {l : List B8}, un8 xs = some l → xs = c8 l
  | [], l, h => by obtain rfl := Option.some.inj h; rfl
  | x :: r, l, h => by
    cases x with
    | w8 y =>
      simp only [un8] at h
      replace h := obind_inv h; obtain ⟨m, hm, h⟩ := h
      obtain rfl := Option.some.inj h
      rw [un8_inv r hm]; rfl
    | _ => cases h
def turnG : List AV → Option AV
  | [.w32 x, .i n] => if 0 ≤ n ∧ n ≤ 32 then some (.w32 (x >>> n.toNat ||| x <<< (32 - n).toNat)) else none
  | _ => none
theorem nat_ne (a b : Nat) (h : a ≠ b) : (a = b) = False := eq_false h
theorem take1_8 (x : B8) : List.take 1 (c8 [x]) = c8 [x] := (rfl)
theorem rep1_8 (x : B8) : rep 1 (c8 [x]) = c8 [x] := (rfl)
theorem sp1_8 (x y : B8) : splice (c8 [x]) 0 (c8 [y]) = c8 [y] := (rfl)
theorem tn (x : W32) (n : Int) (h0 : 0 ≤ n) (h1 : n ≤ 32) : turnG [.w32 x, .i n] = some (.w32 (x >>> n.toNat ||| x <<< (32 - n).toNat)) := if_pos ⟨h0, h1⟩
structure KC where
  k : Nat
  c : Nat
theorem nmL_c8 (l : List B8) : AV.noMem.noMemL (c8 l) = true := by
  induction l with
  | nil => rfl
  | cons x l ih => show (AV.noMem (.w8 x) && AV.noMem.noMemL (c8 l)) = true; rw [ih]; rfl
theorem nmL_c32 (l : List W32) : AV.noMem.noMemL (c32 l) = true := by
  induction l with
  | nil => rfl
  | cons x l ih => show (AV.noMem (.w32 x) && AV.noMem.noMemL (c32 l)) = true; rw [ih]; rfl
theorem awp_keep {P : Program} {GL : Nat → Option (List AV)} {nt : Nat} {code : Code} {Q : Exit → S → Prop} {fr : List (Nat × AV)} {hp : H} {nx cx : Nat} (ks : List Nat)
    (h : Awp P GL nt code { fr := keepF ks fr, hp := hp, nx := nx, cx := cx } Q) : Awp P GL nt code { fr := fr, hp := hp, nx := nx, cx := cx } Q :=
  awp_sub h (sub_keep ks { fr := fr, hp := hp, nx := nx, cx := cx }) rfl
def b4 (n : Nat) : List B8 := [BitVec.ofInt 8 ((n : Int).fdiv 16777216), BitVec.ofInt 8 ((n : Int).fdiv 65536), BitVec.ofInt 8 ((n : Int).fdiv 256), BitVec.ofInt 8 (n : Int)]
/-- Parts, as the program has them. -/
def cP (ps : List (List B8)) : List AV := ps.map fun p => .sl p.length (c8 p)
def unP : List AV → Option (List (List B8))
  | [] => some []
  | .sl n xs :: r => obind (un8 xs) fun b => guardO (b.length = n) (obind (unP r) fun l => some (b :: l))
  | _ => none
theorem unP_nil : unP [] = some [] := (rfl)
theorem unP_cons (n : Nat) (xs r : List AV) : unP (.sl n xs :: r) = obind (un8 xs) fun b => guardO (b.length = n) (obind (unP r) fun l => some (b :: l)) := (rfl)
theorem unP_cP (ps : List (List B8)) : unP (cP ps) = some ps := by
  induction ps with
  | nil => rfl
  | cons p ps ih => show obind (un8 (c8 p)) (fun b => guardO (b.length = p.length) (obind (unP (cP ps)) fun l => some (b :: l))) = _; rw [un8_c8, ih, obind_some, guardO_true _ rfl, obind_some]
theorem cP_len (ps : List (List B8)) : (cP ps).length = ps.length := List.length_map ..
theorem cP_head (ps : List (List B8)) (k : Nat) (h : k < ps.length) : ((cP ps).drop k).head? = some (.sl (ps.getD k []).length (c8 (ps.getD k []))) := by
  rw [List.head?_drop]; simp [cP, List.getElem?_map, List.getElem?_eq_getElem h]
theorem un8_nil : un8 [] = some [] := (rfl)
theorem un8_w8 (x : B8) (r : List AV) : un8 (.w8 x :: r) = obind (un8 r) fun l => some (x :: l) := (rfl)
theorem app4 (l : List B8) (a b c d : B8) : c8 l ++ [AV.w8 a, .w8 b, .w8 c, .w8 d] = c8 (l ++ [a, b, c, d]) := by simp [c8]
theorem storeL_all (xs cs : List AV) (h : cs.length = xs.length) : storeL xs 0 cs = cs := by
  unfold storeL
  split
  · rename_i c
    match xs, h with
    | [y], _ => rfl
  · exact splice_all _ _ h
theorem storeL_rep8 (n : Nat) (x : B8) (m : List B8) (h : m.length = n) : storeL (c8 (List.replicate n x)) 0 (c8 m) = c8 m := storeL_all _ _ (by rw [c8_len, c8_len, List.length_replicate, h])
theorem storeL_eq8 (l m : List B8) (h : l.length = m.length) : storeL (c8 l) 0 (c8 m) = c8 m := storeL_all _ _ (by rw [c8_len, c8_len, h])
structure KIC where
  k : Nat
  id : Nat
  c : Nat
theorem frzL_nil (hp : H) : frzL hp [] = some ([], hp) := (rfl)
theorem rep_2 (x : AV) : rep 2 [x] = [x, x] := (rfl)
theorem rep_3 (x : AV) : rep 3 [x] = [x, x, x] := (rfl)
theorem rep_5 (x : AV) : rep 5 [x] = [x, x, x, x, x] := (rfl)
theorem sp_z (x y : AV) (xs : List AV) : splice (x :: xs) 0 [y] = y :: xs := by simp [splice]
theorem sp_s (x y : AV) (xs : List AV) (k : Nat) : splice (x :: xs) (k + 1) [y] = x :: splice xs k [y] := by simp [splice]
theorem tk_s (x : AV) (xs : List AV) (k : Nat) : List.take (k + 1) (x :: xs) = x :: List.take k xs := (rfl)
theorem tk_n (k : Nat) : List.take k ([] : List AV) = [] := by simp
theorem c8_headd (l : List B8) (k : Nat) (h : k < l.length) : (c8 (l.drop k)).head? = some (.w8 (l.getD k 0#8)) := by rw [← c8_drop]; exact c8_head l k h
/-- Equality of arrays of bytes. -/
theorem eqT_c8 (P : Program) (t e : TypeId) (n : Nat) (hu : P.underlying t = some (.array n e)) (he : P.underlying e = some (.int .u8)) (hz : szOf P e = some 1) (ha : isAggT P e = some false) (l m : List B8) (hl : l.length = n) (hm : m.length = n) :
    eqT P 6 t (.agg (c8 l)) (.agg (c8 m)) = some (decide (l = m)) := by
  have hld : ∀ (l : List B8) (k : Nat), k < l.length → ldV P e ((c8 l).drop (k * 1)) = some (.w8 (l.getD k 0#8)) := by
    intro l k hk
    unfold ldV
    rw [ha, obind_some, if_neg (by decide), Nat.mul_one]
    exact c8_head l k hk
  have he5 : ∀ a b : B8, eqT P 5 e (.w8 a) (.w8 b) = some (decide (a = b)) := by
    intro a b
    unfold eqT
    rw [he]; rfl
  unfold eqT
  rw [hu]
  simp only [hz, obind_some]
  have key : ∀ (r : Nat) (k : Nat), k + r = n → eqItemsA (eqT P 5 e) (fun i cs => ldV P e (cs.drop (i * 1))) (c8 l) (c8 m) (List.range' k r) = some (decide (l.drop k = m.drop k)) := by
    intro r
    induction r with
    | zero =>
      intro k hk
      rw [List.drop_of_length_le (by omega), List.drop_of_length_le (by omega)]; rfl
    | succ r ih =>
      intro k hk
      rw [List.range'_succ]
      simp only [eqItemsA]
      rw [hld l k (by omega), hld m k (by omega)]
      simp only [obind_some, he5]
      rw [List.drop_eq_getElem_cons (by omega : k < l.length), List.drop_eq_getElem_cons (by omega : k < m.length)]
      have e1 : l.getD k 0#8 = l[k]'(by omega) := by simp [List.getD_eq_getElem?_getD, List.getElem?_eq_getElem (by omega : k < l.length)]
      have e2 : m.getD k 0#8 = m[k]'(by omega) := by simp [List.getD_eq_getElem?_getD, List.getElem?_eq_getElem (by omega : k < m.length)]
      rw [e1, e2]
      by_cases h : l[k]'(by omega) = m[k]'(by omega)
      · rw [if_pos (by simpa using h), ih (k + 1) (by omega)]
        congr 1
        rw [decide_eq_decide, List.cons.injEq]
        exact ⟨fun e => ⟨h, e⟩, fun e => e.2⟩
      · rw [if_neg (by simpa using h)]
        congr 1; symm
        rw [decide_eq_false_iff_not, List.cons.injEq]
        exact fun e => h e.1
  have := key n 0 (by omega)
  rw [List.range_eq_range']
  exact this
def frzX (hp : H) (xs : List AV) : Bool → Option (List AV × H) | true => some (xs, hp) | false => frzRec hp xs
theorem frzL_x (hp : H) (xs : List AV) : frzL hp xs = frzX hp xs (noOs xs) := by unfold frzL frzX; cases noOs xs <;> rfl
theorem frzX_t (hp : H) (xs : List AV) : frzX hp xs true = some (xs, hp) := (rfl)
theorem frzX_f (hp : H) (xs : List AV) : frzX hp xs false = frzRec hp xs := (rfl)
theorem noOs_nil : noOs [] = true := (rfl)
theorem noOs_w8 (x : B8) (r : List AV) : noOs (.w8 x :: r) = noOs r := by simp [noOs, isOs]
theorem noOs_s (x : List B8) (r : List AV) : noOs (.s x :: r) = noOs r := by simp [noOs, isOs]
theorem noOs_w16 (x : BitVec 16) (r : List AV) : noOs (.w16 x :: r) = noOs r := by simp [noOs, isOs]
theorem noOs_w32 (x : W32) (r : List AV) : noOs (.w32 x :: r) = noOs r := by simp [noOs, isOs]
theorem noOs_i (x : Int) (r : List AV) : noOs (.i x :: r) = noOs r := by simp [noOs, isOs]
theorem noOs_os (a b c d : Nat) (e : Bool) (r : List AV) : noOs (.os a b c d e :: r) = false := by simp [noOs, isOs]
theorem app1 (l : List B8) (a : B8) : c8 l ++ [AV.w8 a] = c8 (l ++ [a]) := by simp [c8]
theorem app2 (l : List B8) (a b : B8) : c8 l ++ [AV.w8 a, .w8 b] = c8 (l ++ [a, b]) := by simp [c8]
/-- A word's last k bytes, the greatest first: as far as j of them. -/
def beL (n : W32) (k : Nat) : Nat → List B8
  | 0 => []
  | j + 1 => beL n k j ++ [(n >>> (8 * (k - 1 - j))).setWidth 8]
/-- A nil slice is an own, empty one. -/
theorem awp_own {P : Program} {GL : Nat → Option (List AV)} {nt : Nat} {code : Code} {Q : Exit → S → Prop} {fr : List (Nat × AV)} {hp : H} {nx cx : Nat} (t e : Nat) (hn : look fr t = .v (.slice none 0 0))
    (h : Awp P GL nt code { fr := (t, .os cx 0 0 e true) :: fr, hp := upd hp cx (.cells [] true), nx := nx, cx := cx + 1 } Q) : Awp P GL nt code { fr := fr, hp := hp, nx := nx, cx := cx } Q := by
  intro c h1 h2 σ0 I0 w0 a w hR
  refine h c h1 h2 σ0 I0 w0 a w ?_
  obtain ⟨⟨σ, I, a1, a2, a3⟩, b, d, e1, e0⟩ := hR
  have hu : cx ≤ cx ∨ (∃ k, False ∧ cx = nx + k) ∨ c.u0 cx := .inl (Nat.le_refl _)
  have hun := a1.un cx hu
  have hσ := setLoc_ext (l := .nil) hun
  refine ⟨⟨setLoc σ cx .nil, I, (a1.newNil hu).mono_un fun id hid => ?_, a2.trans ⟨hσ, fun _ h => h, fun _ _ => rfl⟩, fun k => ?_⟩, b, d, fun k hk => hk.elim, fun id hid => ⟨(e0 id hid).1, Nat.lt_succ_of_lt (e0 id hid).2⟩⟩
  · rcases hid with hid | ⟨k, hk, _⟩ | hid
    · exact ⟨.inl (Nat.le_of_succ_le hid), Nat.ne_of_gt hid⟩
    · exact hk.elim
    · exact ⟨.inr (.inr hid), Nat.ne_of_lt (e0 id hid).2⟩
  · show Rel _ I w (if t = k then .os cx 0 0 e true else look fr k) _
    have h3 := a3 k
    by_cases hk : t = k
    · subst hk
      rw [if_pos rfl]
      have h4 : look fr t = .v (.slice none 0 0) := hn
      rw [h4] at h3
      generalize hv : a.tmps.getD t undef = v at h3
      cases h3
      exact .osnil _ _ _ (by simp [setLoc])
    · rw [if_neg hk]
      exact h3.mono hσ (fun _ h => h) (fun _ _ => rfl)
theorem hsub_nil {t : H} : ∀ j o, (fun _ => none : H) j = some o → t j = some o := fun _ _ h => by cases h
theorem hsub_cons {s t : H} {i : Nat} {a : AO} (h1 : t i = some a) (h2 : ∀ j o, s j = some o → t j = some o) : ∀ j o, upd s i a j = some o → t j = some o := by
  intro j o h
  rw [upd_apply] at h
  split at h
  · rename_i e; subst e; rw [h1]; exact h
  · exact h2 j o h
theorem unW8_c8 (l : List B8) : unW8 (c8 l) = some l := by
  induction l with
  | nil => rfl
  | cons x r ih => show obind (unW8 (c8 r)) _ = _; rw [ih]; rfl
theorem noOwn_agg (x r : List AV) : noOwn (.agg x :: r) = false := (rfl)
theorem tkr8 : List.take 8 (List.replicate 8 0#8) = List.replicate 8 0#8 := (rfl)
/-- A name, as the program has it. -/
def cS (ps : List (List B8)) : List AV := ps.map .s
def unS : List AV → Option (List (List B8))
  | [] => some []
  | .s l :: r => obind (unS r) fun ps => some (l :: ps)
  | _ => none
theorem unS_cS (ps : List (List B8)) : unS (cS ps) = some ps := by
  induction ps with
  | nil => rfl
  | cons p ps ih => show obind (unS (cS ps)) (fun l => some (p :: l)) = _; rw [ih, obind_some]
theorem cS_len (ps : List (List B8)) : (cS ps).length = ps.length := List.length_map ..
theorem cS_head (ps : List (List B8)) (k : Nat) (h : k < ps.length) : ((cS ps).drop k).head? = some (.s (ps.getD k [])) := by
  rw [List.head?_drop]; simp [cS, List.getElem?_map, List.getElem?_eq_getElem h]
theorem cS_noOwn (ps : List (List B8)) : noOwn (cS ps) = true := by
  simp only [noOwn, cS, List.all_eq_true, List.mem_map]
  rintro _ ⟨x, _, rfl⟩; rfl
theorem nmL_cS (ps : List (List B8)) : AV.noMem.noMemL (cS ps) = true := by
  induction ps with
  | nil => rfl
  | cons x l ih => show (AV.noMem (.s x) && AV.noMem.noMemL (cS l)) = true; rw [ih]; rfl
theorem cS_app (l m : List (List B8)) : cS l ++ cS m = cS (l ++ m) := by simp [cS]
theorem cS_drop (l : List (List B8)) (k : Nat) : (cS l).drop k = cS (l.drop k) := by simp [cS, List.map_drop]
theorem cS_take (l : List (List B8)) (k : Nat) : (cS l).take k = cS (l.take k) := by simp [cS, List.map_take]
theorem cS_headd (ps : List (List B8)) (k : Nat) (h : k < ps.length) : (cS (ps.drop k)).head? = some (.s (ps.getD k [])) := by rw [← cS_drop]; exact cS_head ps k h
theorem map_w8 (l : List B8) : List.map AV.w8 l = c8 l := rfl
/-- A nil slice is an empty slice. -/
def nz : AV → AV
  | .v (.slice none 0 0) => .sl 0 []
  | x => x
theorem nz_sl (n : Nat) (xs : List AV) : nz (.sl n xs) = .sl n xs := (rfl)
theorem nz_nil : nz (.v (.slice none 0 0)) = .sl 0 [] := (rfl)
theorem nz_i (n : Int) : nz (.i n) = .i n := (rfl)
theorem unS_nil : unS [] = some [] := (rfl)
theorem cS_noOs (ps : List (List B8)) : noOs (cS ps) = true := by
  simp only [noOs, cS, Bool.not_eq_true', List.any_eq_false, List.mem_map]
  rintro _ ⟨x, _, rfl⟩
  simp [isOs]
theorem unS_one (x : List B8) : unS [AV.s x] = some [x] := (rfl)
/-- What stands in an own row's cells. -/
def valAt (w : World) (l : Loc) (k : Nat) : Value :=
  match l with
  | .at_ blk base _ => match w.heap[blk]? with | some (.cells cs _ _) => cs.getD (base + k) undef | _ => undef
  | _ => undef
theorem row_vals {c : Ctx} {σ : Nat → Loc} {I : Nat → Prop} {w : World} {hp : H} {un : Nat → Prop} (h : Inv c σ I w hp un) {i : Nat} {xs : List AV} {mt : Bool} (ho : hp i = some (.cells xs mt)) : ∀ k (_h : k < xs.length), xs[k].isCell = true ∧ Rel σ I w xs[k] (valAt w (σ i) k) := by
  have hrow := h.own i _ ho
  simp only [OwnRel] at hrow
  cases e : σ i with
  | unset => simp only [e] at hrow
  | nil => simp only [e] at hrow; subst hrow; exact fun k hk => by simp at hk
  | at_ blk base sz =>
    simp only [e] at hrow
    obtain ⟨⟨⟨cs, T, lo, hi, q1, q2, q3, q4, q5⟩, q6⟩, q7⟩ := hrow
    intro k hk
    simp only [valAt, q1]
    exact ⟨q6 k hk, q5 k hk⟩
/-- An own row, told in another way. -/
theorem Inv.reRow {c : Ctx} {σ : Nat → Loc} {I : Nat → Prop} {w : World} {hp : H} {un : Nat → Prop} (h : Inv c σ I w hp un) {i : Nat} {xs ys : List AV} {mt : Bool} (ho : hp i = some (.cells xs mt)) (hl : ys.length = xs.length)
    (hr : ∀ k (_h : k < ys.length), ys[k].isCell = true ∧ Rel σ I w ys[k] (valAt w (σ i) k)) : Inv c σ I w (upd hp i (.cells ys mt)) un := by
  have get : ∀ id o, upd hp i (.cells ys mt) id = some o → (id = i ∧ o = .cells ys mt) ∨ (id ≠ i ∧ hp id = some o) := by
    intro id o h
    simp only [upd] at h
    split at h
    · rename_i e; exact .inl ⟨e, (Option.some.inj h).symm⟩
    · rename_i e; exact .inr ⟨e, h⟩
  have hil := h.updIL ho (.cells ys mt) fun h => h
  refine { h with own := fun id o h1 => ?_, inj := hil.1, lim := hil.2 }
  · rcases get id o h1 with ⟨rfl, rfl⟩ | ⟨_, h2⟩
    · have h3 := h.own id _ ho
      simp only [OwnRel] at h3 ⊢
      cases e : σ id with
      | unset => simp only [e] at h3
      | nil => simp only [e] at h3 ⊢; subst h3; exact List.eq_nil_of_length_eq_zero hl
      | at_ blk base sz =>
        simp only [e] at h3 ⊢
        obtain ⟨⟨⟨cs, T, lo, hi, q1, q2, q3, q4, q5⟩, q6⟩, q7⟩ := h3
        have h4 := hr
        simp only [e, valAt, q1] at h4
        exact ⟨⟨⟨cs, T, lo, hi, q1, q2, by omega, q4, fun k hk => (h4 k hk).2⟩, fun k hk => (h4 k hk).1⟩, q7⟩
    · exact h.own id o h2
/-- A nil slice in an own object is an own, empty one. -/
theorem awp_ownC {P : Program} {GL : Nat → Option (List AV)} {nt : Nat} {code : Code} {Q : Exit → S → Prop} {fr : List (Nat × AV)} {hp : H} {nx cx : Nat} (i z : Nat) (xs ys : List AV) (mt : Bool) (ho : hp i = some (.cells (xs ++ .v (.slice none 0 0) :: ys) mt)) (hi : i ≠ cx)
    (h : Awp P GL nt code { fr := fr, hp := upd (upd hp cx (.cells [] true)) i (.cells (xs ++ .os cx 0 0 z true :: ys) mt), nx := nx, cx := cx + 1 } Q) : Awp P GL nt code { fr := fr, hp := hp, nx := nx, cx := cx } Q := by
  intro c h1 h2 σ0 I0 w0 a w hR
  refine h c h1 h2 σ0 I0 w0 a w ?_
  obtain ⟨⟨σ, I, a1, a2, a3⟩, b, d, e1, e0⟩ := hR
  have hu : cx ≤ cx ∨ (∃ k, False ∧ cx = nx + k) ∨ c.u0 cx := .inl (Nat.le_refl _)
  have hun := a1.un cx hu
  have hσ := setLoc_ext (l := .nil) hun
  have hn := (a1.newNil hu).mono_un (un' := fun id => cx + 1 ≤ id ∨ (∃ k, False ∧ id = nx + k) ∨ c.u0 id) fun id hid => by
    rcases hid with hid | ⟨k, hk, _⟩ | hid
    · exact ⟨.inl (Nat.le_of_succ_le hid), Nat.ne_of_gt hid⟩
    · exact hk.elim
    · exact ⟨.inr (.inr hid), Nat.ne_of_lt (e0 id hid).2⟩
  have ho2 : upd hp cx (.cells [] true) i = some (.cells (xs ++ .v (.slice none 0 0) :: ys) mt) := by rw [upd_apply, if_neg hi]; exact ho
  have hσi : setLoc σ cx .nil i = σ i := by simp [setLoc, hi]
  refine ⟨⟨setLoc σ cx .nil, I, hn.reRow ho2 (by simp) (fun k hk => ?_), a2.trans ⟨hσ, fun _ h => h, fun _ _ => rfl⟩, fun k => ?_⟩, b, d, fun k hk => hk.elim, fun id hid => ⟨(e0 id hid).1, Nat.lt_succ_of_lt (e0 id hid).2⟩⟩
  · have hk2 : k < (xs ++ .v (.slice none 0 0) :: ys).length := by simpa using hk
    have h5 := row_vals hn ho2 k hk2
    by_cases e : k = xs.length
    · subst e
      rw [List.getElem_append_right (Nat.le_refl _)] at h5 ⊢
      simp only [Nat.sub_self, List.getElem_cons_zero] at h5 ⊢
      refine ⟨rfl, ?_⟩
      have h6 := h5.2
      generalize valAt w (setLoc σ cx .nil i) xs.length = v at h6 ⊢
      cases h6
      exact .osnil _ _ _ (by simp [setLoc])
    · have h7 : (xs ++ .os cx 0 0 z true :: ys)[k] = (xs ++ .v (.slice none 0 0) :: ys)[k] := by
        rw [List.getElem_append, List.getElem_append]
        split
        · rfl
        · rename_i hlt
          obtain ⟨m, hm⟩ : ∃ m, k - xs.length = m + 1 := ⟨k - xs.length - 1, by omega⟩
          simp only [hm, List.getElem_cons_succ]
      rw [h7]; exact h5
  · exact (a3 k).mono hσ (fun _ h => h) (fun _ _ => rfl)
theorem faF_srp (P : Program) (xs : List AV) (f : Nat) (fs : Array Field) : faF P (.rp xs) f (some (.struct fs)) = obind fs[f]? fun fd => obind (szOf P fd.type) fun n => guardO (0 < n) (some (.rp (xs.drop fd.offset))) := (rfl)
theorem faF_sop (P : Program) (id off : Nat) (f : Nat) (fs : Array Field) : faF P (.op id off) f (some (.struct fs)) = obind fs[f]? fun fd => obind (szOf P fd.type) fun n => guardO (0 < n) (some (.op id (off + fd.offset))) := (rfl)
theorem ar0 {α : Type} (a b : α) : (#[a, b] : Array α)[0]? = some a := (rfl)
theorem ar1 {α : Type} (a b : α) : (#[a, b] : Array α)[1]? = some b := (rfl)
theorem bdF_str (P : Program) (n : Nat) (ps : List (Nat × AV)) (zs : List AV) (fs : Array Field) : bdF P n ps (some zs) (some (.struct fs)) = obind (fillA (fun k => obind fs[k]? fun fd => obind (szOf P fd.type) fun n => some (fd.offset, n)) zs ps) fun cs => guardO (fs.toList.all (fun fd => (szOf P fd.type).isSome) = true) (some (.agg cs)) := (rfl)
theorem rep_one (zs : List AV) : rep 1 zs = zs := by simp [rep]
def fz1O (hp : H) (i off n e : Nat) : AO → Option (List AV × H)
  | .cells xs _ => guardO (off + n * e ≤ xs.length) (some ([.sl n ((xs.drop off).take (n * e))], upd hp i (.cells xs false)))
  | _ => none
theorem frzRec_os (hp : H) (i off n e : Nat) (g : Bool) : frzRec hp [.os i off n e g] = obind (hp i) (fz1O hp i off n e) := by
  simp only [frzRec]
  congr 1
theorem fz1O_c (hp : H) (i off n e : Nat) (xs : List AV) (mt : Bool) : fz1O hp i off n e (.cells xs mt) = guardO (off + n * e ≤ xs.length) (some ([.sl n ((xs.drop off).take (n * e))], upd hp i (.cells xs false))) := (rfl)
theorem b_eqlb8 (P : Program) (t : TypeId) (a b : Bool) : binT P .eql t (.b a) (.b b) = guardO (isBoolT P t = true) (some (.b (a == b))) := (rfl)
theorem b_neqb8 (P : Program) (t : TypeId) (a b : Bool) : binT P .neq t (.b a) (.b b) = guardO (isBoolT P t = true) (some (.b (!(a == b)))) := (rfl)
attribute [go_sem] c8_noOwn c8_noOs W_eq c8_len c32_len c8_head c32_head c8_head0 c32_head0 c8_set c32_set c8_take c8_drop upd_upd Int.toNat_natCast frzL_c8 c8_app c32_app c8_rep c32_rep List.length_set List.length_replicate List.take_of_length_le List.length_append List.take_zero List.map_cons List.map_nil List.getElem?_cons_zero List.getElem?_cons_succ Bool.and_true
attribute [go_sem] Bool.true_and Bool.and_self tn nmL_c8 nmL_c32 nat_ne storeL_rep8 storeL_eq8 app4 unP_nil unP_cons unP_cP cP_len cP_head un8_nil un8_w8 un8_c8 rep1_8 sp1_8 take1_8 frzL_nil c8_headd rep_2 rep_3 rep_5 sp_z sp_s tk_s tk_n frzL_x
attribute [go_sem] frzX_t frzX_f noOs_nil noOs_w8 noOs_s noOs_w16 noOs_w32 noOs_i noOs_os app1 app2 unW8_c8 noOwn_agg tkr8 unS_cS cS_len cS_head cS_headd cS_noOwn nmL_cS cS_app cS_drop cS_take cS_noOs unS_nil unS_one map_w8 nz_sl nz_nil nz_i
attribute [go_sem] rep_one faF_srp faF_sop ar0 ar1 frzRec_os fz1O_c b_eqlb8 b_neqb8 bdF_str
end Go.AX

namespace Go.AX
open Go Go.Proofs

def clO (i off n e' z : Nat) (zs : List AV) (hp : H) : AO → Option (AV × H)
  | .cells xs mt => guardO (mt = true ∧ e' = z ∧ off + n * z ≤ xs.length) (some (.tup [], upd hp i (.cells (splice xs off (rep n zs)) true)))
  | _ => none
def clX (x : AV) (z : Nat) (zs : List AV) (hp : H) : Option (AV × H) :=
  match x with
  | .os i off n e' _ => obind (hp i) (clO i off n e' z zs hp)
  | _ => none
def clM (hp : H) : AV → Option (AV × H)
  | .mp id => obind (hp id) (clrO id hp)
  | _ => none
def clF (P : Program) (hp : H) (x : AV) : Option TypeDesc → Option (AV × H)
  | some (.map _ _) => clM hp x
  | some (.slice e) => obind (szOf P e) fun z => obind (zcells P e) fun zs => guardO (0 < z ∧ zs.length = z) (clX x z zs hp)
  | _ => none
theorem ea_clear {P : Program} {Γ : Env} {ρ : Operand → AV} {m nx n id cx : Nat} {hp : H} {x : Operand} {t : TypeId} : eff P Γ (.call { callee := .builtin .clear, args := #[x], argTypes := #[t] }) ρ m nx n hp id cx = obind (clF P hp (ρ x) (P.underlying t)) fun p => some (p.1, p.2, cx) := by
  simp only [eff, cls, writeOp, clearA]
  cases P.underlying t with
  | none => rfl
  | some d => cases d <;> first | rfl | (simp only [clF, clM]; cases ρ x <;> rfl)
theorem clF_sl {P : Program} {hp : H} {x : AV} (e : TypeId) : clF P hp x (some (.slice e)) = obind (szOf P e) fun z => obind (zcells P e) fun zs => guardO (0 < z ∧ zs.length = z) (clX x z zs hp) := (rfl)
theorem clF_m {P : Program} {hp : H} {x : AV} (k e : TypeId) : clF P hp x (some (.map k e)) = clM hp x := (rfl)
theorem clM_mp (hp : H) (id : Nat) : clM hp (.mp id) = obind (hp id) (clrO id hp) := (rfl)
theorem clrO_m (id : Nat) (hp : H) (es mt) : clrO id hp (.mapo es mt) = guardO (mt = true) (some (.tup [], upd hp id (.mapo [] true))) := (rfl)
theorem clX_os (i off n e' : Nat) (g : Bool) (z : Nat) (zs : List AV) (hp : H) : clX (.os i off n e' g) z zs hp = obind (hp i) (clO i off n e' z zs hp) := (rfl)
theorem clO_c (i off n e' z : Nat) (zs xs : List AV) (mt : Bool) (hp : H) : clO i off n e' z zs hp (.cells xs mt) = guardO (mt = true ∧ e' = z ∧ off + n * z ≤ xs.length) (some (.tup [], upd hp i (.cells (splice xs off (rep n zs)) true))) := (rfl)
attribute [go_sem] ea_clear clF_m clM_mp clrO_m clF_sl clX_os clO_c
theorem ea_min {P : Program} {Γ : Env} {ρ : Operand → AV} {m nx n id cx : Nat} {hp : H} {x y : Operand} {t t2 : TypeId} : eff P Γ (.call { callee := .builtin .min, args := #[x, y], argTypes := #[t, t2] }) ρ m nx n hp id cx = obind (min2A (ρ x) (ρ y)) fun y => some (y, hp, cx) := (rfl)
theorem ea_max {P : Program} {Γ : Env} {ρ : Operand → AV} {m nx n id cx : Nat} {hp : H} {x y : Operand} {t t2 : TypeId} : eff P Γ (.call { callee := .builtin .max, args := #[x, y], argTypes := #[t, t2] }) ρ m nx n hp id cx = obind (max2A (ρ x) (ρ y)) fun y => some (y, hp, cx) := (rfl)
theorem min2_i (a b : Int) : min2A (.i a) (.i b) = some (.i (if b < a then b else a)) := (rfl)
theorem max2_i (a b : Int) : max2A (.i a) (.i b) = some (.i (if a < b then b else a)) := (rfl)
attribute [go_sem] ea_min ea_max min2_i max2_i
section
variable {P : Program} {GL : Nat → Option (List AV)}

end
end Go.AX

namespace Go.AX
open Go

section
variable {P : Program} {GL : Nat → Option (List AV)} {nt : Nat} {Q : Exit → S → Prop}

end
end Go.AX

namespace Go.AX
open Go

section
variable {P : Program} {Γ : Env} {c : Ctx} {σ0 : Nat → Loc} {I0 : Nat → Prop} {w0 : World} {md : Nat → Nat} {ops : Array Oper}

end

end Go.AX

namespace Go.AX
open Go

def rdH (g : List AV → List AV → Option (Option (AV × List AV))) : List AV → H → Nat → Option (AV × H × Nat)
  | .op id off :: rest, hp, nx => obind (hp id) fun o => match o with
    | .cells xs mt => guardO (mt = true) (obind (g (.op id off :: rest) xs) fun p => obind p fun q => some (q.1, upd hp id (.cells q.2 true), nx))
    | _ => none
  | _, _, _ => none
def rdP (g : List AV → List AV → Option (Option (AV × List AV))) : List AV → H → Nat → Option (H × Nat)
  | .op id off :: rest, hp, nx => obind (hp id) fun o => match o with
    | .cells xs mt => guardO (mt = true) (obind (g (.op id off :: rest) xs) fun p => match p with
      | some _ => none
      | none => some (del hp id, nx))
    | _ => none
  | _, _, _ => none
def rdO (g : List AV → List AV → Option (Option (AV × List AV))) (args : List AV) (id : Nat) (hp : H) (nx : Nat) : AO → Option (AV × H × Nat)
  | .cells xs mt => guardO (mt = true) (obind (g args xs) fun p => obind p fun q => some (q.1, upd hp id (.cells q.2 true), nx))
  | _ => none
theorem rdH_op (g : List AV → List AV → Option (Option (AV × List AV))) (id off : Nat) (rest : List AV) (hp : H) (nx : Nat) : rdH g (.op id off :: rest) hp nx = obind (hp id) (rdO g (.op id off :: rest) id hp nx) := by
  unfold rdH rdO; rfl
theorem rdO_c (g : List AV → List AV → Option (Option (AV × List AV))) (args : List AV) (id : Nat) (hp : H) (nx : Nat) (xs : List AV) (mt : Bool) : rdO g args id hp nx (.cells xs mt) = guardO (mt = true) (obind (g args xs) fun p => obind p fun q => some (q.1, upd hp id (.cells q.2 true), nx)) := (rfl)
def rdR (id : Nat) (hp : H) (nx : Nat) : Option (AV × List AV) → Option (H × Nat)
  | some _ => none
  | none => some (del hp id, nx)
def rdU (g : List AV → List AV → Option (Option (AV × List AV))) (args : List AV) (id : Nat) (hp : H) (nx : Nat) : AO → Option (H × Nat)
  | .cells xs mt => guardO (mt = true) (obind (g args xs) (rdR id hp nx))
  | _ => none
theorem rdP_op (g : List AV → List AV → Option (Option (AV × List AV))) (id off : Nat) (rest : List AV) (hp : H) (nx : Nat) : rdP g (.op id off :: rest) hp nx = obind (hp id) (rdU g (.op id off :: rest) id hp nx) := by
  unfold rdP rdU rdR; rfl
theorem rdU_c (g : List AV → List AV → Option (Option (AV × List AV))) (args : List AV) (id : Nat) (hp : H) (nx : Nat) (xs : List AV) (mt : Bool) : rdU g args id hp nx (.cells xs mt) = guardO (mt = true) (obind (g args xs) (rdR id hp nx)) := (rfl)
theorem rdR_n (id : Nat) (hp : H) (nx : Nat) : rdR id hp nx none = some (del hp id, nx) := (rfl)
attribute [go_sem] rdH_op rdO_c rdP_op rdU_c rdR_n
theorem b_eql_sl (P : Program) (t : TypeId) (n : Nat) (xs : List AV) : binT P .eql t (.sl n xs) (.v (.slice none 0 0)) = guardO (isSlT P t = true ∧ 0 < n) (some (.b false)) := (rfl)
theorem b_neq_sl (P : Program) (t : TypeId) (n : Nat) (xs : List AV) : binT P .neq t (.sl n xs) (.v (.slice none 0 0)) = guardO (isSlT P t = true ∧ 0 < n) (some (.b true)) := (rfl)
theorem b_eql_os (P : Program) (t : TypeId) (i off n e : Nat) (g : Bool) : binT P .eql t (.os i off n e g) (.v (.slice none 0 0)) = guardO (isSlT P t = true ∧ 0 < n) (some (.b false)) := (rfl)
theorem b_neq_os (P : Program) (t : TypeId) (i off n e : Nat) (g : Bool) : binT P .neq t (.os i off n e g) (.v (.slice none 0 0)) = guardO (isSlT P t = true ∧ 0 < n) (some (.b true)) := (rfl)
theorem b_eql_nl (P : Program) (t : TypeId) : binT P .eql t (.v (.slice none 0 0)) (.v (.slice none 0 0)) = guardO (isSlT P t = true) (some (.b true)) := (rfl)
theorem b_neq_nl (P : Program) (t : TypeId) : binT P .neq t (.v (.slice none 0 0)) (.v (.slice none 0 0)) = guardO (isSlT P t = true) (some (.b false)) := (rfl)
attribute [go_sem] b_eql_nl b_neq_nl
attribute [go_sem] b_eql_sl b_neq_sl b_eql_os b_neq_os
theorem b_neq_if (P : Program) (t t' : TypeId) (v : Value) : binT P .neq t (.v (.iface t' v)) (.v .nilIface) = guardO (isIfT P t = true) (some (.b true)) := (rfl)
theorem b_eql_if (P : Program) (t t' : TypeId) (v : Value) : binT P .eql t (.v (.iface t' v)) (.v .nilIface) = guardO (isIfT P t = true) (some (.b false)) := (rfl)
def tasV (P : Program) (t : TypeId) : AV → Option AV
  | .v (.iface t' v) => guardO (t' = t ∧ isIfT P t = false ∧ (P.underlying t).isSome = true) (some (.tup [ofV v, .b true]))
  | _ => none
theorem tasV_if (P : Program) (t t' : TypeId) (v : Value) : tasV P t (.v (.iface t' v)) = guardO (t' = t ∧ isIfT P t = false ∧ (P.underlying t).isSome = true) (some (.tup [ofV v, .b true])) := (rfl)
theorem e_tas {P : Program} {Γ : Env} {ρ : Operand → AV} {m nx n id cx : Nat} {hp : H} {x : Operand} {xt t : TypeId} : eff P Γ (.typeAssert x xt t true) ρ m nx n hp id cx = obind (tasV P t (ρ x)) fun y => some (y, hp, cx) := by
  simp only [eff, cls, pureOp, tasV]
  generalize ρ x = y
  cases y <;> first | rfl | (rename_i v; cases v <;> rfl)
theorem ofv_nif : ofV .nilIface = .v .nilIface := (rfl)
attribute [go_sem] b_neq_if b_eql_if tasV_if e_tas ofv_nif
theorem im4_fn (hp : H) (f xs) : immF 4 hp (.fn f xs) = obind (immL (immF 3 hp) xs) fun l => some (.fn f l) := (rfl)
theorem im3_fn (hp : H) (f xs) : immF 3 hp (.fn f xs) = obind (immL (immF 2 hp) xs) fun l => some (.fn f l) := (rfl)
theorem noOwn_fn (f xs r) : noOwn (.fn f xs :: r) = false := (rfl)
attribute [go_sem] im4_fn im3_fn noOwn_fn
section
variable {P : Program} {GL : Nat → Option (List AV)}

end

def ppG (g : List AV → Option (Option AV)) (args : List AV) : Option AV := obind (g args) fun o => o
def ppR (hp : H) (nx : Nat) : Option AV → Option (H × Nat)
  | some _ => none
  | none => some (hp, nx)
def ppP (g : List AV → Option (Option AV)) (args : List AV) (hp : H) (nx : Nat) : Option (H × Nat) := obind (g args) (ppR hp nx)
theorem ppG_eq (g : List AV → Option (Option AV)) (args : List AV) : ppG g args = obind (g args) fun o => o := (rfl)
theorem ppP_eq (g : List AV → Option (Option AV)) (args : List AV) (hp : H) (nx : Nat) : ppP g args hp nx = obind (g args) (ppR hp nx) := (rfl)
theorem ppR_n (hp : H) (nx : Nat) : ppR hp nx none = some (hp, nx) := (rfl)
attribute [go_sem] ppG_eq ppP_eq ppR_n
def ppQ (P : Program) (rs : List ResultVar) (ch : List PanicEntry) : Option AV → Exit → S → Prop
  | some r, e, t => pureQ P rs r e t
  | none, .panic c, _ => c = ch
  | none, _, _ => False
theorem ppQ_s (P : Program) (rs : List ResultVar) (ch : List PanicEntry) (r : AV) (e : Exit) (t : S) : ppQ P rs ch (some r) e t = pureQ P rs r e t := (rfl)
attribute [go_sem] ppQ_s
section
variable {P : Program} {GL : Nat → Option (List AV)}
end
end Go.AX

namespace Go.AX
open Go

section
variable {P : Program} {GL : Nat → Option (List AV)}

end
end Go.AX

namespace Go.AX
open Go

section
variable {P : Program} {Γ : Env} {c : Ctx} {σ0 : Nat → Loc} {I0 : Nat → Prop} {w0 : World} {md : Nat → Nat} {ops : Array Oper}

end

def stepI (P : Program) (Γ : Env) (GL : Nat → Option (List AV)) (m n k : Nat) (s : S) : Option LOp → Option S
  | some o => stepP P Γ GL m n k o s
  | none => none
theorem stepI_some (P Γ GL m n k s o) : stepI P Γ GL m n k s (some o) = stepP P Γ GL m n k o s := (rfl)
def allO (f : List Nat → Prop) : List (List Nat) → Prop
  | [] => True
  | l :: r => f l ∧ allO f r
theorem allO_nil (f) : allO f [] = True := (rfl)
theorem allO_cons (f l r) : allO f (l :: r) = (f l ∧ allO f r) := (rfl)
theorem allO_mem {f : List Nat → Prop} : ∀ {L : List (List Nat)}, allO f L → ∀ l ∈ L, f l
  | [], _, l, h => by cases h
  | x :: r, h, l, hl => by
    rcases List.mem_cons.1 hl with e | hl
    · subst e; exact h.1
    · exact allO_mem h.2 l hl

end Go.AX

namespace Go.AX
open Go

def capO (h : FuncId) (g : List AV → Option AV) (id off : Nat) (hp : H) (nx : Nat) : AO → Option (AV × H × Nat)
  | .cells xs _ => obind (g [.fn h [.rp (xs.drop off)]]) fun r => guardO (r.ids = 0) (some (r, upd hp id (.cells xs false), nx))
  | _ => none
/-- A plain function that takes a closure, which has captured one variable, as a function with own objects. -/
def capG (h : FuncId) (g : List AV → Option AV) : List AV → H → Nat → Option (AV × H × Nat)
  | [.fn h' [.op id off]], hp, nx => guardO (h' = h) (obind (hp id) (capO h g id off hp nx))
  | _, _, _ => none
theorem capG_eq (h h' : FuncId) (g : List AV → Option AV) (id off : Nat) (hp : H) (nx : Nat) : capG h g [.fn h' [.op id off]] hp nx = guardO (h' = h) (obind (hp id) (capO h g id off hp nx)) := (rfl)
theorem capO_c (h : FuncId) (g : List AV → Option AV) (id off : Nat) (hp : H) (nx : Nat) (xs : List AV) (mt : Bool) : capO h g id off hp nx (.cells xs mt) = obind (g [.fn h [.rp (xs.drop off)]]) fun r => guardO (r.ids = 0) (some (r, upd hp id (.cells xs false), nx)) := (rfl)
attribute [go_sem] capG_eq capO_c
end Go.AX

namespace Go.AX
open Go

def capO2 (h : FuncId) (g : List AV → Option AV) (x : AV) (id off : Nat) (hp : H) (nx : Nat) : AO → Option (AV × H × Nat)
  | .cells xs _ => obind (g [x, .fn h [.rp (xs.drop off)]]) fun r => guardO (r.ids = 0) (some (r, upd hp id (.cells xs false), nx))
  | _ => none
def capG2 (h : FuncId) (g : List AV → Option AV) : List AV → H → Nat → Option (AV × H × Nat)
  | [x, .fn h' [.op id off]], hp, nx => guardO (h' = h) (obind (hp id) (capO2 h g x id off hp nx))
  | _, _, _ => none
theorem capG2_eq (h h' : FuncId) (g : List AV → Option AV) (x : AV) (id off : Nat) (hp : H) (nx : Nat) : capG2 h g [x, .fn h' [.op id off]] hp nx = guardO (h' = h) (obind (hp id) (capO2 h g x id off hp nx)) := (rfl)
theorem capO2_c (h : FuncId) (g : List AV → Option AV) (x : AV) (id off : Nat) (hp : H) (nx : Nat) (xs : List AV) (mt : Bool) : capO2 h g x id off hp nx (.cells xs mt) = obind (g [x, .fn h [.rp (xs.drop off)]]) fun r => guardO (r.ids = 0) (some (r, upd hp id (.cells xs false), nx)) := (rfl)
attribute [go_sem] capG2_eq capO2_c
end Go.AX

namespace Go.AX
open Go

theorem awp_rp {P : Program} {GL : Nat → Option (List AV)} {nt : Nat} {code : Code} {Q : Exit → S → Prop} {fr : List (Nat × AV)} {hp : H} {nx cx : Nat} (t id off : Nat) {xs : List AV} {mt : Bool} (hn : look fr t = .op id off) (ho : hp id = some (.cells xs mt))
    (h : Awp P GL nt code { fr := (t, .rp (xs.drop off)) :: fr, hp := upd hp id (.cells xs false), nx := nx, cx := cx } Q) : Awp P GL nt code { fr := fr, hp := hp, nx := nx, cx := cx } Q := by
  intro c h1 h2 σ0 I0 w0 a w hR
  refine h c h1 h2 σ0 I0 w0 a w ?_
  obtain ⟨⟨σ, I, a1, a2, a3⟩, b, d, e1, e0⟩ := hR
  have ht := a3 t
  simp only at a1 a3 ht
  rw [hn] at ht
  obtain ⟨I1, b1, b2, b3⟩ := frzArg_sound (x := .op id off) (p := (.rp (xs.drop off), upd hp id (.cells xs false))) (by simp only [frzArg, ho, obind_some]) a1 ht
  have hg : Grow σ I w σ I1 w := ⟨fun _ _ => rfl, b1, fun _ _ => rfl⟩
  refine ⟨⟨σ, I1, b2, a2.trans hg, fun k => ?_⟩, b, d, e1, e0⟩
  simp only [look]
  split
  · rename_i e; subst e; exact b3
  · exact (a3 k).grow hg
/-- The same for a row. -/
theorem awp_sl {P : Program} {GL : Nat → Option (List AV)} {nt : Nat} {code : Code} {Q : Exit → S → Prop} {fr : List (Nat × AV)} {hp : H} {nx cx : Nat} (t id off n e : Nat) {g : Bool} {xs : List AV} {mt : Bool} (hn : look fr t = .os id off n e g) (ho : hp id = some (.cells xs mt)) (hl : off + n * e ≤ xs.length)
    (h : Awp P GL nt code { fr := (t, .sl n ((xs.drop off).take (n * e))) :: fr, hp := upd hp id (.cells xs false), nx := nx, cx := cx } Q) : Awp P GL nt code { fr := fr, hp := hp, nx := nx, cx := cx } Q := by
  intro c h1 h2 σ0 I0 w0 a w hR
  refine h c h1 h2 σ0 I0 w0 a w ?_
  obtain ⟨⟨σ, I, a1, a2, a3⟩, b, d, e1, e0⟩ := hR
  have ht := a3 t
  simp only at a1 a3 ht
  rw [hn] at ht
  obtain ⟨I1, b1, b2, b3⟩ := frzArg_sound (x := .os id off n e g) (p := (.sl n ((xs.drop off).take (n * e)), upd hp id (.cells xs false))) (by simp only [frzArg, ho, obind_some]; rw [guardO_true _ hl]) a1 ht
  have hg : Grow σ I w σ I1 w := ⟨fun _ _ => rfl, b1, fun _ _ => rfl⟩
  refine ⟨⟨σ, I1, b2, a2.trans hg, fun k => ?_⟩, b, d, e1, e0⟩
  simp only [look]
  split
  · rename_i e; subst e; exact b3
  · exact (a3 k).grow hg
end Go.AX

namespace Go.AX
open Go

def okPair (P : Program) (Γ : Env) (md : Nat → Nat) (ops : Array Oper) (c d j i : Nat) : Bool :=
  ((Region.before ops).getD i 0).testBit j || (j == c && i == d) || match ops[j]?, ops[i]? with
    | some y, some x => y.apart ops x && compat j i (dcOf P Γ (md j) y.op) (dcOf P Γ (md i) x.op)
    | _, _ => false
def okPairs (P : Program) (Γ : Env) (md : Nat → Nat) (ops : Array Oper) (c d : Nat) : List Nat → Bool
  | [] => true
  | j :: r => (r.all fun i => okPair P Γ md ops c d j i && j != i) && okPairs P Γ md ops c d r
def okEdges (ops : Array Oper) : Bool := (List.range ops.size).all fun j => match ops[j]? with
  | none => true
  | some y => y.after.all fun e => !Region.binds .any e || decide (e.on < j)
def okL (P : Program) (Γ : Env) (md : Nat → Nat) (ops : Array Oper) (c d : Nat) (l : List Nat) : Bool :=
  okPairs P Γ md ops c d l && ((List.range ops.size).all fun i => l.contains i) && l.all fun i => decide (i < ops.size)

section
variable {P : Program} {Γ : Env} {c : Ctx} {σ0 : Nat → Loc} {I0 : Nat → Prop} {w0 : World} {md : Nat → Nat} {ops : Array Oper}

/-- No operation is ready: all have run. -/
theorem noready_of (he : okEdges ops = true) (listed : Array Bool) (hsz : listed.size = ops.size) (hr : Region.ready .any ops listed = []) : ∀ i, i < ops.size → listed.getD i true = true := by
  intro i
  induction i using Nat.strongRecOn with
  | _ i ih =>
    intro hlt
    cases hun : listed.getD i true with
    | true => rfl
    | false =>
      have : i ∈ Region.ready .any ops listed := by
        rw [mem_ready]
        refine ⟨hun, ops[i], Array.getElem?_eq_getElem hlt, fun e he' hb => ?_⟩
        have h1 := List.all_eq_true.1 he i (List.mem_range.2 hlt)
        simp only [Array.getElem?_eq_getElem hlt] at h1
        have h2 := Array.all_eq_true_iff_forall_mem.1 h1 e he'
        have hlt' : e.on < i := by simpa [hb] using h2
        have h3 := ih e.on hlt' (by omega)
        have hs2 : e.on < listed.size := by omega
        rw [Array.getD_eq_getD_getElem?, Array.getElem?_eq_getElem hs2] at h3 ⊢
        exact h3
      rw [hr] at this; cases this
/-- What is listed is closed under what must run before. -/
def Closed (ops : Array Oper) (listed : Array Bool) : Prop := ∀ m o, listed.getD m false = true → ops[m]? = some o → ∀ e ∈ o.after, Region.binds .any e = true → listed.getD e.on false = true
theorem Closed.set {listed : Array Bool} (hdc : Closed ops listed) {i : Nat} {x : Oper} (hx : ops[i]? = some x) (hall : ∀ e ∈ x.after, Region.binds .any e = true → listed.getD e.on false = true) : Closed ops (listed.setIfInBounds i true) := by
  intro m o hm ho e he hb
  by_cases hmi : m = i
  · subst hmi
    rw [hx] at ho; obtain rfl := Option.some.inj ho
    exact getD_set_true (hall e he hb)
  · rw [getD_set_ne false (Ne.symm hmi)] at hm
    exact getD_set_true (hdc m o hm ho e he hb)

end

def ok2 (P : Program) (Γ : Env) (md : Nat → Nat) (a0 b0 : Nat) (l1 l2 : List Nat) (c : Code) : Bool := okEdges (rOps c) && okL P Γ md (rOps c) a0 b0 l1 && okL P Γ md (rOps c) b0 a0 l2
def runM (P : Program) (Γ : Env) (GL : Nat → Option (List AV)) (md : Nat → Nat) (n : Nat) (ls : List LOp) : List Nat → S → Option S
  | [], s => some s
  | i :: r, s => obind (stepI P Γ GL (md i) n i s ls[i]?) fun s' => runM P Γ GL md n ls r s'
@[congr] theorem runM_congr {P : Program} {Γ : Env} {GL : Nat → Option (List AV)} {md : Nat → Nat} {n : Nat} {ls : List LOp} {l : List Nat} {s s' : S} (h : s = s') : runM P Γ GL md n ls l s = runM P Γ GL md n ls l s' := by rw [h]
theorem runM_nil (P Γ GL md n ls s) : runM P Γ GL md n ls [] s = some s := (rfl)
theorem runM_cons (P Γ GL md n ls i r s) : runM P Γ GL md n ls (i :: r) s = obind (stepI P Γ GL (md i) n i s ls[i]?) fun s' => runM P Γ GL md n ls r s' := (rfl)

end Go.AX
