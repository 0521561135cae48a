/-
  AX, part W: rules with the rest of the code hidden; facts of the seat's types. AX, part X: evaluation, one lemma for each shape. AX, part Y: what comes next; rows of bytes and words. AX, part Z: functions that turn one own row in place, and leave all else as it was. AX, part AyA: small laws of the walks that speak of no program. AX, more, part B: 'clear' of a slice; functions that turn one own row in place and hand back a slice of it. AX, part AyC: calls that panic: what has been done is left, and all own objects are given up. AX, part AyD: a region that draws its order and ends with a call that panics.
-/
import Derived.Test.YthemkfbedajmpaaDoorBB
import Derived.Test.YthemkfbedajmpaaDoorProg
import Derived.KernelRfl
import Derived.Scope
namespace Go.AX
open Go Go.Proofs
theorem awp_regK {P : Program} {GL : Nat → Option (List AV)} {nt : Nat} {Q : Exit → S → Prop} {s : S} {code : Code} {Γ : Env} (ks : List Nat) (hΓ : eJ P GL Γ) (hc : isReg code = true) (hd : rDraw code = false) (ho : fK nt (aM code).toList = true)
  (h : ∀ K : S → Prop, (∀ t, Q .normal t → K t) → someP (runL P Γ GL (fun _ => 0) (aM code) 0 (aM code).toList (cX (aM code).size s)) fun t => K { t with fr := gL ks t.fr }) : Awp P GL nt code s Q :=
 awp_reg ks hc hd hΓ ho (h (Q .normal) fun _ h => h)
theorem awp_drwK {P : Program} {GL : Nat → Option (List AV)} {nt : Nat} {Q : Exit → S → Prop} {s : S} {code : Code} {Γ : Env} (md : Nat → Nat) (ks : List Nat) (hm : P.follows .mixedOrders = true) (hΓ : eJ P GL Γ) (hc : isReg code = true) (hd : rDraw code = true) (ho : fK nt (aM code).toList = true) (hk : okDraw P Γ md (aM code) = true)
  (h : ∀ K : S → Prop, (∀ t, Q .normal t → K t) → someP (runL P Γ GL md (aM code) 0 (aM code).toList (cX (aM code).size s)) fun t => K { t with fr := gL ks t.fr }) : Awp P GL nt code s Q :=
 awp_drw md ks hm hc hd hΓ ho hk (h (Q .normal) fun _ h => h)
theorem bZ : Tryd.prog.follows .mixedOrders = true := by kernel_rfl
theorem sz0 : cD Tryd.prog 0 = some 1 := by kernel_rfl
theorem by0 : dU Tryd.prog 0 = some 0 := by kernel_rfl
theorem ag0 : cH Tryd.prog 0 = some false := by kernel_rfl
theorem sz1 : cD Tryd.prog 1 = some 1 := by kernel_rfl
theorem by1 : dU Tryd.prog 1 = some 8 := by kernel_rfl
theorem ag1 : cH Tryd.prog 1 = some false := by kernel_rfl
theorem sz2 : cD Tryd.prog 2 = some 1 := by kernel_rfl
theorem by2 : dU Tryd.prog 2 = some 8 := by kernel_rfl
theorem ag2 : cH Tryd.prog 2 = some false := by kernel_rfl
theorem zc2 : cG Tryd.prog 2 = some ([.i 0]) := by kernel_rfl
theorem sz3 : cD Tryd.prog 3 = some 1 := by kernel_rfl
theorem by3 : dU Tryd.prog 3 = some 8 := by kernel_rfl
theorem ag3 : cH Tryd.prog 3 = some false := by kernel_rfl
theorem zc3 : cG Tryd.prog 3 = some ([.i 0]) := by kernel_rfl
theorem sz4 : cD Tryd.prog 4 = some 1 := by kernel_rfl
theorem by4 : dU Tryd.prog 4 = some 1 := by kernel_rfl
theorem ag4 : cH Tryd.prog 4 = some false := by kernel_rfl
theorem zc4 : cG Tryd.prog 4 = some ([.b false]) := by kernel_rfl
theorem sz5 : cD Tryd.prog 5 = some 1 := by kernel_rfl
theorem by5 : dU Tryd.prog 5 = some 1 := by kernel_rfl
theorem ag5 : cH Tryd.prog 5 = some false := by kernel_rfl
theorem zc5 : cG Tryd.prog 5 = some ([.w8 0#8]) := by kernel_rfl
theorem sz6 : cD Tryd.prog 6 = some 1 := by kernel_rfl
theorem by6 : dU Tryd.prog 6 = some 1 := by kernel_rfl
theorem ag6 : cH Tryd.prog 6 = some false := by kernel_rfl
theorem zc6 : cG Tryd.prog 6 = some ([.w8 0#8]) := by kernel_rfl
theorem sz7 : cD Tryd.prog 7 = some 4 := by kernel_rfl
theorem by7 : dU Tryd.prog 7 = some 24 := by kernel_rfl
theorem ag7 : cH Tryd.prog 7 = some true := by kernel_rfl
theorem zc7 : cG Tryd.prog 7 = some ([.i 0, .i 0, .b false, .w8 0#8]) := by kernel_rfl
theorem sz8 : cD Tryd.prog 8 = some 4 := by kernel_rfl
theorem by8 : dU Tryd.prog 8 = some 24 := by kernel_rfl
theorem ag8 : cH Tryd.prog 8 = some true := by kernel_rfl
theorem zc8 : cG Tryd.prog 8 = some ([.i 0, .i 0, .b false, .w8 0#8]) := by kernel_rfl
theorem sz9 : cD Tryd.prog 9 = some 1 := by kernel_rfl
theorem by9 : dU Tryd.prog 9 = some 16 := by kernel_rfl
theorem ag9 : cH Tryd.prog 9 = some false := by kernel_rfl
theorem zc9 : cG Tryd.prog 9 = some ([.s []]) := by kernel_rfl
theorem ni9 : eW Tryd.prog 9 = true := by kernel_rfl
theorem sz10 : cD Tryd.prog 10 = some 1 := by kernel_rfl
theorem by10 : dU Tryd.prog 10 = some 16 := by kernel_rfl
theorem ag10 : cH Tryd.prog 10 = some false := by kernel_rfl
theorem zc10 : cG Tryd.prog 10 = some ([.s []]) := by kernel_rfl
theorem ni10 : eW Tryd.prog 10 = true := by kernel_rfl
theorem sz11 : cD Tryd.prog 11 = some 1 := by kernel_rfl
theorem by11 : dU Tryd.prog 11 = some 16 := by kernel_rfl
theorem ag11 : cH Tryd.prog 11 = some false := by kernel_rfl
theorem zc11 : cG Tryd.prog 11 = some ([.s []]) := by kernel_rfl
theorem ni11 : eW Tryd.prog 11 = true := by kernel_rfl
theorem sz12 : cD Tryd.prog 12 = some 1 := by kernel_rfl
theorem by12 : dU Tryd.prog 12 = some 8 := by kernel_rfl
theorem ag12 : cH Tryd.prog 12 = some false := by kernel_rfl
theorem zc12 : cG Tryd.prog 12 = some ([.w64 0#64]) := by kernel_rfl
theorem sz13 : cD Tryd.prog 13 = some 2 := by kernel_rfl
theorem by13 : dU Tryd.prog 13 = some 24 := by kernel_rfl
theorem ag13 : cH Tryd.prog 13 = some true := by kernel_rfl
theorem zc13 : cG Tryd.prog 13 = some ([.s [], .w64 0#64]) := by kernel_rfl
theorem sz14 : cD Tryd.prog 14 = some 2 := by kernel_rfl
theorem by14 : dU Tryd.prog 14 = some 24 := by kernel_rfl
theorem ag14 : cH Tryd.prog 14 = some true := by kernel_rfl
theorem zc14 : cG Tryd.prog 14 = some ([.s [], .w64 0#64]) := by kernel_rfl
theorem sz15 : cD Tryd.prog 15 = some 1 := by kernel_rfl
theorem by15 : dU Tryd.prog 15 = some 8 := by kernel_rfl
theorem ag15 : cH Tryd.prog 15 = some false := by kernel_rfl
theorem zc15 : cG Tryd.prog 15 = some ([.v (Value.pointer none)]) := by kernel_rfl
theorem sz16 : cD Tryd.prog 16 = some 1 := by kernel_rfl
theorem by16 : dU Tryd.prog 16 = some 8 := by kernel_rfl
theorem ag16 : cH Tryd.prog 16 = some false := by kernel_rfl
theorem zc16 : cG Tryd.prog 16 = some ([.v (Value.pointer none)]) := by kernel_rfl
theorem sz17 : cD Tryd.prog 17 = some 1 := by kernel_rfl
theorem by17 : dU Tryd.prog 17 = some 8 := by kernel_rfl
theorem ag17 : cH Tryd.prog 17 = some false := by kernel_rfl
theorem zc17 : cG Tryd.prog 17 = some ([.v (Value.pointer none)]) := by kernel_rfl
theorem sz18 : cD Tryd.prog 18 = some 1 := by kernel_rfl
theorem by18 : dU Tryd.prog 18 = some 8 := by kernel_rfl
theorem ag18 : cH Tryd.prog 18 = some true := by kernel_rfl
theorem zc18 : cG Tryd.prog 18 = some ([.v (Value.pointer none)]) := by kernel_rfl
theorem sz19 : cD Tryd.prog 19 = some 1 := by kernel_rfl
theorem by19 : dU Tryd.prog 19 = some 8 := by kernel_rfl
theorem ag19 : cH Tryd.prog 19 = some true := by kernel_rfl
theorem zc19 : cG Tryd.prog 19 = some ([.v (Value.pointer none)]) := by kernel_rfl
theorem sz20 : cD Tryd.prog 20 = some 1 := by kernel_rfl
theorem by20 : dU Tryd.prog 20 = some 16 := by kernel_rfl
theorem ag20 : cH Tryd.prog 20 = some false := by kernel_rfl
theorem sz21 : cD Tryd.prog 21 = some 1 := by kernel_rfl
theorem by21 : dU Tryd.prog 21 = some 4 := by kernel_rfl
theorem ag21 : cH Tryd.prog 21 = some false := by kernel_rfl
theorem sz22 : cD Tryd.prog 22 = some 1 := by kernel_rfl
theorem by22 : dU Tryd.prog 22 = some 2 := by kernel_rfl
theorem ag22 : cH Tryd.prog 22 = some false := by kernel_rfl
theorem zc22 : cG Tryd.prog 22 = some ([.w16 0#16]) := by kernel_rfl
theorem sz23 : cD Tryd.prog 23 = some 1 := by kernel_rfl
theorem by23 : dU Tryd.prog 23 = some 4 := by kernel_rfl
theorem ag23 : cH Tryd.prog 23 = some false := by kernel_rfl
theorem zc23 : cG Tryd.prog 23 = some ([.w32 0#32]) := by kernel_rfl
theorem sz24 : cD Tryd.prog 24 = some 1 := by kernel_rfl
theorem by24 : dU Tryd.prog 24 = some 8 := by kernel_rfl
theorem ag24 : cH Tryd.prog 24 = some false := by kernel_rfl
theorem sz25 : cD Tryd.prog 25 = some 1 := by kernel_rfl
theorem by25 : dU Tryd.prog 25 = some 24 := by kernel_rfl
theorem ag25 : cH Tryd.prog 25 = some false := by kernel_rfl
theorem zc25 : cG Tryd.prog 25 = some ([.v (Value.slice none 0 0)]) := by kernel_rfl
theorem ni25 : eW Tryd.prog 25 = true := by kernel_rfl
theorem sz26 : cD Tryd.prog 26 = some 1 := by kernel_rfl
theorem by26 : dU Tryd.prog 26 = some 24 := by kernel_rfl
theorem ag26 : cH Tryd.prog 26 = some false := by kernel_rfl
theorem zc26 : cG Tryd.prog 26 = some ([.v (Value.slice none 0 0)]) := by kernel_rfl
theorem ni26 : eW Tryd.prog 26 = true := by kernel_rfl
theorem sz27 : cD Tryd.prog 27 = some 1 := by kernel_rfl
theorem by27 : dU Tryd.prog 27 = some 24 := by kernel_rfl
theorem ag27 : cH Tryd.prog 27 = some false := by kernel_rfl
theorem zc27 : cG Tryd.prog 27 = some ([.v (Value.slice none 0 0)]) := by kernel_rfl
theorem ni27 : eW Tryd.prog 27 = true := by kernel_rfl
theorem sz28 : cD Tryd.prog 28 = some 13 := by kernel_rfl
theorem by28 : dU Tryd.prog 28 = some 104 := by kernel_rfl
theorem ag28 : cH Tryd.prog 28 = some true := by kernel_rfl
theorem zc28 : cG Tryd.prog 28 = some ([.v (Value.slice none 0 0), .w32 0#32, .w32 0#32, .w32 0#32, .w32 0#32, .w32 0#32, .w32 0#32, .w32 0#32, .w32 0#32, .v (Value.slice none 0 0), .w16 0#16, .i 0, .w16 0#16]) := by kernel_rfl
theorem sz29 : cD Tryd.prog 29 = some 13 := by kernel_rfl
theorem by29 : dU Tryd.prog 29 = some 104 := by kernel_rfl
theorem ag29 : cH Tryd.prog 29 = some true := by kernel_rfl
theorem zc29 : cG Tryd.prog 29 = some ([.v (Value.slice none 0 0), .w32 0#32, .w32 0#32, .w32 0#32, .w32 0#32, .w32 0#32, .w32 0#32, .w32 0#32, .w32 0#32, .v (Value.slice none 0 0), .w16 0#16, .i 0, .w16 0#16]) := by kernel_rfl
theorem sz30 : cD Tryd.prog 30 = some 1 := by kernel_rfl
theorem by30 : dU Tryd.prog 30 = some 8 := by kernel_rfl
theorem ag30 : cH Tryd.prog 30 = some false := by kernel_rfl
theorem sz31 : cD Tryd.prog 31 = some 1 := by kernel_rfl
theorem by31 : dU Tryd.prog 31 = some 8 := by kernel_rfl
theorem ag31 : cH Tryd.prog 31 = some false := by kernel_rfl
theorem zc31 : cG Tryd.prog 31 = some ([.v (Value.pointer none)]) := by kernel_rfl
theorem sz32 : cD Tryd.prog 32 = some 1 := by kernel_rfl
theorem by32 : dU Tryd.prog 32 = some 8 := by kernel_rfl
theorem ag32 : cH Tryd.prog 32 = some false := by kernel_rfl
theorem zc32 : cG Tryd.prog 32 = some ([.v (Value.pointer none)]) := by kernel_rfl
theorem sz33 : cD Tryd.prog 33 = some 1 := by kernel_rfl
theorem by33 : dU Tryd.prog 33 = some 0 := by kernel_rfl
theorem ag33 : cH Tryd.prog 33 = some false := by kernel_rfl
theorem sz34 : cD Tryd.prog 34 = some 1 := by kernel_rfl
theorem by34 : dU Tryd.prog 34 = some 8 := by kernel_rfl
theorem ag34 : cH Tryd.prog 34 = some false := by kernel_rfl
theorem sz35 : cD Tryd.prog 35 = some 1 := by kernel_rfl
theorem by35 : dU Tryd.prog 35 = some 8 := by kernel_rfl
theorem ag35 : cH Tryd.prog 35 = some false := by kernel_rfl
theorem zc35 : cG Tryd.prog 35 = some ([.i 0]) := by kernel_rfl
theorem sz36 : cD Tryd.prog 36 = some 1 := by kernel_rfl
theorem by36 : dU Tryd.prog 36 = some 0 := by kernel_rfl
theorem ag36 : cH Tryd.prog 36 = some false := by kernel_rfl
theorem sz37 : cD Tryd.prog 37 = some 1 := by kernel_rfl
theorem by37 : dU Tryd.prog 37 = some 8 := by kernel_rfl
theorem ag37 : cH Tryd.prog 37 = some false := by kernel_rfl
theorem sz38 : cD Tryd.prog 38 = some 8 := by kernel_rfl
theorem by38 : dU Tryd.prog 38 = some 8 := by kernel_rfl
theorem ag38 : cH Tryd.prog 38 = some true := by kernel_rfl
theorem zc38 : cG Tryd.prog 38 = some (List.replicate 8 (.w8 0#8)) := by kernel_rfl
theorem sz39 : cD Tryd.prog 39 = some 1 := by kernel_rfl
theorem by39 : dU Tryd.prog 39 = some 24 := by kernel_rfl
theorem ag39 : cH Tryd.prog 39 = some false := by kernel_rfl
theorem zc39 : cG Tryd.prog 39 = some ([.v (Value.slice none 0 0)]) := by kernel_rfl
theorem ni39 : eW Tryd.prog 39 = true := by kernel_rfl
theorem sz40 : cD Tryd.prog 40 = some 1 := by kernel_rfl
theorem by40 : dU Tryd.prog 40 = some 8 := by kernel_rfl
theorem ag40 : cH Tryd.prog 40 = some false := by kernel_rfl
theorem sz41 : cD Tryd.prog 41 = some 1 := by kernel_rfl
theorem by41 : dU Tryd.prog 41 = some 8 := by kernel_rfl
theorem ag41 : cH Tryd.prog 41 = some false := by kernel_rfl
theorem sz42 : cD Tryd.prog 42 = some 15 := by kernel_rfl
theorem by42 : dU Tryd.prog 42 = some 56 := by kernel_rfl
theorem ag42 : cH Tryd.prog 42 = some true := by kernel_rfl
theorem sz43 : cD Tryd.prog 43 = some 15 := by kernel_rfl
theorem by43 : dU Tryd.prog 43 = some 56 := by kernel_rfl
theorem ag43 : cH Tryd.prog 43 = some true := by kernel_rfl
theorem sz44 : cD Tryd.prog 44 = some 1 := by kernel_rfl
theorem by44 : dU Tryd.prog 44 = some 0 := by kernel_rfl
theorem ag44 : cH Tryd.prog 44 = some false := by kernel_rfl
theorem sz45 : cD Tryd.prog 45 = some 1 := by kernel_rfl
theorem by45 : dU Tryd.prog 45 = some 8 := by kernel_rfl
theorem ag45 : cH Tryd.prog 45 = some false := by kernel_rfl
theorem sz46 : cD Tryd.prog 46 = some 1 := by kernel_rfl
theorem by46 : dU Tryd.prog 46 = some 8 := by kernel_rfl
theorem ag46 : cH Tryd.prog 46 = some false := by kernel_rfl
theorem sz47 : cD Tryd.prog 47 = some 1 := by kernel_rfl
theorem by47 : dU Tryd.prog 47 = some 8 := by kernel_rfl
theorem ag47 : cH Tryd.prog 47 = some false := by kernel_rfl
theorem sz48 : cD Tryd.prog 48 = some 1 := by kernel_rfl
theorem by48 : dU Tryd.prog 48 = some 8 := by kernel_rfl
theorem ag48 : cH Tryd.prog 48 = some false := by kernel_rfl
theorem sz49 : cD Tryd.prog 49 = some 1 := by kernel_rfl
theorem by49 : dU Tryd.prog 49 = some 24 := by kernel_rfl
theorem ag49 : cH Tryd.prog 49 = some false := by kernel_rfl
theorem zc49 : cG Tryd.prog 49 = some ([.v (Value.slice none 0 0)]) := by kernel_rfl
theorem ni49 : eW Tryd.prog 49 = true := by kernel_rfl
theorem sz50 : cD Tryd.prog 50 = some 1 := by kernel_rfl
theorem by50 : dU Tryd.prog 50 = some 8 := by kernel_rfl
theorem ag50 : cH Tryd.prog 50 = some false := by kernel_rfl
theorem sz51 : cD Tryd.prog 51 = some 1 := by kernel_rfl
theorem by51 : dU Tryd.prog 51 = some 8 := by kernel_rfl
theorem ag51 : cH Tryd.prog 51 = some false := by kernel_rfl
theorem sz52 : cD Tryd.prog 52 = some 1 := by kernel_rfl
theorem by52 : dU Tryd.prog 52 = some 0 := by kernel_rfl
theorem ag52 : cH Tryd.prog 52 = some false := by kernel_rfl
theorem sz53 : cD Tryd.prog 53 = some 1 := by kernel_rfl
theorem by53 : dU Tryd.prog 53 = some 8 := by kernel_rfl
theorem ag53 : cH Tryd.prog 53 = some false := by kernel_rfl
theorem sz54 : cD Tryd.prog 54 = some 1 := by kernel_rfl
theorem by54 : dU Tryd.prog 54 = some 8 := by kernel_rfl
theorem ag54 : cH Tryd.prog 54 = some false := by kernel_rfl
theorem sz55 : cD Tryd.prog 55 = some 1 := by kernel_rfl
theorem by55 : dU Tryd.prog 55 = some 8 := by kernel_rfl
theorem ag55 : cH Tryd.prog 55 = some false := by kernel_rfl
theorem sz56 : cD Tryd.prog 56 = some 1 := by kernel_rfl
theorem by56 : dU Tryd.prog 56 = some 8 := by kernel_rfl
theorem ag56 : cH Tryd.prog 56 = some false := by kernel_rfl
theorem zc56 : cG Tryd.prog 56 = some ([.v (Value.pointer none)]) := by kernel_rfl
theorem sz57 : cD Tryd.prog 57 = some 1 := by kernel_rfl
theorem by57 : dU Tryd.prog 57 = some 24 := by kernel_rfl
theorem ag57 : cH Tryd.prog 57 = some false := by kernel_rfl
theorem zc57 : cG Tryd.prog 57 = some ([.v (Value.slice none 0 0)]) := by kernel_rfl
theorem ni57 : eW Tryd.prog 57 = true := by kernel_rfl
theorem sz58 : cD Tryd.prog 58 = some 1 := by kernel_rfl
theorem by58 : dU Tryd.prog 58 = some 24 := by kernel_rfl
theorem ag58 : cH Tryd.prog 58 = some false := by kernel_rfl
theorem zc58 : cG Tryd.prog 58 = some ([.v (Value.slice none 0 0)]) := by kernel_rfl
theorem ni58 : eW Tryd.prog 58 = true := by kernel_rfl
theorem sz59 : cD Tryd.prog 59 = some 3 := by kernel_rfl
theorem by59 : dU Tryd.prog 59 = some 72 := by kernel_rfl
theorem ag59 : cH Tryd.prog 59 = some true := by kernel_rfl
theorem zc59 : cG Tryd.prog 59 = some ([.v (Value.slice none 0 0), .v (Value.slice none 0 0), .v (Value.slice none 0 0)]) := by kernel_rfl
theorem sz60 : cD Tryd.prog 60 = some 3 := by kernel_rfl
theorem by60 : dU Tryd.prog 60 = some 72 := by kernel_rfl
theorem ag60 : cH Tryd.prog 60 = some true := by kernel_rfl
theorem zc60 : cG Tryd.prog 60 = some ([.v (Value.slice none 0 0), .v (Value.slice none 0 0), .v (Value.slice none 0 0)]) := by kernel_rfl
theorem sz61 : cD Tryd.prog 61 = some 16 := by kernel_rfl
theorem by61 : dU Tryd.prog 61 = some 144 := by kernel_rfl
theorem ag61 : cH Tryd.prog 61 = some true := by kernel_rfl
theorem zc61 : cG Tryd.prog 61 = some ([.v (Value.slice none 0 0), .w32 0#32, .w32 0#32, .w32 0#32, .w32 0#32, .w32 0#32, .w32 0#32, .w32 0#32, .w32 0#32, .v (Value.slice none 0 0), .w16 0#16, .i 0, .w16 0#16, .v (Value.pointer none), .v (Value.slice none 0 0), .w32 0#32]) := by kernel_rfl
theorem sz62 : cD Tryd.prog 62 = some 16 := by kernel_rfl
theorem by62 : dU Tryd.prog 62 = some 144 := by kernel_rfl
theorem ag62 : cH Tryd.prog 62 = some true := by kernel_rfl
theorem zc62 : cG Tryd.prog 62 = some ([.v (Value.slice none 0 0), .w32 0#32, .w32 0#32, .w32 0#32, .w32 0#32, .w32 0#32, .w32 0#32, .w32 0#32, .w32 0#32, .v (Value.slice none 0 0), .w16 0#16, .i 0, .w16 0#16, .v (Value.pointer none), .v (Value.slice none 0 0), .w32 0#32]) := by kernel_rfl
theorem sz63 : cD Tryd.prog 63 = some 1 := by kernel_rfl
theorem by63 : dU Tryd.prog 63 = some 8 := by kernel_rfl
theorem ag63 : cH Tryd.prog 63 = some false := by kernel_rfl
theorem sz64 : cD Tryd.prog 64 = some 1 := by kernel_rfl
theorem by64 : dU Tryd.prog 64 = some 0 := by kernel_rfl
theorem ag64 : cH Tryd.prog 64 = some false := by kernel_rfl
theorem sz65 : cD Tryd.prog 65 = some 1 := by kernel_rfl
theorem by65 : dU Tryd.prog 65 = some 8 := by kernel_rfl
theorem ag65 : cH Tryd.prog 65 = some false := by kernel_rfl
theorem sz66 : cD Tryd.prog 66 = some 1 := by kernel_rfl
theorem by66 : dU Tryd.prog 66 = some 8 := by kernel_rfl
theorem ag66 : cH Tryd.prog 66 = some false := by kernel_rfl
theorem sz67 : cD Tryd.prog 67 = some 1 := by kernel_rfl
theorem by67 : dU Tryd.prog 67 = some 8 := by kernel_rfl
theorem ag67 : cH Tryd.prog 67 = some false := by kernel_rfl
theorem sz68 : cD Tryd.prog 68 = some 1 := by kernel_rfl
theorem by68 : dU Tryd.prog 68 = some 8 := by kernel_rfl
theorem ag68 : cH Tryd.prog 68 = some false := by kernel_rfl
theorem sz69 : cD Tryd.prog 69 = some 1 := by kernel_rfl
theorem by69 : dU Tryd.prog 69 = some 0 := by kernel_rfl
theorem ag69 : cH Tryd.prog 69 = some false := by kernel_rfl
theorem sz70 : cD Tryd.prog 70 = some 1 := by kernel_rfl
theorem by70 : dU Tryd.prog 70 = some 8 := by kernel_rfl
theorem ag70 : cH Tryd.prog 70 = some false := by kernel_rfl
theorem sz71 : cD Tryd.prog 71 = some 1 := by kernel_rfl
theorem by71 : dU Tryd.prog 71 = some 8 := by kernel_rfl
theorem ag71 : cH Tryd.prog 71 = some false := by kernel_rfl
theorem sz72 : cD Tryd.prog 72 = some 1 := by kernel_rfl
theorem by72 : dU Tryd.prog 72 = some 8 := by kernel_rfl
theorem ag72 : cH Tryd.prog 72 = some false := by kernel_rfl
theorem sz73 : cD Tryd.prog 73 = some 1 := by kernel_rfl
theorem by73 : dU Tryd.prog 73 = some 8 := by kernel_rfl
theorem ag73 : cH Tryd.prog 73 = some false := by kernel_rfl
theorem sz74 : cD Tryd.prog 74 = some 1 := by kernel_rfl
theorem by74 : dU Tryd.prog 74 = some 8 := by kernel_rfl
theorem ag74 : cH Tryd.prog 74 = some false := by kernel_rfl
theorem sz75 : cD Tryd.prog 75 = some 1 := by kernel_rfl
theorem by75 : dU Tryd.prog 75 = some 8 := by kernel_rfl
theorem ag75 : cH Tryd.prog 75 = some false := by kernel_rfl
theorem sz76 : cD Tryd.prog 76 = some 1 := by kernel_rfl
theorem by76 : dU Tryd.prog 76 = some 8 := by kernel_rfl
theorem ag76 : cH Tryd.prog 76 = some false := by kernel_rfl
theorem sz77 : cD Tryd.prog 77 = some 1 := by kernel_rfl
theorem by77 : dU Tryd.prog 77 = some 8 := by kernel_rfl
theorem ag77 : cH Tryd.prog 77 = some false := by kernel_rfl
theorem sz78 : cD Tryd.prog 78 = some 1 := by kernel_rfl
theorem by78 : dU Tryd.prog 78 = some 8 := by kernel_rfl
theorem ag78 : cH Tryd.prog 78 = some false := by kernel_rfl
theorem zc78 : cG Tryd.prog 78 = some ([.v (Value.map none)]) := by kernel_rfl
theorem sz79 : cD Tryd.prog 79 = some 1 := by kernel_rfl
theorem by79 : dU Tryd.prog 79 = some 8 := by kernel_rfl
theorem ag79 : cH Tryd.prog 79 = some false := by kernel_rfl
theorem zc79 : cG Tryd.prog 79 = some ([.v (Value.map none)]) := by kernel_rfl
theorem sz80 : cD Tryd.prog 80 = some 16 := by kernel_rfl
theorem by80 : dU Tryd.prog 80 = some 128 := by kernel_rfl
theorem ag80 : cH Tryd.prog 80 = some true := by kernel_rfl
theorem zc80 : cG Tryd.prog 80 = some ([.v (Value.slice none 0 0), .w32 0#32, .w32 0#32, .w32 0#32, .w32 0#32, .w32 0#32, .w32 0#32, .w32 0#32, .w32 0#32, .v (Value.slice none 0 0), .w16 0#16, .i 0, .w16 0#16, .v (Value.map none), .w32 0#32, .v (Value.map none)]) := by kernel_rfl
theorem sz81 : cD Tryd.prog 81 = some 16 := by kernel_rfl
theorem by81 : dU Tryd.prog 81 = some 128 := by kernel_rfl
theorem ag81 : cH Tryd.prog 81 = some true := by kernel_rfl
theorem zc81 : cG Tryd.prog 81 = some ([.v (Value.slice none 0 0), .w32 0#32, .w32 0#32, .w32 0#32, .w32 0#32, .w32 0#32, .w32 0#32, .w32 0#32, .w32 0#32, .v (Value.slice none 0 0), .w16 0#16, .i 0, .w16 0#16, .v (Value.map none), .w32 0#32, .v (Value.map none)]) := by kernel_rfl
theorem sz82 : cD Tryd.prog 82 = some 1 := by kernel_rfl
theorem by82 : dU Tryd.prog 82 = some 8 := by kernel_rfl
theorem ag82 : cH Tryd.prog 82 = some false := by kernel_rfl
theorem zc82 : cG Tryd.prog 82 = some ([.v (Value.pointer none)]) := by kernel_rfl
theorem sz83 : cD Tryd.prog 83 = some 1 := by kernel_rfl
theorem by83 : dU Tryd.prog 83 = some 8 := by kernel_rfl
theorem ag83 : cH Tryd.prog 83 = some false := by kernel_rfl
theorem sz84 : cD Tryd.prog 84 = some 1 := by kernel_rfl
theorem by84 : dU Tryd.prog 84 = some 8 := by kernel_rfl
theorem ag84 : cH Tryd.prog 84 = some false := by kernel_rfl
theorem sz85 : cD Tryd.prog 85 = some 4 := by kernel_rfl
theorem by85 : dU Tryd.prog 85 = some 32 := by kernel_rfl
theorem ag85 : cH Tryd.prog 85 = some true := by kernel_rfl
theorem zc85 : cG Tryd.prog 85 = some ([.w16 0#16, .w8 0#8, .w8 0#8, .v (Value.slice none 0 0)]) := by kernel_rfl
theorem sz86 : cD Tryd.prog 86 = some 4 := by kernel_rfl
theorem by86 : dU Tryd.prog 86 = some 32 := by kernel_rfl
theorem ag86 : cH Tryd.prog 86 = some true := by kernel_rfl
theorem zc86 : cG Tryd.prog 86 = some ([.w16 0#16, .w8 0#8, .w8 0#8, .v (Value.slice none 0 0)]) := by kernel_rfl
theorem sz87 : cD Tryd.prog 87 = some 1 := by kernel_rfl
theorem by87 : dU Tryd.prog 87 = some 8 := by kernel_rfl
theorem ag87 : cH Tryd.prog 87 = some false := by kernel_rfl
theorem sz88 : cD Tryd.prog 88 = some 1 := by kernel_rfl
theorem by88 : dU Tryd.prog 88 = some 8 := by kernel_rfl
theorem ag88 : cH Tryd.prog 88 = some false := by kernel_rfl
theorem zc88 : cG Tryd.prog 88 = some ([.w64 0#64]) := by kernel_rfl
theorem sz89 : cD Tryd.prog 89 = some 3 := by kernel_rfl
theorem by89 : dU Tryd.prog 89 = some 24 := by kernel_rfl
theorem ag89 : cH Tryd.prog 89 = some true := by kernel_rfl
theorem zc89 : cG Tryd.prog 89 = some ([.w32 0#32, .i 0, .w32 0#32]) := by kernel_rfl
theorem sz90 : cD Tryd.prog 90 = some 3 := by kernel_rfl
theorem by90 : dU Tryd.prog 90 = some 24 := by kernel_rfl
theorem ag90 : cH Tryd.prog 90 = some true := by kernel_rfl
theorem zc90 : cG Tryd.prog 90 = some ([.w32 0#32, .i 0, .w32 0#32]) := by kernel_rfl
theorem sz91 : cD Tryd.prog 91 = some 1 := by kernel_rfl
theorem by91 : dU Tryd.prog 91 = some 24 := by kernel_rfl
theorem ag91 : cH Tryd.prog 91 = some false := by kernel_rfl
theorem zc91 : cG Tryd.prog 91 = some ([.v (Value.slice none 0 0)]) := by kernel_rfl
theorem ni91 : eW Tryd.prog 91 = true := by kernel_rfl
theorem sz92 : cD Tryd.prog 92 = some 1 := by kernel_rfl
theorem by92 : dU Tryd.prog 92 = some 8 := by kernel_rfl
theorem ag92 : cH Tryd.prog 92 = some false := by kernel_rfl
theorem sz93 : cD Tryd.prog 93 = some 1 := by kernel_rfl
theorem by93 : dU Tryd.prog 93 = some 8 := by kernel_rfl
theorem ag93 : cH Tryd.prog 93 = some false := by kernel_rfl
theorem sz94 : cD Tryd.prog 94 = some 1 := by kernel_rfl
theorem by94 : dU Tryd.prog 94 = some 8 := by kernel_rfl
theorem ag94 : cH Tryd.prog 94 = some false := by kernel_rfl
theorem sz95 : cD Tryd.prog 95 = some 1 := by kernel_rfl
theorem by95 : dU Tryd.prog 95 = some 8 := by kernel_rfl
theorem ag95 : cH Tryd.prog 95 = some false := by kernel_rfl
theorem sz96 : cD Tryd.prog 96 = some 1 := by kernel_rfl
theorem by96 : dU Tryd.prog 96 = some 8 := by kernel_rfl
theorem ag96 : cH Tryd.prog 96 = some false := by kernel_rfl
theorem sz97 : cD Tryd.prog 97 = some 1 := by kernel_rfl
theorem by97 : dU Tryd.prog 97 = some 8 := by kernel_rfl
theorem ag97 : cH Tryd.prog 97 = some false := by kernel_rfl
theorem sz98 : cD Tryd.prog 98 = some 1 := by kernel_rfl
theorem by98 : dU Tryd.prog 98 = some 8 := by kernel_rfl
theorem ag98 : cH Tryd.prog 98 = some false := by kernel_rfl
theorem sz99 : cD Tryd.prog 99 = some 1 := by kernel_rfl
theorem by99 : dU Tryd.prog 99 = some 8 := by kernel_rfl
theorem ag99 : cH Tryd.prog 99 = some false := by kernel_rfl
theorem sz100 : cD Tryd.prog 100 = some 1 := by kernel_rfl
theorem by100 : dU Tryd.prog 100 = some 0 := by kernel_rfl
theorem ag100 : cH Tryd.prog 100 = some false := by kernel_rfl
theorem sz101 : cD Tryd.prog 101 = some 1 := by kernel_rfl
theorem by101 : dU Tryd.prog 101 = some 8 := by kernel_rfl
theorem ag101 : cH Tryd.prog 101 = some false := by kernel_rfl
theorem sz102 : cD Tryd.prog 102 = some 1 := by kernel_rfl
theorem by102 : dU Tryd.prog 102 = some 24 := by kernel_rfl
theorem ag102 : cH Tryd.prog 102 = some false := by kernel_rfl
theorem zc102 : cG Tryd.prog 102 = some ([.v (Value.slice none 0 0)]) := by kernel_rfl
theorem ni102 : eW Tryd.prog 102 = true := by kernel_rfl
theorem sz103 : cD Tryd.prog 103 = some 9 := by kernel_rfl
theorem by103 : dU Tryd.prog 103 = some 32 := by kernel_rfl
theorem ag103 : cH Tryd.prog 103 = some true := by kernel_rfl
theorem sz104 : cD Tryd.prog 104 = some 9 := by kernel_rfl
theorem by104 : dU Tryd.prog 104 = some 32 := by kernel_rfl
theorem ag104 : cH Tryd.prog 104 = some true := by kernel_rfl
theorem sz105 : cD Tryd.prog 105 = some 1 := by kernel_rfl
theorem by105 : dU Tryd.prog 105 = some 8 := by kernel_rfl
theorem ag105 : cH Tryd.prog 105 = some false := by kernel_rfl
theorem sz106 : cD Tryd.prog 106 = some 1 := by kernel_rfl
theorem by106 : dU Tryd.prog 106 = some 8 := by kernel_rfl
theorem ag106 : cH Tryd.prog 106 = some false := by kernel_rfl
theorem zc106 : cG Tryd.prog 106 = some ([.w64 0#64]) := by kernel_rfl
theorem sz107 : cD Tryd.prog 107 = some 1 := by kernel_rfl
theorem by107 : dU Tryd.prog 107 = some 8 := by kernel_rfl
theorem ag107 : cH Tryd.prog 107 = some false := by kernel_rfl
theorem sz108 : cD Tryd.prog 108 = some 1 := by kernel_rfl
theorem by108 : dU Tryd.prog 108 = some 8 := by kernel_rfl
theorem ag108 : cH Tryd.prog 108 = some false := by kernel_rfl
theorem sz109 : cD Tryd.prog 109 = some 1 := by kernel_rfl
theorem by109 : dU Tryd.prog 109 = some 8 := by kernel_rfl
theorem ag109 : cH Tryd.prog 109 = some false := by kernel_rfl
theorem sz110 : cD Tryd.prog 110 = some 1 := by kernel_rfl
theorem by110 : dU Tryd.prog 110 = some 8 := by kernel_rfl
theorem ag110 : cH Tryd.prog 110 = some false := by kernel_rfl
theorem sz111 : cD Tryd.prog 111 = some 1 := by kernel_rfl
theorem by111 : dU Tryd.prog 111 = some 8 := by kernel_rfl
theorem ag111 : cH Tryd.prog 111 = some false := by kernel_rfl
theorem sz112 : cD Tryd.prog 112 = some 1 := by kernel_rfl
theorem by112 : dU Tryd.prog 112 = some 8 := by kernel_rfl
theorem ag112 : cH Tryd.prog 112 = some false := by kernel_rfl
theorem sz113 : cD Tryd.prog 113 = some 1 := by kernel_rfl
theorem by113 : dU Tryd.prog 113 = some 8 := by kernel_rfl
theorem ag113 : cH Tryd.prog 113 = some false := by kernel_rfl
theorem sz114 : cD Tryd.prog 114 = some 1 := by kernel_rfl
theorem by114 : dU Tryd.prog 114 = some 8 := by kernel_rfl
theorem ag114 : cH Tryd.prog 114 = some false := by kernel_rfl
theorem sz115 : cD Tryd.prog 115 = some 1 := by kernel_rfl
theorem by115 : dU Tryd.prog 115 = some 8 := by kernel_rfl
theorem ag115 : cH Tryd.prog 115 = some false := by kernel_rfl
theorem sz116 : cD Tryd.prog 116 = some 1 := by kernel_rfl
theorem by116 : dU Tryd.prog 116 = some 8 := by kernel_rfl
theorem ag116 : cH Tryd.prog 116 = some false := by kernel_rfl
theorem zc116 : cG Tryd.prog 116 = some ([.i 0]) := by kernel_rfl
theorem sz117 : cD Tryd.prog 117 = some 1 := by kernel_rfl
theorem by117 : dU Tryd.prog 117 = some 0 := by kernel_rfl
theorem ag117 : cH Tryd.prog 117 = some false := by kernel_rfl
theorem sz118 : cD Tryd.prog 118 = some 1 := by kernel_rfl
theorem by118 : dU Tryd.prog 118 = some 8 := by kernel_rfl
theorem ag118 : cH Tryd.prog 118 = some false := by kernel_rfl
theorem sz119 : cD Tryd.prog 119 = some 1 := by kernel_rfl
theorem by119 : dU Tryd.prog 119 = some 8 := by kernel_rfl
theorem ag119 : cH Tryd.prog 119 = some false := by kernel_rfl
theorem sz120 : cD Tryd.prog 120 = some 1 := by kernel_rfl
theorem by120 : dU Tryd.prog 120 = some 8 := by kernel_rfl
theorem ag120 : cH Tryd.prog 120 = some false := by kernel_rfl
theorem sz121 : cD Tryd.prog 121 = some 1 := by kernel_rfl
theorem by121 : dU Tryd.prog 121 = some 0 := by kernel_rfl
theorem ag121 : cH Tryd.prog 121 = some false := by kernel_rfl
theorem sz122 : cD Tryd.prog 122 = some 1 := by kernel_rfl
theorem by122 : dU Tryd.prog 122 = some 8 := by kernel_rfl
theorem ag122 : cH Tryd.prog 122 = some false := by kernel_rfl
theorem sz123 : cD Tryd.prog 123 = some 1 := by kernel_rfl
theorem by123 : dU Tryd.prog 123 = some 8 := by kernel_rfl
theorem ag123 : cH Tryd.prog 123 = some false := by kernel_rfl
theorem sz124 : cD Tryd.prog 124 = some 16 := by kernel_rfl
theorem by124 : dU Tryd.prog 124 = some 16 := by kernel_rfl
theorem ag124 : cH Tryd.prog 124 = some true := by kernel_rfl
theorem sz125 : cD Tryd.prog 125 = some 512 := by kernel_rfl
theorem by125 : dU Tryd.prog 125 = some 512 := by kernel_rfl
theorem ag125 : cH Tryd.prog 125 = some true := by kernel_rfl
theorem sz126 : cD Tryd.prog 126 = some 1 := by kernel_rfl
theorem by126 : dU Tryd.prog 126 = some 8 := by kernel_rfl
theorem ag126 : cH Tryd.prog 126 = some false := by kernel_rfl
theorem sz127 : cD Tryd.prog 127 = some 1 := by kernel_rfl
theorem by127 : dU Tryd.prog 127 = some 8 := by kernel_rfl
theorem ag127 : cH Tryd.prog 127 = some false := by kernel_rfl
theorem sz128 : cD Tryd.prog 128 = some 1 := by kernel_rfl
theorem by128 : dU Tryd.prog 128 = some 8 := by kernel_rfl
theorem ag128 : cH Tryd.prog 128 = some false := by kernel_rfl
theorem sz129 : cD Tryd.prog 129 = some 1 := by kernel_rfl
theorem by129 : dU Tryd.prog 129 = some 8 := by kernel_rfl
theorem ag129 : cH Tryd.prog 129 = some false := by kernel_rfl
theorem zc129 : cG Tryd.prog 129 = some ([.v (Value.pointer none)]) := by kernel_rfl
theorem sz130 : cD Tryd.prog 130 = some 1 := by kernel_rfl
theorem by130 : dU Tryd.prog 130 = some 8 := by kernel_rfl
theorem ag130 : cH Tryd.prog 130 = some false := by kernel_rfl
theorem sz131 : cD Tryd.prog 131 = some 1 := by kernel_rfl
theorem by131 : dU Tryd.prog 131 = some 8 := by kernel_rfl
theorem ag131 : cH Tryd.prog 131 = some false := by kernel_rfl
theorem zc131 : cG Tryd.prog 131 = some ([.w64 0#64]) := by kernel_rfl
theorem sz132 : cD Tryd.prog 132 = some 1 := by kernel_rfl
theorem by132 : dU Tryd.prog 132 = some 8 := by kernel_rfl
theorem ag132 : cH Tryd.prog 132 = some false := by kernel_rfl
theorem sz133 : cD Tryd.prog 133 = some 1 := by kernel_rfl
theorem by133 : dU Tryd.prog 133 = some 8 := by kernel_rfl
theorem ag133 : cH Tryd.prog 133 = some false := by kernel_rfl
theorem sz134 : cD Tryd.prog 134 = some 1 := by kernel_rfl
theorem by134 : dU Tryd.prog 134 = some 8 := by kernel_rfl
theorem ag134 : cH Tryd.prog 134 = some false := by kernel_rfl
theorem sz135 : cD Tryd.prog 135 = some 1 := by kernel_rfl
theorem by135 : dU Tryd.prog 135 = some 8 := by kernel_rfl
theorem ag135 : cH Tryd.prog 135 = some false := by kernel_rfl
theorem zc135 : cG Tryd.prog 135 = some ([.v (Value.pointer none)]) := by kernel_rfl
theorem sz136 : cD Tryd.prog 136 = some 1 := by kernel_rfl
theorem by136 : dU Tryd.prog 136 = some 8 := by kernel_rfl
theorem ag136 : cH Tryd.prog 136 = some false := by kernel_rfl
theorem sz137 : cD Tryd.prog 137 = some 1 := by kernel_rfl
theorem by137 : dU Tryd.prog 137 = some 24 := by kernel_rfl
theorem ag137 : cH Tryd.prog 137 = some false := by kernel_rfl
theorem zc137 : cG Tryd.prog 137 = some ([.v (Value.slice none 0 0)]) := by kernel_rfl
theorem ni137 : eW Tryd.prog 137 = true := by kernel_rfl
theorem sz138 : cD Tryd.prog 138 = some 32 := by kernel_rfl
theorem by138 : dU Tryd.prog 138 = some 32 := by kernel_rfl
theorem ag138 : cH Tryd.prog 138 = some true := by kernel_rfl
theorem zc138 : cG Tryd.prog 138 = some (List.replicate 32 (.w8 0#8)) := by kernel_rfl
theorem sz139 : cD Tryd.prog 139 = some 1 := by kernel_rfl
theorem by139 : dU Tryd.prog 139 = some 8 := by kernel_rfl
theorem ag139 : cH Tryd.prog 139 = some false := by kernel_rfl
theorem sz140 : cD Tryd.prog 140 = some 1 := by kernel_rfl
theorem by140 : dU Tryd.prog 140 = some 8 := by kernel_rfl
theorem ag140 : cH Tryd.prog 140 = some false := by kernel_rfl
theorem zc140 : cG Tryd.prog 140 = some ([.v (Value.pointer none)]) := by kernel_rfl
theorem sz141 : cD Tryd.prog 141 = some 1 := by kernel_rfl
theorem by141 : dU Tryd.prog 141 = some 0 := by kernel_rfl
theorem ag141 : cH Tryd.prog 141 = some false := by kernel_rfl
theorem sz142 : cD Tryd.prog 142 = some 1 := by kernel_rfl
theorem by142 : dU Tryd.prog 142 = some 8 := by kernel_rfl
theorem ag142 : cH Tryd.prog 142 = some false := by kernel_rfl
theorem sz143 : cD Tryd.prog 143 = some 8 := by kernel_rfl
theorem by143 : dU Tryd.prog 143 = some 32 := by kernel_rfl
theorem ag143 : cH Tryd.prog 143 = some true := by kernel_rfl
theorem zc143 : cG Tryd.prog 143 = some (List.replicate 8 (.w32 0#32)) := by kernel_rfl
theorem sz144 : cD Tryd.prog 144 = some 8 := by kernel_rfl
theorem by144 : dU Tryd.prog 144 = some 32 := by kernel_rfl
theorem ag144 : cH Tryd.prog 144 = some true := by kernel_rfl
theorem zc144 : cG Tryd.prog 144 = some (List.replicate 8 (.w32 0#32)) := by kernel_rfl
theorem sz145 : cD Tryd.prog 145 = some 1 := by kernel_rfl
theorem by145 : dU Tryd.prog 145 = some 8 := by kernel_rfl
theorem ag145 : cH Tryd.prog 145 = some false := by kernel_rfl
theorem sz146 : cD Tryd.prog 146 = some 128 := by kernel_rfl
theorem by146 : dU Tryd.prog 146 = some 128 := by kernel_rfl
theorem ag146 : cH Tryd.prog 146 = some true := by kernel_rfl
theorem zc146 : cG Tryd.prog 146 = some (List.replicate 128 (.w8 0#8)) := by kernel_rfl
theorem sz147 : cD Tryd.prog 147 = some 1 := by kernel_rfl
theorem by147 : dU Tryd.prog 147 = some 8 := by kernel_rfl
theorem ag147 : cH Tryd.prog 147 = some false := by kernel_rfl
theorem zc147 : cG Tryd.prog 147 = some ([.v (Value.pointer none)]) := by kernel_rfl
theorem sz148 : cD Tryd.prog 148 = some 64 := by kernel_rfl
theorem by148 : dU Tryd.prog 148 = some 256 := by kernel_rfl
theorem ag148 : cH Tryd.prog 148 = some true := by kernel_rfl
theorem zc148 : cG Tryd.prog 148 = some (List.replicate 64 (.w32 0#32)) := by kernel_rfl
theorem sz149 : cD Tryd.prog 149 = some 1 := by kernel_rfl
theorem by149 : dU Tryd.prog 149 = some 8 := by kernel_rfl
theorem ag149 : cH Tryd.prog 149 = some false := by kernel_rfl
theorem sz150 : cD Tryd.prog 150 = some 1 := by kernel_rfl
theorem by150 : dU Tryd.prog 150 = some 8 := by kernel_rfl
theorem ag150 : cH Tryd.prog 150 = some false := by kernel_rfl
theorem sz151 : cD Tryd.prog 151 = some 4 := by kernel_rfl
theorem by151 : dU Tryd.prog 151 = some 40 := by kernel_rfl
theorem ag151 : cH Tryd.prog 151 = some true := by kernel_rfl
theorem zc151 : cG Tryd.prog 151 = some ([.v (Value.pointer none), .v (Value.pointer none), .v (Value.pointer none), .s []]) := by kernel_rfl
theorem sz152 : cD Tryd.prog 152 = some 4 := by kernel_rfl
theorem by152 : dU Tryd.prog 152 = some 40 := by kernel_rfl
theorem ag152 : cH Tryd.prog 152 = some true := by kernel_rfl
theorem zc152 : cG Tryd.prog 152 = some ([.v (Value.pointer none), .v (Value.pointer none), .v (Value.pointer none), .s []]) := by kernel_rfl
theorem sz153 : cD Tryd.prog 153 = some 0 := by kernel_rfl
theorem by153 : dU Tryd.prog 153 = some 0 := by kernel_rfl
theorem ag153 : cH Tryd.prog 153 = some true := by kernel_rfl
theorem zc153 : cG Tryd.prog 153 = some (List.replicate 0 (.v (Value.pointer none))) := by kernel_rfl
theorem sz154 : cD Tryd.prog 154 = some 0 := by kernel_rfl
theorem by154 : dU Tryd.prog 154 = some 0 := by kernel_rfl
theorem ag154 : cH Tryd.prog 154 = some true := by kernel_rfl
theorem sz155 : cD Tryd.prog 155 = some 0 := by kernel_rfl
theorem by155 : dU Tryd.prog 155 = some 0 := by kernel_rfl
theorem ag155 : cH Tryd.prog 155 = some true := by kernel_rfl
theorem sz156 : cD Tryd.prog 156 = some 1 := by kernel_rfl
theorem by156 : dU Tryd.prog 156 = some 8 := by kernel_rfl
theorem ag156 : cH Tryd.prog 156 = some false := by kernel_rfl
theorem sz157 : cD Tryd.prog 157 = some 1 := by kernel_rfl
theorem by157 : dU Tryd.prog 157 = some 1 := by kernel_rfl
theorem ag157 : cH Tryd.prog 157 = some false := by kernel_rfl
theorem zc157 : cG Tryd.prog 157 = some ([.w8 0#8]) := by kernel_rfl
theorem sz158 : cD Tryd.prog 158 = some 1 := by kernel_rfl
theorem by158 : dU Tryd.prog 158 = some 1 := by kernel_rfl
theorem ag158 : cH Tryd.prog 158 = some false := by kernel_rfl
theorem zc158 : cG Tryd.prog 158 = some ([.w8 0#8]) := by kernel_rfl
theorem sz159 : cD Tryd.prog 159 = some 1 := by kernel_rfl
theorem by159 : dU Tryd.prog 159 = some 8 := by kernel_rfl
theorem ag159 : cH Tryd.prog 159 = some false := by kernel_rfl
theorem sz160 : cD Tryd.prog 160 = some 1 := by kernel_rfl
theorem by160 : dU Tryd.prog 160 = some 8 := by kernel_rfl
theorem ag160 : cH Tryd.prog 160 = some false := by kernel_rfl
theorem zc160 : cG Tryd.prog 160 = some ([.v (Value.pointer none)]) := by kernel_rfl
theorem sz161 : cD Tryd.prog 161 = some 1 := by kernel_rfl
theorem by161 : dU Tryd.prog 161 = some 4 := by kernel_rfl
theorem ag161 : cH Tryd.prog 161 = some false := by kernel_rfl
theorem sz162 : cD Tryd.prog 162 = some 1 := by kernel_rfl
theorem by162 : dU Tryd.prog 162 = some 4 := by kernel_rfl
theorem ag162 : cH Tryd.prog 162 = some false := by kernel_rfl
theorem sz163 : cD Tryd.prog 163 = some 11 := by kernel_rfl
theorem by163 : dU Tryd.prog 163 = some 48 := by kernel_rfl
theorem ag163 : cH Tryd.prog 163 = some true := by kernel_rfl
theorem sz164 : cD Tryd.prog 164 = some 11 := by kernel_rfl
theorem by164 : dU Tryd.prog 164 = some 48 := by kernel_rfl
theorem ag164 : cH Tryd.prog 164 = some true := by kernel_rfl
theorem sz165 : cD Tryd.prog 165 = some 1 := by kernel_rfl
theorem by165 : dU Tryd.prog 165 = some 8 := by kernel_rfl
theorem ag165 : cH Tryd.prog 165 = some false := by kernel_rfl
theorem sz166 : cD Tryd.prog 166 = some 1 := by kernel_rfl
theorem by166 : dU Tryd.prog 166 = some 8 := by kernel_rfl
theorem ag166 : cH Tryd.prog 166 = some false := by kernel_rfl
theorem sz167 : cD Tryd.prog 167 = some 1 := by kernel_rfl
theorem by167 : dU Tryd.prog 167 = some 8 := by kernel_rfl
theorem ag167 : cH Tryd.prog 167 = some false := by kernel_rfl
theorem sz168 : cD Tryd.prog 168 = some 1 := by kernel_rfl
theorem by168 : dU Tryd.prog 168 = some 8 := by kernel_rfl
theorem ag168 : cH Tryd.prog 168 = some false := by kernel_rfl
theorem sz169 : cD Tryd.prog 169 = some 1 := by kernel_rfl
theorem by169 : dU Tryd.prog 169 = some 8 := by kernel_rfl
theorem ag169 : cH Tryd.prog 169 = some false := by kernel_rfl
theorem zc169 : cG Tryd.prog 169 = some ([.v (Value.pointer none)]) := by kernel_rfl
theorem zv82 : zvA Tryd.prog 82 = some (.v (Value.pointer none)) := by kernel_rfl
attribute [go_sem] sz0 sz1 sz2 sz3 sz4 sz5 sz6 sz7 sz8 sz9 sz10 sz11 sz12 sz13 sz14 sz15 sz16 sz17 sz18 sz19 sz20 sz21 sz22 sz23 sz24 sz25 sz26 sz27 sz28 sz29 sz30 sz31 sz32 sz33 sz34 sz35 sz36 sz37 sz38 sz39
attribute [go_sem] sz40 sz41 sz42 sz43 sz44 sz45 sz46 sz47 sz48 sz49 sz50 sz51 sz52 sz53 sz54 sz55 sz56 sz57 sz58 sz59 sz60 sz61 sz62 sz63 sz64 sz65 sz66 sz67 sz68 sz69 sz70 sz71 sz72 sz73 sz74 sz75 sz76 sz77 sz78 sz79
attribute [go_sem] sz80 sz81 sz82 sz83 sz84 sz85 sz86 sz87 sz88 sz89 sz90 sz91 sz92 sz93 sz94 sz95 sz96 sz97 sz98 sz99 sz100 sz101 sz102 sz103 sz104 sz105 sz106 sz107 sz108 sz109 sz110 sz111 sz112 sz113 sz114 sz115 sz116 sz117 sz118 sz119
attribute [go_sem] sz120 sz121 sz122 sz123 sz124 sz125 sz126 sz127 sz128 sz129 sz130 sz131 sz132 sz133 sz134 sz135 sz136 sz137 sz138 sz139 sz140 sz141 sz142 sz143 sz144 sz145 sz146 sz147 sz148 sz149 sz150 sz151 sz152 sz153 sz154 sz155 sz156 sz157 sz158 sz159
attribute [go_sem] sz160 sz161 sz162 sz163 sz164 sz165 sz166 sz167 sz168 sz169 by0 by1 by2 by3 by4 by5 by6 by7 by8 by9 by10 by11 by12 by13 by14 by15 by16 by17 by18 by19 by20 by21 by22 by23 by24 by25 by26 by27 by28 by29
attribute [go_sem] by30 by31 by32 by33 by34 by35 by36 by37 by38 by39 by40 by41 by42 by43 by44 by45 by46 by47 by48 by49 by50 by51 by52 by53 by54 by55 by56 by57 by58 by59 by60 by61 by62 by63 by64 by65 by66 by67 by68 by69
attribute [go_sem] by70 by71 by72 by73 by74 by75 by76 by77 by78 by79 by80 by81 by82 by83 by84 by85 by86 by87 by88 by89 by90 by91 by92 by93 by94 by95 by96 by97 by98 by99 by100 by101 by102 by103 by104 by105 by106 by107 by108 by109
attribute [go_sem] by110 by111 by112 by113 by114 by115 by116 by117 by118 by119 by120 by121 by122 by123 by124 by125 by126 by127 by128 by129 by130 by131 by132 by133 by134 by135 by136 by137 by138 by139 by140 by141 by142 by143 by144 by145 by146 by147 by148 by149
attribute [go_sem] by150 by151 by152 by153 by154 by155 by156 by157 by158 by159 by160 by161 by162 by163 by164 by165 by166 by167 by168 by169 ag0 ag1 ag2 ag3 ag4 ag5 ag6 ag7 ag8 ag9 ag10 ag11 ag12 ag13 ag14 ag15 ag16 ag17 ag18 ag19
attribute [go_sem] ag20 ag21 ag22 ag23 ag24 ag25 ag26 ag27 ag28 ag29 ag30 ag31 ag32 ag33 ag34 ag35 ag36 ag37 ag38 ag39 ag40 ag41 ag42 ag43 ag44 ag45 ag46 ag47 ag48 ag49 ag50 ag51 ag52 ag53 ag54 ag55 ag56 ag57 ag58 ag59
attribute [go_sem] ag60 ag61 ag62 ag63 ag64 ag65 ag66 ag67 ag68 ag69 ag70 ag71 ag72 ag73 ag74 ag75 ag76 ag77 ag78 ag79 ag80 ag81 ag82 ag83 ag84 ag85 ag86 ag87 ag88 ag89 ag90 ag91 ag92 ag93 ag94 ag95 ag96 ag97 ag98 ag99
attribute [go_sem] ag100 ag101 ag102 ag103 ag104 ag105 ag106 ag107 ag108 ag109 ag110 ag111 ag112 ag113 ag114 ag115 ag116 ag117 ag118 ag119 ag120 ag121 ag122 ag123 ag124 ag125 ag126 ag127 ag128 ag129 ag130 ag131 ag132 ag133 ag134 ag135 ag136 ag137 ag138 ag139
attribute [go_sem] ag140 ag141 ag142 ag143 ag144 ag145 ag146 ag147 ag148 ag149 ag150 ag151 ag152 ag153 ag154 ag155 ag156 ag157 ag158 ag159 ag160 ag161 ag162 ag163 ag164 ag165 ag166 ag167 ag168 ag169 zc2 zc3 zc4 zc5 zc6 zc7 zc8 zc9 ni9 zc10
attribute [go_sem] ni10 zc11 ni11 zc12 zc13 zc14 zc15 zc16 zc17 zc18 zc19 zc22 zc23 zc25 ni25 zc26 ni26 zc27 ni27 zc28 zc29 zc31 zc32 zc35 zc38 zc39 ni39 zc49 ni49 zc56 zc57 ni57 zc58 ni58 zc59 zc60 zc61 zc62 zc78 zc79
attribute [go_sem] zc80 zc81 zc82 zc85 zc86 zc88 zc89 zc90 zc91 ni91 zc102 ni102 zc106 zc116 zc129 zc131 zc135 zc137 ni137 zc138 zc140 zc143 zc144 zc146 zc147 zc148 zc151 zc152 zc153 zc157 zc158 zc160 zc169 zv82 Tryd.underlying0 Tryd.underlying1 Tryd.underlying2 Tryd.underlying3 Tryd.underlying4 Tryd.underlying5
attribute [go_sem] Tryd.underlying6 Tryd.underlying7 Tryd.underlying8 Tryd.underlying9 Tryd.underlying10 Tryd.underlying11 Tryd.underlying12 Tryd.underlying13 Tryd.underlying14 Tryd.underlying15 Tryd.underlying16 Tryd.underlying17 Tryd.underlying18 Tryd.underlying19 Tryd.underlying20 Tryd.underlying21 Tryd.underlying22 Tryd.underlying23 Tryd.underlying24 Tryd.underlying25 Tryd.underlying26 Tryd.underlying27 Tryd.underlying28 Tryd.underlying29 Tryd.underlying30 Tryd.underlying31 Tryd.underlying32 Tryd.underlying33 Tryd.underlying34 Tryd.underlying35 Tryd.underlying36 Tryd.underlying37 Tryd.underlying38 Tryd.underlying39 Tryd.underlying40 Tryd.underlying41 Tryd.underlying42 Tryd.underlying43 Tryd.underlying44 Tryd.underlying45
attribute [go_sem] Tryd.underlying46 Tryd.underlying47 Tryd.underlying48 Tryd.underlying49 Tryd.underlying50 Tryd.underlying51 Tryd.underlying52 Tryd.underlying53 Tryd.underlying54 Tryd.underlying55 Tryd.underlying56 Tryd.underlying57 Tryd.underlying58 Tryd.underlying59 Tryd.underlying60 Tryd.underlying61 Tryd.underlying62 Tryd.underlying63 Tryd.underlying64 Tryd.underlying65 Tryd.underlying66 Tryd.underlying67 Tryd.underlying68 Tryd.underlying69 Tryd.underlying70 Tryd.underlying71 Tryd.underlying72 Tryd.underlying73 Tryd.underlying74 Tryd.underlying75 Tryd.underlying76 Tryd.underlying77 Tryd.underlying78 Tryd.underlying79 Tryd.underlying80 Tryd.underlying81 Tryd.underlying82 Tryd.underlying83 Tryd.underlying84 Tryd.underlying85
attribute [go_sem] Tryd.underlying86 Tryd.underlying87 Tryd.underlying88 Tryd.underlying89 Tryd.underlying90 Tryd.underlying91 Tryd.underlying92 Tryd.underlying93 Tryd.underlying94 Tryd.underlying95 Tryd.underlying96 Tryd.underlying97 Tryd.underlying98 Tryd.underlying99 Tryd.underlying100 Tryd.underlying101 Tryd.underlying102 Tryd.underlying103 Tryd.underlying104 Tryd.underlying105 Tryd.underlying106 Tryd.underlying107 Tryd.underlying108 Tryd.underlying109 Tryd.underlying110 Tryd.underlying111 Tryd.underlying112 Tryd.underlying113 Tryd.underlying114 Tryd.underlying115 Tryd.underlying116 Tryd.underlying117 Tryd.underlying118 Tryd.underlying119 Tryd.underlying120 Tryd.underlying121 Tryd.underlying122 Tryd.underlying123 Tryd.underlying124 Tryd.underlying125
attribute [go_sem] Tryd.underlying126 Tryd.underlying127 Tryd.underlying128 Tryd.underlying129 Tryd.underlying130 Tryd.underlying131 Tryd.underlying132 Tryd.underlying133 Tryd.underlying134 Tryd.underlying135 Tryd.underlying136 Tryd.underlying137 Tryd.underlying138 Tryd.underlying139 Tryd.underlying140 Tryd.underlying141 Tryd.underlying142 Tryd.underlying143 Tryd.underlying144 Tryd.underlying145 Tryd.underlying146 Tryd.underlying147 Tryd.underlying148 Tryd.underlying149 Tryd.underlying150 Tryd.underlying151 Tryd.underlying152 Tryd.underlying153 Tryd.underlying154 Tryd.underlying155 Tryd.underlying156 Tryd.underlying157 Tryd.underlying158 Tryd.underlying159 Tryd.underlying160 Tryd.underlying161 Tryd.underlying162 Tryd.underlying163 Tryd.underlying164 Tryd.underlying165
attribute [go_sem] Tryd.underlying166 Tryd.underlying167 Tryd.underlying168 Tryd.underlying169
end Go.AX
namespace Go.AX
open Go Go.Proofs
theorem b_add_w8 (P : Program) (t : TypeId) (a b : BitVec 8) : bM P .add t (.w8 a) (.w8 b) = some (.w8 (a + b)) := (rfl)
theorem b_sub_w8 (P : Program) (t : TypeId) (a b : BitVec 8) : bM P .sub t (.w8 a) (.w8 b) = some (.w8 (a - b)) := (rfl)
theorem b_mul_w8 (P : Program) (t : TypeId) (a b : BitVec 8) : bM P .mul t (.w8 a) (.w8 b) = some (.w8 (a * b)) := (rfl)
theorem b_and_w8 (P : Program) (t : TypeId) (a b : BitVec 8) : bM P .and t (.w8 a) (.w8 b) = some (.w8 (a &&& b)) := (rfl)
theorem b_or_w8 (P : Program) (t : TypeId) (a b : BitVec 8) : bM P .or t (.w8 a) (.w8 b) = some (.w8 (a ||| b)) := (rfl)
theorem b_xor_w8 (P : Program) (t : TypeId) (a b : BitVec 8) : bM P .xor t (.w8 a) (.w8 b) = some (.w8 (a ^^^ b)) := (rfl)
theorem b_andNot_w8 (P : Program) (t : TypeId) (a b : BitVec 8) : bM P .andNot t (.w8 a) (.w8 b) = some (.w8 (a &&& ~~~b)) := (rfl)
theorem b_quo_w8 (P : Program) (t : TypeId) (a b : BitVec 8) : bM P .quo t (.w8 a) (.w8 b) = if b = 0#8 then none else some (.w8 (a / b)) := (rfl)
theorem b_rem_w8 (P : Program) (t : TypeId) (a b : BitVec 8) : bM P .rem t (.w8 a) (.w8 b) = if b = 0#8 then none else some (.w8 (a % b)) := (rfl)
theorem b_eql_w8 (P : Program) (t : TypeId) (a b : BitVec 8) : bM P .eql t (.w8 a) (.w8 b) = some (.b (decide (a = b))) := (rfl)
theorem b_neq_w8 (P : Program) (t : TypeId) (a b : BitVec 8) : bM P .neq t (.w8 a) (.w8 b) = some (.b (!decide (a = b))) := (rfl)
theorem b_lss_w8 (P : Program) (t : TypeId) (a b : BitVec 8) : bM P .lss t (.w8 a) (.w8 b) = some (.b (decide (a < b))) := (rfl)
theorem b_leq_w8 (P : Program) (t : TypeId) (a b : BitVec 8) : bM P .leq t (.w8 a) (.w8 b) = some (.b (decide (a ≤ b))) := (rfl)
theorem b_gtr_w8 (P : Program) (t : TypeId) (a b : BitVec 8) : bM P .gtr t (.w8 a) (.w8 b) = some (.b (decide (b < a))) := (rfl)
theorem b_geq_w8 (P : Program) (t : TypeId) (a b : BitVec 8) : bM P .geq t (.w8 a) (.w8 b) = some (.b (decide (b ≤ a))) := (rfl)
theorem b_shl_w8_i (P : Program) (t : TypeId) (a : BitVec 8) (n : Int) (h : 0 ≤ n) : bM P .shl t (.w8 a) (.i n) = some (.w8 (a <<< n.toNat)) := by simp [bM, bin, shl, shAmt, h]
theorem b_shl_w8_w8 (P : Program) (t : TypeId) (a : BitVec 8) (n : BitVec 8) : bM P .shl t (.w8 a) (.w8 n) = some (.w8 (a <<< n.toNat)) := (rfl)
theorem b_shl_w8_w16 (P : Program) (t : TypeId) (a : BitVec 8) (n : BitVec 16) : bM P .shl t (.w8 a) (.w16 n) = some (.w8 (a <<< n.toNat)) := (rfl)
theorem b_shl_w8_w32 (P : Program) (t : TypeId) (a : BitVec 8) (n : BitVec 32) : bM P .shl t (.w8 a) (.w32 n) = some (.w8 (a <<< n.toNat)) := (rfl)
theorem b_shl_w8_w64 (P : Program) (t : TypeId) (a : BitVec 8) (n : BitVec 64) : bM P .shl t (.w8 a) (.w64 n) = some (.w8 (a <<< n.toNat)) := (rfl)
theorem b_shr_w8_i (P : Program) (t : TypeId) (a : BitVec 8) (n : Int) (h : 0 ≤ n) : bM P .shr t (.w8 a) (.i n) = some (.w8 (a >>> n.toNat)) := by simp [bM, bin, shr, shAmt, h]
theorem b_shr_w8_w8 (P : Program) (t : TypeId) (a : BitVec 8) (n : BitVec 8) : bM P .shr t (.w8 a) (.w8 n) = some (.w8 (a >>> n.toNat)) := (rfl)
theorem b_shr_w8_w16 (P : Program) (t : TypeId) (a : BitVec 8) (n : BitVec 16) : bM P .shr t (.w8 a) (.w16 n) = some (.w8 (a >>> n.toNat)) := (rfl)
theorem b_shr_w8_w32 (P : Program) (t : TypeId) (a : BitVec 8) (n : BitVec 32) : bM P .shr t (.w8 a) (.w32 n) = some (.w8 (a >>> n.toNat)) := (rfl)
theorem b_shr_w8_w64 (P : Program) (t : TypeId) (a : BitVec 8) (n : BitVec 64) : bM P .shr t (.w8 a) (.w64 n) = some (.w8 (a >>> n.toNat)) := (rfl)
theorem u_xor_w8 (a : BitVec 8) : un .xor (.w8 a) = some (.w8 (~~~a)) := (rfl)
theorem u_neg_w8 (a : BitVec 8) : un .neg (.w8 a) = some (.w8 (0#8 - a)) := (rfl)
theorem ix_w8 (a : BitVec 8) : ix (.w8 a) = some (a.toNat : Int) := (rfl)
theorem c_w8_w8 (a : BitVec 8) : toK .u8 (.w8 a) = some (.w8 a) := (rfl)
theorem c_w8_w16 (a : BitVec 8) : toK .u16 (.w8 a) = some (.w16 (a.setWidth 16)) := (rfl)
theorem c_w8_w32 (a : BitVec 8) : toK .u32 (.w8 a) = some (.w32 (a.setWidth 32)) := (rfl)
theorem c_w8_w64 (a : BitVec 8) : toK .u64 (.w8 a) = some (.w64 (a.setWidth 64)) := (rfl)
theorem c_i_w8 (n : Int) : toK .u8 (.i n) = some (.w8 (BitVec.ofInt 8 n)) := (rfl)
theorem c_w8_i (a : BitVec 8) : toK .i64 (.w8 a) = some (.i (a.toNat : Int)) := (rfl)
theorem b_add_w16 (P : Program) (t : TypeId) (a b : BitVec 16) : bM P .add t (.w16 a) (.w16 b) = some (.w16 (a + b)) := (rfl)
theorem b_sub_w16 (P : Program) (t : TypeId) (a b : BitVec 16) : bM P .sub t (.w16 a) (.w16 b) = some (.w16 (a - b)) := (rfl)
theorem b_mul_w16 (P : Program) (t : TypeId) (a b : BitVec 16) : bM P .mul t (.w16 a) (.w16 b) = some (.w16 (a * b)) := (rfl)
theorem b_and_w16 (P : Program) (t : TypeId) (a b : BitVec 16) : bM P .and t (.w16 a) (.w16 b) = some (.w16 (a &&& b)) := (rfl)
theorem b_or_w16 (P : Program) (t : TypeId) (a b : BitVec 16) : bM P .or t (.w16 a) (.w16 b) = some (.w16 (a ||| b)) := (rfl)
theorem b_xor_w16 (P : Program) (t : TypeId) (a b : BitVec 16) : bM P .xor t (.w16 a) (.w16 b) = some (.w16 (a ^^^ b)) := (rfl)
theorem b_andNot_w16 (P : Program) (t : TypeId) (a b : BitVec 16) : bM P .andNot t (.w16 a) (.w16 b) = some (.w16 (a &&& ~~~b)) := (rfl)
theorem b_quo_w16 (P : Program) (t : TypeId) (a b : BitVec 16) : bM P .quo t (.w16 a) (.w16 b) = if b = 0#16 then none else some (.w16 (a / b)) := (rfl)
theorem b_rem_w16 (P : Program) (t : TypeId) (a b : BitVec 16) : bM P .rem t (.w16 a) (.w16 b) = if b = 0#16 then none else some (.w16 (a % b)) := (rfl)
theorem b_eql_w16 (P : Program) (t : TypeId) (a b : BitVec 16) : bM P .eql t (.w16 a) (.w16 b) = some (.b (decide (a = b))) := (rfl)
theorem b_neq_w16 (P : Program) (t : TypeId) (a b : BitVec 16) : bM P .neq t (.w16 a) (.w16 b) = some (.b (!decide (a = b))) := (rfl)
theorem b_lss_w16 (P : Program) (t : TypeId) (a b : BitVec 16) : bM P .lss t (.w16 a) (.w16 b) = some (.b (decide (a < b))) := (rfl)
theorem b_leq_w16 (P : Program) (t : TypeId) (a b : BitVec 16) : bM P .leq t (.w16 a) (.w16 b) = some (.b (decide (a ≤ b))) := (rfl)
theorem b_gtr_w16 (P : Program) (t : TypeId) (a b : BitVec 16) : bM P .gtr t (.w16 a) (.w16 b) = some (.b (decide (b < a))) := (rfl)
theorem b_geq_w16 (P : Program) (t : TypeId) (a b : BitVec 16) : bM P .geq t (.w16 a) (.w16 b) = some (.b (decide (b ≤ a))) := (rfl)
theorem b_shl_w16_i (P : Program) (t : TypeId) (a : BitVec 16) (n : Int) (h : 0 ≤ n) : bM P .shl t (.w16 a) (.i n) = some (.w16 (a <<< n.toNat)) := by simp [bM, bin, shl, shAmt, h]
theorem b_shl_w16_w8 (P : Program) (t : TypeId) (a : BitVec 16) (n : BitVec 8) : bM P .shl t (.w16 a) (.w8 n) = some (.w16 (a <<< n.toNat)) := (rfl)
theorem b_shl_w16_w16 (P : Program) (t : TypeId) (a : BitVec 16) (n : BitVec 16) : bM P .shl t (.w16 a) (.w16 n) = some (.w16 (a <<< n.toNat)) := (rfl)
theorem b_shl_w16_w32 (P : Program) (t : TypeId) (a : BitVec 16) (n : BitVec 32) : bM P .shl t (.w16 a) (.w32 n) = some (.w16 (a <<< n.toNat)) := (rfl)
theorem b_shl_w16_w64 (P : Program) (t : TypeId) (a : BitVec 16) (n : BitVec 64) : bM P .shl t (.w16 a) (.w64 n) = some (.w16 (a <<< n.toNat)) := (rfl)
theorem b_shr_w16_i (P : Program) (t : TypeId) (a : BitVec 16) (n : Int) (h : 0 ≤ n) : bM P .shr t (.w16 a) (.i n) = some (.w16 (a >>> n.toNat)) := by simp [bM, bin, shr, shAmt, h]
theorem b_shr_w16_w8 (P : Program) (t : TypeId) (a : BitVec 16) (n : BitVec 8) : bM P .shr t (.w16 a) (.w8 n) = some (.w16 (a >>> n.toNat)) := (rfl)
theorem b_shr_w16_w16 (P : Program) (t : TypeId) (a : BitVec 16) (n : BitVec 16) : bM P .shr t (.w16 a) (.w16 n) = some (.w16 (a >>> n.toNat)) := (rfl)
theorem b_shr_w16_w32 (P : Program) (t : TypeId) (a : BitVec 16) (n : BitVec 32) : bM P .shr t (.w16 a) (.w32 n) = some (.w16 (a >>> n.toNat)) := (rfl)
theorem b_shr_w16_w64 (P : Program) (t : TypeId) (a : BitVec 16) (n : BitVec 64) : bM P .shr t (.w16 a) (.w64 n) = some (.w16 (a >>> n.toNat)) := (rfl)
theorem u_xor_w16 (a : BitVec 16) : un .xor (.w16 a) = some (.w16 (~~~a)) := (rfl)
theorem u_neg_w16 (a : BitVec 16) : un .neg (.w16 a) = some (.w16 (0#16 - a)) := (rfl)
theorem ix_w16 (a : BitVec 16) : ix (.w16 a) = some (a.toNat : Int) := (rfl)
theorem c_w16_w8 (a : BitVec 16) : toK .u8 (.w16 a) = some (.w8 (a.setWidth 8)) := (rfl)
theorem c_w16_w16 (a : BitVec 16) : toK .u16 (.w16 a) = some (.w16 a) := (rfl)
theorem c_w16_w32 (a : BitVec 16) : toK .u32 (.w16 a) = some (.w32 (a.setWidth 32)) := (rfl)
theorem c_w16_w64 (a : BitVec 16) : toK .u64 (.w16 a) = some (.w64 (a.setWidth 64)) := (rfl)
theorem c_i_w16 (n : Int) : toK .u16 (.i n) = some (.w16 (BitVec.ofInt 16 n)) := (rfl)
theorem c_w16_i (a : BitVec 16) : toK .i64 (.w16 a) = some (.i (a.toNat : Int)) := (rfl)
theorem b_add_w32 (P : Program) (t : TypeId) (a b : BitVec 32) : bM P .add t (.w32 a) (.w32 b) = some (.w32 (a + b)) := (rfl)
theorem b_sub_w32 (P : Program) (t : TypeId) (a b : BitVec 32) : bM P .sub t (.w32 a) (.w32 b) = some (.w32 (a - b)) := (rfl)
theorem b_mul_w32 (P : Program) (t : TypeId) (a b : BitVec 32) : bM P .mul t (.w32 a) (.w32 b) = some (.w32 (a * b)) := (rfl)
theorem b_and_w32 (P : Program) (t : TypeId) (a b : BitVec 32) : bM P .and t (.w32 a) (.w32 b) = some (.w32 (a &&& b)) := (rfl)
theorem b_or_w32 (P : Program) (t : TypeId) (a b : BitVec 32) : bM P .or t (.w32 a) (.w32 b) = some (.w32 (a ||| b)) := (rfl)
theorem b_xor_w32 (P : Program) (t : TypeId) (a b : BitVec 32) : bM P .xor t (.w32 a) (.w32 b) = some (.w32 (a ^^^ b)) := (rfl)
theorem b_andNot_w32 (P : Program) (t : TypeId) (a b : BitVec 32) : bM P .andNot t (.w32 a) (.w32 b) = some (.w32 (a &&& ~~~b)) := (rfl)
theorem b_quo_w32 (P : Program) (t : TypeId) (a b : BitVec 32) : bM P .quo t (.w32 a) (.w32 b) = if b = 0#32 then none else some (.w32 (a / b)) := (rfl)
theorem b_rem_w32 (P : Program) (t : TypeId) (a b : BitVec 32) : bM P .rem t (.w32 a) (.w32 b) = if b = 0#32 then none else some (.w32 (a % b)) := (rfl)
theorem b_eql_w32 (P : Program) (t : TypeId) (a b : BitVec 32) : bM P .eql t (.w32 a) (.w32 b) = some (.b (decide (a = b))) := (rfl)
theorem b_neq_w32 (P : Program) (t : TypeId) (a b : BitVec 32) : bM P .neq t (.w32 a) (.w32 b) = some (.b (!decide (a = b))) := (rfl)
theorem b_lss_w32 (P : Program) (t : TypeId) (a b : BitVec 32) : bM P .lss t (.w32 a) (.w32 b) = some (.b (decide (a < b))) := (rfl)
theorem b_leq_w32 (P : Program) (t : TypeId) (a b : BitVec 32) : bM P .leq t (.w32 a) (.w32 b) = some (.b (decide (a ≤ b))) := (rfl)
theorem b_gtr_w32 (P : Program) (t : TypeId) (a b : BitVec 32) : bM P .gtr t (.w32 a) (.w32 b) = some (.b (decide (b < a))) := (rfl)
theorem b_geq_w32 (P : Program) (t : TypeId) (a b : BitVec 32) : bM P .geq t (.w32 a) (.w32 b) = some (.b (decide (b ≤ a))) := (rfl)
theorem b_shl_w32_i (P : Program) (t : TypeId) (a : BitVec 32) (n : Int) (h : 0 ≤ n) : bM P .shl t (.w32 a) (.i n) = some (.w32 (a <<< n.toNat)) := by simp [bM, bin, shl, shAmt, h]
theorem b_shl_w32_w8 (P : Program) (t : TypeId) (a : BitVec 32) (n : BitVec 8) : bM P .shl t (.w32 a) (.w8 n) = some (.w32 (a <<< n.toNat)) := (rfl)
theorem b_shl_w32_w16 (P : Program) (t : TypeId) (a : BitVec 32) (n : BitVec 16) : bM P .shl t (.w32 a) (.w16 n) = some (.w32 (a <<< n.toNat)) := (rfl)
theorem b_shl_w32_w32 (P : Program) (t : TypeId) (a : BitVec 32) (n : BitVec 32) : bM P .shl t (.w32 a) (.w32 n) = some (.w32 (a <<< n.toNat)) := (rfl)
theorem b_shl_w32_w64 (P : Program) (t : TypeId) (a : BitVec 32) (n : BitVec 64) : bM P .shl t (.w32 a) (.w64 n) = some (.w32 (a <<< n.toNat)) := (rfl)
theorem b_shr_w32_i (P : Program) (t : TypeId) (a : BitVec 32) (n : Int) (h : 0 ≤ n) : bM P .shr t (.w32 a) (.i n) = some (.w32 (a >>> n.toNat)) := by simp [bM, bin, shr, shAmt, h]
theorem b_shr_w32_w8 (P : Program) (t : TypeId) (a : BitVec 32) (n : BitVec 8) : bM P .shr t (.w32 a) (.w8 n) = some (.w32 (a >>> n.toNat)) := (rfl)
theorem b_shr_w32_w16 (P : Program) (t : TypeId) (a : BitVec 32) (n : BitVec 16) : bM P .shr t (.w32 a) (.w16 n) = some (.w32 (a >>> n.toNat)) := (rfl)
theorem b_shr_w32_w32 (P : Program) (t : TypeId) (a : BitVec 32) (n : BitVec 32) : bM P .shr t (.w32 a) (.w32 n) = some (.w32 (a >>> n.toNat)) := (rfl)
theorem b_shr_w32_w64 (P : Program) (t : TypeId) (a : BitVec 32) (n : BitVec 64) : bM P .shr t (.w32 a) (.w64 n) = some (.w32 (a >>> n.toNat)) := (rfl)
theorem u_xor_w32 (a : BitVec 32) : un .xor (.w32 a) = some (.w32 (~~~a)) := (rfl)
theorem u_neg_w32 (a : BitVec 32) : un .neg (.w32 a) = some (.w32 (0#32 - a)) := (rfl)
theorem ix_w32 (a : BitVec 32) : ix (.w32 a) = some (a.toNat : Int) := (rfl)
theorem c_w32_w8 (a : BitVec 32) : toK .u8 (.w32 a) = some (.w8 (a.setWidth 8)) := (rfl)
theorem c_w32_w16 (a : BitVec 32) : toK .u16 (.w32 a) = some (.w16 (a.setWidth 16)) := (rfl)
theorem c_w32_w32 (a : BitVec 32) : toK .u32 (.w32 a) = some (.w32 a) := (rfl)
theorem c_w32_w64 (a : BitVec 32) : toK .u64 (.w32 a) = some (.w64 (a.setWidth 64)) := (rfl)
theorem c_i_w32 (n : Int) : toK .u32 (.i n) = some (.w32 (BitVec.ofInt 32 n)) := (rfl)
theorem c_w32_i (a : BitVec 32) : toK .i64 (.w32 a) = some (.i (a.toNat : Int)) := (rfl)
theorem b_add_w64 (P : Program) (t : TypeId) (a b : BitVec 64) : bM P .add t (.w64 a) (.w64 b) = some (.w64 (a + b)) := (rfl)
theorem b_sub_w64 (P : Program) (t : TypeId) (a b : BitVec 64) : bM P .sub t (.w64 a) (.w64 b) = some (.w64 (a - b)) := (rfl)
theorem b_mul_w64 (P : Program) (t : TypeId) (a b : BitVec 64) : bM P .mul t (.w64 a) (.w64 b) = some (.w64 (a * b)) := (rfl)
theorem b_and_w64 (P : Program) (t : TypeId) (a b : BitVec 64) : bM P .and t (.w64 a) (.w64 b) = some (.w64 (a &&& b)) := (rfl)
theorem b_or_w64 (P : Program) (t : TypeId) (a b : BitVec 64) : bM P .or t (.w64 a) (.w64 b) = some (.w64 (a ||| b)) := (rfl)
theorem b_xor_w64 (P : Program) (t : TypeId) (a b : BitVec 64) : bM P .xor t (.w64 a) (.w64 b) = some (.w64 (a ^^^ b)) := (rfl)
theorem b_andNot_w64 (P : Program) (t : TypeId) (a b : BitVec 64) : bM P .andNot t (.w64 a) (.w64 b) = some (.w64 (a &&& ~~~b)) := (rfl)
theorem b_quo_w64 (P : Program) (t : TypeId) (a b : BitVec 64) : bM P .quo t (.w64 a) (.w64 b) = if b = 0#64 then none else some (.w64 (a / b)) := (rfl)
theorem b_rem_w64 (P : Program) (t : TypeId) (a b : BitVec 64) : bM P .rem t (.w64 a) (.w64 b) = if b = 0#64 then none else some (.w64 (a % b)) := (rfl)
theorem b_eql_w64 (P : Program) (t : TypeId) (a b : BitVec 64) : bM P .eql t (.w64 a) (.w64 b) = some (.b (decide (a = b))) := (rfl)
theorem b_neq_w64 (P : Program) (t : TypeId) (a b : BitVec 64) : bM P .neq t (.w64 a) (.w64 b) = some (.b (!decide (a = b))) := (rfl)
theorem b_lss_w64 (P : Program) (t : TypeId) (a b : BitVec 64) : bM P .lss t (.w64 a) (.w64 b) = some (.b (decide (a < b))) := (rfl)
theorem b_leq_w64 (P : Program) (t : TypeId) (a b : BitVec 64) : bM P .leq t (.w64 a) (.w64 b) = some (.b (decide (a ≤ b))) := (rfl)
theorem b_gtr_w64 (P : Program) (t : TypeId) (a b : BitVec 64) : bM P .gtr t (.w64 a) (.w64 b) = some (.b (decide (b < a))) := (rfl)
theorem b_geq_w64 (P : Program) (t : TypeId) (a b : BitVec 64) : bM P .geq t (.w64 a) (.w64 b) = some (.b (decide (b ≤ a))) := (rfl)
theorem b_shl_w64_i (P : Program) (t : TypeId) (a : BitVec 64) (n : Int) (h : 0 ≤ n) : bM P .shl t (.w64 a) (.i n) = some (.w64 (a <<< n.toNat)) := by simp [bM, bin, shl, shAmt, h]
theorem b_shl_w64_w8 (P : Program) (t : TypeId) (a : BitVec 64) (n : BitVec 8) : bM P .shl t (.w64 a) (.w8 n) = some (.w64 (a <<< n.toNat)) := (rfl)
theorem b_shl_w64_w16 (P : Program) (t : TypeId) (a : BitVec 64) (n : BitVec 16) : bM P .shl t (.w64 a) (.w16 n) = some (.w64 (a <<< n.toNat)) := (rfl)
theorem b_shl_w64_w32 (P : Program) (t : TypeId) (a : BitVec 64) (n : BitVec 32) : bM P .shl t (.w64 a) (.w32 n) = some (.w64 (a <<< n.toNat)) := (rfl)
theorem b_shl_w64_w64 (P : Program) (t : TypeId) (a : BitVec 64) (n : BitVec 64) : bM P .shl t (.w64 a) (.w64 n) = some (.w64 (a <<< n.toNat)) := (rfl)
theorem b_shr_w64_i (P : Program) (t : TypeId) (a : BitVec 64) (n : Int) (h : 0 ≤ n) : bM P .shr t (.w64 a) (.i n) = some (.w64 (a >>> n.toNat)) := by simp [bM, bin, shr, shAmt, h]
theorem b_shr_w64_w8 (P : Program) (t : TypeId) (a : BitVec 64) (n : BitVec 8) : bM P .shr t (.w64 a) (.w8 n) = some (.w64 (a >>> n.toNat)) := (rfl)
theorem b_shr_w64_w16 (P : Program) (t : TypeId) (a : BitVec 64) (n : BitVec 16) : bM P .shr t (.w64 a) (.w16 n) = some (.w64 (a >>> n.toNat)) := (rfl)
theorem b_shr_w64_w32 (P : Program) (t : TypeId) (a : BitVec 64) (n : BitVec 32) : bM P .shr t (.w64 a) (.w32 n) = some (.w64 (a >>> n.toNat)) := (rfl)
theorem b_shr_w64_w64 (P : Program) (t : TypeId) (a : BitVec 64) (n : BitVec 64) : bM P .shr t (.w64 a) (.w64 n) = some (.w64 (a >>> n.toNat)) := (rfl)
theorem u_xor_w64 (a : BitVec 64) : un .xor (.w64 a) = some (.w64 (~~~a)) := (rfl)
theorem u_neg_w64 (a : BitVec 64) : un .neg (.w64 a) = some (.w64 (0#64 - a)) := (rfl)
theorem ix_w64 (a : BitVec 64) : ix (.w64 a) = some (a.toNat : Int) := (rfl)
theorem c_w64_w8 (a : BitVec 64) : toK .u8 (.w64 a) = some (.w8 (a.setWidth 8)) := (rfl)
theorem c_w64_w16 (a : BitVec 64) : toK .u16 (.w64 a) = some (.w16 (a.setWidth 16)) := (rfl)
theorem c_w64_w32 (a : BitVec 64) : toK .u32 (.w64 a) = some (.w32 (a.setWidth 32)) := (rfl)
theorem c_w64_w64 (a : BitVec 64) : toK .u64 (.w64 a) = some (.w64 a) := (rfl)
theorem c_i_w64 (n : Int) : toK .u64 (.i n) = some (.w64 (BitVec.ofInt 64 n)) := (rfl)
theorem c_w64_i (a : BitVec 64) : toK .i64 (.w64 a) = some (.i (W (a.toNat : Int))) := (rfl)
theorem c_i_i (n : Int) : toK .i64 (.i n) = some (.i (W n)) := (rfl)
theorem ix_i (n : Int) : ix (.i n) = some n := (rfl)
theorem b_add_i (P : Program) (t : TypeId) (a b : Int) : bM P .add t (.i a) (.i b) = some (.i (W (a + b))) := (rfl)
theorem b_sub_i (P : Program) (t : TypeId) (a b : Int) : bM P .sub t (.i a) (.i b) = some (.i (W (a - b))) := (rfl)
theorem b_mul_i (P : Program) (t : TypeId) (a b : Int) : bM P .mul t (.i a) (.i b) = some (.i (W (a * b))) := (rfl)
theorem b_and_i (P : Program) (t : TypeId) (a b : Int) : bM P .and t (.i a) (.i b) = some (.i (iand a b)) := (rfl)
theorem b_or_i (P : Program) (t : TypeId) (a b : Int) : bM P .or t (.i a) (.i b) = some (.i (ior a b)) := (rfl)
theorem b_xor_i (P : Program) (t : TypeId) (a b : Int) : bM P .xor t (.i a) (.i b) = some (.i (ixor a b)) := (rfl)
theorem b_eql_i (P : Program) (t : TypeId) (a b : Int) : bM P .eql t (.i a) (.i b) = some (.b (decide (a = b))) := (rfl)
theorem b_neq_i (P : Program) (t : TypeId) (a b : Int) : bM P .neq t (.i a) (.i b) = some (.b (!decide (a = b))) := (rfl)
theorem b_lss_i (P : Program) (t : TypeId) (a b : Int) : bM P .lss t (.i a) (.i b) = some (.b (decide (a < b))) := (rfl)
theorem b_leq_i (P : Program) (t : TypeId) (a b : Int) : bM P .leq t (.i a) (.i b) = some (.b (decide (a ≤ b))) := (rfl)
theorem b_gtr_i (P : Program) (t : TypeId) (a b : Int) : bM P .gtr t (.i a) (.i b) = some (.b (decide (b < a))) := (rfl)
theorem b_geq_i (P : Program) (t : TypeId) (a b : Int) : bM P .geq t (.i a) (.i b) = some (.b (decide (b ≤ a))) := (rfl)
theorem b_quo_i (P : Program) (t : TypeId) (a b : Int) : bM P .quo t (.i a) (.i b) = if b = 0 then none else some (.i (W (a.tdiv b))) := (rfl)
theorem b_rem_i (P : Program) (t : TypeId) (a b : Int) : bM P .rem t (.i a) (.i b) = if b = 0 then none else some (.i (a.tmod b)) := (rfl)
theorem b_shl_i_i (P : Program) (t : TypeId) (a n : Int) (h : 0 ≤ n) : bM P .shl t (.i a) (.i n) = some (.i (W (a * 2 ^ (min n.toNat 64)))) := by simp [bM, bin, shl, shAmt, h]
theorem b_shr_i_i (P : Program) (t : TypeId) (a n : Int) (h : 0 ≤ n) : bM P .shr t (.i a) (.i n) = some (.i (a.fdiv (2 ^ (min n.toNat 64)))) := by simp [bM, bin, shr, shAmt, h]
theorem b_shl_i_w64 (P : Program) (t : TypeId) (a : Int) (n : BitVec 64) : bM P .shl t (.i a) (.w64 n) = some (.i (W (a * 2 ^ (min n.toNat 64)))) := (rfl)
theorem b_shr_i_w64 (P : Program) (t : TypeId) (a : Int) (n : BitVec 64) : bM P .shr t (.i a) (.w64 n) = some (.i (a.fdiv (2 ^ (min n.toNat 64)))) := (rfl)
theorem b_add_s (P : Program) (t : TypeId) (a b : List (BitVec 8)) : bM P .add t (.s a) (.s b) = if a.length + b.length ≤ 9223372036854775807 then some (.s (a ++ b)) else none := (rfl)
theorem b_eql_s (P : Program) (t : TypeId) (a b : List (BitVec 8)) : bM P .eql t (.s a) (.s b) = some (.b (decide (a = b))) := (rfl)
theorem b_neq_s (P : Program) (t : TypeId) (a b : List (BitVec 8)) : bM P .neq t (.s a) (.s b) = some (.b (!decide (a = b))) := (rfl)
theorem b_lss_s (P : Program) (t : TypeId) (a b : List (BitVec 8)) : bM P .lss t (.s a) (.s b) = some (.b (bless a b)) := (rfl)
theorem b_leq_s (P : Program) (t : TypeId) (a b : List (BitVec 8)) : bM P .leq t (.s a) (.s b) = some (.b (bless a b || decide (a = b))) := (rfl)
theorem b_gtr_s (P : Program) (t : TypeId) (a b : List (BitVec 8)) : bM P .gtr t (.s a) (.s b) = some (.b (!(bless a b || decide (a = b)))) := (rfl)
theorem b_geq_s (P : Program) (t : TypeId) (a b : List (BitVec 8)) : bM P .geq t (.s a) (.s b) = some (.b (!bless a b)) := (rfl)
theorem b_eql_b (P : Program) (t : TypeId) (a b : Bool) (h : P.underlying t = some .bool) : bM P .eql t (.b a) (.b b) = some (.b (a == b)) := by simp [bM, isBoolT, h, aN]
theorem b_neq_b (P : Program) (t : TypeId) (a b : Bool) (h : P.underlying t = some .bool) : bM P .neq t (.b a) (.b b) = some (.b (!(a == b))) := by simp [bM, isBoolT, h, aN]
theorem u_neg_i (a : Int) : un .neg (.i a) = some (.i (W (0 - a))) := (rfl)
theorem u_not_b (a : Bool) : un .not (.b a) = some (.b (!a)) := (rfl)
def nilC : AV → Option AV
 | .op id off => some (.op id off)
 | .rp xs => some (.rp xs)
 | _ => none
def pickC : AV → AV → AV → Option AV
 | .b t, a, b => some (if t then a else b)
 | _, _, _ => none
def loadF (P : Program) (t : TypeId) (hp : H) : AV → Option AV
 | .rp ys => ldV P t ys
 | .op id off => aK (hp id) fun o => match o with | .cells xs _ => ldV P t (xs.drop off) | _ => none
 | _ => none
def loadO (P : Program) (t : TypeId) (off : Nat) : AO → Option AV
 | .cells xs _ => ldV P t (xs.drop off)
 | _ => none
def iaF (P : Program) (x : AV) (j : Int) : Option TypeDesc → Option AV
 | some (.slice e) => aK (cD P e) fun z => match x with
   | .sl n xs => aN (0 ≤ j ∧ j < n) (some (.rp (xs.drop (j.toNat * z))))
   | .os id off n e' _ => aN (e' = z ∧ 0 ≤ j ∧ j < n) (some (.op id (off + j.toNat * z)))
   | _ => none
 | some (.array n e) => aK (cD P e) fun z => aN (0 ≤ j ∧ j < n) (match x with
   | .rp xs => some (.rp (xs.drop (j.toNat * z)))
   | .op id off => some (.op id (off + j.toNat * z))
   | _ => none)
 | _ => none
def idF (P : Program) (x : AV) (j : Int) : Option TypeDesc → Option AV
 | some (.array n e) => aK (cD P e) fun z => aN (0 ≤ j ∧ j < n) (match x with
   | .agg cs => ldV P e (cs.drop (j.toNat * z))
   | _ => none)
 | some .string => match x with
   | .s l => aN (0 ≤ j) (aK l[j.toNat]? fun c => some (.w8 c))
   | _ => none
 | _ => none
def spF (x : AV) : Option TypeDesc → Option AV
 | some (.array n _) => aN (0 < n) (match x with
   | .sl m xs => aN (n ≤ m) (some (.rp xs))
   | .os id off m _ _ => aN (n ≤ m) (some (.op id off))
   | _ => none)
 | _ => none
def faF (P : Program) (x : AV) (f : Nat) : Option TypeDesc → Option AV
 | some (.struct fs) => aK fs[f]? fun fd => aK (cD P fd.type) fun n => aN (0 < n) (match x with
   | .op id off => some (.op id (off + fd.offset))
   | .rp xs => some (.rp (xs.drop fd.offset))
   | _ => none)
 | _ => none
def fdF (P : Program) (x : AV) (f : Nat) : Option TypeDesc → Option AV
 | some (.struct fs) => aK fs[f]? fun fd => match x with
   | .agg cs => ldV P fd.type (cs.drop fd.offset)
   | _ => none
 | _ => none
def exF (k : Nat) : AV → Option AV
 | .tup xs => xs[k]?
 | _ => none
def ldF (P : Program) (t : TypeId) (ys : List AV) : Option Bool → Option AV
 | some true => aK (cD P t) fun n => aN (n ≤ ys.length) (some (.agg (ys.take n)))
 | some false => ys.head?
 | none => none
def slF (P : Program) (x : AV) (lo hi : Option AV) : Option TypeDesc → Option AV
 | some (.slice e) => aK (cD P e) fun z => match x with
  | .sl n xs => aK (loIx lo) fun l => aK (hiIx hi n) fun h => aN (0 ≤ l ∧ l ≤ h ∧ h ≤ n) (some (.sl (h.toNat - l.toNat) ((xs.drop (l.toNat * z)).take ((h.toNat - l.toNat) * z))))
  | .os id off n e' g => aK (loIx lo) fun l => aK (hiIx hi n) fun h => aN (e' = z ∧ 0 ≤ l ∧ l ≤ h ∧ h ≤ n) (some (.os id (off + l.toNat * z) (h.toNat - l.toNat) z g))
  | .v (.slice none 0 0) => aK (loIx lo) fun l => aK (hiIx hi 0) fun h => aN (0 ≤ l ∧ l ≤ h ∧ h ≤ 0) (some (.v (.slice none 0 0)))
  | _ => none
 | some (.array n e) => aK (cD P e) fun z => aK (loIx lo) fun l => aK (hiIx hi n) fun h => aN (0 ≤ l ∧ l ≤ h ∧ h ≤ n) (match x with
  | .rp xs => some (.sl (h.toNat - l.toNat) ((xs.drop (l.toNat * z)).take ((h.toNat - l.toNat) * z)))
  | .op id off => some (.os id (off + l.toNat * z) (h.toNat - l.toNat) z false)
  | _ => none)
 | some .string => match x with
  | .s c => aK (loIx lo) fun l => aK (hiIx hi c.length) fun h => aN (0 ≤ l ∧ l ≤ h ∧ h ≤ c.length) (some (.s ((c.drop l.toNat).take (h.toNat - l.toNat))))
  | _ => none
 | _ => none
def cpO (i off n e' z m : Nat) (ys : List AV) (hp : H) : AO → Option (AV × H)
 | .cells xs mt => aN (mt = true ∧ e' = z ∧ off + n * z ≤ xs.length) (some (.i (min m n : Nat), upd hp i (.cells (cK xs off (ys.take (min m n * z))) true)))
 | _ => none
def cpF (P : Program) (hp : H) (x y : AV) : Option TypeDesc → Option (AV × H)
 | some (.slice e) => aK (cD P e) fun z => aK (srcA hp z y) fun my => match x with
  | .os i off n e' _ => aK (hp i) (cpO i off n e' z my.1 my.2 hp)
  | _ => none
 | _ => none
def bsF (P : Program) (len : Nat) (ps : List (Nat × AV)) : Option TypeDesc → Option (Nat × List AV)
 | some (.slice e) => aK (cD P e) fun z => aN (0 < z ∧ len * z ≤ 16777216) (aK (cG P e) fun zs => aN (zs.length = z)
   (aK (fillA (fun k => some (k * z, z)) (rep len zs) ps) fun cs => some (z, cs)))
 | _ => none
def sq1 : Option (List AV) → Option AV
 | some [c] => some c
 | _ => none
def bdS (z m : Nat) (zs : List AV) (ps : List (Nat × AV)) : Option (List AV) → Option AV
 | some cs => some (.agg cs)
 | none => aK (fillA (fun k => some (k * z, z)) zs ps) fun cs => aN (0 < m) (some (.agg cs))
def bdF (P : Program) (n : Nat) (ps : List (Nat × AV)) : Option (List AV) → Option TypeDesc → Option AV
 | some zs, some (.struct fs) => aK (fillA (fun k => aK fs[k]? fun fd => aK (cD P fd.type) fun n => some (fd.offset, n)) zs ps) fun cs =>
    aN (fs.toList.all (fun fd => (cD P fd.type).isSome) = true) (some (.agg cs))
 | some zs, some (.array m e) => aK (cD P e) fun z => bdS z m zs ps (if z = 1 ∧ zs.length = n then seqA 0 ps else none)
 | _, _ => none
def stF (z : Option Nat) (hp : H) (cx : Nat) : AV → Option (List AV) → Option (AV × H × Nat)
 | .op i off, some cs => aK z fun z => aK (hp i) fun o => match o with
   | .cells xs mt => aN (mt = true ∧ cs.length = z ∧ off + z ≤ xs.length) (some (.junk, upd hp i (.cells (dV xs off cs) true), cx))
   | _ => none
 | _, _ => none
def stO (z : Nat) (hp : H) (cx i off : Nat) (cs : List AV) : AO → Option (AV × H × Nat)
 | .cells xs mt => aN (mt = true ∧ cs.length = z ∧ off + z ≤ xs.length) (some (.junk, upd hp i (.cells (dV xs off cs) true), cx))
 | _ => none
def capF (d : Option TypeDesc) (x : AV) : Option AV :=
 match d, x with
 | some (.slice _), .v (.slice none 0 0) => some (.i 0)
 | _, _ => none
def lenF (x : AV) : Option TypeDesc → Option AV
 | some (.slice _) => match x with
  | .sl n _ => some (.i n)
  | .os _ _ n _ _ => some (.i n)
  | .v (.slice none 0 0) => some (.i 0)
  | _ => none
 | some .string => match x with | .s l => some (.i l.length) | _ => none
 | some (.array n _) => some (.i n)
 | _ => none
def apO (z by_ id off n e' : Nat) (g : Bool) (i : Nat) (m : Nat) (ys : List AV) (hp : H) : AO → Option (AV × H)
 | .cells xs mt => aN (mt = true ∧ g = true ∧ e' = z ∧ off + n * z = xs.length ∧ n + m ≤ 140737488355328 ∧ (n + m) * by_ ≤ 140737488355328)
     (some (.os id 0 (n + m) z true, upd (del hp i) id (.cells (xs.drop off ++ ys) true)))
 | _ => none
def apF (P : Program) (hp : H) (id : Nat) (x y : AV) : Option TypeDesc → Option (AV × H)
 | some (.slice e) => aK (cD P e) fun z => aK (dU P e) fun by_ => aK (cG P e) fun zs => aN (0 < z ∧ zs.length = z) (aK (srcA hp z y) fun my => aK (frzL hp my.2) fun fy => apTl z by_ x my.1 fy.1 fy.2 id)
 | _ => none
def azF (P : Program) (hp : H) (id : Nat) (x y : AV) : Option TypeDesc → Option (AV × H)
 | some (.slice e) => aK (cD P e) fun z => aK (dU P e) fun by_ => aK (cG P e) fun zs => aN (0 < z ∧ zs.length = z) (aK (cntA y) fun m => aN (m ≤ 140737488355328 ∧ m * by_ ≤ 140737488355328) (apTail z by_ x m (rep m zs) hp id))
 | _ => none
def apU (P : Program) (hp : H) (id : Nat) (x y : AV) (t : TypeId) : Option TypeDesc → Option (AV × H)
 | some (.int _) => azF P hp id x y (P.underlying t)
 | some _ => apF P hp id x y (P.underlying t)
 | none => none
def mkO (i off n e' : Nat) (g : Bool) (hp : H) : AO → Option (AV × H)
 | .cells xs mt => aN (mt = true ∧ 0 < n) (some (.os i off n e' g, upd hp i (.cells xs true)))
 | _ => none
def mkG (hp : H) : AV → Option (AV × H)
 | .os i off n e' g => aK (hp i) fun o => match o with
   | .cells xs mt => aN (mt = true ∧ 0 < n) (some (.os i off n e' g, upd hp i (.cells xs true)))
   | _ => none
 | _ => none
def mkF (hp : H) (x : AV) : Option TypeDesc → Option (AV × H)
 | some (.int .u8) => mkG hp x
 | _ => none
def cvF (hp hp2 : H) (cx id : Nat) (x : AV) (ue : TypeId → Option TypeDesc) (sd : Bool) : Option TypeDesc → Option TypeDesc → Option (AV × H × Nat)
 | some _, some (.int k) => aK (toK k x) fun y => some (y, hp, cx)
 | some (.slice e), some .string => match ue e with
   | some (.int .u8) => aK (aK (fG hp2 1 x) fun nl => aK (cI nl.2) fun l => some (.s l)) fun y => some (y, hp, cx)
   | _ => none
 | some .string, some (.slice e) => match ue e, x with
   | some (.int .u8), .s l => aN (l.length ≤ 140737488355328) (some (.os id 0 l.length 1 true, upd hp id (.cells (l.map .w8) true), cx))
   | _, _ => none
 | some (.slice _), some (.slice e) => aN (sd = true) (aK (mkF hp x (ue e)) fun p => some (p.1, p.2, cx))
 | some _, some .string => match x with | .s l => some (.s l, hp, cx) | _ => none
 | _, _ => none
def msF (P : Program) (id : Nat) (l c : AV) : Option TypeDesc → Option (AV × List AV)
 | some (.slice e) => aK (cD P e) fun z => aK (dU P e) fun by_ => aK (cG P e) fun zs => aK (ix l) fun l => aK (ix c) fun c =>
   aN (0 < z ∧ zs.length = z ∧ 0 ≤ l ∧ l ≤ c ∧ c ≤ 140737488355328 ∧ c * by_ ≤ 140737488355328) (some (.os id 0 l.toNat z true, rep l.toNat zs))
 | _ => none
theorem e_move {P : Program} {Γ : Env} {ρ : Operand → AV} {m nx n id cx : Nat} {hp : H} {x : Operand} : eff P Γ (.move x) ρ m nx n hp id cx = some (ρ x, hp, cx) := (rfl)
theorem e_assign {P : Program} {Γ : Env} {ρ : Operand → AV} {m nx n id cx : Nat} {hp : H} {x : Operand} : eff P Γ (.assign x) ρ m nx n hp id cx = some (ρ x, hp, cx) := (rfl)
theorem e_bin {P : Program} {Γ : Env} {ρ : Operand → AV} {m nx n id cx : Nat} {hp : H} {o : BinOp} {t ty : TypeId} {x y : Operand} : eff P Γ (.binOp o t x y ty) ρ m nx n hp id cx = aK (bM P o t (ρ x) (ρ y)) fun y => some (y, hp, cx) := (rfl)
theorem e_un {P : Program} {Γ : Env} {ρ : Operand → AV} {m nx n id cx : Nat} {hp : H} {o : UnOp} {t : TypeId} {x : Operand} : eff P Γ (.unOp o t x) ρ m nx n hp id cx = aK (un o (ρ x)) fun y => some (y, hp, cx) := (rfl)
theorem e_nil {P : Program} {Γ : Env} {ρ : Operand → AV} {m nx n id cx : Nat} {hp : H} {x : Operand} : eff P Γ (.nilCheck x) ρ m nx n hp id cx = aK (nilC (ρ x)) fun y => some (y, hp, cx) := by simp only [eff, cls, dI]; cases ρ x <;> rfl
theorem e_pick {P : Program} {Γ : Env} {ρ : Operand → AV} {m nx n id cx : Nat} {hp : H} {c x y : Operand} : eff P Γ (.pick c x y) ρ m nx n hp id cx = aK (pickC (ρ c) (ρ x) (ρ y)) fun y => some (y, hp, cx) := by simp only [eff, cls, dI]; cases ρ c <;> rfl
theorem e_load {P : Program} {Γ : Env} {ρ : Operand → AV} {m nx n id cx : Nat} {hp : H} {t : TypeId} {x : Operand} : eff P Γ (.load t x) ρ m nx n hp id cx = aK (loadF P t (hsel m nx n hp) (ρ x)) fun y => some (y, hp, cx) := by simp only [eff, cls, readOp]; cases ρ x <;> rfl
theorem e_ia {P : Program} {Γ : Env} {ρ : Operand → AV} {m nx n id cx : Nat} {hp : H} {t : TypeId} {x j : Operand} : eff P Γ (.indexAddr t x j) ρ m nx n hp id cx = aK (ix (ρ j)) fun j => aK (iaF P (ρ x) j (P.underlying t)) fun y => some (y, hp, cx) := by
 simp only [eff, cls, dI]
 cases ix (ρ j) with
 | none => rfl
 | some j => simp only [aX]; cases P.underlying t with
  | none => rfl
  | some d => cases d <;> rfl
theorem e_idx {P : Program} {Γ : Env} {ρ : Operand → AV} {m nx n id cx : Nat} {hp : H} {t : TypeId} {x j : Operand} : eff P Γ (.index t x j) ρ m nx n hp id cx = aK (ix (ρ j)) fun j => aK (idF P (ρ x) j (P.underlying t)) fun y => some (y, hp, cx) := by
 simp only [eff, cls, dI]
 cases ix (ρ j) with
 | none => rfl
 | some j => simp only [aX]; cases P.underlying t with
  | none => rfl
  | some d => cases d <;> rfl
theorem e_sp {P : Program} {Γ : Env} {ρ : Operand → AV} {m nx n id cx : Nat} {hp : H} {t : TypeId} {x : Operand} : eff P Γ (.sliceToArrayPointer t x) ρ m nx n hp id cx = aK (spF (ρ x) (P.underlying t)) fun y => some (y, hp, cx) := by
 simp only [eff, cls, dI]; cases P.underlying t with
 | none => rfl
 | some d => cases d <;> rfl
theorem e_fa {P : Program} {Γ : Env} {ρ : Operand → AV} {m nx n id cx : Nat} {hp : H} {t : TypeId} {x : Operand} {f : Nat} : eff P Γ (.fieldAddr t x f) ρ m nx n hp id cx = aK (faF P (ρ x) f (P.underlying t)) fun y => some (y, hp, cx) := by
 simp only [eff, cls, dI]; cases P.underlying t with
 | none => rfl
 | some d => cases d <;> rfl
theorem e_fd {P : Program} {Γ : Env} {ρ : Operand → AV} {m nx n id cx : Nat} {hp : H} {t : TypeId} {x : Operand} {f : Nat} : eff P Γ (.field t x f) ρ m nx n hp id cx = aK (fdF P (ρ x) f (P.underlying t)) fun y => some (y, hp, cx) := by
 simp only [eff, cls, dI]; cases P.underlying t with
 | none => rfl
 | some d => cases d <;> rfl
theorem e_ex {P : Program} {Γ : Env} {ρ : Operand → AV} {m nx n id cx : Nat} {hp : H} {x : Operand} {k : Nat} : eff P Γ (.extract x k) ρ m nx n hp id cx = aK (exF k (ρ x)) fun y => some (y, hp, cx) := by simp only [eff, cls, dI]; cases ρ x <;> rfl
theorem e_slice {P : Program} {Γ : Env} {ρ : Operand → AV} {m nx n id cx : Nat} {hp : H} {t : TypeId} {x : Operand} {lo hi : Option Operand} : eff P Γ (.slice t x lo hi none) ρ m nx n hp id cx = aK (slF P (ρ x) (lo.map ρ) (hi.map ρ) (P.underlying t)) fun y => some (y, hp, cx) := by
 simp only [eff, cls, dI, sliceA]
 cases P.underlying t with
 | none => rfl
 | some d => cases d <;> rfl
theorem e_alloc {P : Program} {Γ : Env} {ρ : Operand → AV} {m nx n id cx : Nat} {hp : H} {t : TypeId} : eff P Γ (.alloc t) ρ m nx n hp id cx = aK (cG P t) fun zs => some (.op id 0, upd hp id (.cells zs true), cx) := by simp only [eff, cls, newOp]; cases cG P t <;> rfl
theorem e_make {P : Program} {Γ : Env} {ρ : Operand → AV} {m nx n id cx : Nat} {hp : H} {t : TypeId} {l c : Operand} : eff P Γ (.makeSlice t l c) ρ m nx n hp id cx = aK (msF P id (ρ l) (ρ c) (P.underlying t)) fun p => some (p.1, upd hp id (.cells p.2 true), cx) := by simp only [eff, cls, newOp]; cases P.underlying t with | none => rfl | some d => cases d <;> rfl
theorem msF_sl (P id l c e) : msF P id l c (some (.slice e)) = aK (cD P e) fun z => aK (dU P e) fun by_ => aK (cG P e) fun zs => aK (ix l) fun l => aK (ix c) fun c => aN (0 < z ∧ zs.length = z ∧ 0 ≤ l ∧ l ≤ c ∧ c ≤ 140737488355328 ∧ c * by_ ≤ 140737488355328) (some (.os id 0 l.toNat z true, rep l.toNat zs)) := (rfl)
theorem e_box {P : Program} {Γ : Env} {ρ : Operand → AV} {m nx n id cx : Nat} {hp : H} {t : TypeId} {x : Operand} : eff P Γ (.box t x) ρ m nx n hp id cx = aK (dC (ρ x)) fun cs => some (.op id 0, upd hp id (.cells cs true), cx) := by simp only [eff, cls, newOp]; cases dC (ρ x) <;> rfl
theorem e_store {P : Program} {Γ : Env} {ρ : Operand → AV} {m nx n id cx : Nat} {hp : H} {t : TypeId} {a x : Operand} : eff P Γ (.store t a x) ρ m nx n hp id cx = stF (cD P t) hp cx (ρ a) (dC (ρ x)) := by
 simp only [eff, cls, fR]
 cases ρ a with
 | op i off =>
  cases dC (ρ x) with
  | none => rfl
  | some cs =>
   cases cD P t with
   | none => rfl
   | some z =>
    simp only [stF, aX]
    cases hp i with
    | none => rfl
    | some o => cases o <;> first | rfl | (simp only [aX, aN]; split <;> rfl)
 | _ => rfl
theorem e_conv {P : Program} {Γ : Env} {ρ : Operand → AV} {m nx n id cx : Nat} {hp : H} {s d : TypeId} {x : Operand} : eff P Γ (.convert s d x) ρ m nx n hp id cx = cvF hp (hsel m nx n hp) cx id (ρ x) P.underlying (decide (s = d)) (P.underlying s) (P.underlying d) := by
 simp only [eff, cls, dI, readOp, newOp, fR]
 generalize hs : P.underlying s = us
 generalize hd : P.underlying d = ud
 cases us with
 | none => cases ud with
  | none => rfl
  | some b => cases b <;> rfl
 | some a =>
  cases ud with
  | none => cases a <;> rfl
  | some b =>
   cases b with
   | int k => cases a <;> rfl
   | string =>
    cases a with
    | slice e =>
     simp only [cvF]
     cases P.underlying e with
     | none => rfl
     | some f => cases f with
      | int k => cases k <;> rfl
      | _ => rfl
    | _ => simp only [cvF, aX]; cases ρ x <;> rfl
   | slice e =>
    cases a with
    | string =>
     simp only [cvF]
     cases P.underlying e with
     | none => rfl
     | some f => cases f with
      | int k =>
       cases k with
       | u8 => cases ρ x with
        | s l => simp only [aN]; split <;> rfl
        | _ => rfl
       | _ => rfl
      | _ => rfl
    | slice e2 =>
     simp only [cvF, aN, decide_eq_true_eq]
     by_cases hsd : s = d
     ·rw [if_pos hsd, if_pos hsd]
      simp only [markA, mkF]
      cases P.underlying e with
      | none => rfl
      | some f => cases f with
       | int k =>
        cases k with
        | u8 => cases ρ x <;> rfl
        | _ => rfl
       | _ => rfl
     ·rw [if_neg hsd, if_neg hsd]; rfl
    | _ => rfl
   | _ => cases a <;> rfl
theorem e_build {P : Program} {Γ : Env} {ρ : Operand → AV} {m nx n id cx : Nat} {hp : H} {t : TypeId} {parts : Array (Nat × Operand)} : eff P Γ (.build t parts) ρ m nx n hp id cx = aK (bdF P parts.size (parts.toList.map fun p => (p.1, ρ p.2)) (cG P t) (P.underlying t)) fun y => some (y, hp, cx) := by
 simp only [eff, cls, dI]
 cases cG P t with
 | none => rfl
 | some zs =>
  simp only [aX]
  cases P.underlying t with
  | none => rfl
  | some d =>
   cases d with
   | array m e =>
    simp only [bdF]
    cases cD P e with
    | none => rfl
    | some z =>
     simp only [aX]
     split <;> (rename_i h; simp only [h, bdS, aX])
   | _ => rfl
theorem e_bslice {P : Program} {Γ : Env} {ρ : Operand → AV} {m nx n id cx : Nat} {hp : H} {t : TypeId} {len : Nat} {parts : Array (Nat × Operand)} : eff P Γ (.buildSlice t len parts) ρ m nx n hp id cx = aK (bsF P len (parts.toList.map fun p => (p.1, ρ p.2)) (P.underlying t)) fun p => some (.os id 0 len p.1 true, upd hp id (.cells p.2 true), cx) := by
 simp only [eff, cls, newOp]
 cases P.underlying t with
 | none => rfl
 | some d =>
  cases d with
  | slice e =>
   simp only [bsF]
   cases cD P e with
   | none => rfl
   | some z =>
    simp only [aX, aN]
    split
    ·cases cG P e with
     | none => rfl
     | some zs =>
      simp only [aX]
      split
      ·cases fillA (fun k => some (k * z, z)) (rep len zs) (parts.toList.map fun p => (p.1, ρ p.2)) <;> rfl
      ·rfl
    ·rfl
  | _ => rfl
theorem e_call {P : Program} {Γ : Env} {ρ : Operand → AV} {m nx n id cx : Nat} {hp : H} {f : Operand} {args : Array Operand} {ats : Array TypeId} : eff P Γ (.call { callee := .value f, args := args, argTypes := ats }) ρ m nx n hp id cx = (match ρ f with | .fn f caps => callA Γ f (args.toList.map ρ ++ caps) m nx n hp id cx | _ => none) := (rfl)
theorem ea_call {P : Program} {Γ : Env} {GL : Nat → Option (List AV)} {fr : List (Nat × AV)} {m nx n id cx : Nat} {hp : H} {f : FuncId} {args : Array Operand} {ats : Array TypeId} : eff P Γ (.call { callee := .value (.func f), args := args, argTypes := ats }) (ev GL fr) m nx n hp id cx = callA Γ f (args.toList.map (ev GL fr)) m nx n hp id cx := by simp [eff, cls, callOp, ev]
def lenG (hp : H) (x : AV) : Option TypeDesc → Option AV
 | some (.map _ _) => aK (mpOf hp x) fun es => some (.i es.length)
 | d => lenF x d
theorem ea_len {P : Program} {Γ : Env} {ρ : Operand → AV} {m nx n id cx : Nat} {hp : H} {x : Operand} {t : TypeId} : eff P Γ (.call { callee := .builtin .len, args := #[x], argTypes := #[t] }) ρ m nx n hp id cx = aK (lenG (hsel m nx n hp) (ρ x) (P.underlying t)) fun y => some (y, hp, cx) := by
 simp only [eff, cls, isMapT, dI, readOp, callLen, lenA, lenMA, lenG, lenF]
 cases P.underlying t with
 | none => rfl
 | some d => cases d <;> rfl
theorem lenG_sl (hp x e) : lenG hp x (some (.slice e)) = lenF x (some (.slice e)) := (rfl)
theorem lenG_s (hp x) : lenG hp x (some .string) = lenF x (some .string) := (rfl)
theorem lenG_arr (hp x n e) : lenG hp x (some (.array n e)) = lenF x (some (.array n e)) := (rfl)
theorem lenG_map (hp x k e) : lenG hp x (some (.map k e)) = aK (mpOf hp x) fun es => some (.i es.length) := (rfl)
def mpO : AO → Option (List (AV × AV))
 | .mapo es _ => some es
 | _ => none
theorem mpOf_mp (hp : H) (id : Nat) : mpOf hp (.mp id) = aK (hp id) mpO := (rfl)
theorem mpOf_nil (hp : H) : mpOf hp (.v (.map none)) = some [] := (rfl)
theorem mpO_m (es mt) : mpO (.mapo es mt) = some es := (rfl)
theorem ea_cap {P : Program} {Γ : Env} {ρ : Operand → AV} {m nx n id cx : Nat} {hp : H} {x : Operand} {t : TypeId} : eff P Γ (.call { callee := .builtin .cap, args := #[x], argTypes := #[t] }) ρ m nx n hp id cx = aK (capF (P.underlying t) (ρ x)) fun y => some (y, hp, cx) := (rfl)
theorem capF_nil (e) : capF (some (.slice e)) (.v (.slice none 0 0)) = some (.i 0) := (rfl)
theorem ea_append {P : Program} {Γ : Env} {ρ : Operand → AV} {m nx n id cx : Nat} {hp : H} {x y : Operand} {t t2 : TypeId} : eff P Γ (.call { callee := .builtin .append, args := #[x, y], argTypes := #[t, t2] }) ρ m nx n hp id cx = aK (apU P hp id (ρ x) (ρ y) t (P.underlying t2)) fun p => some (p.1, p.2, cx) := by
 simp only [eff, cls, fR]
 congr 1
 cases h2 : P.underlying t2 with
 | none => simp [eW, isIntT, h2, aN, apU]
 | some d =>
  cases d with
  | int k =>
   simp only [eW, isIntT, h2, aN, apU, appendZ, azF]
   cases P.underlying t with
   | none => rfl
   | some d => cases d <;> rfl
  | _ =>
   simp only [eW, h2, apU, appendA, apF, if_true]
   cases P.underlying t with
   | none => rfl
   | some d => cases d <;> rfl
theorem ea_copy {P : Program} {Γ : Env} {ρ : Operand → AV} {m nx n id cx : Nat} {hp : H} {x y : Operand} {t t2 : TypeId} : eff P Γ (.call { callee := .builtin .copy, args := #[x, y], argTypes := #[t, t2] }) ρ m nx n hp id cx = aK (cpF P hp (ρ x) (ρ y) (P.underlying t)) fun p => some (p.1, p.2, cx) := by
 simp only [eff, cls, fR, copyA]
 cases P.underlying t with
 | none => rfl
 | some d => cases d <;> rfl
theorem nilC_op (id off : Nat) : nilC (.op id off) = some (.op id off) := (rfl)
theorem nilC_rp (xs : List AV) : nilC (.rp xs) = some (.rp xs) := (rfl)
theorem pickC_b (t : Bool) (a b : AV) : pickC (.b t) a b = some (if t then a else b) := (rfl)
theorem loadF_rp {P : Program} {hp : H} (t : TypeId) (ys : List AV) : loadF P t hp (.rp ys) = ldF P t ys (cH P t) := by simp only [loadF, ldV]; cases cH P t with | none => rfl | some b => cases b <;> rfl
theorem loadO_c {P : Program} (t : TypeId) (off : Nat) (xs : List AV) (mt : Bool) : loadO P t off (.cells xs mt) = ldF P t (xs.drop off) (cH P t) := by simp only [loadO, ldV]; cases cH P t with | none => rfl | some b => cases b <;> rfl
theorem loadF_op {P : Program} {hp : H} (t : TypeId) (id off : Nat) : loadF P t hp (.op id off) = aK (hp id) (loadO P t off) := (rfl)
theorem ldF_agg {P : Program} (t : TypeId) (ys : List AV) : ldF P t ys (some true) = aK (cD P t) fun n => aN (n ≤ ys.length) (some (.agg (ys.take n))) := (rfl)
theorem ldF_sc {P : Program} (t : TypeId) (ys : List AV) : ldF P t ys (some false) = ys.head? := (rfl)
theorem iaF_sl {P : Program} (n : Nat) (xs : List AV) (j : Int) (e : TypeId) : iaF P (.sl n xs) j (some (.slice e)) = aK (cD P e) fun z => aN (0 ≤ j ∧ j < n) (some (.rp (xs.drop (j.toNat * z)))) := (rfl)
theorem iaF_os {P : Program} (id off n e2 : Nat) (g : Bool) (j : Int) (e : TypeId) : iaF P (.os id off n e2 g) j (some (.slice e)) = aK (cD P e) fun z => aN (e2 = z ∧ 0 ≤ j ∧ j < n) (some (.op id (off + j.toNat * z))) := (rfl)
theorem iaF_rp {P : Program} (n : Nat) (xs : List AV) (j : Int) (e : TypeId) : iaF P (.rp xs) j (some (.array n e)) = aK (cD P e) fun z => aN (0 ≤ j ∧ j < n) (some (.rp (xs.drop (j.toNat * z)))) := (rfl)
theorem iaF_op {P : Program} (n id off : Nat) (j : Int) (e : TypeId) : iaF P (.op id off) j (some (.array n e)) = aK (cD P e) fun z => aN (0 ≤ j ∧ j < n) (some (.op id (off + j.toNat * z))) := (rfl)
theorem idF_agg {P : Program} (n : Nat) (xs : List AV) (j : Int) (e : TypeId) : idF P (.agg xs) j (some (.array n e)) = aK (cD P e) fun z => aN (0 ≤ j ∧ j < n) (ldF P e (xs.drop (j.toNat * z)) (cH P e)) := by simp only [idF, ldV]; cases cH P e with | none => rfl | some b => cases b <;> rfl
theorem idF_s {P : Program} (l : List (BitVec 8)) (j : Int) : idF P (.s l) j (some .string) = aN (0 ≤ j) (aK l[j.toNat]? fun c => some (.w8 c)) := (rfl)
theorem spF_sl (m n : Nat) (xs : List AV) (e : TypeId) : spF (.sl m xs) (some (.array n e)) = aN (0 < n) (aN (n ≤ m) (some (.rp xs))) := (rfl)
theorem spF_os (id off m n e2 : Nat) (g : Bool) (e : TypeId) : spF (.os id off m e2 g) (some (.array n e)) = aN (0 < n) (aN (n ≤ m) (some (.op id off))) := (rfl)
theorem exF_tup (k : Nat) (xs : List AV) : exF k (.tup xs) = xs[k]? := (rfl)
theorem stF_op (z : Option Nat) (hp : H) (cx i off : Nat) (cs : List AV) : stF z hp cx (.op i off) (some cs) = aK z fun z => aK (hp i) (stO z hp cx i off cs) := (rfl)
theorem stO_c (z : Nat) (hp : H) (cx i off : Nat) (cs xs : List AV) (mt : Bool) : stO z hp cx i off cs (.cells xs mt) = aN (mt = true ∧ cs.length = z ∧ off + z ≤ xs.length) (some (.junk, upd hp i (.cells (dV xs off cs) true), cx)) := (rfl)
theorem cellsV_w8 (x) : dC (.w8 x) = some [.w8 x] := (rfl)
theorem cellsV_w16 (x) : dC (.w16 x) = some [.w16 x] := (rfl)
theorem cellsV_w32 (x) : dC (.w32 x) = some [.w32 x] := (rfl)
theorem cellsV_w64 (x) : dC (.w64 x) = some [.w64 x] := (rfl)
theorem cellsV_i (x) : dC (.i x) = some [.i x] := (rfl)
theorem cellsV_b (x) : dC (.b x) = some [.b x] := (rfl)
theorem cellsV_s (x) : dC (.s x) = some [.s x] := (rfl)
theorem cellsV_agg (x) : dC (.agg x) = some x := (rfl)
theorem cellsV_sl (n xs) : dC (.sl n xs) = some [.sl n xs] := (rfl)
theorem cellsV_rp (xs) : dC (.rp xs) = some [.rp xs] := (rfl)
theorem cellsV_os (i o n e g) : dC (.os i o n e g) = some [.os i o n e g] := (rfl)
theorem cellsV_op (i o) : dC (.op i o) = some [.op i o] := (rfl)
theorem storeL_1 (xs : List AV) (off : Nat) (c : AV) : dV xs off [c] = xs.set off c := (rfl)
theorem hsel_0 (nx n : Nat) (hp : H) : hsel 0 nx n hp = hp := (rfl)
theorem hsel_1 (nx n : Nat) (hp : H) : hsel 1 nx n hp = fun _ => none := (rfl)
theorem hsel_lt (m nx n id : Nat) (hp : H) (hm : 2 ≤ m) (h : id < nx) : hsel m nx n hp id = hp id := by unfold hsel; split <;> first | omega | exact if_neg (by omega)
theorem lenF_sl (n xs e) : lenF (.sl n xs) (some (.slice e)) = some (.i n) := (rfl)
theorem lenF_os (id off n e2 g e) : lenF (.os id off n e2 g) (some (.slice e)) = some (.i n) := (rfl)
theorem lenF_nil (e) : lenF (.v (.slice none 0 0)) (some (.slice e)) = some (.i 0) := (rfl)
theorem lenF_s (l) : lenF (.s l) (some .string) = some (.i l.length) := (rfl)
theorem lenF_arr (x n e) : lenF x (some (.array n e)) = some (.i n) := (rfl)
theorem cvF_int (hp hp2 cx id x ue sd a k) : cvF hp hp2 cx id x ue sd (some a) (some (.int k)) = aK (toK k x) fun y => some (y, hp, cx) := by cases a <;> rfl
theorem cvF_str (hp hp2 cx id l ue sd) : cvF hp hp2 cx id (.s l) ue sd (some .string) (some .string) = some (.s l, hp, cx) := (rfl)
theorem cvF_b2s (hp hp2 cx id x ue sd e) (h : ue e = some (.int .u8)) : cvF hp hp2 cx id x ue sd (some (.slice e)) (some .string) = aK (fG hp2 1 x) fun nl => aK (cI nl.2) fun l => some (.s l, hp, cx) := by simp only [cvF, h]; cases fG hp2 1 x with | none => rfl | some y => simp only [aX]; cases cI y.2 <;> rfl
theorem cvF_s2b (hp hp2 cx id l ue sd e) (h : ue e = some (.int .u8)) : cvF hp hp2 cx id (.s l) ue sd (some .string) (some (.slice e)) = aN (l.length ≤ 140737488355328) (some (.os id 0 l.length 1 true, upd hp id (.cells (l.map .w8) true), cx)) := by simp only [cvF, h]
def callS (_ : FuncId) (args : List AV) (m nx n : Nat) (hp : H) (id cx : Nat) : Option Spec → Option (AV × H × Nat)
 | some (.pure true g) => aK (gR (hsel m nx n hp) args) fun as_ => aK (g as_) fun r => aN (r.noMem = true) (some (r, hp, cx))
 | some (.pure false g) => if m = 0 then aK (fV hp args) fun ah => aK (g ah.1) fun r => some (r, ah.2, cx)
   else aK (fW (fun _ => none) args) fun as_ => aK (g as_) fun r => some (r, hp, cx)
 | some (.fresh true g) => aK (gR (hsel m nx n hp) args) fun as_ => aK (g as_) fun r => aN (AV.noMem.noMemL r.2.2 = true) (some (.os id 0 r.1 r.2.1 true, upd hp id (.cells r.2.2 true), cx))
 | some (.fresh false g) => if m = 0 then aK (fV hp args) fun ah => aK (g ah.1) fun r => some (.os id 0 r.1 r.2.1 true, upd ah.2 id (.cells r.2.2 true), cx)
   else aK (fW (fun _ => none) args) fun as_ => aK (g as_) fun r => some (.os id 0 r.1 r.2.1 true, upd hp id (.cells r.2.2 true), cx)
 | some (.heap g) => aN (m = 0) (g args hp cx)
 | none => none
def bC : List (Nat × Spec) → Env
 | [], _ => none
 | (k, s) :: r, f => if f = k then some s else bC r f
structure LOp where
 d : Option Tmp
 op : Op
 g : Option (Option Tmp × Bool)
def aG (ops : Array Oper) (o : Oper) : LOp := ⟨o.dst, o.op, o.guard.map fun p => ((ops[p.1]?).bind (·.dst), p.2)⟩
def gdS (fr : List (Nat × AV)) : Option (Option Tmp × Bool) → Option Bool
 | none => some true
 | some (some t, want) => guardB want (dG fr t)
 | some (none, _) => none
def stepP (P : Program) (Γ : Env) (GL : Nat → Option (List AV)) (m n k : Nat) (o : LOp) (s : S) : Option S :=
 aK (gdS s.fr o.g) fun b => match b with
  | true => aK (eff P Γ o.op (ev GL s.fr) m s.nx n s.hp (s.nx + k) s.cx) fun r => some { fr := fA o.d r.1 s.fr, hp := r.2.1, nx := s.nx, cx := r.2.2 }
  | false => some { s with fr := fA o.d (.tup []) s.fr }
def runP (P : Program) (Γ : Env) (GL : Nat → Option (List AV)) (md : Nat → Nat) (n : Nat) : Nat → List LOp → S → Option S
 | _, [], s => some s
 | k, o :: r, s => aK (stepP P Γ GL (md k) n k o s) fun s' => runP P Γ GL md n (k + 1) r s'
theorem step_eq (P : Program) (Γ : Env) (GL : Nat → Option (List AV)) (md : Nat → Nat) (ops : Array Oper) (k : Nat) (o : Oper) (s : S) : stepO P Γ GL md ops k o s = stepP P Γ GL (md k) ops.size k (aG ops o) s := by
 have : gdO ops s.fr o = gdS s.fr (aG ops o).g := by
  unfold gdO aG
  cases o.guard with
  | none => rfl
  | some p =>
   simp only [Option.map_some]
   cases (ops[p.1]?).bind (·.dst) <;> rfl
 unfold stepO stepP
 rw [this]; rfl
theorem run_eq (P : Program) (Γ : Env) (GL : Nat → Option (List AV)) (md : Nat → Nat) (ops : Array Oper) : ∀ (l : List Oper) (k : Nat) (s : S), runL P Γ GL md ops k l s = runP P Γ GL md ops.size k (l.map (aG ops)) s
 | [], _, _ => rfl
 | o :: r, k, s => by
  simp only [runL, List.map_cons, runP, step_eq]
  congr 1
  funext s'
  exact run_eq P Γ GL md ops r (k + 1) s'
def runQ (P : Program) (Γ : Env) (GL : Nat → Option (List AV)) (md : Nat → Nat) (n : Nat) (l : List LOp) (s : S) : Option S := runP P Γ GL md n 0 l s
def aF (c : Code) : List LOp := (aM c).toList.map (aG (aM c))
def rN (c : Code) : Nat := (aM c).size
@[congr] theorem runP_congr {P : Program} {Γ : Env} {GL : Nat → Option (List AV)} {md : Nat → Nat} {n k k' : Nat} {l : List LOp} {s s' : S} (hk : k = k') (h : s = s') : runP P Γ GL md n k l s = runP P Γ GL md n k' l s' := by rw [h, hk]
theorem aC {P : Program} {GL : Nat → Option (List AV)} {nt : Nat} {Q : Exit → S → Prop} {s : S} {code : Code} {Γ : Env} (ks : List Nat) (hΓ : eJ P GL Γ) (hc : isReg code = true) (hd : rDraw code = false) (ho : fK nt (aM code).toList = true)
  (h : ∀ K : S → Prop, (∀ t, Q .normal t → K t) → someP (runQ P Γ GL (fun _ => 0) (rN code) (aF code) (cX (rN code) s)) fun t => K { t with fr := gL ks t.fr }) : Awp P GL nt code s Q := by
 refine awp_regK ks hΓ hc hd ho fun K hK => ?_
 rw [run_eq]; exact h K hK
theorem bB {P : Program} {GL : Nat → Option (List AV)} {nt : Nat} {Q : Exit → S → Prop} {s : S} {code : Code} {Γ : Env} (md : Nat → Nat) (ks : List Nat) (hm : P.follows .mixedOrders = true) (hΓ : eJ P GL Γ) (hc : isReg code = true) (hd : rDraw code = true) (ho : fK nt (aM code).toList = true) (hk : okDraw P Γ md (aM code) = true)
  (h : ∀ K : S → Prop, (∀ t, Q .normal t → K t) → someP (runQ P Γ GL md (rN code) (aF code) (cX (rN code) s)) fun t => K { t with fr := gL ks t.fr }) : Awp P GL nt code s Q := by
 refine awp_drwK md ks hm hΓ hc hd ho hk fun K hK => ?_
 rw [run_eq]; exact h K hK
def stepB (P : Program) (Γ : Env) (GL : Nat → Option (List AV)) (m n k : Nat) (d : Option Tmp) (op : Op) (fr : List (Nat × AV)) (hp : H) (nx cx : Nat) : Bool → Option S
 | true => aK (eff P Γ op (ev GL fr) m nx n hp (nx + k) cx) fun r => some { fr := fA d r.1 fr, hp := r.2.1, nx := nx, cx := r.2.2 }
 | false => some { fr := fA d (.tup []) fr, hp := hp, nx := nx, cx := cx }
theorem bdF_arr (P n ps zs m e) : bdF P n ps (some zs) (some (.array m e)) = aK (cD P e) fun z => bdS z m zs ps (if z = 1 ∧ zs.length = n then seqA 0 ps else none) := (rfl)
theorem bdS_some (z m zs ps cs) : bdS z m zs ps (some cs) = some (.agg cs) := (rfl)
theorem bdS_none (z m zs ps) : bdS z m zs ps none = aK (fillA (fun k => some (k * z, z)) zs ps) fun cs => aN (0 < m) (some (.agg cs)) := (rfl)
theorem seqA_nil (k) : seqA k [] = some [] := (rfl)
theorem seqA_cons (k i v r) : seqA k ((i, v) :: r) = aN (i = k) (aK (sq1 (dC v)) fun c => aK (seqA (k + 1) r) fun r => some (c :: r)) := by simp only [seqA]; cases dC v with | none => rfl | some l => cases l with | nil => rfl | cons a b => cases b <;> rfl
theorem sq1_1 (c) : sq1 (some [c]) = some c := (rfl)
theorem nm_w8 (x) : AV.noMem (.w8 x) = true := (rfl)
theorem nm_w16 (x) : AV.noMem (.w16 x) = true := (rfl)
theorem nm_w32 (x) : AV.noMem (.w32 x) = true := (rfl)
theorem nm_w64 (x) : AV.noMem (.w64 x) = true := (rfl)
theorem nm_i (x) : AV.noMem (.i x) = true := (rfl)
theorem nm_b (x) : AV.noMem (.b x) = true := (rfl)
theorem nm_s (x) : AV.noMem (.s x) = true := (rfl)
theorem slF_sl (P n xs lo hi e) : slF P (.sl n xs) lo hi (some (.slice e)) = aK (cD P e) fun z => aK (loIx lo) fun l => aK (hiIx hi n) fun h => aN (0 ≤ l ∧ l ≤ h ∧ h ≤ n) (some (.sl (h.toNat - l.toNat) ((xs.drop (l.toNat * z)).take ((h.toNat - l.toNat) * z)))) := (rfl)
theorem slF_os (P id off n e2 g lo hi e) : slF P (.os id off n e2 g) lo hi (some (.slice e)) = aK (cD P e) fun z => aK (loIx lo) fun l => aK (hiIx hi n) fun h => aN (e2 = z ∧ 0 ≤ l ∧ l ≤ h ∧ h ≤ n) (some (.os id (off + l.toNat * z) (h.toNat - l.toNat) z g)) := (rfl)
theorem slF_nil (P lo hi e) : slF P (.v (.slice none 0 0)) lo hi (some (.slice e)) = aK (cD P e) fun _ => aK (loIx lo) fun l => aK (hiIx hi 0) fun h => aN (0 ≤ l ∧ l ≤ h ∧ h ≤ 0) (some (.v (.slice none 0 0))) := (rfl)
theorem slF_op (P id off n lo hi e) : slF P (.op id off) lo hi (some (.array n e)) = aK (cD P e) fun z => aK (loIx lo) fun l => aK (hiIx hi n) fun h => aN (0 ≤ l ∧ l ≤ h ∧ h ≤ n) (some (.os id (off + l.toNat * z) (h.toNat - l.toNat) z false)) := (rfl)
theorem slF_rp (P xs n lo hi e) : slF P (.rp xs) lo hi (some (.array n e)) = aK (cD P e) fun z => aK (loIx lo) fun l => aK (hiIx hi n) fun h => aN (0 ≤ l ∧ l ≤ h ∧ h ≤ n) (some (.sl (h.toNat - l.toNat) ((xs.drop (l.toNat * z)).take ((h.toNat - l.toNat) * z)))) := (rfl)
theorem slF_s (P c lo hi) : slF P (.s c) lo hi (some .string) = aK (loIx lo) fun l => aK (hiIx hi c.length) fun h => aN (0 ≤ l ∧ l ≤ h ∧ h ≤ c.length) (some (.s ((c.drop l.toNat).take (h.toNat - l.toNat)))) := (rfl)
theorem loIx_none : loIx none = some 0 := (rfl)
theorem loIx_some (v) : loIx (some v) = ix v := (rfl)
theorem hiIx_none (n : Nat) : hiIx none n = some (n : Int) := (rfl)
theorem hiIx_some (v n) : hiIx (some v) n = ix v := (rfl)
theorem cpF_os (P hp i off n e2 g y e) : cpF P hp (.os i off n e2 g) y (some (.slice e)) = aK (cD P e) fun z => aK (srcA hp z y) fun my => aK (hp i) (cpO i off n e2 z my.1 my.2 hp) := (rfl)
theorem cpO_c (i off n e2 z m ys hp xs mt) : cpO i off n e2 z m ys hp (.cells xs mt) = aN (mt = true ∧ e2 = z ∧ off + n * z ≤ xs.length) (some (.i (min m n : Nat), upd hp i (.cells (cK xs off (ys.take (min m n * z))) true))) := (rfl)
theorem bsF_sl (P len ps e) : bsF P len ps (some (.slice e)) = aK (cD P e) fun z => aN (0 < z ∧ len * z ≤ 16777216) (aK (cG P e) fun zs => aN (zs.length = z) (aK (fillA (fun k => some (k * z, z)) (rep len zs) ps) fun cs => some (z, cs))) := (rfl)
theorem fillA_nil (pl cells) : fillA pl cells [] = some cells := (rfl)
theorem fillA_cons (pl cells i v r) : fillA pl cells ((i, v) :: r) = aK (pl i) fun os => aK (dC v) fun vc => aN (vc.length = os.2 ∧ os.1 + os.2 ≤ cells.length) (fillA pl (cK cells os.1 vc) r) := (rfl)
theorem rep_1 (x : AV) : rep 1 [x] = [x] := (rfl)
theorem rep_4 (x : AV) : rep 4 [x] = [x, x, x, x] := (rfl)
theorem sp_1 (x y : AV) : cK [x] 0 [y] = [y] := (rfl)
theorem sp_40 (a b c d y : AV) : cK [a, b, c, d] 0 [y] = [y, b, c, d] := (rfl)
theorem sp_41 (a b c d y : AV) : cK [a, b, c, d] 1 [y] = [a, y, c, d] := (rfl)
theorem sp_42 (a b c d y : AV) : cK [a, b, c, d] 2 [y] = [a, b, y, d] := (rfl)
theorem sp_43 (a b c d y : AV) : cK [a, b, c, d] 3 [y] = [a, b, c, y] := (rfl)
theorem noInt_sl (P : Program) (t e : TypeId) (h : P.underlying t = some (.slice e)) : eW P t = true := by simp only [eW, h]
theorem noInt_s (P : Program) (t : TypeId) (h : P.underlying t = some .string) : eW P t = true := by simp only [eW, h]
theorem callA_S (Γ : Env) (f : FuncId) (args : List AV) (m nx n : Nat) (hp : H) (id cx : Nat) : callA Γ f args m nx n hp id cx = callS f args m nx n hp id cx (Γ f) := by unfold callA callS; rfl
theorem callS_p (f args m nx n hp id cx g) : callS f args m nx n hp id cx (some (.pure true g)) = aK (gR (hsel m nx n hp) args) fun as_ => aK (g as_) fun r => aN (r.noMem = true) (some (r, hp, cx)) := (rfl)
theorem callS_q0 (f args nx n hp id cx g) : callS f args 0 nx n hp id cx (some (.pure false g)) = aK (fV hp args) fun ah => aK (g ah.1) fun r => some (r, ah.2, cx) := (rfl)
theorem callS_q1 (f args nx n hp id cx g) : callS f args 1 nx n hp id cx (some (.pure false g)) = aK (fW (fun _ => none) args) fun as_ => aK (g as_) fun r => some (r, hp, cx) := (rfl)
theorem callS_f (f args m nx n hp id cx g) : callS f args m nx n hp id cx (some (.fresh true g)) = aK (gR (hsel m nx n hp) args) fun as_ => aK (g as_) fun r => aN (AV.noMem.noMemL r.2.2 = true) (some (.os id 0 r.1 r.2.1 true, upd hp id (.cells r.2.2 true), cx)) := (rfl)
theorem callS_g0 (f args nx n hp id cx g) : callS f args 0 nx n hp id cx (some (.fresh false g)) = aK (fV hp args) fun ah => aK (g ah.1) fun r => some (.os id 0 r.1 r.2.1 true, upd ah.2 id (.cells r.2.2 true), cx) := (rfl)
theorem callS_h (f args nx n hp id cx g) : callS f args 0 nx n hp id cx (some (.heap g)) = g args hp cx := by simp [callS, aN]
theorem envL_cons (k s r f) : bC ((k, s) :: r) f = if f = k then some s else bC r f := (rfl)
theorem sp_none (P Γ GL m n k d op) (fr hp nx cx) : stepP P Γ GL m n k { d := some d, op := op, g := none } { fr := fr, hp := hp, nx := nx, cx := cx } = aK (eff P Γ op (ev GL fr) m nx n hp (nx + k) cx) fun r => some { fr := (d, r.1) :: fr, hp := r.2.1, nx := nx, cx := r.2.2 } := (rfl)
theorem sp_nodst (P Γ GL m n k op) (fr hp nx cx) : stepP P Γ GL m n k { d := none, op := op, g := none } { fr := fr, hp := hp, nx := nx, cx := cx } = aK (eff P Γ op (ev GL fr) m nx n hp (nx + k) cx) fun r => some { fr := fr, hp := r.2.1, nx := nx, cx := r.2.2 } := (rfl)
theorem sp_some (P Γ GL m n k d op t want) (fr hp nx cx) : stepP P Γ GL m n k { d := d, op := op, g := some (some t, want) } { fr := fr, hp := hp, nx := nx, cx := cx } = aK (guardB want (dG fr t)) fun g => stepB P Γ GL m n k d op fr hp nx cx g := by simp only [stepP, gdS]; cases guardB want (dG fr t) with | none => rfl | some g => cases g <;> rfl
theorem eB (k x r t) : dG ((k, x) :: r) t = if k = t then x else dG r t := (rfl)
theorem ob_some {α β : Type} (x : α) (f : α → Option β) : aK (some x) f = f x := (rfl)
theorem sm_some (t : S) (Q : S → Prop) : someP (some t) Q = Q t := (rfl)
theorem iB (fr : List (Nat × AV)) : gL [] fr = [] := (rfl)
theorem fU (k : Nat) (ks : List Nat) (fr : List (Nat × AV)) : gL (k :: ks) fr = (k, dG fr k) :: gL ks fr := (rfl)
theorem en_R (n : Nat) (fr hp nx cx) : cX n { fr := fr, hp := hp, nx := nx, cx := cx } = { fr := fr, hp := hp, nx := cx, cx := cx + n } := (rfl)
theorem pt_some (d x fr) : fA (some d) x fr = (d, x) :: fr := (rfl)
theorem pt_none (x fr) : fA none x fr = fr := (rfl)
theorem aV (h : H) (id o k) : upd h id o k = if k = id then some o else h k := (rfl)
theorem de_app (h : H) (id k) : del h id k = if k = id then none else h k := (rfl)
theorem ofv_u8 (n : Int) : ofV (.int .u8 n) = if 0 ≤ n ∧ n < 256 then .w8 (BitVec.ofInt 8 n) else .v (.int .u8 n) := (rfl)
theorem ofv_u16 (n : Int) : ofV (.int .u16 n) = if 0 ≤ n ∧ n < 65536 then .w16 (BitVec.ofInt 16 n) else .v (.int .u16 n) := (rfl)
theorem ofv_u32 (n : Int) : ofV (.int .u32 n) = if 0 ≤ n ∧ n < 4294967296 then .w32 (BitVec.ofInt 32 n) else .v (.int .u32 n) := (rfl)
theorem ofv_u64 (n : Int) : ofV (.int .u64 n) = if 0 ≤ n ∧ n < 18446744073709551616 then .w64 (BitVec.ofInt 64 n) else .v (.int .u64 n) := (rfl)
theorem ofv_i64 (n : Int) : ofV (.int .i64 n) = .i n := (rfl)
theorem ofv_bool (x : Bool) : ofV (.bool x) = .b x := (rfl)
theorem ofv_slice : ofV (.slice none 0 0) = .v (.slice none 0 0) := (rfl)
theorem fst_mk {α β : Type} (a : α) (b : β) : (a, b).1 = a := (rfl)
theorem snd_mk {α β : Type} (a : α) (b : β) : (a, b).2 = b := (rfl)
theorem gdF_b (want x : Bool) : guardB want (.b x) = some (x == want) := (rfl)
theorem gdF_u (want : Bool) : guardB want (.tup []) = some false := (rfl)
theorem runQ_P (P Γ GL md n l s) : runQ P Γ GL md n l s = runP P Γ GL md n 0 l s := (rfl)
theorem runP_nil (P Γ GL md n k s) : runP P Γ GL md n k [] s = some s := (rfl)
theorem runP_cons (P Γ GL md n k o r s) : runP P Γ GL md n k (o :: r) s = aK (stepP P Γ GL (md k) n k o s) fun s2 => runP P Γ GL md n (k + 1) r s2 := (rfl)
theorem ev_tmp (GL fr t) : ev GL fr (.tmp t) = dG fr t := (rfl)
theorem ev_const (GL fr v) : ev GL fr (.const v) = ofV v := (rfl)
theorem ev_func (GL fr f) : ev GL fr (.func f) = .fn f [] := (rfl)
theorem ev_glob (GL : Nat → Option (List AV)) (fr g xs) (h : GL g = some xs) : ev GL fr (.global g) = .rp xs := by simp only [ev, h]
theorem borrowL_nil (hp : H) : fW hp [] = some [] := (rfl)
theorem borrowL_cons (hp : H) (x r) : fW hp (x :: r) = aK (dD hp x) fun y => aK (fW hp r) fun l => some (y :: l) := (rfl)
def bwO (off n e : Nat) : AO → Option AV
 | .cells xs _ => aN (off + n * e ≤ xs.length) (some (.sl n ((xs.drop off).take (n * e))))
 | _ => none
def bwP (off : Nat) : AO → Option AV
 | .cells xs _ => some (.rp (xs.drop off))
 | _ => none
def fzO (hp : H) (id off n e : Nat) : AO → Option (AV × H)
 | .cells xs _ => aN (off + n * e ≤ xs.length) (some (.sl n ((xs.drop off).take (n * e)), upd hp id (.cells xs false)))
 | _ => none
def fzP (hp : H) (id off : Nat) : AO → Option (AV × H)
 | .cells xs _ => some (.rp (xs.drop off), upd hp id (.cells xs false))
 | _ => none
def scO (z off n e : Nat) : AO → Option (Nat × List AV)
 | .cells xs _ => aN (e = z ∧ off + n * z ≤ xs.length) (some (n, (xs.drop off).take (n * z)))
 | _ => none
theorem bw_w8 (hp : H) (x) : dD hp (.w8 x) = some (.w8 x) := (rfl)
theorem fz_w8 (hp : H) (x) : dW hp (.w8 x) = some (.w8 x, hp) := (rfl)
theorem bw_w16 (hp : H) (x) : dD hp (.w16 x) = some (.w16 x) := (rfl)
theorem fz_w16 (hp : H) (x) : dW hp (.w16 x) = some (.w16 x, hp) := (rfl)
theorem bw_w32 (hp : H) (x) : dD hp (.w32 x) = some (.w32 x) := (rfl)
theorem fz_w32 (hp : H) (x) : dW hp (.w32 x) = some (.w32 x, hp) := (rfl)
theorem bw_w64 (hp : H) (x) : dD hp (.w64 x) = some (.w64 x) := (rfl)
theorem fz_w64 (hp : H) (x) : dW hp (.w64 x) = some (.w64 x, hp) := (rfl)
theorem bw_i (hp : H) (x) : dD hp (.i x) = some (.i x) := (rfl)
theorem fz_i (hp : H) (x) : dW hp (.i x) = some (.i x, hp) := (rfl)
theorem bw_b (hp : H) (x) : dD hp (.b x) = some (.b x) := (rfl)
theorem fz_b (hp : H) (x) : dW hp (.b x) = some (.b x, hp) := (rfl)
theorem bw_s (hp : H) (x) : dD hp (.s x) = some (.s x) := (rfl)
theorem fz_s (hp : H) (x) : dW hp (.s x) = some (.s x, hp) := (rfl)
theorem bw_agg (hp : H) (x) : dD hp (.agg x) = some (.agg x) := (rfl)
theorem fz_agg (hp : H) (x) : dW hp (.agg x) = some (.agg x, hp) := (rfl)
theorem bw_rp (hp : H) (x) : dD hp (.rp x) = some (.rp x) := (rfl)
theorem fz_rp (hp : H) (x) : dW hp (.rp x) = some (.rp x, hp) := (rfl)
theorem bw_sl (hp : H) (n xs) : dD hp (.sl n xs) = some (.sl n xs) := (rfl)
theorem fz_sl (hp : H) (n xs) : dW hp (.sl n xs) = some (.sl n xs, hp) := (rfl)
theorem bw_nil (hp : H) : dD hp (.v (.slice none 0 0)) = some (.v (.slice none 0 0)) := (rfl)
theorem fz_nil (hp : H) : dW hp (.v (.slice none 0 0)) = some (.sl 0 [], hp) := (rfl)
theorem bw_os (hp : H) (id off n e g) : dD hp (.os id off n e g) = aK (hp id) (bwO off n e) := (rfl)
theorem fz_os (hp : H) (id off n e g) : dW hp (.os id off n e g) = aK (hp id) (fzO hp id off n e) := (rfl)
theorem bw_op (hp : H) (id off) : dD hp (.op id off) = aK (hp id) (bwP off) := (rfl)
theorem fz_op (hp : H) (id off) : dW hp (.op id off) = aK (hp id) (fzP hp id off) := (rfl)
theorem bwO_c (off n e xs mt) : bwO off n e (.cells xs mt) = aN (off + n * e ≤ xs.length) (some (.sl n ((xs.drop off).take (n * e)))) := (rfl)
theorem bwP_c (off xs mt) : bwP off (.cells xs mt) = some (.rp (xs.drop off)) := (rfl)
theorem fzO_c (hp id off n e xs mt) : fzO hp id off n e (.cells xs mt) = aN (off + n * e ≤ xs.length) (some (.sl n ((xs.drop off).take (n * e)), upd hp id (.cells xs false))) := (rfl)
theorem fzP_c (hp id off xs mt) : fzP hp id off (.cells xs mt) = some (.rp (xs.drop off), upd hp id (.cells xs false)) := (rfl)
theorem frzArgs_nil (hp : H) : fV hp [] = some ([], hp) := (rfl)
theorem frzArgs_cons (hp : H) (x r) : fV hp (x :: r) = aK (dW hp x) fun y => aK (fV y.2 r) fun l => some (y.1 :: l.1, l.2) := (rfl)
theorem slCells_sl (hp : H) (z n xs) : fG hp z (.sl n xs) = aN (xs.length = n * z) (some (n, xs)) := (rfl)
theorem slCells_nil (hp : H) (z) : fG hp z (.v (.slice none 0 0)) = some (0, []) := (rfl)
theorem slCells_os (hp : H) (z id off n e g) : fG hp z (.os id off n e g) = aK (hp id) (scO z off n e) := (rfl)
theorem scO_c (z off n e xs mt) : scO z off n e (.cells xs mt) = aN (e = z ∧ off + n * z ≤ xs.length) (some (n, (xs.drop off).take (n * z))) := (rfl)
theorem srcA_s (hp : H) (z l) : srcA hp z (.s l) = aN (z = 1) (some (l.length, l.map .w8)) := (rfl)
theorem srcA_sl (hp : H) (z n xs) : srcA hp z (.sl n xs) = aN (xs.length = n * z) (some (n, xs)) := (rfl)
theorem srcA_nil (hp : H) (z) : srcA hp z (.v (.slice none 0 0)) = some (0, []) := (rfl)
theorem srcA_os (hp : H) (z id off n e g) : srcA hp z (.os id off n e g) = aK (hp id) (scO z off n e) := (rfl)
theorem apF_sl (P : Program) (hp : H) (id x y e) : apF P hp id x y (some (.slice e)) = aK (cD P e) fun z => aK (dU P e) fun by_ => aK (cG P e) fun zs => aN (0 < z ∧ zs.length = z) (aK (srcA hp z y) fun my => aK (frzL hp my.2) fun fy => apTl z by_ x my.1 fy.1 fy.2 id) := (rfl)
theorem azF_sl (P : Program) (hp : H) (id x y e) : azF P hp id x y (some (.slice e)) = aK (cD P e) fun z => aK (dU P e) fun by_ => aK (cG P e) fun zs => aN (0 < z ∧ zs.length = z) (aK (cntA y) fun m => aN (m ≤ 140737488355328 ∧ m * by_ ≤ 140737488355328) (apTail z by_ x m (rep m zs) hp id)) := (rfl)
theorem cntA_i (n : Int) : cntA (.i n) = aN (0 ≤ n) (some n.toNat) := (rfl)
theorem apU_i (P hp id x y t k) : apU P hp id x y t (some (.int k)) = azF P hp id x y (P.underlying t) := (rfl)
theorem apU_sl (P hp id x y t e) : apU P hp id x y t (some (.slice e)) = apF P hp id x y (P.underlying t) := (rfl)
theorem apU_s (P hp id x y t) : apU P hp id x y t (some .string) = apF P hp id x y (P.underlying t) := (rfl)
theorem apTail_nil (z by_ m ys hp id) : apTail z by_ (.v (.slice none 0 0)) m ys hp id = aN (m ≤ 140737488355328 ∧ m * by_ ≤ 140737488355328) (some (.os id 0 m z true, upd hp id (.cells ys true))) := (rfl)
theorem apTail_os (z by_ m ys hp id i off n e2 g) : apTail z by_ (.os i off n e2 g) m ys hp id = aK (hp i) (apO z by_ id off n e2 g i m ys hp) := by unfold apTail apO; rfl
theorem cvF_mk (hp hp2 cx id x ue sd e0 e) : cvF hp hp2 cx id x ue sd (some (.slice e0)) (some (.slice e)) = aN (sd = true) (aK (mkF hp x (ue e)) fun p => some (p.1, p.2, cx)) := (rfl)
theorem mkF_8 (hp x) : mkF hp x (some (.int .u8)) = mkG hp x := (rfl)
theorem mkG_os (hp i off n e2 g) : mkG hp (.os i off n e2 g) = aK (hp i) (mkO i off n e2 g hp) := by unfold mkG mkO; rfl
theorem mkO_c (i off n e2 g hp xs mt) : mkO i off n e2 g hp (.cells xs mt) = aN (mt = true ∧ 0 < n) (some (.os i off n e2 g, upd hp i (.cells xs true))) := (rfl)
theorem apO_c (z by_ id off n e2 g i m ys hp xs mt) : apO z by_ id off n e2 g i m ys hp (.cells xs mt) = aN (mt = true ∧ g = true ∧ e2 = z ∧ off + n * z = xs.length ∧ n + m ≤ 140737488355328 ∧ (n + m) * by_ ≤ 140737488355328) (some (.os id 0 (n + m) z true, upd (del hp i) id (.cells (xs.drop off ++ ys) true))) := (rfl)
theorem frzL_no (hp : H) (xs : List AV) (h : gH xs = true) : frzL hp xs = some (xs, hp) := if_pos h
theorem sb_t (P Γ GL m n k d op fr hp nx cx) : stepB P Γ GL m n k d op fr hp nx cx true = aK (eff P Γ op (ev GL fr) m nx n hp (nx + k) cx) fun r => some { fr := fA d r.1 fr, hp := r.2.1, nx := nx, cx := r.2.2 } := (rfl)
theorem sb_f (P Γ GL m n k d op fr hp nx cx) : stepB P Γ GL m n k d op fr hp nx cx false = some { fr := fA d (.tup []) fr, hp := hp, nx := nx, cx := cx } := (rfl)
theorem bq_tt : (true == true) = true := (rfl)
theorem bq_tf : (true == false) = false := (rfl)
theorem bq_ft : (false == true) = false := (rfl)
theorem bq_ff : (false == false) = true := (rfl)
theorem borrowD_nil (hp : H) : gR hp [] = some [] := (rfl)
theorem borrowD_cons (hp : H) (x r) : gR hp (x :: r) = aK (cO 4 hp x) fun y => aK (gR hp r) fun l => some (y :: l) := (rfl)
theorem immM_nil (f) : immM f [] = some [] := (rfl)
theorem immM_cons (f x r) : immM f (x :: r) = aK (f x) fun y => aK (immM f r) fun l => some (y :: l) := (rfl)
def imO (n : Nat) (hp : H) (off m e : Nat) : AO → Option AV
 | .cells xs _ => aN (off + m * e ≤ xs.length) (aK (immL (cO n hp) ((xs.drop off).take (m * e))) fun l => some (.sl m l))
 | _ => none
def imP (n : Nat) (hp : H) (off : Nat) : AO → Option AV
 | .cells xs _ => aK (immL (cO n hp) (xs.drop off)) fun l => some (.rp l)
 | _ => none
def imX (f : AV → Option AV) (xs : List AV) : Bool → Option (List AV) | true => some xs | false => immM f xs
theorem imO_c (n hp off m e xs mt) : imO n hp off m e (.cells xs mt) = aN (off + m * e ≤ xs.length) (aK (immL (cO n hp) ((xs.drop off).take (m * e))) fun l => some (.sl m l)) := (rfl)
theorem imP_c (n hp off xs mt) : imP n hp off (.cells xs mt) = aK (immL (cO n hp) (xs.drop off)) fun l => some (.rp l) := (rfl)
theorem immL_x (f xs) : immL f xs = imX f xs (dB xs) := by unfold immL imX; cases dB xs <;> rfl
theorem imX_t (f xs) : imX f xs true = some xs := (rfl)
theorem imX_f (f xs) : imX f xs false = immM f xs := (rfl)
theorem noOwn_nil : dB [] = true := (rfl)
theorem noOwn_w8 (x r) : dB (.w8 x :: r) = dB r := (rfl)
theorem noOwn_w16 (x r) : dB (.w16 x :: r) = dB r := (rfl)
theorem noOwn_w32 (x r) : dB (.w32 x :: r) = dB r := (rfl)
theorem noOwn_w64 (x r) : dB (.w64 x :: r) = dB r := (rfl)
theorem noOwn_i (x r) : dB (.i x :: r) = dB r := (rfl)
theorem noOwn_b (x r) : dB (.b x :: r) = dB r := (rfl)
theorem noOwn_s (x r) : dB (.s x :: r) = dB r := (rfl)
theorem noOwn_rp (x r) : dB (.rp x :: r) = dB r := (rfl)
theorem noOwn_sl (n x r) : dB (.sl n x :: r) = dB r := (rfl)
theorem noOwn_os (a b c d e r) : dB (.os a b c d e :: r) = false := (rfl)
theorem noOwn_op (a b r) : dB (.op a b :: r) = false := (rfl)
theorem noOwn_nils (r) : dB (.v (.slice none 0 0) :: r) = false := (rfl)
theorem im4_w8 (hp : H) (x) : cO 4 hp (.w8 x) = some (.w8 x) := (rfl)
theorem im4_w16 (hp : H) (x) : cO 4 hp (.w16 x) = some (.w16 x) := (rfl)
theorem im4_w32 (hp : H) (x) : cO 4 hp (.w32 x) = some (.w32 x) := (rfl)
theorem im4_w64 (hp : H) (x) : cO 4 hp (.w64 x) = some (.w64 x) := (rfl)
theorem im4_i (hp : H) (x) : cO 4 hp (.i x) = some (.i x) := (rfl)
theorem im4_b (hp : H) (x) : cO 4 hp (.b x) = some (.b x) := (rfl)
theorem im4_s (hp : H) (x) : cO 4 hp (.s x) = some (.s x) := (rfl)
theorem im4_rp (hp : H) (x) : cO 4 hp (.rp x) = some (.rp x) := (rfl)
theorem im4_sl (hp : H) (n x) : cO 4 hp (.sl n x) = some (.sl n x) := (rfl)
theorem im4_nil (hp : H) : cO 4 hp (.v (.slice none 0 0)) = some (.sl 0 []) := (rfl)
theorem im4_os (hp : H) (id off m e g) : cO 4 hp (.os id off m e g) = aK (hp id) (imO 3 hp off m e) := (rfl)
theorem im4_op (hp : H) (id off) : cO 4 hp (.op id off) = aK (hp id) (imP 3 hp off) := (rfl)
theorem im4_agg (hp : H) (xs) : cO 4 hp (.agg xs) = aK (immL (cO 3 hp) xs) fun l => some (.agg l) := (rfl)
theorem im4_tup (hp : H) (xs) : cO 4 hp (.tup xs) = aK (immL (cO 3 hp) xs) fun l => some (.tup l) := (rfl)
theorem im3_w8 (hp : H) (x) : cO 3 hp (.w8 x) = some (.w8 x) := (rfl)
theorem im3_w16 (hp : H) (x) : cO 3 hp (.w16 x) = some (.w16 x) := (rfl)
theorem im3_w32 (hp : H) (x) : cO 3 hp (.w32 x) = some (.w32 x) := (rfl)
theorem im3_w64 (hp : H) (x) : cO 3 hp (.w64 x) = some (.w64 x) := (rfl)
theorem im3_i (hp : H) (x) : cO 3 hp (.i x) = some (.i x) := (rfl)
theorem im3_b (hp : H) (x) : cO 3 hp (.b x) = some (.b x) := (rfl)
theorem im3_s (hp : H) (x) : cO 3 hp (.s x) = some (.s x) := (rfl)
theorem im3_rp (hp : H) (x) : cO 3 hp (.rp x) = some (.rp x) := (rfl)
theorem im3_sl (hp : H) (n x) : cO 3 hp (.sl n x) = some (.sl n x) := (rfl)
theorem im3_nil (hp : H) : cO 3 hp (.v (.slice none 0 0)) = some (.sl 0 []) := (rfl)
theorem im3_os (hp : H) (id off m e g) : cO 3 hp (.os id off m e g) = aK (hp id) (imO 2 hp off m e) := (rfl)
theorem im3_op (hp : H) (id off) : cO 3 hp (.op id off) = aK (hp id) (imP 2 hp off) := (rfl)
theorem im3_agg (hp : H) (xs) : cO 3 hp (.agg xs) = aK (immL (cO 2 hp) xs) fun l => some (.agg l) := (rfl)
theorem im3_tup (hp : H) (xs) : cO 3 hp (.tup xs) = aK (immL (cO 2 hp) xs) fun l => some (.tup l) := (rfl)
theorem im2_w8 (hp : H) (x) : cO 2 hp (.w8 x) = some (.w8 x) := (rfl)
theorem im2_w16 (hp : H) (x) : cO 2 hp (.w16 x) = some (.w16 x) := (rfl)
theorem im2_w32 (hp : H) (x) : cO 2 hp (.w32 x) = some (.w32 x) := (rfl)
theorem im2_w64 (hp : H) (x) : cO 2 hp (.w64 x) = some (.w64 x) := (rfl)
theorem im2_i (hp : H) (x) : cO 2 hp (.i x) = some (.i x) := (rfl)
theorem im2_b (hp : H) (x) : cO 2 hp (.b x) = some (.b x) := (rfl)
theorem im2_s (hp : H) (x) : cO 2 hp (.s x) = some (.s x) := (rfl)
theorem im2_rp (hp : H) (x) : cO 2 hp (.rp x) = some (.rp x) := (rfl)
theorem im2_sl (hp : H) (n x) : cO 2 hp (.sl n x) = some (.sl n x) := (rfl)
theorem im2_nil (hp : H) : cO 2 hp (.v (.slice none 0 0)) = some (.sl 0 []) := (rfl)
theorem im2_os (hp : H) (id off m e g) : cO 2 hp (.os id off m e g) = aK (hp id) (imO 1 hp off m e) := (rfl)
theorem im2_op (hp : H) (id off) : cO 2 hp (.op id off) = aK (hp id) (imP 1 hp off) := (rfl)
theorem im2_agg (hp : H) (xs) : cO 2 hp (.agg xs) = aK (immL (cO 1 hp) xs) fun l => some (.agg l) := (rfl)
theorem im2_tup (hp : H) (xs) : cO 2 hp (.tup xs) = aK (immL (cO 1 hp) xs) fun l => some (.tup l) := (rfl)
theorem b_eql_agg (P : Program) (t : TypeId) (xs ys : List AV) : bM P .eql t (.agg xs) (.agg ys) = aN (P.eqGuardType P.depth t = false) (aK (eqT P 6 t (.agg xs) (.agg ys)) fun r => some (.b (r))) := (rfl)
theorem b_eql_no (P : Program) (t : TypeId) (id off : Nat) : bM P .eql t (.v (.pointer none)) (.op id off) = aN (fM P t = true) (some (.b (false))) := (rfl)
theorem b_eql_on (P : Program) (t : TypeId) (id off : Nat) : bM P .eql t (.op id off) (.v (.pointer none)) = aN (fM P t = true) (some (.b (false))) := (rfl)
theorem b_eql_nr (P : Program) (t : TypeId) (xs : List AV) : bM P .eql t (.v (.pointer none)) (.rp xs) = aN (fM P t = true) (some (.b (false))) := (rfl)
theorem b_eql_rn (P : Program) (t : TypeId) (xs : List AV) : bM P .eql t (.rp xs) (.v (.pointer none)) = aN (fM P t = true) (some (.b (false))) := (rfl)
theorem b_eql_nn (P : Program) (t : TypeId) : bM P .eql t (.v (.pointer none)) (.v (.pointer none)) = aN (fM P t = true) (some (.b (true))) := (rfl)
theorem b_neq_agg (P : Program) (t : TypeId) (xs ys : List AV) : bM P .neq t (.agg xs) (.agg ys) = aN (P.eqGuardType P.depth t = false) (aK (eqT P 6 t (.agg xs) (.agg ys)) fun r => some (.b (!r))) := (rfl)
theorem b_neq_no (P : Program) (t : TypeId) (id off : Nat) : bM P .neq t (.v (.pointer none)) (.op id off) = aN (fM P t = true) (some (.b (!false))) := (rfl)
theorem b_neq_on (P : Program) (t : TypeId) (id off : Nat) : bM P .neq t (.op id off) (.v (.pointer none)) = aN (fM P t = true) (some (.b (!false))) := (rfl)
theorem b_neq_nr (P : Program) (t : TypeId) (xs : List AV) : bM P .neq t (.v (.pointer none)) (.rp xs) = aN (fM P t = true) (some (.b (!false))) := (rfl)
theorem b_neq_rn (P : Program) (t : TypeId) (xs : List AV) : bM P .neq t (.rp xs) (.v (.pointer none)) = aN (fM P t = true) (some (.b (!false))) := (rfl)
theorem b_neq_nn (P : Program) (t : TypeId) : bM P .neq t (.v (.pointer none)) (.v (.pointer none)) = aN (fM P t = true) (some (.b (!true))) := (rfl)
theorem ofv_ptr : ofV (.pointer none) = .v (.pointer none) := (rfl)
theorem nm_agg (xs) : AV.noMem (.agg xs) = AV.noMem.noMemL xs := (rfl)
theorem nm_tup (xs) : AV.noMem (.tup xs) = AV.noMem.noMemL xs := (rfl)
theorem nmL_nil : AV.noMem.noMemL [] = true := (rfl)
theorem nmL_cons (x r) : AV.noMem.noMemL (x :: r) = (AV.noMem x && AV.noMem.noMemL r) := (rfl)
attribute [go_sem] initS frOf List.length_replicate List.size_toArray guardO_True cU List.map_cons List.map_nil List.length_cons List.length_nil List.append_nil List.cons_append List.nil_append Option.map_some Option.map_none Nat.add_zero Nat.zero_add Nat.mul_one Nat.one_mul Nat.zero_mul and_true true_and and_self and_false false_and if_true if_false Bool.not_true Bool.not_false decide_true decide_false List.drop_zero eq_self b_add_w8 b_sub_w8 b_mul_w8 b_and_w8 b_or_w8 b_xor_w8 b_andNot_w8
attribute [go_sem] b_quo_w8 b_rem_w8 b_eql_w8 b_neq_w8 b_lss_w8 b_leq_w8 b_gtr_w8 b_geq_w8 b_shl_w8_i b_shl_w8_w8 b_shl_w8_w16 b_shl_w8_w32 b_shl_w8_w64 b_shr_w8_i b_shr_w8_w8 b_shr_w8_w16 b_shr_w8_w32 b_shr_w8_w64 u_xor_w8 u_neg_w8 ix_w8 c_w8_w8 c_w8_w16 c_w8_w32 c_w8_w64 c_i_w8 c_w8_i b_add_w16 b_sub_w16 b_mul_w16 b_and_w16 b_or_w16 b_xor_w16 b_andNot_w16 b_quo_w16 b_rem_w16 b_eql_w16 b_neq_w16 b_lss_w16 b_leq_w16
attribute [go_sem] b_gtr_w16 b_geq_w16 b_shl_w16_i b_shl_w16_w8 b_shl_w16_w16 b_shl_w16_w32 b_shl_w16_w64 b_shr_w16_i b_shr_w16_w8 b_shr_w16_w16 b_shr_w16_w32 b_shr_w16_w64 u_xor_w16 u_neg_w16 ix_w16 c_w16_w8 c_w16_w16 c_w16_w32 c_w16_w64 c_i_w16 c_w16_i b_add_w32 b_sub_w32 b_mul_w32 b_and_w32 b_or_w32 b_xor_w32 b_andNot_w32 b_quo_w32 b_rem_w32 b_eql_w32 b_neq_w32 b_lss_w32 b_leq_w32 b_gtr_w32 b_geq_w32 b_shl_w32_i b_shl_w32_w8 b_shl_w32_w16 b_shl_w32_w32
attribute [go_sem] b_shl_w32_w64 b_shr_w32_i b_shr_w32_w8 b_shr_w32_w16 b_shr_w32_w32 b_shr_w32_w64 u_xor_w32 u_neg_w32 ix_w32 c_w32_w8 c_w32_w16 c_w32_w32 c_w32_w64 c_i_w32 c_w32_i b_add_w64 b_sub_w64 b_mul_w64 b_and_w64 b_or_w64 b_xor_w64 b_andNot_w64 b_quo_w64 b_rem_w64 b_eql_w64 b_neq_w64 b_lss_w64 b_leq_w64 b_gtr_w64 b_geq_w64 b_shl_w64_i b_shl_w64_w8 b_shl_w64_w16 b_shl_w64_w32 b_shl_w64_w64 b_shr_w64_i b_shr_w64_w8 b_shr_w64_w16 b_shr_w64_w32 b_shr_w64_w64
attribute [go_sem] u_xor_w64 u_neg_w64 ix_w64 c_w64_w8 c_w64_w16 c_w64_w32 c_w64_w64 c_i_w64 c_w64_i c_i_i ix_i b_add_i b_sub_i b_mul_i b_and_i b_or_i b_xor_i b_eql_i b_neq_i b_lss_i b_leq_i b_gtr_i b_geq_i b_quo_i b_rem_i b_shl_i_i b_shr_i_i b_shl_i_w64 b_shr_i_w64 b_add_s b_eql_s b_neq_s b_lss_s b_leq_s b_gtr_s b_geq_s b_eql_b b_neq_b u_neg_i u_not_b
attribute [go_sem] e_move e_assign e_bin e_un e_nil e_pick e_load e_ia e_idx e_sp e_fa e_fd e_ex e_slice e_alloc e_make msF_sl e_box e_store e_conv e_build e_bslice e_call ea_call ea_len lenG_sl lenG_s lenG_arr lenG_map mpOf_mp mpOf_nil mpO_m ea_cap capF_nil ea_append ea_copy nilC_op nilC_rp pickC_b loadF_rp loadO_c loadF_op ldF_agg ldF_sc iaF_sl iaF_os iaF_rp
attribute [go_sem] iaF_op idF_agg idF_s spF_sl spF_os exF_tup stF_op stO_c cellsV_w8 cellsV_w16 cellsV_w32 cellsV_w64 cellsV_i cellsV_b cellsV_s cellsV_agg cellsV_sl cellsV_rp cellsV_os cellsV_op storeL_1 hsel_0 hsel_1 hsel_lt lenF_sl lenF_os lenF_nil lenF_s lenF_arr cvF_int cvF_str cvF_b2s cvF_s2b bdF_arr bdS_some bdS_none seqA_nil seqA_cons sq1_1 nm_w8
attribute [go_sem] nm_w16 nm_w32 nm_w64 nm_i nm_b nm_s slF_sl slF_os slF_nil slF_op slF_rp slF_s loIx_none loIx_some hiIx_none hiIx_some cpF_os cpO_c bsF_sl fillA_nil fillA_cons rep_1 rep_4 sp_1 sp_40 sp_41 sp_42 sp_43 noInt_sl noInt_s callA_S callS_p callS_q0 callS_q1 callS_f callS_g0 callS_h envL_cons sp_none sp_nodst
def slF3 (P : Program) (x : AV) (lo : Option AV) (hi mx : AV) : Option TypeDesc → Option AV
 | some (.slice e) => aK (cD P e) fun z => match x with
  | .os id off n e' g => aK (loIx lo) fun l => aK (ix hi) fun h => aK (ix mx) fun m => aN (e' = z ∧ 0 ≤ l ∧ l ≤ h ∧ h ≤ m ∧ m ≤ n) (some (.os id (off + l.toNat * z) (h.toNat - l.toNat) z g))
  | _ => none
 | _ => none
theorem e_slice3 {P : Program} {Γ : Env} {ρ : Operand → AV} {m nx n id cx : Nat} {hp : H} {t : TypeId} {x : Operand} {lo : Option Operand} {hi mx : Operand} : eff P Γ (.slice t x lo (some hi) (some mx)) ρ m nx n hp id cx = aK (slF3 P (ρ x) (lo.map ρ) (ρ hi) (ρ mx) (P.underlying t)) fun y => some (y, hp, cx) := by
 simp only [eff, cls, dI, sliceA3, Option.map_some, Option.isSome_some, true_and]
 cases P.underlying t with
 | none => rfl
 | some d => cases d <;> rfl
theorem slF3_os (P : Program) (id off n e' : Nat) (g : Bool) (lo : Option AV) (hi mx : AV) (e : TypeId) : slF3 P (.os id off n e' g) lo hi mx (some (.slice e)) = aK (cD P e) fun z => aK (loIx lo) fun l => aK (ix hi) fun h => aK (ix mx) fun m => aN (e' = z ∧ 0 ≤ l ∧ l ≤ h ∧ h ≤ m ∧ m ≤ n) (some (.os id (off + l.toNat * z) (h.toNat - l.toNat) z g)) := (rfl)
def apTO (z by_ id off n e' : Nat) (g : Bool) (i : Nat) (m : Nat) (ys : List AV) (hp : H) : AO → Option (AV × H)
 | .cells xs mt => eqO (off + n * z) xs.length (apO z by_ id off n e' g i m ys hp (.cells xs mt)) (apCut z by_ i off n e' g m ys hp id xs mt)
 | _ => none
theorem apTl_nil (z by_ m ys hp id) : apTl z by_ (.v (.slice none 0 0)) m ys hp id = aN (m ≤ 140737488355328 ∧ m * by_ ≤ 140737488355328) (some (.os id 0 m z true, upd hp id (.cells ys true))) := (rfl)
theorem apTl_os (z by_ m ys hp id i off n e2 g) : apTl z by_ (.os i off n e2 g) m ys hp id = aK (hp i) (apTO z by_ id off n e2 g i m ys hp) := by
 unfold apTl apTO
 simp only
 cases h : hp i with
 | none => rfl
 | some o => cases o <;> first | rfl | simp only [aX, apTail_os, h]
theorem apTO_c (z by_ id off n e2 g i m ys hp xs mt) : apTO z by_ id off n e2 g i m ys hp (.cells xs mt) = eqO (off + n * z) xs.length (apO z by_ id off n e2 g i m ys hp (.cells xs mt)) (apCut z by_ i off n e2 g m ys hp id xs mt) := (rfl)
theorem eqO_t {α : Type} (a b : Nat) (x y : Option α) (h : a = b) : eqO a b x y = x := if_pos h
theorem eqO_s {α : Type} (a : Nat) (x y : Option α) : eqO a a x y = x := if_pos rfl
theorem eqO_f (a b : Nat) (x) (z by_ i off n e' g m ys hp id xs mt) (h : a ≠ b) : eqO a b x (apCut z by_ i off n e' g m ys hp id xs mt) = aN (mt = true ∧ g = true ∧ e' = z ∧ off + n * z ≤ xs.length ∧ n + m ≤ 140737488355328 ∧ (n + m) * by_ ≤ 140737488355328)
  (some (.os id 0 (n + m) z true, upd (del hp i) id (.cells ((xs.drop off).take (n * z) ++ ys) true))) := if_neg h
attribute [go_sem] sp_some eB ob_some sm_some iB fU en_R pt_some pt_none aV de_app ofv_u8 ofv_u16 ofv_u32 ofv_u64 ofv_i64 ofv_bool ofv_slice fst_mk snd_mk gdF_b runQ_P runP_nil runP_cons ev_tmp ev_const ev_func ev_glob borrowL_nil borrowL_cons bw_w8 fz_w8 bw_w16 fz_w16 bw_w32 fz_w32 bw_w64 fz_w64 bw_i fz_i
attribute [go_sem] bw_b fz_b bw_s fz_s bw_agg fz_agg bw_rp fz_rp bw_sl fz_sl bw_nil fz_nil bw_os fz_os bw_op fz_op bwO_c bwP_c fzO_c fzP_c frzArgs_nil frzArgs_cons slCells_sl slCells_nil slCells_os scO_c srcA_s srcA_sl srcA_nil srcA_os apF_sl azF_sl cntA_i apU_i apU_sl apU_s apTail_nil apTail_os cvF_mk mkF_8
attribute [go_sem] mkG_os mkO_c apO_c frzL_no sb_t sb_f bq_tt bq_tf bq_ft bq_ff borrowD_nil borrowD_cons immM_nil immM_cons imO_c imP_c immL_x imX_t imX_f noOwn_nil noOwn_w8 noOwn_w16 noOwn_w32 noOwn_w64 noOwn_i noOwn_b noOwn_s noOwn_rp noOwn_sl noOwn_os noOwn_op noOwn_nils im4_w8 im4_w16 im4_w32 im4_w64 im4_i im4_b im4_s im4_rp
attribute [go_sem] im4_sl im4_nil im4_os im4_op im4_agg im4_tup im3_w8 im3_w16 im3_w32 im3_w64 im3_i im3_b im3_s im3_rp im3_sl im3_nil im3_os im3_op im3_agg im3_tup im2_w8 im2_w16 im2_w32 im2_w64 im2_i im2_b im2_s im2_rp im2_sl im2_nil im2_os im2_op im2_agg im2_tup b_eql_agg b_eql_no b_eql_on b_eql_nr b_eql_rn b_eql_nn
attribute [go_sem] b_neq_agg b_neq_no b_neq_on b_neq_nr b_neq_rn b_neq_nn ofv_ptr nm_agg nm_tup nmL_nil nmL_cons
attribute [go_sem] gdF_u e_slice3 slF3_os apTl_nil apTl_os apTO_c eqO_s eqO_t eqO_f
attribute [go_sem] Option.getD_some aE cl cr aM aF aG rN List.getElem?_toArray List.getElem?_cons_zero List.getElem?_cons_succ Option.bind_some
end Go.AX
namespace Go.AX
open Go Go.Proofs
section
variable {P : Program} {GL : Nat → Option (List AV)} {nt : Nat} {b : Code} {Q : Exit → S → Prop} {t : S}
theorem aB (h : Awp P GL nt b t Q) : andThenQ P GL nt b Q .normal t := h
theorem bU {id : Nat} (h : Q .normal t) : fP id Q .normal t := h
theorem aY {i : Nat} (h : Q (.exit i) t) : andThenQ P GL nt b Q (.exit i) t := h
theorem aZ {ι : Type} {st : ι → S} {inv : ι → Prop} {μ : ι → Nat} {j : ι} {i : Nat} (h : Q (.exit i) t) : loopQ st inv μ j Q (.exit i) t := h
theorem bE {i : Nat} (h : Q .normal t) : fP i Q (.exit i) t := by simp only [fP]; exact h
theorem nx_ex_out {i j : Nat} (h : Q (.exit i) t) (hn : (i == j) = false) : fP j Q (.exit i) t := by simp only [fP]; rw [if_neg (by simpa using hn)]; exact h
theorem bT {ι : Type} {st : ι → S} {inv : ι → Prop} {μ : ι → Nat} {i : ι} (h : ∃ j, inv j ∧ μ j < μ i ∧ Sub (st j) t) : loopQ st inv μ i Q .normal t := h
theorem bI (h : Q .ret t) : andThenQ P GL nt b Q .ret t := h
theorem bN {id : Nat} (h : Q .ret t) : fP id Q .ret t := h
theorem dF {ι : Type} {st : ι → S} {inv : ι → Prop} {μ : ι → Nat} {j : ι} (h : Q .ret t) : loopQ st inv μ j Q .ret t := h
theorem bF {s : S} {code : Code} (i : Nat) (hc : isExit code = true) (hi : bId code = i) (h : Q (.exit i) s) : Awp P GL nt code s Q := awp_exitP hc (hi ▸ h)
theorem aR {s : S} {code : Code} (i : Nat) (hc : isBlock code = true) (hi : bId code = i) (h : Awp P GL nt (cl code) s (fP i Q)) : Awp P GL nt code s Q := awp_blockP hc (hi ▸ h)
theorem awp_ifN {s : S} {code : Code} (p : Prop) [Decidable p] (o : Operand) (hc : isCond code = true) (ho : cOp code = o) (hb : ev GL s.fr o = .b (decide p)) (ht : p → Awp P GL nt (cl code) s Q) (hf : ¬ p → Awp P GL nt (cr code) s Q) : Awp P GL nt code s Q :=
 awp_if hc (by rw [ho]; exact hb) (fun h => ht (of_decide_eq_true h)) (fun h => hf (of_decide_eq_false h))
theorem aW {s : S} {code : Code} {p : Prop} [Decidable p] (o : Operand) (hc : isCond code = true) (ho : cOp code = o) (hb : ev GL s.fr o = .b (decide p)) (ht : p → Awp P GL nt (cl code) s Q) (hf : ¬ p → Awp P GL nt (cr code) s Q) : Awp P GL nt code s Q :=
 awp_if hc (by rw [ho]; exact hb) (fun h => ht (of_decide_eq_true h)) (fun h => hf (of_decide_eq_false h))
theorem awp_ifE {s : S} {code : Code} {p : Prop} [Decidable p] (o : Operand) (hc : isCond code = true) (ho : cOp code = o) (hb : ev GL s.fr o = .b (!decide p)) (ht : ¬ p → Awp P GL nt (cl code) s Q) (hf : p → Awp P GL nt (cr code) s Q) : Awp P GL nt code s Q :=
 awp_if hc (by rw [ho]; exact hb) (fun h => ht (of_decide_eq_false (by simpa using h))) (fun h => hf (of_decide_eq_true (by simpa using h)))
theorem eC {s : S} {code : Code} {x : Bool} (o : Operand) (hc : isCond code = true) (ho : cOp code = o) (hb : ev GL s.fr o = .b x) (ht : x = true → Awp P GL nt (cl code) s Q) (hf : x = false → Awp P GL nt (cr code) s Q) : Awp P GL nt code s Q :=
 awp_if hc (by rw [ho]; exact hb) ht hf
theorem aI {n : Nat} {z : AV} {l : List (Nat × AV)} {hp : H} {nx cx : Nat} {code : Code} (hn : dG l n = .junk) (h : Awp P GL nt code { fr := l, hp := hp, nx := nx, cx := cx } Q) : Awp P GL nt code { fr := (n, z) :: l, hp := hp, nx := nx, cx := cx } Q :=
 awp_sub h ⟨fun k => by
  by_cases e : n = k
  ·subst e; exact .inl hn
  ·right; show dG l k = if n = k then z else dG l k; rw [if_neg e], fun _ _ h => h, Nat.le_refl _⟩ rfl
def bX (P : Program) (GL : Nat → Option (List AV)) (f : Nat) (s : Spec) : Prop :=
 cJ P f ∧ match s with
  | .pure _ g => cL P GL f g
  | .fresh _ g => dH P GL f g
  | .heap g => cQ P GL f g
theorem aO : eJ P GL (bC []) := fun f s h => by cases h
theorem aH {f : Nat} {s : Spec} {l : List (Nat × Spec)} (h : bX P GL f s) (hl : eJ P GL (bC l)) : eJ P GL (bC ((f, s) :: l)) := by
 intro f' s' h'
 rw [envL_cons] at h'
 split at h'
 ·rename_i e; subst e
  obtain rfl := Option.some.inj h'
  exact h
 ·exact hl f' s' h'
end
theorem bD {s t : S} (h1 : s.fr = t.fr) (h2 : s.hp = t.hp) (h3 : t.cx ≤ s.cx) : Sub s t := ⟨fun _ => .inr (by rw [h1]), fun _ _ h => by rw [← h2]; exact h, h3⟩
theorem upd_upd (h : H) (i : Nat) (a b : AO) : upd (upd h i a) i b = upd h i b := by funext k; unfold upd; split <;> rfl
theorem upd_swap (h : H) {i j : Nat} (hn : i ≠ j) (a b : AO) : upd (upd h i a) j b = upd (upd h j b) i a := by
 funext k; unfold upd; split
 ·split
  ·omega
  ·rfl
 ·rfl
def c8 (l : List (BitVec 8)) : List AV := l.map .w8
def c32 (l : List (BitVec 32)) : List AV := l.map .w32
theorem iM (l : List (BitVec 8)) : (c8 l).length = l.length := List.length_map ..
theorem iY (l : List (BitVec 32)) : (c32 l).length = l.length := List.length_map ..
theorem c8_head (l : List (BitVec 8)) (k : Nat) (h : k < l.length) : ((c8 l).drop k).head? = some (.w8 (l.getD k 0#8)) := by
 rw [List.head?_drop]; simp [c8, List.getElem?_map, List.getElem?_eq_getElem h]
theorem jE (l : List (BitVec 32)) (k : Nat) (h : k < l.length) : ((c32 l).drop k).head? = some (.w32 (l.getD k 0#32)) := by
 rw [List.head?_drop]; simp [c32, List.getElem?_map, List.getElem?_eq_getElem h]
theorem c8_head0 (l : List (BitVec 8)) (h : 0 < l.length) : (c8 l).head? = some (.w8 (l.getD 0 0#8)) := c8_head l 0 h
theorem c32_head0 (l : List (BitVec 32)) (h : 0 < l.length) : (c32 l).head? = some (.w32 (l.getD 0 0#32)) := jE l 0 h
theorem c8_set (l : List (BitVec 8)) (k : Nat) (x : BitVec 8) : (c8 l).set k (.w8 x) = c8 (l.set k x) := by simp [c8, List.map_set]
theorem c32_set (l : List (BitVec 32)) (k : Nat) (x : BitVec 32) : (c32 l).set k (.w32 x) = c32 (l.set k x) := by simp [c32, List.map_set]
theorem c8_drop (l : List (BitVec 8)) (k : Nat) : (c8 l).drop k = c8 (l.drop k) := by simp [c8, List.map_drop]
theorem c8_take (l : List (BitVec 8)) (k : Nat) : (c8 l).take k = c8 (l.take k) := by simp [c8, List.map_take]
theorem c8_app (l m : List (BitVec 8)) : c8 l ++ c8 m = c8 (l ++ m) := by simp [c8]
theorem c32_app (l m : List (BitVec 32)) : c32 l ++ c32 m = c32 (l ++ m) := by simp [c32]
theorem c8_rep (n : Nat) (x : BitVec 8) : List.replicate n (AV.w8 x) = c8 (List.replicate n x) := by simp [c8]
theorem c32_rep (n : Nat) (x : BitVec 32) : List.replicate n (AV.w32 x) = c32 (List.replicate n x) := by simp [c32]
theorem c8_noOs (l : List (BitVec 8)) : gH (c8 l) = true := by
 simp only [gH, c8, Bool.not_eq_true', List.any_eq_false, List.mem_map]
 rintro _ ⟨x, _, rfl⟩; simp [isOs]
def jM (l : List (BitVec 8)) (k : Nat) (m : List (BitVec 8)) : List (BitVec 8) := l.take k ++ m ++ l.drop (k + m.length)
theorem c8_splice (l : List (BitVec 8)) (k : Nat) (m : List (BitVec 8)) : cK (c8 l) k (c8 m) = c8 (jM l k m) := by
 simp [cK, jM, c8, List.map_take, List.map_drop]
theorem c32_take_all (l : List (BitVec 32)) (k : Nat) (h : l.length ≤ k) : (c32 l).take k = c32 l := List.take_of_length_le (by rw [iY]; exact h)
theorem c8_take_all (l : List (BitVec 8)) (k : Nat) (h : l.length ≤ k) : (c8 l).take k = c8 l := List.take_of_length_le (by rw [iM]; exact h)
theorem storeL_sp (xs : List AV) (off : Nat) (cs : List AV) (h : cs.length ≠ 1) : dV xs off cs = cK xs off cs := by
 unfold dV; split
 ·simp at h
 ·rfl
theorem splice_all (xs cs : List AV) (h : cs.length = xs.length) : cK xs 0 cs = cs := by
 simp only [cK, List.take_zero, List.nil_append, Nat.zero_add]
 rw [List.drop_eq_nil_of_le (by omega), List.append_nil]
theorem frzL_c8 (hp : H) (l : List (BitVec 8)) : frzL hp (c8 l) = some (c8 l, hp) := if_pos (c8_noOs l)
theorem fQ (l : List (BitVec 8)) : dB (c8 l) = true := by
 simp only [dB, c8, List.all_eq_true, List.mem_map]
 rintro _ ⟨x, _, rfl⟩; rfl
theorem imm_c8 (hp : H) (l : List (BitVec 8)) : cO 4 hp (.agg (c8 l)) = some (.agg (c8 l)) := by
 show aK (immL (cO 3 hp) (c8 l)) _ = _
 simp only [immL, fQ, if_true]; rfl
end Go.AX
namespace Go.AX
open Go Go.Proofs
def dP (g : List AV → List AV → Option (AV × List AV)) : List AV → H → Nat → Option (AV × H × Nat)
 | .os id off n e gg :: rest, hp, nx => aK (hp id) fun o => match o with
  | .cells xs mt => aN (mt = true) (aK (g (.os id off n e gg :: rest) xs) fun p => some (p.1, upd hp id (.cells p.2 true), nx))
  | _ => none
 | _, _, _ => none
def mutO (g : List AV → List AV → Option (AV × List AV)) (args : List AV) (id : Nat) (hp : H) (nx : Nat) : AO → Option (AV × H × Nat)
 | .cells xs mt => aN (mt = true) (aK (g args xs) fun p => some (p.1, upd hp id (.cells p.2 true), nx))
 | _ => none
theorem mutH_os (g : List AV → List AV → Option (AV × List AV)) (id off n e : Nat) (gg : Bool) (rest : List AV) (hp : H) (nx : Nat) : dP g (.os id off n e gg :: rest) hp nx = aK (hp id) (mutO g (.os id off n e gg :: rest) id hp nx) := by
 unfold dP mutO; rfl
theorem mutO_c (g : List AV → List AV → Option (AV × List AV)) (args : List AV) (id : Nat) (hp : H) (nx : Nat) (xs : List AV) (mt : Bool) : mutO g args id hp nx (.cells xs mt) = aN (mt = true) (aK (g args xs) fun p => some (p.1, upd hp id (.cells p.2 true), nx)) := (rfl)
attribute [go_sem] mutH_os mutO_c
structure MutEnd (P : Program) (rs : List ResultVar) (r : AV) (id : Nat) (ys : List AV) (t : S) : Prop where
 res : bV P rs t = some r
 row : t.hp id = some (.cells ys true)
 nm : r.noMem = true
 nms : AV.noMem.noMemL ys = true
def mutQ (P : Program) (rs : List ResultVar) (r : AV) (id : Nat) (ys : List AV) : Exit → S → Prop
 | .ret, t => MutEnd P rs r id ys t
 | .normal, t => MutEnd P rs r id ys t
 | _, _ => False
section
variable {P : Program} {GL : Nat → Option (List AV)}
theorem dN {f : FuncId} {fn : Func} {code : Code} {g : List AV → List AV → Option (AV × List AV)} (hf : P.funcs[f]? = some fn) (hb : fn.body = some code)
  (h : ∀ id off n e gg rest nx xs r ys, g (.os id off n e gg :: rest) xs = some (r, ys) → rest.length + 1 ≤ fn.ntmps ∧ (id < nx → Awp P GL fn.ntmps code (initS (.os id off n e gg :: rest) (upd (fun _ => none) id (.cells xs true)) nx) (mutQ P fn.results.toList r id ys))) : cQ P GL f (dP g) := by
 intro c σ I w hp nx args vals r hp' nx' hGL hi hs hr hg
 unfold dP at hg
 split at hg
 case h_2 => cases hg
 rename_i id off n e gg rest
 replace hg := aJ hg; obtain ⟨o, ho, hg⟩ := hg
 obtain ⟨xs, mt, rfl⟩ : ∃ a b, o = AO.cells a b := by cases o <;> first | exact ⟨_, _, rfl⟩ | (simp at hg)
 simp only at hg
 replace hg := aP hg; obtain ⟨hmt, hg⟩ := hg
 subst hmt
 replace hg := aJ hg; obtain ⟨⟨r0, ys⟩, hgg, hg⟩ := hg
 simp only [Option.some.injEq, Prod.mk.injEq] at hg
 obtain ⟨rfl, rfl, rfl⟩ := hg
 obtain ⟨hlen, haw⟩ := h id off n e gg rest nx xs r0 ys hgg
 refine ⟨Nat.le_refl _, ?_⟩
 have hset : σ id ≠ .unset := by
  intro hu
  have := hi.own id _ ho
  simp [cF, hu] at this
 have hid : id < nx := by
  apply Classical.byContradiction
  intro hc
  exact hset (hi.un id (by omega))
 have get1 : ∀ k o, upd (fun _ => none : H) id (.cells xs true) k = some o → k = id ∧ o = .cells xs true := by
  intro k o hk
  rw [bJ] at hk
  split at hk
  ·rename_i e; exact ⟨e, (Option.some.inj hk).symm⟩
  ·cases hk
 have hnI : ∀ blk base sz, σ id = .at_ blk base sz → ¬ I blk := by
  intro blk base sz e1
  have := hi.own id _ ho
  simp only [cF, e1] at this
  exact this.2.1 trivial
 have hi' : Inv { w0 := w, σ0 := σ, I0 := I, O := fun k => ∃ base sz, σ id = .at_ k base sz, GL := GL, nt := fn.ntmps, u0 := fun k => k < nx ∧ σ k = .unset } σ I w (upd (fun _ => none) id (.cells xs true)) (fun k => nx ≤ k ∨ (k < nx ∧ σ k = .unset)) := by
  refine ⟨fun _ _ => rfl, fun _ h => h, fun _ _ => rfl, rfl, rfl, rfl, Nat.le_refl _, fun _ _ _ => rfl, hi.ilt, fun k o hk => ?_, fun k k' zs o' blk base sz base' sz' h1 hm h2 hne e1 => ?_, fun k zs blk base sz h1 hm e1 => ?_, fun k hk => hk.elim (hi.un k) (fun h => h.2), fun g xs hg => hi.glob g xs (by rw [hGL]; exact hg), fun _ h => .inl h⟩
  ·obtain ⟨rfl, rfl⟩ := get1 k o hk; exact hi.own _ _ ho
  ·obtain ⟨rfl, _⟩ := get1 k _ h1
   obtain ⟨rfl, _⟩ := get1 k' _ h2
   exact absurd rfl hne
  ·obtain ⟨rfl, _⟩ := get1 k _ h1
   exact .inr ⟨base, sz, e1⟩
 have hQ : ∀ e t, mutQ P fn.results.toList r0 id ys e t → (e = .ret ∨ e = .normal) ∧ MutEnd P fn.results.toList r0 id ys t := by
  intro e t hq; cases e <;> first | exact ⟨.inl rfl, hq⟩ | exact ⟨.inr rfl, hq⟩ | exact hq.elim
 refine run_fn hf hb _ rfl rfl rfl (by simpa using hlen) (fun e t hq => (hQ e t hq).1) (haw hid) hi' (fun _ h => h.1) hs hr ?_
 intro e t a w' hq hR
 obtain ⟨⟨σ', I', a1, a2, a3⟩, _⟩ := hR
 obtain ⟨q1, q2, q3, q4⟩ := (hQ e t hq).2
 obtain ⟨v, hv, hrel⟩ := eZ (P := P) a1 a3 q1
 have hold : ∀ k, k < w.heap.size → (∀ base sz, σ id ≠ .at_ k base sz) → w'.heap[k]? = w.heap[k]? := fun k hk hn => a1.old k hk (fun ⟨base, sz, e⟩ => hn base sz e)
 have hIs : ∀ k, I k → w'.heap[k]? = w.heap[k]? := fun k hk => hold k (hi.ilt k hk) (fun base sz e => hnI k base sz e hk)
 have get : ∀ k o, upd hp id (.cells ys true) k = some o → (k = id ∧ o = .cells ys true) ∨ (k ≠ id ∧ hp k = some o) := by
  intro k o hk
  rw [bJ] at hk
  split at hk
  ·rename_i e; exact .inl ⟨e, (Option.some.inj hk).symm⟩
  ·rename_i e; exact .inr ⟨e, hk⟩
 refine ⟨v, hv, v, σ, I, rfl, ?_, hrel.noMem q3, ⟨fun _ _ => rfl, fun _ h => h, hIs⟩, fun _ _ h => h⟩
 refine ⟨hi.ext, hi.imm, fun k hk => by rw [hIs k (hi.imm k hk)]; exact hi.iw k hk, by rw [a1.os]; exact hi.os, by rw [a1.tape]; exact hi.tape, by rw [a1.output]; exact hi.output, Nat.le_trans hi.size a1.size, fun k hk hO => ?_, fun k hk => Nat.lt_of_lt_of_le (hi.ilt k hk) a1.size, fun k o hk => ?_, (hi.updIL ho (.cells ys true) fun _ => rfl).1, (hi.updIL ho (.cells ys true) fun _ => rfl).2, hi.un, fun g zs hg => (hi.glob g zs hg).mono (fun _ _ => rfl) (fun _ h => h) hIs, hi.inew⟩
 ·rw [hold k (Nat.lt_of_lt_of_le hk hi.size) (fun base sz e => ?_)]
  ·exact hi.old k hk hO
  ·rcases hi.lim id _ k base sz ho rfl e with h5 | h5
   ·omega
   ·exact hO h5
 ·rcases get k o hk with ⟨rfl, rfl⟩ | ⟨hne, h2⟩
  ·have h3 := a1.own k _ q2
   have h4 : σ' k = σ k := a2.loc k hset
   have h6 := hi.own k _ ho
   simp only [cF, h4] at h3 h6 ⊢
   cases e5 : σ k with
   | unset => exact absurd e5 hset
   | nil => simp only [e5] at h3 ⊢; exact h3
   | at_ blk base sz =>
    simp only [e5] at h3 h6 ⊢
    obtain ⟨⟨⟨cs, T, lo, hi2, b1, b2, b3, b4, b5⟩, b6⟩, b7⟩ := h3
    exact ⟨⟨⟨cs, T, lo, hi2, b1, b2, b3, b4, fun i hi3 => (b5 i hi3).noMem (AV.noMem_get ys q4 i hi3)⟩, b6⟩, h6.2⟩
  ·have h3 := hi.own k o h2
   refine h3.mono (fun _ _ => rfl) (fun _ h => h) hIs fun blk base sz e1 => ⟨hold blk (h3.lt e1) (fun base' sz' e2 => ?_), fun _ h => h⟩
   exact hi.inj id k _ o blk base' sz' base sz ho rfl h2 (fun e => hne e.symm) e2 e1
end
end Go.AX
namespace Go.AX
open Go Go.Proofs
variable {P : Program} {GL : Nat → Option (List AV)} {nt : Nat} {code : Code} {Q : Exit → S → Prop} {s t : S}
abbrev B8 := BitVec 8
abbrev W32 := BitVec 32
def word (b : List B8) (i : Nat) : W32 :=
 (b.getD (4 * i) 0#8).setWidth 32 <<< 24 ||| (b.getD (4 * i + 1) 0#8).setWidth 32 <<< 16 ||| (b.getD (4 * i + 2) 0#8).setWidth 32 <<< 8 ||| (b.getD (4 * i + 3) 0#8).setWidth 32
def w16 (b : List B8) : Nat → List W32
 | 0 => List.replicate 64 0#32
 | i + 1 => (w16 b i).set i (word b i)
def un8 : List AV → Option (List B8)
 | [] => some []
 | .w8 x :: r => aK (un8 r) fun l => some (x :: l)
 | _ :: _ => none
theorem un8_c8 (l : List B8) : un8 (c8 l) = some l := by
 induction l with
 | nil => rfl
 | cons x r ih => show aK (un8 (c8 r)) _ = _; rw [ih]; rfl
theorem iX : ∀ (xs : List AV) {l : List B8}, un8 xs = some l → xs = c8 l
 | [], l, h => by obtain rfl := Option.some.inj h; rfl
 | x :: r, l, h => by
  cases x with
  | w8 y =>
   simp only [un8] at h
   replace h := aJ h; obtain ⟨m, hm, h⟩ := h
   obtain rfl := Option.some.inj h
   rw [iX r hm]; rfl
  | _ => cases h
def turnG : List AV → Option AV
 | [.w32 x, .i n] => if 0 ≤ n ∧ n ≤ 32 then some (.w32 (x >>> n.toNat ||| x <<< (32 - n).toNat)) else none
 | _ => none
theorem bY (a b : Nat) (h : a ≠ b) : (a = b) = False := eq_false h
theorem take1_8 (x : B8) : List.take 1 (c8 [x]) = c8 [x] := (rfl)
theorem rep1_8 (x : B8) : rep 1 (c8 [x]) = c8 [x] := (rfl)
theorem sp1_8 (x y : B8) : cK (c8 [x]) 0 (c8 [y]) = c8 [y] := (rfl)
theorem tn (x : W32) (n : Int) (h0 : 0 ≤ n) (h1 : n ≤ 32) : turnG [.w32 x, .i n] = some (.w32 (x >>> n.toNat ||| x <<< (32 - n).toNat)) := if_pos ⟨h0, h1⟩
structure KC where
 k : Nat
 c : Nat
theorem nmL_c8 (l : List B8) : AV.noMem.noMemL (c8 l) = true := by
 induction l with
 | nil => rfl
 | cons x l ih => show (AV.noMem (.w8 x) && AV.noMem.noMemL (c8 l)) = true; rw [ih]; rfl
theorem nmL_c32 (l : List W32) : AV.noMem.noMemL (c32 l) = true := by
 induction l with
 | nil => rfl
 | cons x l ih => show (AV.noMem (.w32 x) && AV.noMem.noMemL (c32 l)) = true; rw [ih]; rfl
theorem fF {P : Program} {GL : Nat → Option (List AV)} {nt : Nat} {code : Code} {Q : Exit → S → Prop} {fr : List (Nat × AV)} {hp : H} {nx cx : Nat} (ks : List Nat)
  (h : Awp P GL nt code { fr := gL ks fr, hp := hp, nx := nx, cx := cx } Q) : Awp P GL nt code { fr := fr, hp := hp, nx := nx, cx := cx } Q :=
 awp_sub h (sub_keep ks { fr := fr, hp := hp, nx := nx, cx := cx }) rfl
def b4 (n : Nat) : List B8 := [BitVec.ofInt 8 ((n : Int).fdiv 16777216), BitVec.ofInt 8 ((n : Int).fdiv 65536), BitVec.ofInt 8 ((n : Int).fdiv 256), BitVec.ofInt 8 (n : Int)]
def cP (ps : List (List B8)) : List AV := ps.map fun p => .sl p.length (c8 p)
def unP : List AV → Option (List (List B8))
 | [] => some []
 | .sl n xs :: r => aK (un8 xs) fun b => aN (b.length = n) (aK (unP r) fun l => some (b :: l))
 | _ => none
theorem unP_nil : unP [] = some [] := (rfl)
theorem unP_cons (n : Nat) (xs r : List AV) : unP (.sl n xs :: r) = aK (un8 xs) fun b => aN (b.length = n) (aK (unP r) fun l => some (b :: l)) := (rfl)
theorem unP_cP (ps : List (List B8)) : unP (cP ps) = some ps := by
 induction ps with
 | nil => rfl
 | cons p ps ih => show aK (un8 (c8 p)) (fun b => aN (b.length = p.length) (aK (unP (cP ps)) fun l => some (b :: l))) = _; rw [un8_c8, ih, aX, cU _ rfl, aX]
theorem cP_len (ps : List (List B8)) : (cP ps).length = ps.length := List.length_map ..
theorem cP_head (ps : List (List B8)) (k : Nat) (h : k < ps.length) : ((cP ps).drop k).head? = some (.sl (ps.getD k []).length (c8 (ps.getD k []))) := by
 rw [List.head?_drop]; simp [cP, List.getElem?_map, List.getElem?_eq_getElem h]
theorem un8_nil : un8 [] = some [] := (rfl)
theorem un8_w8 (x : B8) (r : List AV) : un8 (.w8 x :: r) = aK (un8 r) fun l => some (x :: l) := (rfl)
theorem app4 (l : List B8) (a b c d : B8) : c8 l ++ [AV.w8 a, .w8 b, .w8 c, .w8 d] = c8 (l ++ [a, b, c, d]) := by simp [c8]
theorem storeL_all (xs cs : List AV) (h : cs.length = xs.length) : dV xs 0 cs = cs := by
 unfold dV
 split
 ·rename_i c
  match xs, h with
  | [y], _ => rfl
 ·exact splice_all _ _ h
theorem storeL_rep8 (n : Nat) (x : B8) (m : List B8) (h : m.length = n) : dV (c8 (List.replicate n x)) 0 (c8 m) = c8 m := storeL_all _ _ (by rw [iM, iM, List.length_replicate, h])
theorem storeL_eq8 (l m : List B8) (h : l.length = m.length) : dV (c8 l) 0 (c8 m) = c8 m := storeL_all _ _ (by rw [iM, iM, h])
structure KIC where
 k : Nat
 id : Nat
 c : Nat
theorem frzL_nil (hp : H) : frzL hp [] = some ([], hp) := (rfl)
theorem rep_2 (x : AV) : rep 2 [x] = [x, x] := (rfl)
theorem rep_3 (x : AV) : rep 3 [x] = [x, x, x] := (rfl)
theorem rep_5 (x : AV) : rep 5 [x] = [x, x, x, x, x] := (rfl)
theorem sp_z (x y : AV) (xs : List AV) : cK (x :: xs) 0 [y] = y :: xs := by simp [cK]
theorem sp_s (x y : AV) (xs : List AV) (k : Nat) : cK (x :: xs) (k + 1) [y] = x :: cK xs k [y] := by simp [cK]
theorem tk_s (x : AV) (xs : List AV) (k : Nat) : List.take (k + 1) (x :: xs) = x :: List.take k xs := (rfl)
theorem tk_n (k : Nat) : List.take k ([] : List AV) = [] := by simp
theorem c8_headd (l : List B8) (k : Nat) (h : k < l.length) : (c8 (l.drop k)).head? = some (.w8 (l.getD k 0#8)) := by rw [← c8_drop]; exact c8_head l k h
theorem eqT_c8 (P : Program) (t e : TypeId) (n : Nat) (hu : P.underlying t = some (.array n e)) (he : P.underlying e = some (.int .u8)) (hz : cD P e = some 1) (ha : cH P e = some false) (l m : List B8) (hl : l.length = n) (hm : m.length = n) :
  eqT P 6 t (.agg (c8 l)) (.agg (c8 m)) = some (decide (l = m)) := by
 have hld : ∀ (l : List B8) (k : Nat), k < l.length → ldV P e ((c8 l).drop (k * 1)) = some (.w8 (l.getD k 0#8)) := by
  intro l k hk
  unfold ldV
  rw [ha, aX, if_neg (by decide), Nat.mul_one]
  exact c8_head l k hk
 have he5 : ∀ a b : B8, eqT P 5 e (.w8 a) (.w8 b) = some (decide (a = b)) := by
  intro a b
  unfold eqT
  rw [he]; rfl
 unfold eqT
 rw [hu]
 simp only [hz, aX]
 have key : ∀ (r : Nat) (k : Nat), k + r = n → eqItemsA (eqT P 5 e) (fun i cs => ldV P e (cs.drop (i * 1))) (c8 l) (c8 m) (List.range' k r) = some (decide (l.drop k = m.drop k)) := by
  intro r
  induction r with
  | zero =>
   intro k hk
   rw [List.drop_of_length_le (by omega), List.drop_of_length_le (by omega)]; rfl
  | succ r ih =>
   intro k hk
   rw [List.range'_succ]
   simp only [eqItemsA]
   rw [hld l k (by omega), hld m k (by omega)]
   simp only [aX, he5]
   rw [List.drop_eq_getElem_cons (by omega : k < l.length), List.drop_eq_getElem_cons (by omega : k < m.length)]
   have e1 : l.getD k 0#8 = l[k]'(by omega) := by simp [List.getD_eq_getElem?_getD, List.getElem?_eq_getElem (by omega : k < l.length)]
   have e2 : m.getD k 0#8 = m[k]'(by omega) := by simp [List.getD_eq_getElem?_getD, List.getElem?_eq_getElem (by omega : k < m.length)]
   rw [e1, e2]
   by_cases h : l[k]'(by omega) = m[k]'(by omega)
   ·rw [if_pos (by simpa using h), ih (k + 1) (by omega)]
    congr 1
    rw [decide_eq_decide, List.cons.injEq]
    exact ⟨fun e => ⟨h, e⟩, fun e => e.2⟩
   ·rw [if_neg (by simpa using h)]
    congr 1; symm
    rw [decide_eq_false_iff_not, List.cons.injEq]
    exact fun e => h e.1
 have := key n 0 (by omega)
 rw [List.range_eq_range']
 exact this
def frzX (hp : H) (xs : List AV) : Bool → Option (List AV × H) | true => some (xs, hp) | false => frzRec hp xs
theorem frzL_x (hp : H) (xs : List AV) : frzL hp xs = frzX hp xs (gH xs) := by unfold frzL frzX; cases gH xs <;> rfl
theorem frzX_t (hp : H) (xs : List AV) : frzX hp xs true = some (xs, hp) := (rfl)
theorem frzX_f (hp : H) (xs : List AV) : frzX hp xs false = frzRec hp xs := (rfl)
theorem noOs_nil : gH [] = true := (rfl)
theorem noOs_w8 (x : B8) (r : List AV) : gH (.w8 x :: r) = gH r := by simp [gH, isOs]
theorem noOs_s (x : List B8) (r : List AV) : gH (.s x :: r) = gH r := by simp [gH, isOs]
theorem noOs_w16 (x : BitVec 16) (r : List AV) : gH (.w16 x :: r) = gH r := by simp [gH, isOs]
theorem noOs_w32 (x : W32) (r : List AV) : gH (.w32 x :: r) = gH r := by simp [gH, isOs]
theorem noOs_i (x : Int) (r : List AV) : gH (.i x :: r) = gH r := by simp [gH, isOs]
theorem noOs_os (a b c d : Nat) (e : Bool) (r : List AV) : gH (.os a b c d e :: r) = false := by simp [gH, isOs]
theorem app1 (l : List B8) (a : B8) : c8 l ++ [AV.w8 a] = c8 (l ++ [a]) := by simp [c8]
theorem app2 (l : List B8) (a b : B8) : c8 l ++ [AV.w8 a, .w8 b] = c8 (l ++ [a, b]) := by simp [c8]
def beL (n : W32) (k : Nat) : Nat → List B8
 | 0 => []
 | j + 1 => beL n k j ++ [(n >>> (8 * (k - 1 - j))).setWidth 8]
theorem cZ (n : W32) (k j : Nat) : (beL n k j).length = j := by
 induction j with
 | zero => rfl
 | succ j ih => simp [beL, ih]
theorem iE {P : Program} {GL : Nat → Option (List AV)} {nt : Nat} {code : Code} {Q : Exit → S → Prop} {fr : List (Nat × AV)} {hp : H} {nx cx : Nat} (t e : Nat) (hn : dG fr t = .v (.slice none 0 0))
  (h : Awp P GL nt code { fr := (t, .os cx 0 0 e true) :: fr, hp := upd hp cx (.cells [] true), nx := nx, cx := cx + 1 } Q) : Awp P GL nt code { fr := fr, hp := hp, nx := nx, cx := cx } Q := by
 intro c h1 h2 σ0 I0 w0 a w hR
 refine h c h1 h2 σ0 I0 w0 a w ?_
 obtain ⟨⟨σ, I, a1, a2, a3⟩, b, d, e1, e0⟩ := hR
 have hu : cx ≤ cx ∨ (∃ k, False ∧ cx = nx + k) ∨ c.u0 cx := .inl (Nat.le_refl _)
 have hun := a1.un cx hu
 have hσ := dM (l := .nil) hun
 refine ⟨⟨cE σ cx .nil, I, (a1.newNil hu).mono_un fun id hid => ?_, a2.trans ⟨hσ, fun _ h => h, fun _ _ => rfl⟩, fun k => ?_⟩, b, d, fun k hk => hk.elim, fun id hid => ⟨(e0 id hid).1, Nat.lt_succ_of_lt (e0 id hid).2⟩⟩
 ·rcases hid with hid | ⟨k, hk, _⟩ | hid
  ·exact ⟨.inl (Nat.le_of_succ_le hid), Nat.ne_of_gt hid⟩
  ·exact hk.elim
  ·exact ⟨.inr (.inr hid), Nat.ne_of_lt (e0 id hid).2⟩
 ·show Rel _ I w (if t = k then .os cx 0 0 e true else dG fr k) _
  have h3 := a3 k
  by_cases hk : t = k
  ·subst hk
   rw [if_pos rfl]
   have h4 : dG fr t = .v (.slice none 0 0) := hn
   rw [h4] at h3
   generalize hv : a.tmps.getD t undef = v at h3
   cases h3
   exact .osnil _ _ _ (by simp [cE])
  ·rw [if_neg hk]
   exact h3.mono hσ (fun _ h => h) (fun _ _ => rfl)
theorem cB {t : H} : ∀ j o, (fun _ => none : H) j = some o → t j = some o := fun _ _ h => by cases h
theorem bS {s t : H} {i : Nat} {a : AO} (h1 : t i = some a) (h2 : ∀ j o, s j = some o → t j = some o) : ∀ j o, upd s i a j = some o → t j = some o := by
 intro j o h
 rw [bJ] at h
 split at h
 ·rename_i e; subst e; rw [h1]; exact h
 ·exact h2 j o h
theorem iA (l : List B8) : cI (c8 l) = some l := by
 induction l with
 | nil => rfl
 | cons x r ih => show aK (cI (c8 r)) _ = _; rw [ih]; rfl
theorem noOwn_agg (x r : List AV) : dB (.agg x :: r) = false := (rfl)
theorem tkr8 : List.take 8 (List.replicate 8 0#8) = List.replicate 8 0#8 := (rfl)
def cS (ps : List (List B8)) : List AV := ps.map .s
def unS : List AV → Option (List (List B8))
 | [] => some []
 | .s l :: r => aK (unS r) fun ps => some (l :: ps)
 | _ => none
theorem unS_cS (ps : List (List B8)) : unS (cS ps) = some ps := by
 induction ps with
 | nil => rfl
 | cons p ps ih => show aK (unS (cS ps)) (fun l => some (p :: l)) = _; rw [ih, aX]
theorem cS_len (ps : List (List B8)) : (cS ps).length = ps.length := List.length_map ..
theorem cS_head (ps : List (List B8)) (k : Nat) (h : k < ps.length) : ((cS ps).drop k).head? = some (.s (ps.getD k [])) := by
 rw [List.head?_drop]; simp [cS, List.getElem?_map, List.getElem?_eq_getElem h]
theorem cS_noOwn (ps : List (List B8)) : dB (cS ps) = true := by
 simp only [dB, cS, List.all_eq_true, List.mem_map]
 rintro _ ⟨x, _, rfl⟩; rfl
theorem nmL_cS (ps : List (List B8)) : AV.noMem.noMemL (cS ps) = true := by
 induction ps with
 | nil => rfl
 | cons x l ih => show (AV.noMem (.s x) && AV.noMem.noMemL (cS l)) = true; rw [ih]; rfl
theorem cS_app (l m : List (List B8)) : cS l ++ cS m = cS (l ++ m) := by simp [cS]
theorem cS_drop (l : List (List B8)) (k : Nat) : (cS l).drop k = cS (l.drop k) := by simp [cS, List.map_drop]
theorem cS_take (l : List (List B8)) (k : Nat) : (cS l).take k = cS (l.take k) := by simp [cS, List.map_take]
theorem cS_headd (ps : List (List B8)) (k : Nat) (h : k < ps.length) : (cS (ps.drop k)).head? = some (.s (ps.getD k [])) := by rw [← cS_drop]; exact cS_head ps k h
theorem map_w8 (l : List B8) : List.map AV.w8 l = c8 l := rfl
def nz : AV → AV
 | .v (.slice none 0 0) => .sl 0 []
 | x => x
theorem nz_sl (n : Nat) (xs : List AV) : nz (.sl n xs) = .sl n xs := (rfl)
theorem nz_nil : nz (.v (.slice none 0 0)) = .sl 0 [] := (rfl)
theorem nz_i (n : Int) : nz (.i n) = .i n := (rfl)
theorem unS_nil : unS [] = some [] := (rfl)
theorem cS_noOs (ps : List (List B8)) : gH (cS ps) = true := by
 simp only [gH, cS, Bool.not_eq_true', List.any_eq_false, List.mem_map]
 rintro _ ⟨x, _, rfl⟩
 simp [isOs]
theorem unS_one (x : List B8) : unS [AV.s x] = some [x] := (rfl)
def isScope : Code → Bool | .scope _ => true | _ => false
def isLabel : Code → Bool | .label _ => true | _ => false
def scopeQ (Q : Exit → S → Prop) : Exit → S → Prop
 | .goto _, _ => False
 | e, t => Q e t
theorem awp_scope {c : Code} (h : Awp P GL nt c s (scopeQ Q)) : Awp P GL nt (.scope c) s Q := by
 intro cx h1 h2 σ0 I0 w0 a w hR
 refine wp_scope_straight (wp_mono (h cx h1 h2 σ0 I0 w0 a w hR) ?_)
 rintro e a' w' ⟨t, hq, hr⟩
 cases e with
 | goto l => exact hq.elim
 | _ => exact ⟨t, hq, hr⟩
theorem awp_scopeP (hc : isScope code = true) (h : Awp P GL nt (cl code) s (scopeQ Q)) : Awp P GL nt code s Q := by
 cases code <;> first | (cases hc; done) | exact awp_scope h
theorem awp_labelP (hc : isLabel code = true) (h : Q .normal s) : Awp P GL nt code s Q := by
 cases code <;> first | (cases hc; done) | exact awp_label h
theorem nx_ret_scope (h : Q .ret t) : scopeQ Q .ret t := h
def valAt (w : World) (l : Loc) (k : Nat) : Value :=
 match l with
 | .at_ blk base _ => match w.heap[blk]? with | some (.cells cs _ _) => cs.getD (base + k) undef | _ => undef
 | _ => undef
theorem row_vals {c : Ctx} {σ : Nat → Loc} {I : Nat → Prop} {w : World} {hp : H} {un : Nat → Prop} (h : Inv c σ I w hp un) {i : Nat} {xs : List AV} {mt : Bool} (ho : hp i = some (.cells xs mt)) : ∀ k (_h : k < xs.length), xs[k].isCell = true ∧ Rel σ I w xs[k] (valAt w (σ i) k) := by
 have hrow := h.own i _ ho
 simp only [cF] at hrow
 cases e : σ i with
 | unset => simp only [e] at hrow
 | nil => simp only [e] at hrow; subst hrow; exact fun k hk => by simp at hk
 | at_ blk base sz =>
  simp only [e] at hrow
  obtain ⟨⟨⟨cs, T, lo, hi, q1, q2, q3, q4, q5⟩, q6⟩, q7⟩ := hrow
  intro k hk
  simp only [valAt, q1]
  exact ⟨q6 k hk, q5 k hk⟩
theorem Inv.reRow {c : Ctx} {σ : Nat → Loc} {I : Nat → Prop} {w : World} {hp : H} {un : Nat → Prop} (h : Inv c σ I w hp un) {i : Nat} {xs ys : List AV} {mt : Bool} (ho : hp i = some (.cells xs mt)) (hl : ys.length = xs.length)
  (hr : ∀ k (_h : k < ys.length), ys[k].isCell = true ∧ Rel σ I w ys[k] (valAt w (σ i) k)) : Inv c σ I w (upd hp i (.cells ys mt)) un := by
 have get : ∀ id o, upd hp i (.cells ys mt) id = some o → (id = i ∧ o = .cells ys mt) ∨ (id ≠ i ∧ hp id = some o) := by
  intro id o h
  simp only [upd] at h
  split at h
  ·rename_i e; exact .inl ⟨e, (Option.some.inj h).symm⟩
  ·rename_i e; exact .inr ⟨e, h⟩
 have hil := h.updIL ho (.cells ys mt) fun h => h
 refine { h with own := fun id o h1 => ?_, inj := hil.1, lim := hil.2 }
 ·rcases get id o h1 with ⟨rfl, rfl⟩ | ⟨_, h2⟩
  ·have h3 := h.own id _ ho
   simp only [cF] at h3 ⊢
   cases e : σ id with
   | unset => simp only [e] at h3
   | nil => simp only [e] at h3 ⊢; subst h3; exact List.eq_nil_of_length_eq_zero hl
   | at_ blk base sz =>
    simp only [e] at h3 ⊢
    obtain ⟨⟨⟨cs, T, lo, hi, q1, q2, q3, q4, q5⟩, q6⟩, q7⟩ := h3
    have h4 := hr
    simp only [e, valAt, q1] at h4
    exact ⟨⟨⟨cs, T, lo, hi, q1, q2, by omega, q4, fun k hk => (h4 k hk).2⟩, fun k hk => (h4 k hk).1⟩, q7⟩
  ·exact h.own id o h2
theorem awp_ownC {P : Program} {GL : Nat → Option (List AV)} {nt : Nat} {code : Code} {Q : Exit → S → Prop} {fr : List (Nat × AV)} {hp : H} {nx cx : Nat} (i z : Nat) (xs ys : List AV) (mt : Bool) (ho : hp i = some (.cells (xs ++ .v (.slice none 0 0) :: ys) mt)) (hi : i ≠ cx)
  (h : Awp P GL nt code { fr := fr, hp := upd (upd hp cx (.cells [] true)) i (.cells (xs ++ .os cx 0 0 z true :: ys) mt), nx := nx, cx := cx + 1 } Q) : Awp P GL nt code { fr := fr, hp := hp, nx := nx, cx := cx } Q := by
 intro c h1 h2 σ0 I0 w0 a w hR
 refine h c h1 h2 σ0 I0 w0 a w ?_
 obtain ⟨⟨σ, I, a1, a2, a3⟩, b, d, e1, e0⟩ := hR
 have hu : cx ≤ cx ∨ (∃ k, False ∧ cx = nx + k) ∨ c.u0 cx := .inl (Nat.le_refl _)
 have hun := a1.un cx hu
 have hσ := dM (l := .nil) hun
 have hn := (a1.newNil hu).mono_un (un' := fun id => cx + 1 ≤ id ∨ (∃ k, False ∧ id = nx + k) ∨ c.u0 id) fun id hid => by
  rcases hid with hid | ⟨k, hk, _⟩ | hid
  ·exact ⟨.inl (Nat.le_of_succ_le hid), Nat.ne_of_gt hid⟩
  ·exact hk.elim
  ·exact ⟨.inr (.inr hid), Nat.ne_of_lt (e0 id hid).2⟩
 have ho2 : upd hp cx (.cells [] true) i = some (.cells (xs ++ .v (.slice none 0 0) :: ys) mt) := by rw [bJ, if_neg hi]; exact ho
 have hσi : cE σ cx .nil i = σ i := by simp [cE, hi]
 refine ⟨⟨cE σ cx .nil, I, hn.reRow ho2 (by simp) (fun k hk => ?_), a2.trans ⟨hσ, fun _ h => h, fun _ _ => rfl⟩, fun k => ?_⟩, b, d, fun k hk => hk.elim, fun id hid => ⟨(e0 id hid).1, Nat.lt_succ_of_lt (e0 id hid).2⟩⟩
 ·have hk2 : k < (xs ++ .v (.slice none 0 0) :: ys).length := by simpa using hk
  have h5 := row_vals hn ho2 k hk2
  by_cases e : k = xs.length
  ·subst e
   rw [List.getElem_append_right (Nat.le_refl _)] at h5 ⊢
   simp only [Nat.sub_self, List.getElem_cons_zero] at h5 ⊢
   refine ⟨rfl, ?_⟩
   have h6 := h5.2
   generalize valAt w (cE σ cx .nil i) xs.length = v at h6 ⊢
   cases h6
   exact .osnil _ _ _ (by simp [cE])
  ·have h7 : (xs ++ .os cx 0 0 z true :: ys)[k] = (xs ++ .v (.slice none 0 0) :: ys)[k] := by
    rw [List.getElem_append, List.getElem_append]
    split
    ·rfl
    ·rename_i hlt
     obtain ⟨m, hm⟩ : ∃ m, k - xs.length = m + 1 := ⟨k - xs.length - 1, by omega⟩
     simp only [hm, List.getElem_cons_succ]
   rw [h7]; exact h5
 ·exact (a3 k).mono hσ (fun _ h => h) (fun _ _ => rfl)
theorem immM_app (f : AV → Option AV) (xs ys : List AV) : immM f (xs ++ ys) = aK (immM f xs) fun a => aK (immM f ys) fun b => some (a ++ b) := by
 induction xs with
 | nil =>
  show immM f ys = aK (immM f ys) fun b => some b
  cases immM f ys <;> rfl
 | cons x xs ih =>
  show aK (f x) (fun y => aK (immM f (xs ++ ys)) fun l => some (y :: l)) = aK (aK (f x) fun y => aK (immM f xs) fun l => some (y :: l)) _
  cases f x with
  | none => rfl
  | some y =>
   simp only [aX]
   rw [ih]
   cases immM f xs with
   | none => rfl
   | some a =>
    simp only [aX]
    cases immM f ys <;> rfl
theorem immM_c8 (n : Nat) (hp : H) (l : List B8) : immM (cO (n + 1) hp) (c8 l) = some (c8 l) := by
 induction l with
 | nil => rfl
 | cons x l ih =>
  show aK (cO (n + 1) hp (.w8 x)) (fun y => aK (immM (cO (n + 1) hp) (c8 l)) fun l => some (y :: l)) = _
  rw [ih]; rfl
theorem noOwn_app (xs ys : List AV) : dB (xs ++ ys) = (dB xs && dB ys) := by simp only [dB, List.all_append]
theorem faF_srp (P : Program) (xs : List AV) (f : Nat) (fs : Array Field) : faF P (.rp xs) f (some (.struct fs)) = aK fs[f]? fun fd => aK (cD P fd.type) fun n => aN (0 < n) (some (.rp (xs.drop fd.offset))) := (rfl)
theorem faF_sop (P : Program) (id off : Nat) (f : Nat) (fs : Array Field) : faF P (.op id off) f (some (.struct fs)) = aK fs[f]? fun fd => aK (cD P fd.type) fun n => aN (0 < n) (some (.op id (off + fd.offset))) := (rfl)
theorem ar0 {α : Type} (a b : α) : (#[a, b] : Array α)[0]? = some a := (rfl)
theorem ar1 {α : Type} (a b : α) : (#[a, b] : Array α)[1]? = some b := (rfl)
theorem bdF_str (P : Program) (n : Nat) (ps : List (Nat × AV)) (zs : List AV) (fs : Array Field) : bdF P n ps (some zs) (some (.struct fs)) = aK (fillA (fun k => aK fs[k]? fun fd => aK (cD P fd.type) fun n => some (fd.offset, n)) zs ps) fun cs => aN (fs.toList.all (fun fd => (cD P fd.type).isSome) = true) (some (.agg cs)) := (rfl)
theorem rep_one (zs : List AV) : rep 1 zs = zs := by simp [rep]
def fz1O (hp : H) (i off n e : Nat) : AO → Option (List AV × H)
 | .cells xs _ => aN (off + n * e ≤ xs.length) (some ([.sl n ((xs.drop off).take (n * e))], upd hp i (.cells xs false)))
 | _ => none
theorem frzRec_os (hp : H) (i off n e : Nat) (g : Bool) : frzRec hp [.os i off n e g] = aK (hp i) (fz1O hp i off n e) := by
 simp only [frzRec]
 congr 1
theorem fz1O_c (hp : H) (i off n e : Nat) (xs : List AV) (mt : Bool) : fz1O hp i off n e (.cells xs mt) = aN (off + n * e ≤ xs.length) (some ([.sl n ((xs.drop off).take (n * e))], upd hp i (.cells xs false))) := (rfl)
structure KIV where
 k : Nat
 id : Nat
 iv : Nat
 c : Nat
theorem b_eqlb8 (P : Program) (t : TypeId) (a b : Bool) : bM P .eql t (.b a) (.b b) = aN (isBoolT P t = true) (some (.b (a == b))) := (rfl)
theorem b_neqb8 (P : Program) (t : TypeId) (a b : Bool) : bM P .neq t (.b a) (.b b) = aN (isBoolT P t = true) (some (.b (!(a == b)))) := (rfl)
attribute [go_sem] fQ c8_noOs W_eq iM iY c8_head jE c8_head0 c32_head0 c8_set c32_set c8_take c8_drop upd_upd Int.toNat_natCast frzL_c8 c8_app c32_app c8_rep c32_rep List.length_set List.length_replicate List.take_of_length_le List.length_append List.take_zero List.map_cons List.map_nil List.getElem?_cons_zero List.getElem?_cons_succ Bool.and_true
attribute [go_sem] Bool.true_and Bool.and_self tn nmL_c8 nmL_c32 bY storeL_rep8 storeL_eq8 app4 unP_nil unP_cons unP_cP cP_len cP_head un8_nil un8_w8 un8_c8 rep1_8 sp1_8 take1_8 frzL_nil c8_headd rep_2 rep_3 rep_5 sp_z sp_s tk_s tk_n frzL_x
attribute [go_sem] frzX_t frzX_f noOs_nil noOs_w8 noOs_s noOs_w16 noOs_w32 noOs_i noOs_os app1 app2 iA noOwn_agg tkr8 unS_cS cS_len cS_head cS_headd cS_noOwn nmL_cS cS_app cS_drop cS_take cS_noOs unS_nil unS_one map_w8 nz_sl nz_nil nz_i
attribute [go_sem] rep_one faF_srp faF_sop ar0 ar1 frzRec_os fz1O_c b_eqlb8 b_neqb8 bdF_str
end Go.AX
namespace Go.AX
open Go Go.Proofs
def clO (i off n e' z : Nat) (zs : List AV) (hp : H) : AO → Option (AV × H)
 | .cells xs mt => aN (mt = true ∧ e' = z ∧ off + n * z ≤ xs.length) (some (.tup [], upd hp i (.cells (cK xs off (rep n zs)) true)))
 | _ => none
def clX (x : AV) (z : Nat) (zs : List AV) (hp : H) : Option (AV × H) :=
 match x with
 | .os i off n e' _ => aK (hp i) (clO i off n e' z zs hp)
 | _ => none
def clM (hp : H) : AV → Option (AV × H)
 | .mp id => aK (hp id) (clrO id hp)
 | _ => none
def clF (P : Program) (hp : H) (x : AV) : Option TypeDesc → Option (AV × H)
 | some (.map _ _) => clM hp x
 | some (.slice e) => aK (cD P e) fun z => aK (cG P e) fun zs => aN (0 < z ∧ zs.length = z) (clX x z zs hp)
 | _ => none
theorem ea_clear {P : Program} {Γ : Env} {ρ : Operand → AV} {m nx n id cx : Nat} {hp : H} {x : Operand} {t : TypeId} : eff P Γ (.call { callee := .builtin .clear, args := #[x], argTypes := #[t] }) ρ m nx n hp id cx = aK (clF P hp (ρ x) (P.underlying t)) fun p => some (p.1, p.2, cx) := by
 simp only [eff, cls, fR, clearA]
 cases P.underlying t with
 | none => rfl
 | some d => cases d <;> first | rfl | (simp only [clF, clM]; cases ρ x <;> rfl)
theorem clF_sl {P : Program} {hp : H} {x : AV} (e : TypeId) : clF P hp x (some (.slice e)) = aK (cD P e) fun z => aK (cG P e) fun zs => aN (0 < z ∧ zs.length = z) (clX x z zs hp) := (rfl)
theorem clF_m {P : Program} {hp : H} {x : AV} (k e : TypeId) : clF P hp x (some (.map k e)) = clM hp x := (rfl)
theorem clM_mp (hp : H) (id : Nat) : clM hp (.mp id) = aK (hp id) (clrO id hp) := (rfl)
theorem clrO_m (id : Nat) (hp : H) (es mt) : clrO id hp (.mapo es mt) = aN (mt = true) (some (.tup [], upd hp id (.mapo [] true))) := (rfl)
theorem clX_os (i off n e' : Nat) (g : Bool) (z : Nat) (zs : List AV) (hp : H) : clX (.os i off n e' g) z zs hp = aK (hp i) (clO i off n e' z zs hp) := (rfl)
theorem clO_c (i off n e' z : Nat) (zs xs : List AV) (mt : Bool) (hp : H) : clO i off n e' z zs hp (.cells xs mt) = aN (mt = true ∧ e' = z ∧ off + n * z ≤ xs.length) (some (.tup [], upd hp i (.cells (cK xs off (rep n zs)) true))) := (rfl)
attribute [go_sem] ea_clear clF_m clM_mp clrO_m clF_sl clX_os clO_c
theorem ea_min {P : Program} {Γ : Env} {ρ : Operand → AV} {m nx n id cx : Nat} {hp : H} {x y : Operand} {t t2 : TypeId} : eff P Γ (.call { callee := .builtin .min, args := #[x, y], argTypes := #[t, t2] }) ρ m nx n hp id cx = aK (min2A (ρ x) (ρ y)) fun y => some (y, hp, cx) := (rfl)
theorem ea_max {P : Program} {Γ : Env} {ρ : Operand → AV} {m nx n id cx : Nat} {hp : H} {x y : Operand} {t t2 : TypeId} : eff P Γ (.call { callee := .builtin .max, args := #[x, y], argTypes := #[t, t2] }) ρ m nx n hp id cx = aK (max2A (ρ x) (ρ y)) fun y => some (y, hp, cx) := (rfl)
theorem min2_i (a b : Int) : min2A (.i a) (.i b) = some (.i (if b < a then b else a)) := (rfl)
theorem max2_i (a b : Int) : max2A (.i a) (.i b) = some (.i (if a < b then b else a)) := (rfl)
attribute [go_sem] ea_min ea_max min2_i max2_i
section
variable {P : Program} {GL : Nat → Option (List AV)}
end
end Go.AX
namespace Go.AX
open Go
section
variable {P : Program} {GL : Nat → Option (List AV)} {nt : Nat} {Q : Exit → S → Prop}
end
end Go.AX
namespace Go.AX
open Go
section
variable {P : Program} {Γ : Env} {c : Ctx} {σ0 : Nat → Loc} {I0 : Nat → Prop} {w0 : World} {md : Nat → Nat} {ops : Array Oper}
end
end Go.AX
