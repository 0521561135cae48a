/-
  AX, part W: rules with the rest of the code hidden; facts of the seat's types.
-/
import Derived.Test.YtnnkmoaipcdhnaaDoorAxV
import Derived.Test.YtnnkmoaipcdhnaaDoorProg
import Derived.KernelRfl
namespace Go.AX
open Go Go.Proofs
theorem awp_regK {P : Program} {GL : Nat → Option (List AV)} {nt : Nat} {Q : Exit → S → Prop} {s : S} {code : Code} {Γ : Env} (ks : List Nat) (hΓ : EnvOK P GL Γ) (hc : isReg code = true) (hd : rDraw code = false) (ho : okDst nt (rOps code).toList = true)
    (h : ∀ K : S → Prop, (∀ t, Q .normal t → K t) → someP (runL P Γ GL (fun _ => 0) (rOps code) 0 (rOps code).toList (enterR (rOps code).size s)) fun t => K { t with fr := keepF ks t.fr }) : Awp P GL nt code s Q :=
  awp_reg ks hc hd hΓ ho (h (Q .normal) fun _ h => h)
theorem awp_drwK {P : Program} {GL : Nat → Option (List AV)} {nt : Nat} {Q : Exit → S → Prop} {s : S} {code : Code} {Γ : Env} (md : Nat → Nat) (ks : List Nat) (hm : P.follows .mixedOrders = true) (hΓ : EnvOK P GL Γ) (hc : isReg code = true) (hd : rDraw code = true) (ho : okDst nt (rOps code).toList = true) (hk : okDraw P Γ md (rOps code) = true)
    (h : ∀ K : S → Prop, (∀ t, Q .normal t → K t) → someP (runL P Γ GL md (rOps code) 0 (rOps code).toList (enterR (rOps code).size s)) fun t => K { t with fr := keepF ks t.fr }) : Awp P GL nt code s Q :=
  awp_drw md ks hm hc hd hΓ ho hk (h (Q .normal) fun _ h => h)
theorem andThen_normal {P : Program} {GL : Nat → Option (List AV)} {nt : Nat} {b : Code} {Q : Exit → S → Prop} {t : S} (h : Awp P GL nt b t Q) : andThenQ P GL nt b Q .normal t := h
theorem ofV_u8 (n : Int) : ofV (.int .u8 n) = if 0 ≤ n ∧ n < 256 then .w8 (BitVec.ofInt 8 n) else .v (.int .u8 n) := rfl
theorem ofV_u16 (n : Int) : ofV (.int .u16 n) = if 0 ≤ n ∧ n < 65536 then .w16 (BitVec.ofInt 16 n) else .v (.int .u16 n) := rfl
theorem ofV_u32 (n : Int) : ofV (.int .u32 n) = if 0 ≤ n ∧ n < 4294967296 then .w32 (BitVec.ofInt 32 n) else .v (.int .u32 n) := rfl
theorem ofV_u64 (n : Int) : ofV (.int .u64 n) = if 0 ≤ n ∧ n < 18446744073709551616 then .w64 (BitVec.ofInt 64 n) else .v (.int .u64 n) := rfl
theorem ofV_i64 (n : Int) : ofV (.int .i64 n) = .i n := rfl
theorem ofV_bool (x : Bool) : ofV (.bool x) = .b x := rfl
theorem ofV_slice : ofV (.slice none 0 0) = .v (.slice none 0 0) := rfl
theorem size_ops (l : List Oper) : (Array.mk l).size = l.length := rfl
theorem shAmt_i (n : Int) (h : 0 ≤ n) : shAmt (.i n) = some n.toNat := if_pos h
theorem mixed : Tryd.prog.follows .mixedOrders = true := by kernel_rfl
theorem sz0 : szOf Tryd.prog 0 = some 1 := by kernel_rfl
theorem by0 : byOf Tryd.prog 0 = some 0 := by kernel_rfl
theorem ag0 : isAggT Tryd.prog 0 = some false := by kernel_rfl
theorem sz1 : szOf Tryd.prog 1 = some 1 := by kernel_rfl
theorem by1 : byOf Tryd.prog 1 = some 8 := by kernel_rfl
theorem ag1 : isAggT Tryd.prog 1 = some false := by kernel_rfl
theorem sz2 : szOf Tryd.prog 2 = some 1 := by kernel_rfl
theorem by2 : byOf Tryd.prog 2 = some 8 := by kernel_rfl
theorem ag2 : isAggT Tryd.prog 2 = some false := by kernel_rfl
theorem zc2 : zcells Tryd.prog 2 = some ([.i 0]) := by kernel_rfl
theorem sz3 : szOf Tryd.prog 3 = some 1 := by kernel_rfl
theorem by3 : byOf Tryd.prog 3 = some 8 := by kernel_rfl
theorem ag3 : isAggT Tryd.prog 3 = some false := by kernel_rfl
theorem zc3 : zcells Tryd.prog 3 = some ([.i 0]) := by kernel_rfl
theorem sz4 : szOf Tryd.prog 4 = some 1 := by kernel_rfl
theorem by4 : byOf Tryd.prog 4 = some 1 := by kernel_rfl
theorem ag4 : isAggT Tryd.prog 4 = some false := by kernel_rfl
theorem zc4 : zcells Tryd.prog 4 = some ([.b false]) := by kernel_rfl
theorem sz5 : szOf Tryd.prog 5 = some 1 := by kernel_rfl
theorem by5 : byOf Tryd.prog 5 = some 1 := by kernel_rfl
theorem ag5 : isAggT Tryd.prog 5 = some false := by kernel_rfl
theorem zc5 : zcells Tryd.prog 5 = some ([.w8 0#8]) := by kernel_rfl
theorem sz6 : szOf Tryd.prog 6 = some 1 := by kernel_rfl
theorem by6 : byOf Tryd.prog 6 = some 1 := by kernel_rfl
theorem ag6 : isAggT Tryd.prog 6 = some false := by kernel_rfl
theorem zc6 : zcells Tryd.prog 6 = some ([.w8 0#8]) := by kernel_rfl
theorem sz7 : szOf Tryd.prog 7 = some 4 := by kernel_rfl
theorem by7 : byOf Tryd.prog 7 = some 24 := by kernel_rfl
theorem ag7 : isAggT Tryd.prog 7 = some true := by kernel_rfl
theorem zc7 : zcells Tryd.prog 7 = some ([.i 0, .i 0, .b false, .w8 0#8]) := by kernel_rfl
theorem sz8 : szOf Tryd.prog 8 = some 4 := by kernel_rfl
theorem by8 : byOf Tryd.prog 8 = some 24 := by kernel_rfl
theorem ag8 : isAggT Tryd.prog 8 = some true := by kernel_rfl
theorem zc8 : zcells Tryd.prog 8 = some ([.i 0, .i 0, .b false, .w8 0#8]) := by kernel_rfl
theorem sz9 : szOf Tryd.prog 9 = some 1 := by kernel_rfl
theorem by9 : byOf Tryd.prog 9 = some 16 := by kernel_rfl
theorem ag9 : isAggT Tryd.prog 9 = some false := by kernel_rfl
theorem zc9 : zcells Tryd.prog 9 = some ([.s []]) := by kernel_rfl
theorem ni9 : noIntT Tryd.prog 9 = true := by kernel_rfl
theorem sz10 : szOf Tryd.prog 10 = some 1 := by kernel_rfl
theorem by10 : byOf Tryd.prog 10 = some 16 := by kernel_rfl
theorem ag10 : isAggT Tryd.prog 10 = some false := by kernel_rfl
theorem zc10 : zcells Tryd.prog 10 = some ([.s []]) := by kernel_rfl
theorem ni10 : noIntT Tryd.prog 10 = true := by kernel_rfl
theorem sz11 : szOf Tryd.prog 11 = some 1 := by kernel_rfl
theorem by11 : byOf Tryd.prog 11 = some 16 := by kernel_rfl
theorem ag11 : isAggT Tryd.prog 11 = some false := by kernel_rfl
theorem zc11 : zcells Tryd.prog 11 = some ([.s []]) := by kernel_rfl
theorem ni11 : noIntT Tryd.prog 11 = true := by kernel_rfl
theorem sz12 : szOf Tryd.prog 12 = some 1 := by kernel_rfl
theorem by12 : byOf Tryd.prog 12 = some 8 := by kernel_rfl
theorem ag12 : isAggT Tryd.prog 12 = some false := by kernel_rfl
theorem zc12 : zcells Tryd.prog 12 = some ([.w64 0#64]) := by kernel_rfl
theorem sz13 : szOf Tryd.prog 13 = some 2 := by kernel_rfl
theorem by13 : byOf Tryd.prog 13 = some 24 := by kernel_rfl
theorem ag13 : isAggT Tryd.prog 13 = some true := by kernel_rfl
theorem zc13 : zcells Tryd.prog 13 = some ([.s [], .w64 0#64]) := by kernel_rfl
theorem sz14 : szOf Tryd.prog 14 = some 2 := by kernel_rfl
theorem by14 : byOf Tryd.prog 14 = some 24 := by kernel_rfl
theorem ag14 : isAggT Tryd.prog 14 = some true := by kernel_rfl
theorem zc14 : zcells Tryd.prog 14 = some ([.s [], .w64 0#64]) := by kernel_rfl
theorem sz15 : szOf Tryd.prog 15 = some 1 := by kernel_rfl
theorem by15 : byOf Tryd.prog 15 = some 8 := by kernel_rfl
theorem ag15 : isAggT Tryd.prog 15 = some false := by kernel_rfl
theorem zc15 : zcells Tryd.prog 15 = some ([.v (Value.pointer none)]) := by kernel_rfl
theorem sz16 : szOf Tryd.prog 16 = some 1 := by kernel_rfl
theorem by16 : byOf Tryd.prog 16 = some 8 := by kernel_rfl
theorem ag16 : isAggT Tryd.prog 16 = some false := by kernel_rfl
theorem zc16 : zcells Tryd.prog 16 = some ([.v (Value.pointer none)]) := by kernel_rfl
theorem sz17 : szOf Tryd.prog 17 = some 1 := by kernel_rfl
theorem by17 : byOf Tryd.prog 17 = some 8 := by kernel_rfl
theorem ag17 : isAggT Tryd.prog 17 = some false := by kernel_rfl
theorem zc17 : zcells Tryd.prog 17 = some ([.v (Value.pointer none)]) := by kernel_rfl
theorem sz18 : szOf Tryd.prog 18 = some 1 := by kernel_rfl
theorem by18 : byOf Tryd.prog 18 = some 8 := by kernel_rfl
theorem ag18 : isAggT Tryd.prog 18 = some true := by kernel_rfl
theorem zc18 : zcells Tryd.prog 18 = some ([.v (Value.pointer none)]) := by kernel_rfl
theorem sz19 : szOf Tryd.prog 19 = some 1 := by kernel_rfl
theorem by19 : byOf Tryd.prog 19 = some 8 := by kernel_rfl
theorem ag19 : isAggT Tryd.prog 19 = some true := by kernel_rfl
theorem zc19 : zcells Tryd.prog 19 = some ([.v (Value.pointer none)]) := by kernel_rfl
theorem sz20 : szOf Tryd.prog 20 = some 1 := by kernel_rfl
theorem by20 : byOf Tryd.prog 20 = some 16 := by kernel_rfl
theorem ag20 : isAggT Tryd.prog 20 = some false := by kernel_rfl
theorem sz21 : szOf Tryd.prog 21 = some 1 := by kernel_rfl
theorem by21 : byOf Tryd.prog 21 = some 4 := by kernel_rfl
theorem ag21 : isAggT Tryd.prog 21 = some false := by kernel_rfl
theorem sz22 : szOf Tryd.prog 22 = some 1 := by kernel_rfl
theorem by22 : byOf Tryd.prog 22 = some 24 := by kernel_rfl
theorem ag22 : isAggT Tryd.prog 22 = some false := by kernel_rfl
theorem zc22 : zcells Tryd.prog 22 = some ([.v (Value.slice none 0 0)]) := by kernel_rfl
theorem ni22 : noIntT Tryd.prog 22 = true := by kernel_rfl
theorem sz23 : szOf Tryd.prog 23 = some 1 := by kernel_rfl
theorem by23 : byOf Tryd.prog 23 = some 8 := by kernel_rfl
theorem ag23 : isAggT Tryd.prog 23 = some false := by kernel_rfl
theorem sz24 : szOf Tryd.prog 24 = some 32 := by kernel_rfl
theorem by24 : byOf Tryd.prog 24 = some 32 := by kernel_rfl
theorem ag24 : isAggT Tryd.prog 24 = some true := by kernel_rfl
theorem zc24 : zcells Tryd.prog 24 = some (List.replicate 32 (.w8 0#8)) := by kernel_rfl
theorem sz25 : szOf Tryd.prog 25 = some 1 := by kernel_rfl
theorem by25 : byOf Tryd.prog 25 = some 8 := by kernel_rfl
theorem ag25 : isAggT Tryd.prog 25 = some false := by kernel_rfl
theorem sz26 : szOf Tryd.prog 26 = some 1 := by kernel_rfl
theorem by26 : byOf Tryd.prog 26 = some 8 := by kernel_rfl
theorem ag26 : isAggT Tryd.prog 26 = some false := by kernel_rfl
theorem sz27 : szOf Tryd.prog 27 = some 1 := by kernel_rfl
theorem by27 : byOf Tryd.prog 27 = some 24 := by kernel_rfl
theorem ag27 : isAggT Tryd.prog 27 = some false := by kernel_rfl
theorem zc27 : zcells Tryd.prog 27 = some ([.v (Value.slice none 0 0)]) := by kernel_rfl
theorem ni27 : noIntT Tryd.prog 27 = true := by kernel_rfl
theorem sz28 : szOf Tryd.prog 28 = some 8 := by kernel_rfl
theorem by28 : byOf Tryd.prog 28 = some 8 := by kernel_rfl
theorem ag28 : isAggT Tryd.prog 28 = some true := by kernel_rfl
theorem zc28 : zcells Tryd.prog 28 = some (List.replicate 8 (.w8 0#8)) := by kernel_rfl
theorem sz29 : szOf Tryd.prog 29 = some 1 := by kernel_rfl
theorem by29 : byOf Tryd.prog 29 = some 8 := by kernel_rfl
theorem ag29 : isAggT Tryd.prog 29 = some false := by kernel_rfl
theorem sz30 : szOf Tryd.prog 30 = some 1 := by kernel_rfl
theorem by30 : byOf Tryd.prog 30 = some 8 := by kernel_rfl
theorem ag30 : isAggT Tryd.prog 30 = some false := by kernel_rfl
theorem sz31 : szOf Tryd.prog 31 = some 1 := by kernel_rfl
theorem by31 : byOf Tryd.prog 31 = some 8 := by kernel_rfl
theorem ag31 : isAggT Tryd.prog 31 = some false := by kernel_rfl
theorem sz32 : szOf Tryd.prog 32 = some 1 := by kernel_rfl
theorem by32 : byOf Tryd.prog 32 = some 8 := by kernel_rfl
theorem ag32 : isAggT Tryd.prog 32 = some false := by kernel_rfl
theorem sz33 : szOf Tryd.prog 33 = some 1 := by kernel_rfl
theorem by33 : byOf Tryd.prog 33 = some 8 := by kernel_rfl
theorem ag33 : isAggT Tryd.prog 33 = some false := by kernel_rfl
theorem sz34 : szOf Tryd.prog 34 = some 1 := by kernel_rfl
theorem by34 : byOf Tryd.prog 34 = some 8 := by kernel_rfl
theorem ag34 : isAggT Tryd.prog 34 = some false := by kernel_rfl
theorem sz35 : szOf Tryd.prog 35 = some 1 := by kernel_rfl
theorem by35 : byOf Tryd.prog 35 = some 8 := by kernel_rfl
theorem ag35 : isAggT Tryd.prog 35 = some false := by kernel_rfl
theorem sz36 : szOf Tryd.prog 36 = some 1 := by kernel_rfl
theorem by36 : byOf Tryd.prog 36 = some 4 := by kernel_rfl
theorem ag36 : isAggT Tryd.prog 36 = some false := by kernel_rfl
theorem zc36 : zcells Tryd.prog 36 = some ([.w32 0#32]) := by kernel_rfl
theorem sz37 : szOf Tryd.prog 37 = some 1 := by kernel_rfl
theorem by37 : byOf Tryd.prog 37 = some 8 := by kernel_rfl
theorem ag37 : isAggT Tryd.prog 37 = some false := by kernel_rfl
theorem sz38 : szOf Tryd.prog 38 = some 1 := by kernel_rfl
theorem by38 : byOf Tryd.prog 38 = some 0 := by kernel_rfl
theorem ag38 : isAggT Tryd.prog 38 = some false := by kernel_rfl
theorem sz39 : szOf Tryd.prog 39 = some 1 := by kernel_rfl
theorem by39 : byOf Tryd.prog 39 = some 8 := by kernel_rfl
theorem ag39 : isAggT Tryd.prog 39 = some false := by kernel_rfl
theorem sz40 : szOf Tryd.prog 40 = some 1 := by kernel_rfl
theorem by40 : byOf Tryd.prog 40 = some 8 := by kernel_rfl
theorem ag40 : isAggT Tryd.prog 40 = some false := by kernel_rfl
theorem sz41 : szOf Tryd.prog 41 = some 1 := by kernel_rfl
theorem by41 : byOf Tryd.prog 41 = some 8 := by kernel_rfl
theorem ag41 : isAggT Tryd.prog 41 = some false := by kernel_rfl
theorem sz42 : szOf Tryd.prog 42 = some 1 := by kernel_rfl
theorem by42 : byOf Tryd.prog 42 = some 8 := by kernel_rfl
theorem ag42 : isAggT Tryd.prog 42 = some false := by kernel_rfl
theorem sz43 : szOf Tryd.prog 43 = some 1 := by kernel_rfl
theorem by43 : byOf Tryd.prog 43 = some 8 := by kernel_rfl
theorem ag43 : isAggT Tryd.prog 43 = some false := by kernel_rfl
theorem sz44 : szOf Tryd.prog 44 = some 1 := by kernel_rfl
theorem by44 : byOf Tryd.prog 44 = some 2 := by kernel_rfl
theorem ag44 : isAggT Tryd.prog 44 = some false := by kernel_rfl
theorem zc44 : zcells Tryd.prog 44 = some ([.w16 0#16]) := by kernel_rfl
theorem sz45 : szOf Tryd.prog 45 = some 1 := by kernel_rfl
theorem by45 : byOf Tryd.prog 45 = some 8 := by kernel_rfl
theorem ag45 : isAggT Tryd.prog 45 = some false := by kernel_rfl
theorem sz46 : szOf Tryd.prog 46 = some 1 := by kernel_rfl
theorem by46 : byOf Tryd.prog 46 = some 8 := by kernel_rfl
theorem ag46 : isAggT Tryd.prog 46 = some false := by kernel_rfl
theorem sz47 : szOf Tryd.prog 47 = some 1 := by kernel_rfl
theorem by47 : byOf Tryd.prog 47 = some 8 := by kernel_rfl
theorem ag47 : isAggT Tryd.prog 47 = some false := by kernel_rfl
theorem sz48 : szOf Tryd.prog 48 = some 1 := by kernel_rfl
theorem by48 : byOf Tryd.prog 48 = some 24 := by kernel_rfl
theorem ag48 : isAggT Tryd.prog 48 = some false := by kernel_rfl
theorem zc48 : zcells Tryd.prog 48 = some ([.v (Value.slice none 0 0)]) := by kernel_rfl
theorem ni48 : noIntT Tryd.prog 48 = true := by kernel_rfl
theorem sz49 : szOf Tryd.prog 49 = some 1 := by kernel_rfl
theorem by49 : byOf Tryd.prog 49 = some 24 := by kernel_rfl
theorem ag49 : isAggT Tryd.prog 49 = some false := by kernel_rfl
theorem zc49 : zcells Tryd.prog 49 = some ([.v (Value.slice none 0 0)]) := by kernel_rfl
theorem ni49 : noIntT Tryd.prog 49 = true := by kernel_rfl
theorem sz50 : szOf Tryd.prog 50 = some 1 := by kernel_rfl
theorem by50 : byOf Tryd.prog 50 = some 8 := by kernel_rfl
theorem ag50 : isAggT Tryd.prog 50 = some false := by kernel_rfl
theorem sz51 : szOf Tryd.prog 51 = some 1 := by kernel_rfl
theorem by51 : byOf Tryd.prog 51 = some 8 := by kernel_rfl
theorem ag51 : isAggT Tryd.prog 51 = some false := by kernel_rfl
theorem sz52 : szOf Tryd.prog 52 = some 1 := by kernel_rfl
theorem by52 : byOf Tryd.prog 52 = some 8 := by kernel_rfl
theorem ag52 : isAggT Tryd.prog 52 = some false := by kernel_rfl
theorem sz53 : szOf Tryd.prog 53 = some 1 := by kernel_rfl
theorem by53 : byOf Tryd.prog 53 = some 8 := by kernel_rfl
theorem ag53 : isAggT Tryd.prog 53 = some false := by kernel_rfl
theorem sz54 : szOf Tryd.prog 54 = some 1 := by kernel_rfl
theorem by54 : byOf Tryd.prog 54 = some 8 := by kernel_rfl
theorem ag54 : isAggT Tryd.prog 54 = some false := by kernel_rfl
theorem sz55 : szOf Tryd.prog 55 = some 20 := by kernel_rfl
theorem by55 : byOf Tryd.prog 55 = some 20 := by kernel_rfl
theorem ag55 : isAggT Tryd.prog 55 = some true := by kernel_rfl
theorem zc55 : zcells Tryd.prog 55 = some (List.replicate 20 (.w8 0#8)) := by kernel_rfl
theorem sz56 : szOf Tryd.prog 56 = some 1 := by kernel_rfl
theorem by56 : byOf Tryd.prog 56 = some 8 := by kernel_rfl
theorem ag56 : isAggT Tryd.prog 56 = some false := by kernel_rfl
theorem sz57 : szOf Tryd.prog 57 = some 1 := by kernel_rfl
theorem by57 : byOf Tryd.prog 57 = some 8 := by kernel_rfl
theorem ag57 : isAggT Tryd.prog 57 = some false := by kernel_rfl
theorem sz58 : szOf Tryd.prog 58 = some 1 := by kernel_rfl
theorem by58 : byOf Tryd.prog 58 = some 8 := by kernel_rfl
theorem ag58 : isAggT Tryd.prog 58 = some false := by kernel_rfl
theorem sz59 : szOf Tryd.prog 59 = some 1 := by kernel_rfl
theorem by59 : byOf Tryd.prog 59 = some 8 := by kernel_rfl
theorem ag59 : isAggT Tryd.prog 59 = some false := by kernel_rfl
theorem sz60 : szOf Tryd.prog 60 = some 1 := by kernel_rfl
theorem by60 : byOf Tryd.prog 60 = some 8 := by kernel_rfl
theorem ag60 : isAggT Tryd.prog 60 = some false := by kernel_rfl
theorem sz61 : szOf Tryd.prog 61 = some 1 := by kernel_rfl
theorem by61 : byOf Tryd.prog 61 = some 8 := by kernel_rfl
theorem ag61 : isAggT Tryd.prog 61 = some false := by kernel_rfl
theorem zc61 : zcells Tryd.prog 61 = some ([.w64 0#64]) := by kernel_rfl
theorem sz62 : szOf Tryd.prog 62 = some 1 := by kernel_rfl
theorem by62 : byOf Tryd.prog 62 = some 8 := by kernel_rfl
theorem ag62 : isAggT Tryd.prog 62 = some false := by kernel_rfl
theorem sz63 : szOf Tryd.prog 63 = some 1 := by kernel_rfl
theorem by63 : byOf Tryd.prog 63 = some 8 := by kernel_rfl
theorem ag63 : isAggT Tryd.prog 63 = some false := by kernel_rfl
theorem zc63 : zcells Tryd.prog 63 = some ([.v (Value.pointer none)]) := by kernel_rfl
theorem sz64 : szOf Tryd.prog 64 = some 1 := by kernel_rfl
theorem by64 : byOf Tryd.prog 64 = some 8 := by kernel_rfl
theorem ag64 : isAggT Tryd.prog 64 = some false := by kernel_rfl
theorem zc64 : zcells Tryd.prog 64 = some ([.i 0]) := by kernel_rfl
theorem sz65 : szOf Tryd.prog 65 = some 1 := by kernel_rfl
theorem by65 : byOf Tryd.prog 65 = some 0 := by kernel_rfl
theorem ag65 : isAggT Tryd.prog 65 = some false := by kernel_rfl
theorem sz66 : szOf Tryd.prog 66 = some 1 := by kernel_rfl
theorem by66 : byOf Tryd.prog 66 = some 8 := by kernel_rfl
theorem ag66 : isAggT Tryd.prog 66 = some false := by kernel_rfl
theorem sz67 : szOf Tryd.prog 67 = some 1 := by kernel_rfl
theorem by67 : byOf Tryd.prog 67 = some 8 := by kernel_rfl
theorem ag67 : isAggT Tryd.prog 67 = some false := by kernel_rfl
theorem sz68 : szOf Tryd.prog 68 = some 1 := by kernel_rfl
theorem by68 : byOf Tryd.prog 68 = some 8 := by kernel_rfl
theorem ag68 : isAggT Tryd.prog 68 = some false := by kernel_rfl
theorem sz69 : szOf Tryd.prog 69 = some 1 := by kernel_rfl
theorem by69 : byOf Tryd.prog 69 = some 8 := by kernel_rfl
theorem ag69 : isAggT Tryd.prog 69 = some false := by kernel_rfl
theorem sz70 : szOf Tryd.prog 70 = some 1 := by kernel_rfl
theorem by70 : byOf Tryd.prog 70 = some 8 := by kernel_rfl
theorem ag70 : isAggT Tryd.prog 70 = some false := by kernel_rfl
theorem sz71 : szOf Tryd.prog 71 = some 1 := by kernel_rfl
theorem by71 : byOf Tryd.prog 71 = some 0 := by kernel_rfl
theorem ag71 : isAggT Tryd.prog 71 = some false := by kernel_rfl
theorem sz72 : szOf Tryd.prog 72 = some 1 := by kernel_rfl
theorem by72 : byOf Tryd.prog 72 = some 8 := by kernel_rfl
theorem ag72 : isAggT Tryd.prog 72 = some false := by kernel_rfl
theorem sz73 : szOf Tryd.prog 73 = some 1 := by kernel_rfl
theorem by73 : byOf Tryd.prog 73 = some 0 := by kernel_rfl
theorem ag73 : isAggT Tryd.prog 73 = some false := by kernel_rfl
theorem sz74 : szOf Tryd.prog 74 = some 1 := by kernel_rfl
theorem by74 : byOf Tryd.prog 74 = some 8 := by kernel_rfl
theorem ag74 : isAggT Tryd.prog 74 = some false := by kernel_rfl
theorem sz75 : szOf Tryd.prog 75 = some 1 := by kernel_rfl
theorem by75 : byOf Tryd.prog 75 = some 8 := by kernel_rfl
theorem ag75 : isAggT Tryd.prog 75 = some false := by kernel_rfl
theorem sz76 : szOf Tryd.prog 76 = some 1 := by kernel_rfl
theorem by76 : byOf Tryd.prog 76 = some 8 := by kernel_rfl
theorem ag76 : isAggT Tryd.prog 76 = some false := by kernel_rfl
theorem sz77 : szOf Tryd.prog 77 = some 1 := by kernel_rfl
theorem by77 : byOf Tryd.prog 77 = some 8 := by kernel_rfl
theorem ag77 : isAggT Tryd.prog 77 = some false := by kernel_rfl
theorem sz78 : szOf Tryd.prog 78 = some 1 := by kernel_rfl
theorem by78 : byOf Tryd.prog 78 = some 8 := by kernel_rfl
theorem ag78 : isAggT Tryd.prog 78 = some false := by kernel_rfl
theorem sz79 : szOf Tryd.prog 79 = some 1 := by kernel_rfl
theorem by79 : byOf Tryd.prog 79 = some 24 := by kernel_rfl
theorem ag79 : isAggT Tryd.prog 79 = some false := by kernel_rfl
theorem zc79 : zcells Tryd.prog 79 = some ([.v (Value.slice none 0 0)]) := by kernel_rfl
theorem ni79 : noIntT Tryd.prog 79 = true := by kernel_rfl
theorem sz80 : szOf Tryd.prog 80 = some 1 := by kernel_rfl
theorem by80 : byOf Tryd.prog 80 = some 8 := by kernel_rfl
theorem ag80 : isAggT Tryd.prog 80 = some false := by kernel_rfl
theorem sz81 : szOf Tryd.prog 81 = some 1 := by kernel_rfl
theorem by81 : byOf Tryd.prog 81 = some 24 := by kernel_rfl
theorem ag81 : isAggT Tryd.prog 81 = some false := by kernel_rfl
theorem zc81 : zcells Tryd.prog 81 = some ([.v (Value.slice none 0 0)]) := by kernel_rfl
theorem ni81 : noIntT Tryd.prog 81 = true := by kernel_rfl
theorem sz82 : szOf Tryd.prog 82 = some 1 := by kernel_rfl
theorem by82 : byOf Tryd.prog 82 = some 8 := by kernel_rfl
theorem ag82 : isAggT Tryd.prog 82 = some false := by kernel_rfl
theorem sz83 : szOf Tryd.prog 83 = some 8 := by kernel_rfl
theorem by83 : byOf Tryd.prog 83 = some 32 := by kernel_rfl
theorem ag83 : isAggT Tryd.prog 83 = some true := by kernel_rfl
theorem zc83 : zcells Tryd.prog 83 = some (List.replicate 8 (.w32 0#32)) := by kernel_rfl
theorem sz84 : szOf Tryd.prog 84 = some 8 := by kernel_rfl
theorem by84 : byOf Tryd.prog 84 = some 32 := by kernel_rfl
theorem ag84 : isAggT Tryd.prog 84 = some true := by kernel_rfl
theorem zc84 : zcells Tryd.prog 84 = some (List.replicate 8 (.w32 0#32)) := by kernel_rfl
theorem sz85 : szOf Tryd.prog 85 = some 1 := by kernel_rfl
theorem by85 : byOf Tryd.prog 85 = some 8 := by kernel_rfl
theorem ag85 : isAggT Tryd.prog 85 = some false := by kernel_rfl
theorem zc85 : zcells Tryd.prog 85 = some ([.w64 0#64]) := by kernel_rfl
theorem sz86 : szOf Tryd.prog 86 = some 1 := by kernel_rfl
theorem by86 : byOf Tryd.prog 86 = some 8 := by kernel_rfl
theorem ag86 : isAggT Tryd.prog 86 = some false := by kernel_rfl
theorem sz87 : szOf Tryd.prog 87 = some 128 := by kernel_rfl
theorem by87 : byOf Tryd.prog 87 = some 128 := by kernel_rfl
theorem ag87 : isAggT Tryd.prog 87 = some true := by kernel_rfl
theorem zc87 : zcells Tryd.prog 87 = some (List.replicate 128 (.w8 0#8)) := by kernel_rfl
theorem sz88 : szOf Tryd.prog 88 = some 64 := by kernel_rfl
theorem by88 : byOf Tryd.prog 88 = some 256 := by kernel_rfl
theorem ag88 : isAggT Tryd.prog 88 = some true := by kernel_rfl
theorem zc88 : zcells Tryd.prog 88 = some (List.replicate 64 (.w32 0#32)) := by kernel_rfl
theorem sz89 : szOf Tryd.prog 89 = some 1 := by kernel_rfl
theorem by89 : byOf Tryd.prog 89 = some 8 := by kernel_rfl
theorem ag89 : isAggT Tryd.prog 89 = some false := by kernel_rfl
theorem sz90 : szOf Tryd.prog 90 = some 1 := by kernel_rfl
theorem by90 : byOf Tryd.prog 90 = some 8 := by kernel_rfl
theorem ag90 : isAggT Tryd.prog 90 = some false := by kernel_rfl
theorem sz91 : szOf Tryd.prog 91 = some 1 := by kernel_rfl
theorem by91 : byOf Tryd.prog 91 = some 8 := by kernel_rfl
theorem ag91 : isAggT Tryd.prog 91 = some false := by kernel_rfl
theorem sz92 : szOf Tryd.prog 92 = some 1 := by kernel_rfl
theorem by92 : byOf Tryd.prog 92 = some 8 := by kernel_rfl
theorem ag92 : isAggT Tryd.prog 92 = some false := by kernel_rfl
theorem sz93 : szOf Tryd.prog 93 = some 1 := by kernel_rfl
theorem by93 : byOf Tryd.prog 93 = some 8 := by kernel_rfl
theorem ag93 : isAggT Tryd.prog 93 = some false := by kernel_rfl
theorem sz94 : szOf Tryd.prog 94 = some 16 := by kernel_rfl
theorem by94 : byOf Tryd.prog 94 = some 16 := by kernel_rfl
theorem ag94 : isAggT Tryd.prog 94 = some true := by kernel_rfl
theorem sz95 : szOf Tryd.prog 95 = some 512 := by kernel_rfl
theorem by95 : byOf Tryd.prog 95 = some 512 := by kernel_rfl
theorem ag95 : isAggT Tryd.prog 95 = some true := by kernel_rfl
theorem sz96 : szOf Tryd.prog 96 = some 1 := by kernel_rfl
theorem by96 : byOf Tryd.prog 96 = some 8 := by kernel_rfl
theorem ag96 : isAggT Tryd.prog 96 = some false := by kernel_rfl
theorem sz97 : szOf Tryd.prog 97 = some 1 := by kernel_rfl
theorem by97 : byOf Tryd.prog 97 = some 8 := by kernel_rfl
theorem ag97 : isAggT Tryd.prog 97 = some false := by kernel_rfl
theorem zc97 : zcells Tryd.prog 97 = some ([.v (Value.pointer none)]) := by kernel_rfl
theorem sz98 : szOf Tryd.prog 98 = some 1 := by kernel_rfl
theorem by98 : byOf Tryd.prog 98 = some 8 := by kernel_rfl
theorem ag98 : isAggT Tryd.prog 98 = some false := by kernel_rfl
theorem sz99 : szOf Tryd.prog 99 = some 1 := by kernel_rfl
theorem by99 : byOf Tryd.prog 99 = some 8 := by kernel_rfl
theorem ag99 : isAggT Tryd.prog 99 = some false := by kernel_rfl
theorem sz100 : szOf Tryd.prog 100 = some 1 := by kernel_rfl
theorem by100 : byOf Tryd.prog 100 = some 8 := by kernel_rfl
theorem ag100 : isAggT Tryd.prog 100 = some false := by kernel_rfl
theorem sz101 : szOf Tryd.prog 101 = some 1 := by kernel_rfl
theorem by101 : byOf Tryd.prog 101 = some 8 := by kernel_rfl
theorem ag101 : isAggT Tryd.prog 101 = some false := by kernel_rfl
theorem sz102 : szOf Tryd.prog 102 = some 1 := by kernel_rfl
theorem by102 : byOf Tryd.prog 102 = some 8 := by kernel_rfl
theorem ag102 : isAggT Tryd.prog 102 = some false := by kernel_rfl
theorem sz103 : szOf Tryd.prog 103 = some 1 := by kernel_rfl
theorem by103 : byOf Tryd.prog 103 = some 8 := by kernel_rfl
theorem ag103 : isAggT Tryd.prog 103 = some false := by kernel_rfl
theorem sz104 : szOf Tryd.prog 104 = some 9 := by kernel_rfl
theorem by104 : byOf Tryd.prog 104 = some 32 := by kernel_rfl
theorem ag104 : isAggT Tryd.prog 104 = some true := by kernel_rfl
theorem sz105 : szOf Tryd.prog 105 = some 9 := by kernel_rfl
theorem by105 : byOf Tryd.prog 105 = some 32 := by kernel_rfl
theorem ag105 : isAggT Tryd.prog 105 = some true := by kernel_rfl
theorem sz106 : szOf Tryd.prog 106 = some 1 := by kernel_rfl
theorem by106 : byOf Tryd.prog 106 = some 8 := by kernel_rfl
theorem ag106 : isAggT Tryd.prog 106 = some false := by kernel_rfl
theorem sz107 : szOf Tryd.prog 107 = some 1 := by kernel_rfl
theorem by107 : byOf Tryd.prog 107 = some 8 := by kernel_rfl
theorem ag107 : isAggT Tryd.prog 107 = some false := by kernel_rfl
theorem zc107 : zcells Tryd.prog 107 = some ([.v (Value.pointer none)]) := by kernel_rfl
theorem sz108 : szOf Tryd.prog 108 = some 1 := by kernel_rfl
theorem by108 : byOf Tryd.prog 108 = some 8 := by kernel_rfl
theorem ag108 : isAggT Tryd.prog 108 = some false := by kernel_rfl
theorem sz109 : szOf Tryd.prog 109 = some 1 := by kernel_rfl
theorem by109 : byOf Tryd.prog 109 = some 8 := by kernel_rfl
theorem ag109 : isAggT Tryd.prog 109 = some false := by kernel_rfl
theorem sz110 : szOf Tryd.prog 110 = some 1 := by kernel_rfl
theorem by110 : byOf Tryd.prog 110 = some 8 := by kernel_rfl
theorem ag110 : isAggT Tryd.prog 110 = some false := by kernel_rfl
theorem sz111 : szOf Tryd.prog 111 = some 1 := by kernel_rfl
theorem by111 : byOf Tryd.prog 111 = some 8 := by kernel_rfl
theorem ag111 : isAggT Tryd.prog 111 = some false := by kernel_rfl
theorem sz112 : szOf Tryd.prog 112 = some 1 := by kernel_rfl
theorem by112 : byOf Tryd.prog 112 = some 8 := by kernel_rfl
theorem ag112 : isAggT Tryd.prog 112 = some false := by kernel_rfl
theorem sz113 : szOf Tryd.prog 113 = some 1 := by kernel_rfl
theorem by113 : byOf Tryd.prog 113 = some 8 := by kernel_rfl
theorem ag113 : isAggT Tryd.prog 113 = some false := by kernel_rfl
theorem sz114 : szOf Tryd.prog 114 = some 4 := by kernel_rfl
theorem by114 : byOf Tryd.prog 114 = some 40 := by kernel_rfl
theorem ag114 : isAggT Tryd.prog 114 = some true := by kernel_rfl
theorem zc114 : zcells Tryd.prog 114 = some ([.v (Value.pointer none), .v (Value.pointer none), .v (Value.pointer none), .s []]) := by kernel_rfl
theorem sz115 : szOf Tryd.prog 115 = some 4 := by kernel_rfl
theorem by115 : byOf Tryd.prog 115 = some 40 := by kernel_rfl
theorem ag115 : isAggT Tryd.prog 115 = some true := by kernel_rfl
theorem zc115 : zcells Tryd.prog 115 = some ([.v (Value.pointer none), .v (Value.pointer none), .v (Value.pointer none), .s []]) := by kernel_rfl
theorem sz116 : szOf Tryd.prog 116 = some 0 := by kernel_rfl
theorem by116 : byOf Tryd.prog 116 = some 0 := by kernel_rfl
theorem ag116 : isAggT Tryd.prog 116 = some true := by kernel_rfl
theorem zc116 : zcells Tryd.prog 116 = some (List.replicate 0 (.v (Value.pointer none))) := by kernel_rfl
theorem sz117 : szOf Tryd.prog 117 = some 0 := by kernel_rfl
theorem by117 : byOf Tryd.prog 117 = some 0 := by kernel_rfl
theorem ag117 : isAggT Tryd.prog 117 = some true := by kernel_rfl
theorem sz118 : szOf Tryd.prog 118 = some 0 := by kernel_rfl
theorem by118 : byOf Tryd.prog 118 = some 0 := by kernel_rfl
theorem ag118 : isAggT Tryd.prog 118 = some true := by kernel_rfl
theorem sz119 : szOf Tryd.prog 119 = some 1 := by kernel_rfl
theorem by119 : byOf Tryd.prog 119 = some 8 := by kernel_rfl
theorem ag119 : isAggT Tryd.prog 119 = some false := by kernel_rfl
theorem sz120 : szOf Tryd.prog 120 = some 1 := by kernel_rfl
theorem by120 : byOf Tryd.prog 120 = some 1 := by kernel_rfl
theorem ag120 : isAggT Tryd.prog 120 = some false := by kernel_rfl
theorem zc120 : zcells Tryd.prog 120 = some ([.w8 0#8]) := by kernel_rfl
theorem sz121 : szOf Tryd.prog 121 = some 1 := by kernel_rfl
theorem by121 : byOf Tryd.prog 121 = some 1 := by kernel_rfl
theorem ag121 : isAggT Tryd.prog 121 = some false := by kernel_rfl
theorem zc121 : zcells Tryd.prog 121 = some ([.w8 0#8]) := by kernel_rfl
theorem sz122 : szOf Tryd.prog 122 = some 1 := by kernel_rfl
theorem by122 : byOf Tryd.prog 122 = some 8 := by kernel_rfl
theorem ag122 : isAggT Tryd.prog 122 = some false := by kernel_rfl
theorem sz123 : szOf Tryd.prog 123 = some 1 := by kernel_rfl
theorem by123 : byOf Tryd.prog 123 = some 8 := by kernel_rfl
theorem ag123 : isAggT Tryd.prog 123 = some false := by kernel_rfl
theorem zc123 : zcells Tryd.prog 123 = some ([.v (Value.pointer none)]) := by kernel_rfl
theorem sz124 : szOf Tryd.prog 124 = some 1 := by kernel_rfl
theorem by124 : byOf Tryd.prog 124 = some 4 := by kernel_rfl
theorem ag124 : isAggT Tryd.prog 124 = some false := by kernel_rfl
theorem sz125 : szOf Tryd.prog 125 = some 1 := by kernel_rfl
theorem by125 : byOf Tryd.prog 125 = some 4 := by kernel_rfl
theorem ag125 : isAggT Tryd.prog 125 = some false := by kernel_rfl
theorem sz126 : szOf Tryd.prog 126 = some 11 := by kernel_rfl
theorem by126 : byOf Tryd.prog 126 = some 48 := by kernel_rfl
theorem ag126 : isAggT Tryd.prog 126 = some true := by kernel_rfl
theorem sz127 : szOf Tryd.prog 127 = some 11 := by kernel_rfl
theorem by127 : byOf Tryd.prog 127 = some 48 := by kernel_rfl
theorem ag127 : isAggT Tryd.prog 127 = some true := by kernel_rfl
theorem sz128 : szOf Tryd.prog 128 = some 1 := by kernel_rfl
theorem by128 : byOf Tryd.prog 128 = some 8 := by kernel_rfl
theorem ag128 : isAggT Tryd.prog 128 = some false := by kernel_rfl
theorem zc128 : zcells Tryd.prog 128 = some ([.v (Value.pointer none)]) := by kernel_rfl
attribute [go_sem] sz0 sz1 sz2 sz3 sz4 sz5 sz6 sz7 sz8 sz9 sz10 sz11 sz12 sz13 sz14 sz15 sz16 sz17 sz18 sz19 sz20 sz21 sz22 sz23 sz24 sz25 sz26 sz27 sz28 sz29 sz30 sz31 sz32 sz33 sz34 sz35 sz36 sz37 sz38 sz39
attribute [go_sem] sz40 sz41 sz42 sz43 sz44 sz45 sz46 sz47 sz48 sz49 sz50 sz51 sz52 sz53 sz54 sz55 sz56 sz57 sz58 sz59 sz60 sz61 sz62 sz63 sz64 sz65 sz66 sz67 sz68 sz69 sz70 sz71 sz72 sz73 sz74 sz75 sz76 sz77 sz78 sz79
attribute [go_sem] sz80 sz81 sz82 sz83 sz84 sz85 sz86 sz87 sz88 sz89 sz90 sz91 sz92 sz93 sz94 sz95 sz96 sz97 sz98 sz99 sz100 sz101 sz102 sz103 sz104 sz105 sz106 sz107 sz108 sz109 sz110 sz111 sz112 sz113 sz114 sz115 sz116 sz117 sz118 sz119
attribute [go_sem] sz120 sz121 sz122 sz123 sz124 sz125 sz126 sz127 sz128 by0 by1 by2 by3 by4 by5 by6 by7 by8 by9 by10 by11 by12 by13 by14 by15 by16 by17 by18 by19 by20 by21 by22 by23 by24 by25 by26 by27 by28 by29 by30
attribute [go_sem] by31 by32 by33 by34 by35 by36 by37 by38 by39 by40 by41 by42 by43 by44 by45 by46 by47 by48 by49 by50 by51 by52 by53 by54 by55 by56 by57 by58 by59 by60 by61 by62 by63 by64 by65 by66 by67 by68 by69 by70
attribute [go_sem] by71 by72 by73 by74 by75 by76 by77 by78 by79 by80 by81 by82 by83 by84 by85 by86 by87 by88 by89 by90 by91 by92 by93 by94 by95 by96 by97 by98 by99 by100 by101 by102 by103 by104 by105 by106 by107 by108 by109 by110
attribute [go_sem] by111 by112 by113 by114 by115 by116 by117 by118 by119 by120 by121 by122 by123 by124 by125 by126 by127 by128 ag0 ag1 ag2 ag3 ag4 ag5 ag6 ag7 ag8 ag9 ag10 ag11 ag12 ag13 ag14 ag15 ag16 ag17 ag18 ag19 ag20 ag21
attribute [go_sem] ag22 ag23 ag24 ag25 ag26 ag27 ag28 ag29 ag30 ag31 ag32 ag33 ag34 ag35 ag36 ag37 ag38 ag39 ag40 ag41 ag42 ag43 ag44 ag45 ag46 ag47 ag48 ag49 ag50 ag51 ag52 ag53 ag54 ag55 ag56 ag57 ag58 ag59 ag60 ag61
attribute [go_sem] ag62 ag63 ag64 ag65 ag66 ag67 ag68 ag69 ag70 ag71 ag72 ag73 ag74 ag75 ag76 ag77 ag78 ag79 ag80 ag81 ag82 ag83 ag84 ag85 ag86 ag87 ag88 ag89 ag90 ag91 ag92 ag93 ag94 ag95 ag96 ag97 ag98 ag99 ag100 ag101
attribute [go_sem] ag102 ag103 ag104 ag105 ag106 ag107 ag108 ag109 ag110 ag111 ag112 ag113 ag114 ag115 ag116 ag117 ag118 ag119 ag120 ag121 ag122 ag123 ag124 ag125 ag126 ag127 ag128 zc2 zc3 zc4 zc5 zc6 zc7 zc8 zc9 ni9 zc10 ni10 zc11 ni11
attribute [go_sem] zc12 zc13 zc14 zc15 zc16 zc17 zc18 zc19 zc22 ni22 zc24 zc27 ni27 zc28 zc36 zc44 zc48 ni48 zc49 ni49 zc55 zc61 zc63 zc64 zc79 ni79 zc81 ni81 zc83 zc84 zc85 zc87 zc88 zc97 zc107 zc114 zc115 zc116 zc120 zc121
attribute [go_sem] zc123 zc128 Tryd.underlying0 Tryd.underlying1 Tryd.underlying2 Tryd.underlying3 Tryd.underlying4 Tryd.underlying5 Tryd.underlying6 Tryd.underlying7 Tryd.underlying8 Tryd.underlying9 Tryd.underlying10 Tryd.underlying11 Tryd.underlying12 Tryd.underlying13 Tryd.underlying14 Tryd.underlying15 Tryd.underlying16 Tryd.underlying17 Tryd.underlying18 Tryd.underlying19 Tryd.underlying20 Tryd.underlying21 Tryd.underlying22 Tryd.underlying23 Tryd.underlying24 Tryd.underlying25 Tryd.underlying26 Tryd.underlying27 Tryd.underlying28 Tryd.underlying29 Tryd.underlying30 Tryd.underlying31 Tryd.underlying32 Tryd.underlying33 Tryd.underlying34 Tryd.underlying35 Tryd.underlying36 Tryd.underlying37
attribute [go_sem] Tryd.underlying38 Tryd.underlying39 Tryd.underlying40 Tryd.underlying41 Tryd.underlying42 Tryd.underlying43 Tryd.underlying44 Tryd.underlying45 Tryd.underlying46 Tryd.underlying47 Tryd.underlying48 Tryd.underlying49 Tryd.underlying50 Tryd.underlying51 Tryd.underlying52 Tryd.underlying53 Tryd.underlying54 Tryd.underlying55 Tryd.underlying56 Tryd.underlying57 Tryd.underlying58 Tryd.underlying59 Tryd.underlying60 Tryd.underlying61 Tryd.underlying62 Tryd.underlying63 Tryd.underlying64 Tryd.underlying65 Tryd.underlying66 Tryd.underlying67 Tryd.underlying68 Tryd.underlying69 Tryd.underlying70 Tryd.underlying71 Tryd.underlying72 Tryd.underlying73 Tryd.underlying74 Tryd.underlying75 Tryd.underlying76 Tryd.underlying77
attribute [go_sem] Tryd.underlying78 Tryd.underlying79 Tryd.underlying80 Tryd.underlying81 Tryd.underlying82 Tryd.underlying83 Tryd.underlying84 Tryd.underlying85 Tryd.underlying86 Tryd.underlying87 Tryd.underlying88 Tryd.underlying89 Tryd.underlying90 Tryd.underlying91 Tryd.underlying92 Tryd.underlying93 Tryd.underlying94 Tryd.underlying95 Tryd.underlying96 Tryd.underlying97 Tryd.underlying98 Tryd.underlying99 Tryd.underlying100 Tryd.underlying101 Tryd.underlying102 Tryd.underlying103 Tryd.underlying104 Tryd.underlying105 Tryd.underlying106 Tryd.underlying107 Tryd.underlying108 Tryd.underlying109 Tryd.underlying110 Tryd.underlying111 Tryd.underlying112 Tryd.underlying113 Tryd.underlying114 Tryd.underlying115 Tryd.underlying116 Tryd.underlying117
attribute [go_sem] Tryd.underlying118 Tryd.underlying119 Tryd.underlying120 Tryd.underlying121 Tryd.underlying122 Tryd.underlying123 Tryd.underlying124 Tryd.underlying125 Tryd.underlying126 Tryd.underlying127 Tryd.underlying128
end Go.AX
