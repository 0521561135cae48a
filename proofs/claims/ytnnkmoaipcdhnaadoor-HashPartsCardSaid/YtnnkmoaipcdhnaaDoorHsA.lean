/-
  Hash, part A: what the sums are, in plain Lean; turning and mixing as the program does it.
-/
import Derived.Test.YtnnkmoaipcdhnaaDoorAxY
namespace Go.AX
open Go Go.Proofs

abbrev B8 := BitVec 8
abbrev W32 := BitVec 32

def KT : List W32 := [
  0x428a2f98#32, 0x71374491#32, 0xb5c0fbcf#32, 0xe9b5dba5#32, 0x3956c25b#32, 0x59f111f1#32, 0x923f82a4#32, 0xab1c5ed5#32,
  0xd807aa98#32, 0x12835b01#32, 0x243185be#32, 0x550c7dc3#32, 0x72be5d74#32, 0x80deb1fe#32, 0x9bdc06a7#32, 0xc19bf174#32,
  0xe49b69c1#32, 0xefbe4786#32, 0x0fc19dc6#32, 0x240ca1cc#32, 0x2de92c6f#32, 0x4a7484aa#32, 0x5cb0a9dc#32, 0x76f988da#32,
  0x983e5152#32, 0xa831c66d#32, 0xb00327c8#32, 0xbf597fc7#32, 0xc6e00bf3#32, 0xd5a79147#32, 0x06ca6351#32, 0x14292967#32,
  0x27b70a85#32, 0x2e1b2138#32, 0x4d2c6dfc#32, 0x53380d13#32, 0x650a7354#32, 0x766a0abb#32, 0x81c2c92e#32, 0x92722c85#32,
  0xa2bfe8a1#32, 0xa81a664b#32, 0xc24b8b70#32, 0xc76c51a3#32, 0xd192e819#32, 0xd6990624#32, 0xf40e3585#32, 0x106aa070#32,
  0x19a4c116#32, 0x1e376c08#32, 0x2748774c#32, 0x34b0bcb5#32, 0x391c0cb3#32, 0x4ed8aa4a#32, 0x5b9cca4f#32, 0x682e6ff3#32,
  0x748f82ee#32, 0x78a5636f#32, 0x84c87814#32, 0x8cc70208#32, 0x90befffa#32, 0xa4506ceb#32, 0xbef9a3f7#32, 0xc67178f2#32]
theorem KT_len : KT.length = 64 := (rfl)
theorem KT_take : (c32 KT).take 64 = c32 KT := (rfl)
def GLh : Nat → Option (List AV) := fun g => if g = 0 then some (c32 KT) else none
theorem evg0 (fr : List (Nat × AV)) : ev GLh fr (.global 0) = .rp (c32 KT) := (rfl)

def ro (x : W32) (k : Nat) : W32 := x <<< (32 - k) ||| x >>> k
def word (b : List B8) (i : Nat) : W32 :=
  (b.getD (4 * i) 0#8).setWidth 32 <<< 24 ||| (b.getD (4 * i + 1) 0#8).setWidth 32 <<< 16 ||| (b.getD (4 * i + 2) 0#8).setWidth 32 <<< 8 ||| (b.getD (4 * i + 3) 0#8).setWidth 32
def w16 (b : List B8) : Nat → List W32
  | 0 => List.replicate 64 0#32
  | i + 1 => (w16 b i).set i (word b i)
def nextw (w : List W32) (i : Nat) : W32 :=
  w.getD (i - 16) 0#32 + w.getD (i - 7) 0#32 + (ro (w.getD (i - 15) 0#32) 7 ^^^ ro (w.getD (i - 15) 0#32) 18 ^^^ w.getD (i - 15) 0#32 >>> 3) + (ro (w.getD (i - 2) 0#32) 17 ^^^ ro (w.getD (i - 2) 0#32) 19 ^^^ w.getD (i - 2) 0#32 >>> 10)
def w64 (b : List B8) : Nat → List W32
  | 0 => w16 b 16
  | i + 1 => (w64 b i).set (16 + i) (nextw (w64 b i) (16 + i))
structure V8 where
  a : W32
  c : W32
  d : W32
  e : W32
  f : W32
  g : W32
  h : W32
  i : W32
def one (v : V8) (x w : W32) : W32 := v.i + (ro v.f 6 ^^^ ro v.f 11 ^^^ ro v.f 25) + (v.f &&& v.g ^^^ ~~~v.f &&& v.h) + x + w
def two (v : V8) : W32 := (ro v.a 2 ^^^ ro v.a 13 ^^^ ro v.a 22) + (v.a &&& v.c ^^^ v.a &&& v.d ^^^ v.c &&& v.d)
def rnd (v : V8) (x w : W32) : V8 := ⟨one v x w + two v, v.a, v.c, v.d, v.e + one v x w, v.f, v.g, v.h⟩
def rnds (w : List W32) (v : V8) : Nat → V8
  | 0 => v
  | k + 1 => rnd (rnds w v k) (KT.getD k 0#32) (w.getD k 0#32)
def v8 (s : List W32) : V8 := ⟨s.getD 0 0#32, s.getD 1 0#32, s.getD 2 0#32, s.getD 3 0#32, s.getD 4 0#32, s.getD 5 0#32, s.getD 6 0#32, s.getD 7 0#32⟩
def l8 (v : V8) : List W32 := [v.a, v.c, v.d, v.e, v.f, v.g, v.h, v.i]
def add8 (s x : List W32) : Nat → List W32
  | 0 => s
  | k + 1 => (add8 s x k).set k ((add8 s x k).getD k 0#32 + x.getD k 0#32)
/-- A block mixed in. -/
def comp (s : List W32) (b : List B8) : List W32 := add8 s (l8 (rnds (w64 b 48) (v8 s) 64)) 8

theorem w16_len (b : List B8) (i : Nat) : (w16 b i).length = 64 := by
  induction i with
  | zero => rfl
  | succ i ih => simp only [w16, List.length_set, ih]
theorem w64_len (b : List B8) (i : Nat) : (w64 b i).length = 64 := by
  induction i with
  | zero => exact w16_len b 16
  | succ i ih => simp only [w64, List.length_set, ih]
theorem add8_len (s x : List W32) (i : Nat) : (add8 s x i).length = s.length := by
  induction i with
  | zero => rfl
  | succ i ih => simp only [add8, List.length_set, ih]
theorem comp_len (s : List W32) (b : List B8) : (comp s b).length = s.length := add8_len _ _ _

def rotG : List AV → Option AV
  | [.w32 x, .i k] => some (.w32 (x <<< (BitVec.ofInt 64 k &&& 31#64).toNat ||| x >>> (32#64 - (BitVec.ofInt 64 k &&& 31#64)).toNat))
  | _ => none
theorem rotG_eq (x : W32) (k : Int) : rotG [.w32 x, .i k] = some (.w32 (x <<< (BitVec.ofInt 64 k &&& 31#64).toNat ||| x >>> (32#64 - (BitVec.ofInt 64 k &&& 31#64)).toNat)) := (rfl)

theorem rot_ok (GL : Nat → Option (List AV)) : PureOK Tryd.prog GL 81 rotG := by
  refine pure_of_awp Tryd.func81 (bodyOf_some rfl) ?_
  intro args r hg
  unfold rotG at hg
  split at hg
  · rename_i x k
    obtain rfl := Option.some.inj hg
    refine ⟨Nat.le_of_ble_eq_true rfl, fun nx => ?_⟩
    refine awp_seqP rfl ?_
    refine awp_regP (Γ := noEnv) [0, 1] (noEnv_ok _ _) rfl rfl rfl (fun K hK => ?_)
    simp only [Tryd.f81, bodyOf, Option.getD_some, cl, rOps, lights, light, rN, List.size_toArray, List.length_cons, List.length_nil, Nat.zero_add, List.map_cons, List.map_nil, Option.map_none]
    simp (maxSteps := 300000) (disch := omega) only [go_sem, Nat.reduceEqDiff, Int.reduceLE, Int.reduceLT, BitVec.reduceOfInt, reduceCtorEq, ↓reduceIte]
    with_reducible refine hK _ ?_
    clear hK K
    repeat (first | with_reducible refine nx_then ?_ | with_reducible refine nx_blk ?_ | with_reducible refine nx_loop ?_ | with_reducible refine nx_ex_then ?_ | with_reducible refine nx_ex_loop ?_ | with_reducible refine nx_ex_blk ?_ | with_reducible refine nx_ret_then ?_ | with_reducible refine nx_ret_blk ?_ | with_reducible refine nx_ret_loop ?_)
    refine awp_seqP rfl ?_
    refine awp_regP (Γ := noEnv) [0, 5] (noEnv_ok _ _) rfl rfl rfl (fun K hK => ?_)
    simp only [Tryd.f81, bodyOf, Option.getD_some, cl, cr, rOps, lights, light, rN, List.size_toArray, List.length_cons, List.length_nil, Nat.reduceAdd, Nat.zero_add, List.map_cons, List.map_nil, Option.map_none]
    simp (maxSteps := 300000) (disch := omega) only [go_sem, Nat.reduceAdd, Nat.reduceEqDiff, Int.reduceLE, Int.reduceLT, BitVec.reduceOfInt, reduceCtorEq, ↓reduceIte]
    with_reducible refine hK _ ?_
    clear hK K
    repeat (first | with_reducible refine nx_then ?_ | with_reducible refine nx_blk ?_ | with_reducible refine nx_loop ?_ | with_reducible refine nx_ex_then ?_ | with_reducible refine nx_ex_loop ?_ | with_reducible refine nx_ex_blk ?_ | with_reducible refine nx_ret_then ?_ | with_reducible refine nx_ret_blk ?_ | with_reducible refine nx_ret_loop ?_)
    refine awp_seqP rfl ?_
    refine awp_regP (Γ := noEnv) [4] (noEnv_ok _ _) rfl rfl rfl (fun K hK => ?_)
    simp only [Tryd.f81, bodyOf, Option.getD_some, cl, cr, rOps, lights, light, rN, List.size_toArray, List.length_cons, List.length_nil, Nat.reduceAdd, Nat.zero_add, List.map_cons, List.map_nil, Option.map_none]
    simp (maxSteps := 300000) (disch := omega) only [go_sem, Nat.reduceAdd, Nat.reduceEqDiff, Int.reduceLE, Int.reduceLT, BitVec.reduceOfInt, reduceCtorEq, ↓reduceIte]
    with_reducible refine hK _ ?_
    clear hK K
    repeat (first | with_reducible refine nx_then ?_ | with_reducible refine nx_blk ?_ | with_reducible refine nx_loop ?_ | with_reducible refine nx_ex_then ?_ | with_reducible refine nx_ex_loop ?_ | with_reducible refine nx_ex_blk ?_ | with_reducible refine nx_ret_then ?_ | with_reducible refine nx_ret_blk ?_ | with_reducible refine nx_ret_loop ?_)
    refine awp_retP rfl ?_
    simp only [pureQ, resA, resAL, resA1, Tryd.f81, go_sem, ↓reduceIte, immF]
  · cases hg
end Go.AX
