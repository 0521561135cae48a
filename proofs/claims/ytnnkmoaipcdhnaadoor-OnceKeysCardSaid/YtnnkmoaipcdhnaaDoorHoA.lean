/-
  Once, part A: secrets, locks, words of four bytes.
-/
import Derived.Test.YtnnkmoaipcdhnaaDoorHsQ
namespace Go.AX
open Go Go.Proofs

def frzX (hp : H) (xs : List AV) : Bool → Option (List AV × H) | true => some (xs, hp) | false => frzRec hp xs
theorem frzL_x (hp : H) (xs : List AV) : frzL hp xs = frzX hp xs (noOs xs) := by unfold frzL frzX; cases noOs xs <;> rfl
theorem frzX_t (hp : H) (xs : List AV) : frzX hp xs true = some (xs, hp) := (rfl)
theorem frzX_f (hp : H) (xs : List AV) : frzX hp xs false = frzRec hp xs := (rfl)
theorem noOs_nil : noOs [] = true := (rfl)
theorem noOs_w8 (x : B8) (r : List AV) : noOs (.w8 x :: r) = noOs r := by simp [noOs, isOs]
theorem noOs_s (x : List B8) (r : List AV) : noOs (.s x :: r) = noOs r := by simp [noOs, isOs]
theorem noOs_w16 (x : BitVec 16) (r : List AV) : noOs (.w16 x :: r) = noOs r := by simp [noOs, isOs]
theorem noOs_w32 (x : W32) (r : List AV) : noOs (.w32 x :: r) = noOs r := by simp [noOs, isOs]
theorem noOs_i (x : Int) (r : List AV) : noOs (.i x :: r) = noOs r := by simp [noOs, isOs]
theorem noOs_os (a b c d : Nat) (e : Bool) (r : List AV) : noOs (.os a b c d e :: r) = false := by simp [noOs, isOs]
theorem app1 (l : List B8) (a : B8) : c8 l ++ [AV.w8 a] = c8 (l ++ [a]) := by simp [c8]
theorem app2 (l : List B8) (a b : B8) : c8 l ++ [AV.w8 a, .w8 b] = c8 (l ++ [a, b]) := by simp [c8]
attribute [go_sem] frzL_x frzX_t frzX_f noOs_nil noOs_w8 noOs_s noOs_w16 noOs_w32 noOs_i noOs_os c8_noOs app1 app2
def w4 (n : W32) : List B8 := [(n >>> 24).setWidth 8, (n >>> 16).setWidth 8, (n >>> 8).setWidth 8, n.setWidth 8]
def secretL (seed : List B8) (leaf : W32) (i v : B8) : List B8 := shortL 1#8 [seed, w4 leaf, [i], [v]]
def lockL (s : List B8) : List B8 := shortL 2#8 [s]
theorem w4_len (n : W32) : (w4 n).length = 4 := rfl
theorem secretL_len (seed : List B8) (leaf : W32) (i v : B8) : (secretL seed leaf i v).length = 8 := shortL_len _ _
theorem lockL_len (s : List B8) : (lockL s).length = 8 := shortL_len _ _
theorem shF_eq (a b c d : B8) : [AV.w8 a, .w8 b, .w8 c, .w8 d] = c8 [a, b, c, d] := (rfl)

def secretK (b : List B8) (leaf : W32) (n : Int) (v : B8) : Option AV := guardO (b.length = 8) (some (.agg (c8 (secretL b leaf (BitVec.ofInt 8 n) v))))
def secretG : List AV → Option AV
  | [.agg xs, .w32 leaf, .i n, .w8 v] => obind (un8 xs) fun b => secretK b leaf n v
  | _ => none
theorem secretG_eq (xs : List AV) (leaf : W32) (n : Int) (v : B8) : secretG [.agg xs, .w32 leaf, .i n, .w8 v] = obind (un8 xs) fun b => secretK b leaf n v := (rfl)
theorem secretK_eq (b : List B8) (leaf : W32) (n : Int) (v : B8) : secretK b leaf n v = guardO (b.length = 8) (some (.agg (c8 (secretL b leaf (BitVec.ofInt 8 n) v)))) := (rfl)
def lockG : List AV → Option AV
  | [.sl n xs] => obind (un8 xs) fun b => guardO (b.length = n ∧ n ≤ 800000000) (some (.agg (c8 (lockL b))))
  | _ => none
theorem lockG_eq (n : Nat) (xs : List AV) : lockG [.sl n xs] = obind (un8 xs) fun b => guardO (b.length = n ∧ n ≤ 800000000) (some (.agg (c8 (lockL b)))) := (rfl)
def bitL (d : W32) (i : Nat) : B8 := ((d >>> (31 - i)) &&& 1#32).setWidth 8
def bitG : List AV → Option AV
  | [.w32 d, .i n] => guardO (0 ≤ n ∧ n < 32) (some (.w8 (bitL d n.toNat)))
  | _ => none
theorem bitG_eq (d : W32) (n : Int) : bitG [.w32 d, .i n] = guardO (0 ≤ n ∧ n < 32) (some (.w8 (bitL d n.toNat))) := (rfl)
attribute [go_sem] secretG_eq secretK_eq lockG_eq bitG_eq w4_len secretL_len lockL_len

set_option maxHeartbeats 4000000 in
theorem secret_ok : PureOK Tryd.prog GLh 65 secretG := by
  refine pure_of_awp Tryd.func65 (bodyOf_some rfl) ?_
  intro args r hg
  unfold secretG at hg
  split at hg
  · rename_i xs leaf n v
    replace hg := obind_inv hg; obtain ⟨b, hb, hg⟩ := hg
    rw [secretK_eq] at hg
    replace hg := guardO_inv hg; obtain ⟨hn, hg⟩ := hg
    obtain rfl := Option.some.inj hg
    have := un8_inv _ hb; subst this
    clear hg hb
    refine ⟨Nat.le_of_ble_eq_true rfl, fun nx => ?_⟩
    have hs := secretL_len b leaf (BitVec.ofInt 8 n) v
    have hf : shortL 1#8 [b, [(leaf >>> 24).setWidth 8, (leaf >>> 16).setWidth 8, (leaf >>> 8).setWidth 8, leaf.setWidth 8], [BitVec.ofInt 8 n], [v]] = secretL b leaf (BitVec.ofInt 8 n) v := rfl
    refine awp_seqP rfl ?_
    refine awp_regP (Γ := noEnv) [1, 2, 3, 4, 8] (noEnv_ok _ _) rfl rfl rfl (fun K hK => ?_)
    simp only [Tryd.f65, bodyOf, Option.getD_some, cl, rOps, lights, light, rN, List.size_toArray, List.length_cons, List.length_nil, Nat.reduceAdd, Nat.zero_add, List.map_cons, List.map_nil, Option.map_none]
    simp (maxSteps := 300000) (disch := omega) only [go_sem, Nat.reduceAdd, ↓reduceIte]
    with_reducible refine hK _ ?_
    clear hK K
    refine nx_then ?_
    refine awp_seqP rfl ?_
    refine awp_regP (Γ := envL [(24, .pure true shortG)]) [8] (envOK_cons ok24 envOK_nil) rfl rfl rfl (fun K hK => ?_)
    simp only [Tryd.f65, bodyOf, Option.getD_some, cl, cr, rOps, lights, light, rN, List.size_toArray, List.length_cons, List.length_nil, Nat.reduceAdd, Nat.zero_add, List.map_cons, List.map_nil, Option.map_none]
    simp (maxSteps := 300000) (disch := omega) only [go_sem, Nat.reduceAdd, Nat.reduceSub, Nat.reduceLeDiff, Nat.reduceLT, Int.reduceLE, Int.reduceLT, Int.reduceToNat, BitVec.reduceOfInt, BitVec.reduceToNat, ↓reduceIte, hn, hf]
    with_reducible refine hK _ ?_
    clear hK K
    refine nx_then ?_
    refine awp_retP rfl ?_
    simp (disch := omega) only [pureQ, resA, resAL, resA1, Tryd.f65, go_sem, Nat.reduceLeDiff, ↓reduceIte, ldV, imm_c8, hs]
  · cases hg
theorem ok65 : EntOK Tryd.prog GLh 65 (.pure true secretG) := ⟨⟨_, Tryd.func65, rfl, rfl⟩, secret_ok⟩

set_option maxHeartbeats 4000000 in
theorem lock_ok : PureOK Tryd.prog GLh 66 lockG := by
  refine pure_of_awp Tryd.func66 (bodyOf_some rfl) ?_
  intro args r hg
  unfold lockG at hg
  split at hg
  · rename_i n xs
    replace hg := obind_inv hg; obtain ⟨b, hb, hg⟩ := hg
    replace hg := guardO_inv hg; obtain ⟨⟨hn, hbig⟩, hg⟩ := hg
    obtain rfl := Option.some.inj hg
    have := un8_inv _ hb; subst this
    subst hn
    clear hg hb
    refine ⟨Nat.le_of_ble_eq_true rfl, fun nx => ?_⟩
    have hs := lockL_len b
    have hf : shortL 2#8 [b] = lockL b := rfl
    refine awp_seqP rfl ?_
    refine awp_regP (Γ := noEnv) [0, 2] (noEnv_ok _ _) rfl rfl rfl (fun K hK => ?_)
    simp only [Tryd.f66, bodyOf, Option.getD_some, cl, rOps, lights, light, rN, List.size_toArray, List.length_cons, List.length_nil, Nat.zero_add, List.map_cons, List.map_nil, Option.map_none]
    simp (maxSteps := 300000) (disch := omega) only [go_sem, ↓reduceIte]
    with_reducible refine hK _ ?_
    clear hK K
    refine nx_then ?_
    refine awp_seqP rfl ?_
    refine awp_regP (Γ := envL [(24, .pure true shortG)]) [2] (envOK_cons ok24 envOK_nil) rfl rfl rfl (fun K hK => ?_)
    simp only [Tryd.f66, bodyOf, Option.getD_some, cl, cr, rOps, lights, light, rN, List.size_toArray, List.length_cons, List.length_nil, Nat.reduceAdd, Nat.zero_add, List.map_cons, List.map_nil, Option.map_none]
    simp (maxSteps := 300000) (disch := omega) only [go_sem, Nat.reduceAdd, Nat.reduceLeDiff, Nat.reduceLT, Int.reduceLE, Int.reduceLT, BitVec.reduceOfInt, ↓reduceIte, hf]
    with_reducible refine hK _ ?_
    clear hK K
    refine nx_then ?_
    refine awp_retP rfl ?_
    simp (disch := omega) only [pureQ, resA, resAL, resA1, Tryd.f66, go_sem, Nat.reduceLeDiff, ↓reduceIte, ldV, imm_c8, hs]
  · cases hg
theorem ok66 : EntOK Tryd.prog GLh 66 (.pure true lockG) := ⟨⟨_, Tryd.func66, rfl, rfl⟩, lock_ok⟩

set_option maxHeartbeats 4000000 in
theorem rlock_ok : PureOK Tryd.prog GLh 69 lockG := by
  refine pure_of_awp Tryd.func69 (bodyOf_some rfl) ?_
  intro args r hg
  unfold lockG at hg
  split at hg
  · rename_i n xs
    replace hg := obind_inv hg; obtain ⟨b, hb, hg⟩ := hg
    replace hg := guardO_inv hg; obtain ⟨⟨hn, hbig⟩, hg⟩ := hg
    obtain rfl := Option.some.inj hg
    have := un8_inv _ hb; subst this
    subst hn
    clear hg hb
    refine ⟨Nat.le_of_ble_eq_true rfl, fun nx => ?_⟩
    have hs := lockL_len b
    have hf : shortL 2#8 [b] = lockL b := rfl
    refine awp_seqP rfl ?_
    refine awp_regP (Γ := noEnv) [0, 2] (noEnv_ok _ _) rfl rfl rfl (fun K hK => ?_)
    simp only [Tryd.f69, bodyOf, Option.getD_some, cl, rOps, lights, light, rN, List.size_toArray, List.length_cons, List.length_nil, Nat.zero_add, List.map_cons, List.map_nil, Option.map_none]
    simp (maxSteps := 300000) (disch := omega) only [go_sem, ↓reduceIte]
    with_reducible refine hK _ ?_
    clear hK K
    refine nx_then ?_
    refine awp_seqP rfl ?_
    refine awp_regP (Γ := envL [(25, .pure true shortG)]) [2] (envOK_cons ok25 envOK_nil) rfl rfl rfl (fun K hK => ?_)
    simp only [Tryd.f69, bodyOf, Option.getD_some, cl, cr, rOps, lights, light, rN, List.size_toArray, List.length_cons, List.length_nil, Nat.reduceAdd, Nat.zero_add, List.map_cons, List.map_nil, Option.map_none]
    simp (maxSteps := 300000) (disch := omega) only [go_sem, Nat.reduceAdd, Nat.reduceLeDiff, Nat.reduceLT, Int.reduceLE, Int.reduceLT, BitVec.reduceOfInt, ↓reduceIte, hf]
    with_reducible refine hK _ ?_
    clear hK K
    refine nx_then ?_
    refine awp_retP rfl ?_
    simp (disch := omega) only [pureQ, resA, resAL, resA1, Tryd.f69, go_sem, Nat.reduceLeDiff, ↓reduceIte, ldV, imm_c8, hs]
  · cases hg
theorem ok69 : EntOK Tryd.prog GLh 69 (.pure true lockG) := ⟨⟨_, Tryd.func69, rfl, rfl⟩, rlock_ok⟩

set_option maxHeartbeats 4000000 in
theorem bit_ok : PureOK Tryd.prog GLh 64 bitG := by
  refine pure_of_awp Tryd.func64 (bodyOf_some rfl) ?_
  intro args r hg
  unfold bitG at hg
  split at hg
  · rename_i d n
    replace hg := guardO_inv hg; obtain ⟨hn, hg⟩ := hg
    obtain rfl := Option.some.inj hg
    clear hg
    refine ⟨Nat.le_of_ble_eq_true rfl, fun nx => ?_⟩
    have e1 : (BitVec.ofInt 64 (31 - n)).toNat = 31 - n.toNat := by rw [BitVec.toNat_ofInt]; omega
    refine awp_seqP rfl ?_
    refine awp_regP (Γ := noEnv) [0, 1] (noEnv_ok _ _) rfl rfl rfl (fun K hK => ?_)
    simp only [Tryd.f64, bodyOf, Option.getD_some, cl, rOps, lights, light, rN, List.size_toArray, List.length_cons, List.length_nil, Nat.zero_add, List.map_cons, List.map_nil, Option.map_none]
    simp (maxSteps := 300000) (disch := omega) only [go_sem, Int.reduceLE, Int.reduceLT, BitVec.reduceOfInt, ↓reduceIte]
    with_reducible refine hK _ ?_
    clear hK K
    refine nx_then ?_
    refine awp_seqP rfl ?_
    refine awp_regP (Γ := noEnv) [4] (noEnv_ok _ _) rfl rfl rfl (fun K hK => ?_)
    simp only [Tryd.f64, bodyOf, Option.getD_some, cl, cr, rOps, lights, light, rN, List.size_toArray, List.length_cons, List.length_nil, Nat.reduceAdd, Nat.zero_add, List.map_cons, List.map_nil, Option.map_none]
    simp (maxSteps := 300000) (disch := omega) only [go_sem, Nat.reduceAdd, Int.reduceLE, Int.reduceLT, BitVec.reduceOfInt, ↓reduceIte, e1]
    with_reducible refine hK _ ?_
    clear hK K
    refine nx_then ?_
    refine awp_retP rfl ?_
    simp (disch := omega) only [pureQ, resA, resAL, resA1, Tryd.f64, go_sem, ↓reduceIte, bitL]
  · cases hg
theorem ok64 : EntOK Tryd.prog GLh 64 (.pure true bitG) := ⟨⟨_, Tryd.func64, rfl, rfl⟩, bit_ok⟩
end Go.AX
