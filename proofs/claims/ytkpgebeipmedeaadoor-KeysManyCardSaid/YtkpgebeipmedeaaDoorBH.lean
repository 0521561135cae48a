/-
  Once, part A: secrets, locks, words of four bytes. Once, part B: the reference's words, its secrets; digests. Once, part C: a nil slice as an own one; digests; the reference's secrets. Once, part D: public keys. Once, part E: the reference's public keys. Once, part F: signatures. Digest, part A: the tag, as the program and the reference tell it; a place.
-/
import Derived.Test.YtkpgebeipmedeaaDoorBG
namespace Go.AX
open Go Go.Proofs

attribute [go_sem] frzL_x frzX_t frzX_f noOs_nil noOs_w8 noOs_s noOs_w16 noOs_w32 noOs_i noOs_os c8_noOs app1 app2
def w4 (n : W32) : List B8 := [(n >>> 24).setWidth 8, (n >>> 16).setWidth 8, (n >>> 8).setWidth 8, n.setWidth 8]
def secretL (seed : List B8) (leaf : W32) (i v : B8) : List B8 := shortL 1#8 [seed, w4 leaf, [i], [v]]
def lockL (s : List B8) : List B8 := shortL 2#8 [s]
theorem w4_len (n : W32) : (w4 n).length = 4 := rfl
theorem secretL_len (seed : List B8) (leaf : W32) (i v : B8) : (secretL seed leaf i v).length = 8 := shortL_len _ _
theorem lockL_len (s : List B8) : (lockL s).length = 8 := shortL_len _ _
def secretK (b : List B8) (leaf : W32) (n : Int) (v : B8) : Option AV := guardO (b.length = 8) (some (.agg (c8 (secretL b leaf (BitVec.ofInt 8 n) v))))
def secretG : List AV → Option AV
  | [.agg xs, .w32 leaf, .i n, .w8 v] => obind (un8 xs) fun b => secretK b leaf n v
  | _ => none
theorem secretG_eq (xs : List AV) (leaf : W32) (n : Int) (v : B8) : secretG [.agg xs, .w32 leaf, .i n, .w8 v] = obind (un8 xs) fun b => secretK b leaf n v := (rfl)
theorem secretK_eq (b : List B8) (leaf : W32) (n : Int) (v : B8) : secretK b leaf n v = guardO (b.length = 8) (some (.agg (c8 (secretL b leaf (BitVec.ofInt 8 n) v)))) := (rfl)
def lockG : List AV → Option AV
  | [.sl n xs] => obind (un8 xs) fun b => guardO (b.length = n ∧ n ≤ 800000000) (some (.agg (c8 (lockL b))))
  | _ => none
theorem lockG_eq (n : Nat) (xs : List AV) : lockG [.sl n xs] = obind (un8 xs) fun b => guardO (b.length = n ∧ n ≤ 800000000) (some (.agg (c8 (lockL b)))) := (rfl)
def bitL (d : W32) (i : Nat) : B8 := ((d >>> (31 - i)) &&& 1#32).setWidth 8
def bitG : List AV → Option AV
  | [.w32 d, .i n] => guardO (0 ≤ n ∧ n < 32) (some (.w8 (bitL d n.toNat)))
  | _ => none
theorem bitG_eq (d : W32) (n : Int) : bitG [.w32 d, .i n] = guardO (0 ≤ n ∧ n < 32) (some (.w8 (bitL d n.toNat))) := (rfl)
attribute [go_sem] secretG_eq secretK_eq lockG_eq bitG_eq w4_len secretL_len lockL_len
set_option maxHeartbeats 4000000 in
theorem secret_ok : PureOK Tryd.prog GLh 63 secretG := by
  refine pure_of_awp Tryd.func63 (bodyOf_some rfl) ?_
  intro args r hg
  unfold secretG at hg
  split at hg
  · rename_i xs leaf n v
    replace hg := obind_inv hg; obtain ⟨b, hb, hg⟩ := hg
    rw [secretK_eq] at hg
    replace hg := guardO_inv hg; obtain ⟨hn, hg⟩ := hg
    obtain rfl := Option.some.inj hg
    have := un8_inv _ hb; subst this
    clear hg hb
    refine ⟨Nat.le_of_ble_eq_true rfl, fun nx => ?_⟩
    have hs := secretL_len b leaf (BitVec.ofInt 8 n) v
    have hf : shortL 1#8 [b, [(leaf >>> 24).setWidth 8, (leaf >>> 16).setWidth 8, (leaf >>> 8).setWidth 8, leaf.setWidth 8], [BitVec.ofInt 8 n], [v]] = secretL b leaf (BitVec.ofInt 8 n) v := rfl
    refine awp_seqP rfl ?_
    refine awp_regP (Γ := noEnv) [1, 2, 3, 4, 8] (noEnv_ok _ _) rfl rfl rfl (fun K hK => ?_)
    simp (failIfUnchanged := false) (disch := omega) only [Tryd.f63, go_sem, Nat.reduceAdd, ↓reduceIte]
    refine hK _ ?_
    refine nx_then ?_
    refine awp_seqP rfl ?_
    refine awp_regP (Γ := envL [(73, .pure true shortG)]) [8] (envOK_cons ok24 envOK_nil) rfl rfl rfl (fun K hK => ?_)
    simp (failIfUnchanged := false) (disch := omega) only [Tryd.f63, go_sem, Nat.reduceAdd, Nat.reduceSub, Nat.reduceLeDiff, Nat.reduceLT, Int.reduceLE, Int.reduceLT, Int.reduceToNat, BitVec.reduceOfInt, BitVec.reduceToNat, ↓reduceIte, hn, hf]
    refine hK _ ?_
    refine nx_then ?_
    refine awp_retP rfl ?_
    simp (failIfUnchanged := false) (disch := omega) only [pureQ, resA, resAL, resA1, Tryd.f63, go_sem, Nat.reduceLeDiff, ↓reduceIte, ldV, imm_c8, hs]
  · cases hg
theorem ok65 : EntOK Tryd.prog GLh 63 (.pure true secretG) := ⟨⟨_, Tryd.func63, rfl, rfl⟩, secret_ok⟩

set_option maxHeartbeats 4000000 in
theorem lock_ok : PureOK Tryd.prog GLh 64 lockG := by
  refine pure_of_awp Tryd.func64 (bodyOf_some rfl) ?_
  intro args r hg
  unfold lockG at hg
  split at hg
  · rename_i n xs
    replace hg := obind_inv hg; obtain ⟨b, hb, hg⟩ := hg
    replace hg := guardO_inv hg; obtain ⟨⟨hn, hbig⟩, hg⟩ := hg
    obtain rfl := Option.some.inj hg
    have := un8_inv _ hb; subst this
    subst hn
    clear hg hb
    refine ⟨Nat.le_of_ble_eq_true rfl, fun nx => ?_⟩
    have hs := lockL_len b
    have hf : shortL 2#8 [b] = lockL b := rfl
    refine awp_seqP rfl ?_
    refine awp_regP (Γ := noEnv) [0, 2] (noEnv_ok _ _) rfl rfl rfl (fun K hK => ?_)
    simp (failIfUnchanged := false) (disch := omega) only [Tryd.f64, go_sem, ↓reduceIte]
    refine hK _ ?_
    refine nx_then ?_
    refine awp_seqP rfl ?_
    refine awp_regP (Γ := envL [(73, .pure true shortG)]) [2] (envOK_cons ok24 envOK_nil) rfl rfl rfl (fun K hK => ?_)
    simp (failIfUnchanged := false) (disch := omega) only [Tryd.f64, go_sem, Nat.reduceAdd, Nat.reduceLeDiff, Nat.reduceLT, Int.reduceLE, Int.reduceLT, BitVec.reduceOfInt, ↓reduceIte, hf]
    refine hK _ ?_
    refine nx_then ?_
    refine awp_retP rfl ?_
    simp (failIfUnchanged := false) (disch := omega) only [pureQ, resA, resAL, resA1, Tryd.f64, go_sem, Nat.reduceLeDiff, ↓reduceIte, ldV, imm_c8, hs]
  · cases hg
theorem ok66 : EntOK Tryd.prog GLh 64 (.pure true lockG) := ⟨⟨_, Tryd.func64, rfl, rfl⟩, lock_ok⟩

set_option maxHeartbeats 4000000 in
theorem rlock_ok : PureOK Tryd.prog GLh 52 lockG := by
  refine pure_of_awp Tryd.func52 (bodyOf_some rfl) ?_
  intro args r hg
  unfold lockG at hg
  split at hg
  · rename_i n xs
    replace hg := obind_inv hg; obtain ⟨b, hb, hg⟩ := hg
    replace hg := guardO_inv hg; obtain ⟨⟨hn, hbig⟩, hg⟩ := hg
    obtain rfl := Option.some.inj hg
    have := un8_inv _ hb; subst this
    subst hn
    clear hg hb
    refine ⟨Nat.le_of_ble_eq_true rfl, fun nx => ?_⟩
    have hs := lockL_len b
    have hf : shortL 2#8 [b] = lockL b := rfl
    refine awp_seqP rfl ?_
    refine awp_regP (Γ := noEnv) [0, 2] (noEnv_ok _ _) rfl rfl rfl (fun K hK => ?_)
    simp (failIfUnchanged := false) (disch := omega) only [Tryd.f52, go_sem, ↓reduceIte]
    refine hK _ ?_
    refine nx_then ?_
    refine awp_seqP rfl ?_
    refine awp_regP (Γ := envL [(53, .pure true shortG)]) [2] (envOK_cons ok25 envOK_nil) rfl rfl rfl (fun K hK => ?_)
    simp (failIfUnchanged := false) (disch := omega) only [Tryd.f52, go_sem, Nat.reduceAdd, Nat.reduceLeDiff, Nat.reduceLT, Int.reduceLE, Int.reduceLT, BitVec.reduceOfInt, ↓reduceIte, hf]
    refine hK _ ?_
    refine nx_then ?_
    refine awp_retP rfl ?_
    simp (failIfUnchanged := false) (disch := omega) only [pureQ, resA, resAL, resA1, Tryd.f52, go_sem, Nat.reduceLeDiff, ↓reduceIte, ldV, imm_c8, hs]
  · cases hg
theorem ok69 : EntOK Tryd.prog GLh 52 (.pure true lockG) := ⟨⟨_, Tryd.func52, rfl, rfl⟩, rlock_ok⟩

set_option maxHeartbeats 4000000 in
theorem bit_ok : PureOK Tryd.prog GLh 62 bitG := by
  refine pure_of_awp Tryd.func62 (bodyOf_some rfl) ?_
  intro args r hg
  unfold bitG at hg
  split at hg
  · rename_i d n
    replace hg := guardO_inv hg; obtain ⟨hn, hg⟩ := hg
    obtain rfl := Option.some.inj hg
    clear hg
    refine ⟨Nat.le_of_ble_eq_true rfl, fun nx => ?_⟩
    have e1 : (BitVec.ofInt 64 (31 - n)).toNat = 31 - n.toNat := by rw [BitVec.toNat_ofInt]; omega
    refine awp_seqP rfl ?_
    refine awp_regP (Γ := noEnv) [0, 1] (noEnv_ok _ _) rfl rfl rfl (fun K hK => ?_)
    simp (failIfUnchanged := false) (disch := omega) only [Tryd.f62, go_sem, Int.reduceLE, Int.reduceLT, BitVec.reduceOfInt, ↓reduceIte]
    refine hK _ ?_
    refine nx_then ?_
    refine awp_seqP rfl ?_
    refine awp_regP (Γ := noEnv) [4] (noEnv_ok _ _) rfl rfl rfl (fun K hK => ?_)
    simp (failIfUnchanged := false) (disch := omega) only [Tryd.f62, go_sem, Nat.reduceAdd, Int.reduceLE, Int.reduceLT, BitVec.reduceOfInt, ↓reduceIte, e1]
    refine hK _ ?_
    refine nx_then ?_
    refine awp_retP rfl ?_
    simp (failIfUnchanged := false) (disch := omega) only [pureQ, resA, resAL, resA1, Tryd.f62, go_sem, ↓reduceIte, bitL]
  · cases hg
theorem ok64 : EntOK Tryd.prog GLh 62 (.pure true bitG) := ⟨⟨_, Tryd.func62, rfl, rfl⟩, bit_ok⟩
end Go.AX

namespace Go.AX
open Go Go.Proofs

def putV (nx : Nat) : Nat → AV
  | 0 => .v (.slice none 0 0)
  | j + 1 => .os (nx + 4 + 14 * j + 9) 0 (j + 1) 1 true
def putH (nx : Nat) (n : W32) (k : Nat) (hp : H) : Nat → H
  | 0 => hp
  | j + 1 => upd hp (nx + 4 + 14 * j + 9) (.cells (c8 (beL n k (j + 1))) true)
def putG : List AV → H → Nat → Option (AV × H × Nat)
  | [.v (.slice none 0 0), .w32 n, .i k], hp, nx => guardO (1 ≤ k ∧ k ≤ 8) (some (putV nx k.toNat, putH nx n k.toNat hp k.toNat, nx + 4 + 14 * k.toNat + 4))
  | _, _, _ => none
theorem putG_eq (n : W32) (k : Int) (hp : H) (nx : Nat) : putG [.v (.slice none 0 0), .w32 n, .i k] hp nx = guardO (1 ≤ k ∧ k ≤ 8) (some (putV nx k.toNat, putH nx n k.toNat hp k.toNat, nx + 4 + 14 * k.toNat + 4)) := (rfl)
attribute [go_sem] putG_eq
def fourG : List AV → Option (Nat × Nat × List AV)
  | [.w32 n] => some (4, 1, c8 (w4 n))
  | _ => none
theorem fourG_eq (n : W32) : fourG [.w32 n] = some (4, 1, c8 (w4 n)) := (rfl)
attribute [go_sem] fourG_eq
/-- The words' fold. -/
def getL (l : List B8) : W32 := l.foldl (fun n x => n <<< 8 ||| x.setWidth 32) 0#32
def getG : List AV → Option AV
  | [.sl n xs] => obind (un8 xs) fun b => guardO (b.length = n ∧ n ≤ 9223372036854775806) (some (.w32 (getL b)))
  | _ => none
theorem getG_eq (n : Nat) (xs : List AV) : getG [.sl n xs] = obind (un8 xs) fun b => guardO (b.length = n ∧ n ≤ 9223372036854775806) (some (.w32 (getL b))) := (rfl)
attribute [go_sem] getG_eq
theorem getL_snoc (l : List B8) (k : Nat) (h : k < l.length) : getL (l.take (k + 1)) = getL (l.take k) <<< 8 ||| (l.getD k 0#8).setWidth 32 := by
  rw [take_step l k 0#8 h]; simp [getL]

set_option maxHeartbeats 4000000 in
theorem get_ok : PureOK Tryd.prog GLh 32 getG := by
  refine pure_of_awp Tryd.func32 (bodyOf_some rfl) ?_
  intro args r hg
  unfold getG at hg
  split at hg
  · rename_i n xs
    replace hg := obind_inv hg; obtain ⟨b, hb, hg⟩ := hg
    replace hg := guardO_inv hg; obtain ⟨⟨hn, hbig⟩, hg⟩ := hg
    obtain rfl := Option.some.inj hg
    have := un8_inv _ hb; subst this
    subst hn
    clear hg hb
    refine ⟨Nat.le_of_ble_eq_true rfl, fun nx => ?_⟩
    refine awp_seqP rfl ?_
    refine awp_regP (Γ := noEnv) [0] (noEnv_ok _ _) rfl rfl rfl (fun K hK => ?_)
    simp (failIfUnchanged := false) (disch := omega) only [Tryd.f32, go_sem, Int.reduceLE, Int.reduceLT, BitVec.reduceOfInt, ↓reduceIte]
    refine hK _ ?_
    refine nx_then ?_
    refine awp_seqP rfl ?_
    refine awp_regP (Γ := noEnv) [0, 3] (noEnv_ok _ _) rfl rfl rfl (fun K hK => ?_)
    simp (failIfUnchanged := false) (disch := omega) only [Tryd.f32, go_sem, Int.reduceLE, Int.reduceLT, BitVec.reduceOfInt, ↓reduceIte]
    refine hK _ ?_
    refine nx_then ?_
    refine awp_seqP rfl ?_
    refine awp_seqP rfl ?_
    refine awp_regP (Γ := noEnv) [0, 3, 4] (noEnv_ok _ _) rfl rfl rfl (fun K hK => ?_)
    simp (failIfUnchanged := false) (disch := omega) only [Tryd.f32, go_sem, ↓reduceIte]
    refine hK _ ?_
    refine nx_then ?_
    refine awp_blockN 0 rfl rfl ?_
    refine awp_loopP (fun p : KC => { fr := [(0, .sl b.length (c8 b)), (3, .w32 (getL (b.take p.k))), (4, .i p.k)], hp := fun _ => none, nx := 0, cx := p.c }) (fun p => p.k ≤ b.length) (fun p => b.length - p.k) rfl ⟨⟨0, _⟩, Nat.zero_le _, sub_same rfl rfl (Nat.le_refl _)⟩ ?_
    rintro ⟨k, c⟩ hk n0
    simp only at hk ⊢
    refine awp_seqP rfl ?_
    refine awp_seqP rfl ?_
    refine awp_regP (Γ := noEnv) [8, 0, 3, 4] (noEnv_ok _ _) rfl rfl rfl (fun K hK => ?_)
    simp (failIfUnchanged := false) (disch := omega) only [Tryd.f32, go_sem, Nat.reduceAdd, ↓reduceIte]
    refine hK _ ?_
    refine nx_then ?_
    refine awp_ifD (.tmp 8) rfl rfl rfl (fun h => ?_) (fun h => ?_)
    · skip
      refine awp_drop rfl ?_
      refine awp_skipP rfl ?_
      refine nx_then ?_
      refine awp_seqP rfl ?_
      refine awp_blockN 1 rfl rfl ?_
      refine awp_regP (Γ := noEnv) [0, 3, 4] (noEnv_ok _ _) rfl rfl rfl (fun K hK => ?_)
      simp (failIfUnchanged := false) (disch := omega) only [Tryd.f32, go_sem, Nat.reduceAdd, Int.reduceLE, Int.reduceLT, BitVec.reduceOfInt, BitVec.reduceToNat, ↓reduceIte]
      refine hK _ ?_
      refine nx_blk (nx_then ?_)
      refine awp_regP (Γ := noEnv) [0, 3, 4] (noEnv_ok _ _) rfl rfl rfl (fun K hK => ?_)
      simp (failIfUnchanged := false) (disch := omega) only [Tryd.f32, go_sem, Nat.reduceAdd, ↓reduceIte]
      refine hK _ ?_
      refine nx_loop ?_
      refine ⟨⟨k + 1, _⟩, by simp only; omega, by simp only; omega, sub_same ?_ rfl (Nat.le_refl _)⟩
      simp (failIfUnchanged := false) only [Int.natCast_add, Int.natCast_one, getL_snoc b k (by omega)]
    · skip
      refine awp_drop rfl ?_
      refine awp_exitN 0 rfl rfl ?_
      refine nx_ex_then (nx_ex_loop (nx_ex_blk ?_))
      refine nx_then ?_
      refine awp_seqP rfl ?_
      obtain rfl : k = b.length := by omega
      rw [List.take_length]
      refine awp_regP (Γ := noEnv) [2] (noEnv_ok _ _) rfl rfl rfl (fun K hK => ?_)
      simp (failIfUnchanged := false) (disch := omega) only [Tryd.f32, go_sem, Nat.reduceAdd, ↓reduceIte]
      refine hK _ ?_
      refine nx_then ?_
      refine awp_retP rfl ?_
      simp (failIfUnchanged := false) (disch := omega) only [pureQ, resA, resAL, resA1, Tryd.f32, go_sem, ↓reduceIte]
  · cases hg
theorem ok70 : EntOK Tryd.prog GLh 32 (.pure true getG) := ⟨⟨_, Tryd.func32, rfl, rfl⟩, get_ok⟩
end Go.AX

namespace Go.AX
open Go Go.Proofs

def digL (msg : List B8) : W32 :=
  let s := sumL msg
  (s.getD 0 0#8).setWidth 32 <<< 24 ||| (s.getD 1 0#8).setWidth 32 <<< 16 ||| (s.getD 2 0#8).setWidth 32 <<< 8 ||| (s.getD 3 0#8).setWidth 32
def digG : List AV → Option AV
  | [.sl n xs] => obind (un8 xs) fun b => guardO (b.length = n ∧ n ≤ 900000000) (some (.w32 (digL b)))
  | _ => none
theorem digG_eq (n : Nat) (xs : List AV) : digG [.sl n xs] = obind (un8 xs) fun b => guardO (b.length = n ∧ n ≤ 900000000) (some (.w32 (digL b))) := (rfl)
attribute [go_sem] digG_eq
theorem getL4 (l : List B8) (h : 4 ≤ l.length) : getL (l.take 4) = (l.getD 0 0#8).setWidth 32 <<< 24 ||| (l.getD 1 0#8).setWidth 32 <<< 16 ||| (l.getD 2 0#8).setWidth 32 <<< 8 ||| (l.getD 3 0#8).setWidth 32 := by
  match l, h with
  | a :: b :: c :: d :: r, _ =>
    simp (failIfUnchanged := false) only [List.take_succ_cons, List.take_zero, getL, List.foldl_cons, List.foldl_nil, List.getD_cons_zero, List.getD_cons_succ, BitVec.shiftLeft_or_distrib, ← BitVec.shiftLeft_add, BitVec.zero_shiftLeft, BitVec.zero_or, Nat.reduceAdd]

set_option maxHeartbeats 4000000 in
theorem dig_ok : PureOK Tryd.prog GLh 61 digG := by
  refine pure_of_awp Tryd.func61 (bodyOf_some rfl) ?_
  intro args r hg
  unfold digG at hg
  split at hg
  · rename_i n xs
    replace hg := obind_inv hg; obtain ⟨b, hb, hg⟩ := hg
    replace hg := guardO_inv hg; obtain ⟨⟨hn, hbig⟩, hg⟩ := hg
    obtain rfl := Option.some.inj hg
    have := un8_inv _ hb; subst this
    subst hn
    clear hg hb
    refine ⟨Nat.le_of_ble_eq_true rfl, fun nx => ?_⟩
    have hs := sumL_len b
    refine awp_seqP rfl ?_
    refine awp_regP (Γ := noEnv) [0] (noEnv_ok _ _) rfl rfl rfl (fun K hK => ?_)
    simp (failIfUnchanged := false) (disch := omega) only [Tryd.f61, go_sem, Int.reduceLE, Int.reduceLT, BitVec.reduceOfInt, ↓reduceIte]
    refine hK _ ?_
    refine nx_then ?_
    refine awp_seqP rfl ?_
    refine awp_regP (Γ := envL [(74, .pure true sumG)]) [3] (envOK_cons ok22 envOK_nil) rfl rfl rfl (fun K hK => ?_)
    simp (failIfUnchanged := false) (disch := omega) only [Tryd.f61, go_sem, Nat.reduceAdd, Nat.reduceLeDiff, ↓reduceIte]
    refine hK _ ?_
    refine nx_then ?_
    refine awp_seqP rfl ?_
    refine awp_regP (Γ := noEnv) [2] (noEnv_ok _ _) rfl rfl rfl (fun K hK => ?_)
    simp (failIfUnchanged := false) (disch := omega) only [Tryd.f61, go_sem, Nat.reduceAdd, Int.reduceLE, Int.reduceLT, Int.reduceToNat, BitVec.reduceOfInt, BitVec.reduceToNat, ↓reduceIte]
    refine hK _ ?_
    refine nx_then ?_
    refine awp_retP rfl ?_
    simp (failIfUnchanged := false) (disch := omega) only [pureQ, resA, resAL, resA1, Tryd.f61, go_sem, ↓reduceIte, digL]
  · cases hg
theorem ok35 : EntOK Tryd.prog GLh 61 (.pure true digG) := ⟨⟨_, Tryd.func61, rfl, rfl⟩, dig_ok⟩

set_option maxHeartbeats 4000000 in
theorem rdig_ok : PureOK Tryd.prog GLh 51 digG := by
  refine pure_of_awp Tryd.func51 (bodyOf_some rfl) ?_
  intro args r hg
  unfold digG at hg
  split at hg
  · rename_i n xs
    replace hg := obind_inv hg; obtain ⟨b, hb, hg⟩ := hg
    replace hg := guardO_inv hg; obtain ⟨⟨hn, hbig⟩, hg⟩ := hg
    obtain rfl := Option.some.inj hg
    have := un8_inv _ hb; subst this
    subst hn
    clear hg hb
    refine ⟨Nat.le_of_ble_eq_true rfl, fun nx => ?_⟩
    have hs := sumL_len b
    have h4 : ((sumL b).take 4).length = 4 := by rw [List.length_take]; omega
    refine awp_seqP rfl ?_
    refine awp_regP (Γ := noEnv) [0] (noEnv_ok _ _) rfl rfl rfl (fun K hK => ?_)
    simp (failIfUnchanged := false) (disch := omega) only [Tryd.f51, go_sem, Int.reduceLE, Int.reduceLT, BitVec.reduceOfInt, ↓reduceIte]
    refine hK _ ?_
    refine nx_then ?_
    refine awp_seqP rfl ?_
    refine awp_regP (Γ := envL [(65, .pure true ref2G)]) [3] (envOK_cons ok23 envOK_nil) rfl rfl rfl (fun K hK => ?_)
    simp (failIfUnchanged := false) (disch := omega) only [Tryd.f51, go_sem, Nat.reduceAdd, Nat.reduceLeDiff, ↓reduceIte]
    refine hK _ ?_
    refine nx_then ?_
    refine awp_seqP rfl ?_
    refine awp_regP (Γ := envL [(32, .pure true getG)]) [2] (envOK_cons ok70 envOK_nil) rfl rfl rfl (fun K hK => ?_)
    simp (failIfUnchanged := false) (disch := omega) only [Tryd.f51, go_sem, Nat.reduceAdd, Nat.reduceSub, Nat.reduceLeDiff, Int.reduceLE, Int.reduceToNat, ↓reduceIte, h4]
    refine hK _ ?_
    refine nx_then ?_
    rw [getL4 _ (by omega)]
    refine awp_retP rfl ?_
    simp (failIfUnchanged := false) (disch := omega) only [pureQ, resA, resAL, resA1, Tryd.f51, go_sem, ↓reduceIte, digL]
  · cases hg
theorem ok36 : EntOK Tryd.prog GLh 51 (.pure true digG) := ⟨⟨_, Tryd.func51, rfl, rfl⟩, rdig_ok⟩

def rsecretG : List AV → Option AV
  | [.agg xs, .w32 leaf, .w8 i, .w8 v] => obind (un8 xs) fun b => guardO (b.length = 8) (some (.agg (c8 (secretL b leaf i v))))
  | _ => none
theorem rsecretG_eq (xs : List AV) (leaf : W32) (i v : B8) : rsecretG [.agg xs, .w32 leaf, .w8 i, .w8 v] = obind (un8 xs) fun b => guardO (b.length = 8) (some (.agg (c8 (secretL b leaf i v)))) := (rfl)
attribute [go_sem] rsecretG_eq
end Go.AX

namespace Go.AX
open Go Go.Proofs

/-- What a number of steps lays one behind the other. -/
def fl (f : Nat → List B8) : Nat → List B8
  | 0 => []
  | k + 1 => fl f k ++ f k
theorem fl_len (f : Nat → List B8) (n : Nat) (h : ∀ i, (f i).length = n) (k : Nat) : (fl f k).length = n * k := by
  induction k with
  | zero => rfl
  | succ k ih => rw [fl, List.length_append, ih, h, Nat.mul_succ]
def lkv (seed : List B8) (leaf : W32) (i : Nat) (v : B8) : List B8 := lockL (secretL seed leaf (BitVec.ofInt 8 (i : Int)) v)
def lk2 (seed : List B8) (leaf : W32) (i : Nat) : List B8 := lkv seed leaf i 0#8 ++ lkv seed leaf i 1#8
def lks (seed : List B8) (leaf : W32) : List B8 := fl (lk2 seed leaf) 32
def publicL (seed : List B8) (leaf : W32) : List B8 := shortL 3#8 [lks seed leaf]
theorem lkv_len (seed : List B8) (leaf : W32) (i : Nat) (v : B8) : (lkv seed leaf i v).length = 8 := lockL_len _
theorem lk2_len (seed : List B8) (leaf : W32) (i : Nat) : (lk2 seed leaf i).length = 16 := by simp [lk2, lkv_len]
theorem lks_len (seed : List B8) (leaf : W32) : (lks seed leaf).length = 512 := fl_len _ 16 (lk2_len seed leaf) 32
theorem publicL_len (seed : List B8) (leaf : W32) : (publicL seed leaf).length = 8 := shortL_len _ _

def publG : List AV → Option AV
  | [.rp xs] => obind (un8 xs) fun b => guardO (b.length = 512) (some (.agg (c8 (shortL 3#8 [b]))))
  | _ => none
theorem publG_eq (xs : List AV) : publG [.rp xs] = obind (un8 xs) fun b => guardO (b.length = 512) (some (.agg (c8 (shortL 3#8 [b])))) := (rfl)
attribute [go_sem] publG_eq publicL_len lkv_len
theorem take_16 (b : List B8) (k : Nat) : b.take (16 * k) ++ (b.drop (16 * k)).take 8 ++ (b.drop (16 * k + 8)).take 8 = b.take (16 * (k + 1)) := by
  rw [List.append_assoc, show 16 * (k + 1) = 16 * k + (8 + 8) by omega, List.take_add, List.take_add, List.drop_drop]

set_option maxHeartbeats 4000000 in
theorem publ_ok : PureOK Tryd.prog GLh 72 publG := by
  refine pure_of_awp Tryd.func72 (bodyOf_some rfl) ?_
  intro args r hg
  unfold publG at hg
  split at hg
  · rename_i xs
    replace hg := obind_inv hg; obtain ⟨b, hb, hg⟩ := hg
    replace hg := guardO_inv hg; obtain ⟨hn, hg⟩ := hg
    obtain rfl := Option.some.inj hg
    have := un8_inv _ hb; subst this
    clear hg hb
    refine ⟨Nat.le_of_ble_eq_true rfl, fun nx => ?_⟩
    have hs := shortL_len 3#8 [b]
    refine awp_seqP rfl ?_
    refine awp_regP (Γ := noEnv) [0, 2] (noEnv_ok _ _) rfl rfl rfl (fun K hK => ?_)
    simp (failIfUnchanged := false) (disch := omega) only [Tryd.f72, go_sem, ↓reduceIte]
    refine hK _ ?_
    refine nx_then ?_
    refine awp_seqP rfl ?_
    refine awp_regP (Γ := noEnv) [0, 2, 3] (noEnv_ok _ _) rfl rfl rfl (fun K hK => ?_)
    simp (failIfUnchanged := false) (disch := omega) only [Tryd.f72, go_sem, ↓reduceIte]
    refine hK _ ?_
    refine nx_then ?_
    refine awp_seqP rfl ?_
    refine awp_seqP rfl ?_
    refine awp_regP (Γ := noEnv) [0, 2, 3, 5] (noEnv_ok _ _) rfl rfl rfl (fun K hK => ?_)
    simp (failIfUnchanged := false) (disch := omega) only [Tryd.f72, go_sem, ↓reduceIte]
    refine hK _ ?_
    refine nx_then ?_
    refine awp_blockN 0 rfl rfl ?_
    refine awp_own 3 1 rfl ?_
    refine awp_keep [0, 2, 3, 5] ?_
    simp (failIfUnchanged := false) only [kf_nil, kf_cons, look_cons, ↓reduceIte, Nat.reduceEqDiff]
    refine awp_loopP (fun p : KIC => { fr := [(0, .rp (c8 b)), (2, .op nx 0), (3, .os p.id 0 (16 * p.k) 1 true), (5, .i p.k)], hp := upd (upd (fun _ => none) nx (.cells (c8 (List.replicate 8 0#8)) true)) p.id (.cells (c8 (b.take (16 * p.k))) true), nx := 0, cx := p.c }) (fun p => p.k ≤ 32 ∧ nx < p.id ∧ p.id < p.c) (fun p => 32 - p.k) rfl ⟨⟨0, _, _⟩, ⟨Nat.zero_le _, by simp only; omega, by simp only; omega⟩, sub_same rfl rfl (Nat.le_refl _)⟩ ?_
    rintro ⟨k, id, c⟩ ⟨hk, hid, hc⟩ n0
    simp only at hk hid hc ⊢
    have hl : (b.take (16 * k)).length = 16 * k := by rw [List.length_take]; omega
    have e0 : ((k : Int) * 16).toNat = 16 * k := by omega
    refine awp_seqP rfl ?_
    refine awp_regP (Γ := noEnv) [6, 0, 2, 3, 5] (noEnv_ok _ _) rfl rfl rfl (fun K hK => ?_)
    simp (failIfUnchanged := false) (disch := omega) only [Tryd.f72, go_sem, ↓reduceIte]
    refine hK _ ?_
    refine nx_then ?_
    refine awp_seqP rfl ?_
    refine awp_ifD (.tmp 6) rfl rfl rfl (fun h => ?_) (fun h => ?_)
    · skip
      refine awp_drop rfl ?_
      refine awp_skipP rfl ?_
      refine nx_then ?_
      refine awp_seqP rfl ?_
      refine awp_blockN 1 rfl rfl ?_
      refine awp_seqP rfl ?_
      refine awp_regP (Γ := noEnv) [0, 2, 3, 4, 5] (noEnv_ok _ _) rfl rfl rfl (fun K hK => ?_)
      simp (failIfUnchanged := false) (disch := omega) only [Tryd.f72, go_sem, Nat.reduceAdd, ↓reduceIte]
      refine hK _ ?_
      refine nx_then ?_
      have e9 : k * 16 = 16 * k := by omega
      have hA : (List.take 8 (List.drop (16 * k) b)).length = 8 := by rw [List.length_take, List.length_drop]; omega
      have hB : (List.take 8 (List.drop (16 * k + 8) b)).length = 8 := by rw [List.length_take, List.length_drop]; omega
      refine awp_drwP (Γ := noEnv) (fun k => if k = 14 then 258 else 2) [0, 2, 3, 5] mixed (noEnv_ok _ _) rfl rfl rfl (by kernel_rfl) (fun K hK => ?_)
      simp (disch := first | omega | decide) only [Tryd.f72, go_sem, Nat.reduceAdd, Nat.reduceSub, Nat.reduceLeDiff, Nat.reduceLT, Int.reduceLE, Int.reduceToNat, ↓reduceIte, hl, e9, hA, hB, List.drop_drop]
      refine hK _ ?_
      refine nx_blk (nx_then ?_)
      refine awp_regP (Γ := noEnv) [0, 2, 3, 5] (noEnv_ok _ _) rfl rfl rfl (fun K hK => ?_)
      simp (failIfUnchanged := false) (disch := omega) only [Tryd.f72, go_sem, Nat.reduceAdd, ↓reduceIte]
      refine hK _ ?_
      refine nx_loop ?_
      have e5 : 16 * (k + 1) = 16 * k + 8 + 8 := by omega
      refine ⟨⟨k + 1, c + 1 + 2 + 14, _⟩, ⟨by simp only; omega, by simp only; omega, by simp only; omega⟩, by simp only; omega, ⟨fun _ => .inr ?_, fun j o h => ?_, Nat.le_refl _⟩⟩
      · simp only [e5, Int.natCast_add, Int.natCast_one]
      · simp only [← take_16] at h
        exact hsub_cons (by simp (disch := omega) only [up_app, ↓reduceIte, eq_self]) (hsub_cons (by simp (disch := omega) only [up_app, de_app, nat_ne, ↓reduceIte, eq_self]) (hsub_nil)) j o h
    · skip
      refine awp_drop rfl ?_
      refine awp_exitN 0 rfl rfl ?_
      refine nx_ex_then (nx_ex_loop (nx_ex_blk ?_))
      refine nx_then ?_
      refine awp_seqP rfl ?_
      obtain rfl : k = 32 := by omega
      rw [List.take_of_length_le (by omega)]
      refine awp_regP (Γ := envL [(73, .pure true shortG)]) [2] (envOK_cons ok24 envOK_nil) rfl rfl rfl (fun K hK => ?_)
      simp (failIfUnchanged := false) (disch := omega) only [Tryd.f72, go_sem, Nat.reduceAdd, Nat.reduceMul, Nat.reduceLeDiff, Nat.reduceLT, Int.reduceLE, Int.reduceLT, BitVec.reduceOfInt, ↓reduceIte, hn]
      refine hK _ ?_
      refine nx_then ?_
      refine awp_retP rfl ?_
      simp (failIfUnchanged := false) (disch := omega) only [pureQ, resA, resAL, resA1, Tryd.f72, go_sem, Nat.reduceLeDiff, ↓reduceIte, ldV, imm_c8, hs]
  · cases hg
theorem ok67 : EntOK Tryd.prog GLh 72 (.pure true publG) := ⟨⟨_, Tryd.func72, rfl, rfl⟩, publ_ok⟩

def pubG : List AV → Option AV
  | [.agg xs, .w32 leaf] => obind (un8 xs) fun b => guardO (b.length = 8) (some (.agg (c8 (publicL b leaf))))
  | _ => none
theorem pubG_eq (xs : List AV) (leaf : W32) : pubG [.agg xs, .w32 leaf] = obind (un8 xs) fun b => guardO (b.length = 8) (some (.agg (c8 (publicL b leaf)))) := (rfl)
theorem zc126 : zcells Tryd.prog 126 = some (List.replicate 512 (.w8 0#8)) := by kernel_rfl
attribute [go_sem] pubG_eq zc126
theorem storeL_c8 (l m : List B8) (k : Nat) (h : k + m.length ≤ l.length) : storeL (c8 l) k (c8 m) = c8 (splice8 l k m) := by
  unfold storeL
  split
  · rename_i x hx
    cases m with
    | nil => cases hx
    | cons y m =>
      obtain ⟨rfl, hm⟩ := List.cons.inj hx
      obtain rfl : m = [] := by cases m with | nil => rfl | cons _ _ => cases hm
      rw [c8_set]
      congr 1
      simp (failIfUnchanged := false) only [List.length_cons, List.length_nil] at h
      rw [List.set_eq_take_append_cons_drop, if_pos (by omega)]
      simp [splice8]
  · exact c8_splice _ _ _
/-- The next piece of a row that is filled from its beginning on. -/
theorem splice_next (x y : List B8) (n : Nat) (z : B8) (_ : y.length ≤ n) : splice8 (x ++ List.replicate n z) x.length y = x ++ y ++ List.replicate (n - y.length) z := by
  unfold splice8
  rw [List.take_left' rfl, List.drop_append, List.drop_of_length_le (by omega), List.nil_append, show x.length + y.length - x.length = y.length by omega, List.drop_replicate]
/-- The row of locks, as far as it is filled. -/
def lrow (seed : List B8) (leaf : W32) (k v : Nat) : List B8 := fl (lk2 seed leaf) k ++ (if 1 ≤ v then lkv seed leaf k 0#8 else []) ++ (if 2 ≤ v then lkv seed leaf k 1#8 else [])
theorem lrow_len (seed : List B8) (leaf : W32) (k v : Nat) (hv : v ≤ 2) : (lrow seed leaf k v).length = 16 * k + 8 * v := by
  unfold lrow
  rw [List.length_append, List.length_append, fl_len _ 16 (lk2_len seed leaf)]
  match v, hv with
  | 0, _ => simp
  | 1, _ => simp [lkv_len]
  | 2, _ => simp [lkv_len]
theorem lrow_next (seed : List B8) (leaf : W32) (k v : Nat) (hv : v < 2) : lrow seed leaf k (v + 1) = lrow seed leaf k v ++ lkv seed leaf k (BitVec.ofInt 8 (v : Int)) := by
  match v, hv with
  | 0, _ => simp [lrow]
  | 1, _ => simp [lrow]
theorem lrow_two (seed : List B8) (leaf : W32) (k : Nat) : lrow seed leaf k 2 = fl (lk2 seed leaf) (k + 1) := by simp [lrow, fl, lk2]
theorem lrow_zero (seed : List B8) (leaf : W32) (k : Nat) : lrow seed leaf k 0 = fl (lk2 seed leaf) k := by simp [lrow]
def lful (seed : List B8) (leaf : W32) (k v : Nat) : List B8 := lrow seed leaf k v ++ List.replicate (512 - (16 * k + 8 * v)) 0#8
theorem lful_len (seed : List B8) (leaf : W32) (k v : Nat) (hv : v ≤ 2) (hk : 16 * k + 8 * v ≤ 512) : (lful seed leaf k v).length = 512 := by
  rw [lful, List.length_append, lrow_len _ _ _ _ hv, List.length_replicate]; omega
theorem lful_next (seed : List B8) (leaf : W32) (k v : Nat) (hv : v < 2) (hk : k < 32) : splice8 (lful seed leaf k v) (16 * k + 8 * v) (lkv seed leaf k (BitVec.ofInt 8 (v : Int))) = lful seed leaf k (v + 1) := by
  have hl := lrow_len seed leaf k v (by omega)
  have := splice_next (lrow seed leaf k v) (lkv seed leaf k (BitVec.ofInt 8 (v : Int))) (512 - (16 * k + 8 * v)) 0#8 (by rw [lkv_len]; omega)
  rw [hl, lkv_len] at this
  unfold lful
  rw [this, lrow_next _ _ _ _ hv]
  congr 2
theorem lful_two (seed : List B8) (leaf : W32) (k : Nat) : lful seed leaf k 2 = lful seed leaf (k + 1) 0 := by
  unfold lful; rw [lrow_two, lrow_zero]
  congr 2
theorem lful_all (seed : List B8) (leaf : W32) : lful seed leaf 32 0 = lks seed leaf := by
  unfold lful; rw [lrow_zero]; simp [lks]

structure KVC where
  v : Nat
  c : Nat

set_option maxHeartbeats 4000000 in
theorem pub_ok : PureOK Tryd.prog GLh 59 pubG := by
  refine pure_of_awp Tryd.func59 (bodyOf_some rfl) ?_
  intro args r hg
  unfold pubG at hg
  split at hg
  · rename_i xs leaf
    replace hg := obind_inv hg; obtain ⟨seed, hb, hg⟩ := hg
    replace hg := guardO_inv hg; obtain ⟨hn, hg⟩ := hg
    obtain rfl := Option.some.inj hg
    have := un8_inv _ hb; subst this
    clear hg hb
    refine ⟨Nat.le_of_ble_eq_true rfl, fun nx => ?_⟩
    have hs := publicL_len seed leaf
    refine awp_seqP rfl ?_
    refine awp_regP (Γ := noEnv) [1, 2, 4] (noEnv_ok _ _) rfl rfl rfl (fun K hK => ?_)
    simp (failIfUnchanged := false) (disch := omega) only [Tryd.f59, go_sem, Nat.reduceAdd, ↓reduceIte]
    refine hK _ ?_
    refine nx_then ?_
    refine awp_seqP rfl ?_
    refine awp_regP (Γ := noEnv) [1, 2, 4, 5] (noEnv_ok _ _) rfl rfl rfl (fun K hK => ?_)
    simp (failIfUnchanged := false) (disch := omega) only [Tryd.f59, go_sem, ↓reduceIte]
    refine hK _ ?_
    refine nx_then ?_
    refine awp_seqP rfl ?_
    refine awp_seqP rfl ?_
    refine awp_regP (Γ := noEnv) [1, 2, 4, 5, 9] (noEnv_ok _ _) rfl rfl rfl (fun K hK => ?_)
    simp (failIfUnchanged := false) (disch := omega) only [Tryd.f59, go_sem, ↓reduceIte]
    refine hK _ ?_
    refine nx_then ?_
    have h0 : c8 (List.replicate 512 0#8) = c8 (lful seed leaf 0 0) := by unfold lful; rw [lrow_zero]; rfl
    refine awp_blockN 0 rfl rfl ?_
    refine awp_loopP (fun p : KC => { fr := [(1, .w32 leaf), (2, .op nx 0), (4, .op (nx + 1) 0), (5, .op (nx + 2) 0), (9, .i p.k)], hp := upd (upd (upd (fun _ => none) nx (.cells (c8 seed) true)) (nx + 1) (.cells (c8 (List.replicate 8 0#8)) true)) (nx + 2) (.cells (c8 (lful seed leaf p.k 0)) true), nx := 0, cx := p.c }) (fun p => p.k ≤ 32 ∧ nx + 3 ≤ p.c) (fun p => 32 - p.k) rfl ⟨⟨0, _⟩, ⟨Nat.zero_le _, by simp only; omega⟩, sub_same rfl (by rw [← h0]) (Nat.le_refl _)⟩ ?_
    rintro ⟨k, c⟩ ⟨hk, hc⟩ n0
    simp only at hk hc ⊢
    refine awp_seqP rfl ?_
    refine awp_regP (Γ := noEnv) [10, 1, 2, 4, 5, 9] (noEnv_ok _ _) rfl rfl rfl (fun K hK => ?_)
    simp (failIfUnchanged := false) (disch := omega) only [Tryd.f59, go_sem, ↓reduceIte]
    refine hK _ ?_
    refine nx_then ?_
    refine awp_seqP rfl ?_
    refine awp_ifD (.tmp 10) rfl rfl rfl (fun h => ?_) (fun h => ?_)
    · skip
      refine awp_drop rfl ?_
      refine awp_skipP rfl ?_
      refine nx_then ?_
      refine awp_seqP rfl ?_
      refine awp_blockN 1 rfl rfl ?_
      refine awp_seqP rfl ?_
      refine awp_regP (Γ := noEnv) [1, 2, 4, 5, 6, 9] (noEnv_ok _ _) rfl rfl rfl (fun K hK => ?_)
      simp (failIfUnchanged := false) (disch := omega) only [Tryd.f59, go_sem, Nat.reduceAdd, ↓reduceIte]
      refine hK _ ?_
      refine nx_then ?_
      refine awp_seqP rfl ?_
      refine awp_regP (Γ := noEnv) [1, 2, 4, 5, 6, 9, 12] (noEnv_ok _ _) rfl rfl rfl (fun K hK => ?_)
      simp (failIfUnchanged := false) (disch := omega) only [Tryd.f59, go_sem, ↓reduceIte]
      refine hK _ ?_
      refine nx_then ?_
      refine awp_blockN 2 rfl rfl ?_
      refine awp_loopP (fun p : KVC => { fr := [(1, .w32 leaf), (2, .op nx 0), (4, .op (nx + 1) 0), (5, .op (nx + 2) 0), (6, .i k), (9, .i k), (12, .i p.v)], hp := upd (upd (upd (fun _ => none) nx (.cells (c8 seed) true)) (nx + 1) (.cells (c8 (List.replicate 8 0#8)) true)) (nx + 2) (.cells (c8 (lful seed leaf k p.v)) true), nx := 0, cx := p.c }) (fun p => p.v ≤ 2 ∧ nx + 3 ≤ p.c) (fun p => 2 - p.v) rfl ⟨⟨0, _⟩, ⟨Nat.zero_le _, by simp only; omega⟩, sub_same rfl rfl (Nat.le_refl _)⟩ ?_
      rintro ⟨v, c⟩ ⟨hv, hc⟩ n0
      simp only at hv hc ⊢
      have hl := lful_len seed leaf k v hv (by omega)
      refine awp_seqP rfl ?_
      refine awp_regP (Γ := noEnv) [13, 1, 2, 4, 5, 6, 9, 12] (noEnv_ok _ _) rfl rfl rfl (fun K hK => ?_)
      simp (failIfUnchanged := false) (disch := omega) only [Tryd.f59, go_sem, ↓reduceIte]
      refine hK _ ?_
      refine nx_then ?_
      refine awp_seqP rfl ?_
      refine awp_ifD (.tmp 13) rfl rfl rfl (fun h => ?_) (fun h => ?_)
      · skip
        refine awp_drop rfl ?_
        refine awp_skipP rfl ?_
        refine nx_then ?_
        refine awp_seqP rfl ?_
        refine awp_blockN 3 rfl rfl ?_
        refine awp_seqP rfl ?_
        refine awp_regP (Γ := noEnv) [1, 2, 4, 5, 6, 7, 9, 12] (noEnv_ok _ _) rfl rfl rfl (fun K hK => ?_)
        simp (failIfUnchanged := false) (disch := omega) only [Tryd.f59, go_sem, Nat.reduceAdd, ↓reduceIte]
        refine hK _ ?_
        refine nx_then ?_
        have hsl := secretL_len seed leaf (BitVec.ofInt 8 (k : Int)) (BitVec.ofInt 8 (v : Int))
        have hll : lockL (secretL seed leaf (BitVec.ofInt 8 (k : Int)) (BitVec.ofInt 8 (v : Int))) = lkv seed leaf k (BitVec.ofInt 8 (v : Int)) := rfl
        refine awp_seqP rfl ?_
        refine awp_regP (Γ := envL [(63, .pure true secretG)]) [1, 2, 4, 5, 6, 7, 8, 9, 12] (envOK_cons ok65 envOK_nil) rfl rfl rfl (fun K hK => ?_)
        simp (failIfUnchanged := false) (disch := omega) only [Tryd.f59, go_sem, Nat.reduceAdd, Nat.reduceLeDiff, ↓reduceIte, hn]
        refine hK _ ?_
        refine nx_then ?_
        have hkl := lkv_len seed leaf k (BitVec.ofInt 8 (v : Int))
        have e9 : k * 16 + v * 8 = 16 * k + 8 * v := by omega
        have hnx := lful_next seed leaf k v (by omega) (by omega)
        refine awp_drwP (Γ := envL [(64, .pure true lockG)]) (fun k => if k = 3 then 0 else 2) [1, 2, 4, 5, 6, 9, 12] mixed (envOK_cons ok66 envOK_nil) rfl rfl rfl (by kernel_rfl) (fun K hK => ?_)
        simp (failIfUnchanged := false) (disch := omega) only [Tryd.f59, go_sem, Nat.reduceAdd, Nat.reduceSub, Nat.reduceLeDiff, Int.reduceLE, Int.reduceToNat, ↓reduceIte, hl, hll, storeL_c8, hkl, e9, hnx]
        refine hK _ ?_
        refine nx_blk (nx_then ?_)
        refine awp_regP (Γ := noEnv) [1, 2, 4, 5, 6, 9, 12] (noEnv_ok _ _) rfl rfl rfl (fun K hK => ?_)
        simp (failIfUnchanged := false) (disch := omega) only [Tryd.f59, go_sem, Nat.reduceAdd, ↓reduceIte]
        refine hK _ ?_
        refine nx_loop ?_
        refine ⟨⟨v + 1, _⟩, ⟨by simp only; omega, ?_⟩, by simp only; omega, ⟨fun _ => .inr ?_, fun j o h => ?_, Nat.le_refl _⟩⟩
        · simp only; omega
        · simp only [Int.natCast_add, Int.natCast_one]
        · simp only at h
          grind [upd_apply, del_apply]
      · skip
        refine awp_drop rfl ?_
        refine awp_exitN 2 rfl rfl ?_
        refine nx_ex_then (nx_ex_loop (nx_ex_blk ?_))
        refine nx_blk (nx_then ?_)
        obtain rfl : v = 2 := by omega
        rw [lful_two]
        refine awp_regP (Γ := noEnv) [1, 2, 4, 5, 9] (noEnv_ok _ _) rfl rfl rfl (fun K hK => ?_)
        simp (failIfUnchanged := false) (disch := omega) only [Tryd.f59, go_sem, Nat.reduceAdd, ↓reduceIte]
        refine hK _ ?_
        refine nx_loop ?_
        refine ⟨⟨k + 1, _⟩, ⟨by simp only; omega, by simp only; omega⟩, by simp only; omega, sub_same ?_ rfl (Nat.le_refl _)⟩
        simp (failIfUnchanged := false) only [Int.natCast_add, Int.natCast_one]
    · skip
      refine awp_drop rfl ?_
      refine awp_exitN 0 rfl rfl ?_
      refine nx_ex_then (nx_ex_loop (nx_ex_blk ?_))
      refine nx_then ?_
      refine awp_seqP rfl ?_
      obtain rfl : k = 32 := by omega
      rw [lful_all]
      have hl := lks_len seed leaf
      have hf : shortL 3#8 [lks seed leaf] = publicL seed leaf := rfl
      refine awp_regP (Γ := envL [(72, .pure true publG)]) [4] (envOK_cons ok67 envOK_nil) rfl rfl rfl (fun K hK => ?_)
      simp (failIfUnchanged := false) (disch := omega) only [Tryd.f59, go_sem, Nat.reduceAdd, Nat.reduceLeDiff, ↓reduceIte, hf]
      refine hK _ ?_
      refine nx_then ?_
      refine awp_retP rfl ?_
      simp (failIfUnchanged := false) (disch := omega) only [pureQ, resA, resAL, resA1, Tryd.f59, go_sem, Nat.reduceLeDiff, ↓reduceIte, ldV, imm_c8, hs]
  · cases hg
theorem ok33 : EntOK Tryd.prog GLh 59 (.pure true pubG) := ⟨⟨_, Tryd.func59, rfl, rfl⟩, pub_ok⟩
end Go.AX

namespace Go.AX
open Go Go.Proofs

end Go.AX

namespace Go.AX
open Go Go.Proofs

theorem cvb5 (hp hp2 : H) (cx id : Nat) (x : AV) (sd : Bool) : cvF hp hp2 cx id x Tryd.prog.underlying sd (some (.slice 5)) (some .string) = obind (slCells hp2 1 x) fun nl => obind (unW8 nl.2) fun l => some (.s l, hp, cx) := cvF_b2s _ _ _ _ _ _ _ _ Tryd.underlying5
theorem cvs5 (hp hp2 : H) (cx id : Nat) (l : List B8) (sd : Bool) : cvF hp hp2 cx id (.s l) Tryd.prog.underlying sd (some .string) (some (.slice 5)) = guardO (l.length ≤ 140737488355328) (some (.os id 0 l.length 1 true, upd hp id (.cells (l.map .w8) true), cx)) := cvF_s2b _ _ _ _ _ _ _ _ Tryd.underlying5
attribute [go_sem] cvb5 cvs5
def sg1 (seed : List B8) (leaf : W32) (d : W32) (i : Nat) : List B8 := secretL seed leaf (BitVec.ofInt 8 (i : Int)) (bitL d i) ++ lkv seed leaf i (1#8 - bitL d i)
def signL (seed : List B8) (leaf : W32) (d : W32) : List B8 := fl (sg1 seed leaf d) 32
theorem sg1_len (seed : List B8) (leaf d : W32) (i : Nat) : (sg1 seed leaf d i).length = 16 := by simp [sg1, secretL_len, lkv_len]
theorem signL_len (seed : List B8) (leaf d : W32) : (signL seed leaf d).length = 512 := fl_len _ 16 (sg1_len seed leaf d) 32
def signG : List AV → Option (Nat × Nat × List AV)
  | [.agg xs, .w32 leaf, .sl n ys] => obind (un8 xs) fun b => obind (un8 ys) fun m => guardO (b.length = 8 ∧ m.length = n ∧ n ≤ 900000000) (some (512, 1, c8 (signL b leaf (digL m))))
  | _ => none
theorem signG_eq (xs ys : List AV) (leaf : W32) (n : Nat) : signG [.agg xs, .w32 leaf, .sl n ys] = obind (un8 xs) fun b => obind (un8 ys) fun m => guardO (b.length = 8 ∧ m.length = n ∧ n ≤ 900000000) (some (512, 1, c8 (signL b leaf (digL m)))) := (rfl)
attribute [go_sem] signG_eq signL_len
set_option maxHeartbeats 1000000 in
theorem sign_ok : FreshOK Tryd.prog GLh 50 signG := by
  refine fresh_of_awp Tryd.func50 (bodyOf_some rfl) ?_
  intro args r hg
  unfold signG at hg
  split at hg
  · rename_i xs leaf n ys
    replace hg := obind_inv hg; obtain ⟨seed, hb, hg⟩ := hg
    replace hg := obind_inv hg; obtain ⟨msg, hb2, hg⟩ := hg
    replace hg := guardO_inv hg; obtain ⟨⟨hn, hm, hbig⟩, hg⟩ := hg
    obtain rfl := Option.some.inj hg
    have := un8_inv _ hb; subst this
    have := un8_inv _ hb2; subst this
    subst hm
    clear hg hb hb2
    refine ⟨Nat.le_of_ble_eq_true rfl, fun nx => ?_⟩
    refine awp_seqP rfl ?_
    refine awp_regP (Γ := noEnv) [1, 2, 3] (noEnv_ok _ _) rfl rfl rfl (fun K hK => ?_)
    simp (failIfUnchanged := false) (disch := omega) only [Tryd.f50, go_sem, Nat.reduceAdd, ↓reduceIte]
    refine hK _ ?_
    refine nx_then ?_
    refine awp_seqP rfl ?_
    refine awp_regP (Γ := noEnv) [1, 2, 3, 7] (noEnv_ok _ _) rfl rfl rfl (fun K hK => ?_)
    simp (failIfUnchanged := false) (disch := omega) only [Tryd.f50, go_sem, ↓reduceIte]
    refine hK _ ?_
    refine nx_then ?_
    refine awp_seqP rfl ?_
    refine awp_regP (Γ := envL [(61, .pure true digG)]) [1, 3, 7, 8] (envOK_cons ok35 envOK_nil) rfl rfl rfl (fun K hK => ?_)
    simp (failIfUnchanged := false) (disch := omega) only [Tryd.f50, go_sem, Nat.reduceAdd, ↓reduceIte]
    refine hK _ ?_
    refine nx_then ?_
    generalize digL msg = d
    refine awp_seqP rfl ?_
    refine awp_seqP rfl ?_
    refine awp_regP (Γ := noEnv) [1, 3, 7, 8, 16] (noEnv_ok _ _) rfl rfl rfl (fun K hK => ?_)
    simp (failIfUnchanged := false) (disch := omega) only [Tryd.f50, go_sem, ↓reduceIte]
    refine hK _ ?_
    refine nx_then ?_
    refine awp_blockN 0 rfl rfl ?_
    refine awp_own 7 1 rfl ?_
    refine awp_keep [1, 3, 7, 8, 16] ?_
    simp (failIfUnchanged := false) only [kf_nil, kf_cons, look_cons, ↓reduceIte, Nat.reduceEqDiff]
    refine awp_loopP (fun p : KIC => { fr := [(1, .w32 leaf), (3, .op nx 0), (7, .os p.id 0 (16 * p.k) 1 true), (8, .w32 d), (16, .i p.k)], hp := upd (upd (fun _ => none) nx (.cells (c8 seed) true)) p.id (.cells (c8 (fl (sg1 seed leaf d) p.k)) true), nx := 0, cx := p.c }) (fun p => p.k ≤ 32 ∧ nx < p.id ∧ p.id < p.c) (fun p => 32 - p.k) rfl ⟨⟨0, _, _⟩, ⟨Nat.zero_le _, by simp only; omega, by simp only; omega⟩, sub_same rfl rfl (Nat.le_refl _)⟩ ?_
    rintro ⟨k, id, c⟩ ⟨hk, hid, hc⟩ n0
    simp only at hk hid hc ⊢
    have hl := fl_len _ 16 (sg1_len seed leaf d) k
    refine awp_seqP rfl ?_
    refine awp_regP (Γ := noEnv) [17, 1, 3, 7, 8, 16] (noEnv_ok _ _) rfl rfl rfl (fun K hK => ?_)
    simp (failIfUnchanged := false) (disch := omega) only [Tryd.f50, go_sem, ↓reduceIte]
    refine hK _ ?_
    refine nx_then ?_
    refine awp_seqP rfl ?_
    refine awp_ifD (.tmp 17) rfl rfl rfl (fun h => ?_) (fun h => ?_)
    · skip
      refine awp_drop rfl ?_
      refine awp_skipP rfl ?_
      refine nx_then ?_
      refine awp_seqP rfl ?_
      refine awp_blockN 1 rfl rfl ?_
      refine awp_seqP rfl ?_
      refine awp_regP (Γ := noEnv) [1, 3, 7, 8, 9, 16] (noEnv_ok _ _) rfl rfl rfl (fun K hK => ?_)
      simp (failIfUnchanged := false) (disch := omega) only [Tryd.f50, go_sem, Nat.reduceAdd, ↓reduceIte]
      refine hK _ ?_
      refine nx_then ?_
      refine awp_seqP rfl ?_
      refine awp_regP (Γ := envL [(62, .pure true bitG)]) [1, 3, 7, 8, 9, 10, 16] (envOK_cons ok64 envOK_nil) rfl rfl rfl (fun K hK => ?_)
      simp (failIfUnchanged := false) (disch := omega) only [Tryd.f50, go_sem, Nat.reduceAdd, ↓reduceIte]
      refine hK _ ?_
      refine nx_then ?_
      have hs1 := secretL_len seed leaf (BitVec.ofInt 8 (k : Int)) (bitL d k)
      have hs2 := secretL_len seed leaf (BitVec.ofInt 8 (k : Int)) (1#8 - bitL d k)
      have hll : lockL (secretL seed leaf (BitVec.ofInt 8 (k : Int)) (1#8 - bitL d k)) = lkv seed leaf k (1#8 - bitL d k) := rfl
      have hkl := lkv_len seed leaf k (1#8 - bitL d k)
      refine awp_seqP rfl ?_
      refine awp_drwP (Γ := envL [(63, .pure true secretG)]) (fun k => if k = 10 then 34 else 2) [1, 3, 7, 8, 11, 12, 16] mixed (envOK_cons ok65 envOK_nil) rfl rfl rfl (by kernel_rfl) (fun K hK => ?_)
      simp (disch := first | omega | decide) only [Tryd.f50, go_sem, Nat.reduceAdd, Nat.reduceLeDiff, Int.reduceLE, Int.reduceLT, BitVec.reduceOfInt, ↓reduceIte, hn]
      refine hK _ ?_
      refine nx_then ?_
      refine awp_seqP rfl ?_
      refine awp_regP (Γ := envL [(64, .pure true lockG)]) [1, 3, 7, 8, 11, 13, 16] (envOK_cons ok66 envOK_nil) rfl rfl rfl (fun K hK => ?_)
      simp (failIfUnchanged := false) (disch := omega) only [Tryd.f50, go_sem, Nat.reduceAdd, Nat.reduceSub, Nat.reduceLeDiff, Int.reduceLE, Int.reduceToNat, ↓reduceIte, hll]
      refine hK _ ?_
      refine nx_then ?_
      refine awp_drwP (Γ := noEnv) (fun k => if k = 4 then 10 else 2) [1, 3, 7, 8, 16] mixed (noEnv_ok _ _) rfl rfl rfl (by kernel_rfl) (fun K hK => ?_)
      simp (disch := first | omega | decide) only [Tryd.f50, go_sem, Nat.reduceAdd, Nat.reduceSub, Nat.reduceLeDiff, Nat.reduceLT, Int.reduceLE, Int.reduceToNat, ↓reduceIte, hl]
      refine hK _ ?_
      refine nx_blk (nx_then ?_)
      refine awp_regP (Γ := noEnv) [1, 3, 7, 8, 16] (noEnv_ok _ _) rfl rfl rfl (fun K hK => ?_)
      simp (failIfUnchanged := false) (disch := omega) only [Tryd.f50, go_sem, Nat.reduceAdd, ↓reduceIte]
      refine hK _ ?_
      refine nx_loop ?_
      have e5 : 16 * (k + 1) = 16 * k + 8 + 8 := by omega
      have e6 : fl (sg1 seed leaf d) (k + 1) = fl (sg1 seed leaf d) k ++ secretL seed leaf (BitVec.ofInt 8 (k : Int)) (bitL d k) ++ lkv seed leaf k (1#8 - bitL d k) := by rw [fl, sg1, List.append_assoc]
      refine ⟨⟨k + 1, c + 1 + 2 + 4 + 15 + 4 + 4, _⟩, ⟨by simp only; omega, by simp only; omega, by simp only; omega⟩, by simp only; omega, ⟨fun _ => .inr ?_, fun j o h => ?_, Nat.le_refl _⟩⟩
      · simp only [e5, Int.natCast_add, Int.natCast_one]
      · simp only at h
        exact hsub_cons (by simp (failIfUnchanged := false) (disch := omega) only [up_app, ↓reduceIte, eq_self, e6]) (hsub_cons (by simp (disch := omega) only [up_app, de_app, nat_ne, ↓reduceIte, eq_self]) (hsub_nil)) j o h
    · skip
      refine awp_drop rfl ?_
      refine awp_exitN 0 rfl rfl ?_
      refine nx_ex_then (nx_ex_loop (nx_ex_blk ?_))
      refine nx_then ?_
      refine awp_seqP rfl ?_
      obtain rfl : k = 32 := by omega
      have hq : fl (sg1 seed leaf d) 32 = signL seed leaf d := rfl
      rw [hq] at hl ⊢
      refine awp_regP (Γ := noEnv) [6] (noEnv_ok _ _) rfl rfl rfl (fun K hK => ?_)
      simp (failIfUnchanged := false) (disch := omega) only [Tryd.f50, go_sem, Nat.reduceAdd, Nat.reduceMul, ↓reduceIte]
      refine hK _ ?_
      refine nx_then ?_
      refine awp_retP rfl ?_
      simp (failIfUnchanged := false) (disch := omega) only [freshQ, freshR, resA, resAL, resA1, Tryd.f50, go_sem, ↓reduceIte, c8_noOwn]
  · cases hg
theorem ok29 : EntOK Tryd.prog GLh 50 (.fresh true signG) := ⟨⟨_, Tryd.func50, rfl, rfl⟩, sign_ok⟩
def bytG : List AV → Option AV
  | [.sl n xs, .sl m ys] => obind (un8 xs) fun a => obind (un8 ys) fun b => guardO (a.length = n ∧ b.length = m) (some (.b (decide (a = b))))
  | _ => none
theorem bytG_eq (n m : Nat) (xs ys : List AV) : bytG [.sl n xs, .sl m ys] = obind (un8 xs) fun a => obind (un8 ys) fun b => guardO (a.length = n ∧ b.length = m) (some (.b (decide (a = b)))) := (rfl)
attribute [go_sem] bytG_eq unW8_c8
end Go.AX

namespace Go.AX
open Go Go.Proofs

/-- The sum of a key's bytes, by twos. -/
def tagN : List B8 → Nat → Nat
  | _, 0 => 0
  | l, k + 1 => tagN l k + (if k % 2 = 0 then 256 * (l.getD k 0#8).toNat else (l.getD k 0#8).toNat)
def tagL (l : List B8) : BitVec 16 := BitVec.ofNat 16 (tagN l l.length + tagN l l.length / 65536 % 65536)
def tagG : List AV → Option AV
  | [.sl n xs] => obind (un8 xs) fun b => guardO (b.length = n ∧ n ≤ 60000) (some (.w16 (tagL b)))
  | _ => none
theorem tagG_eq (n : Nat) (xs : List AV) : tagG [.sl n xs] = obind (un8 xs) fun b => guardO (b.length = n ∧ n ≤ 60000) (some (.w16 (tagL b))) := (rfl)
attribute [go_sem] tagG_eq
def placeG : List AV → Option AV
  | [.i k, .i n] => guardO (0 < n ∧ n ≤ 1000000000) (some (.i (k % n)))
  | _ => none
theorem placeG_eq (k n : Int) : placeG [.i k, .i n] = guardO (0 < n ∧ n ≤ 1000000000) (some (.i (k % n))) := (rfl)
attribute [go_sem] placeG_eq
end Go.AX
