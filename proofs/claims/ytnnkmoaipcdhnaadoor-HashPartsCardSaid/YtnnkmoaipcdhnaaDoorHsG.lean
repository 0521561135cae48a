/-
  Hash, part G: the reference's small functions: turning, the table, padding.
-/
import Derived.Test.YtnnkmoaipcdhnaaDoorHsF
namespace Go.AX
open Go Go.Proofs

def turnG : List AV → Option AV
  | [.w32 x, .i n] => if 0 ≤ n ∧ n ≤ 32 then some (.w32 (x >>> n.toNat ||| x <<< (32 - n).toNat)) else none
  | _ => none
theorem turnG_eq (x : W32) (n : Int) (h : 0 ≤ n ∧ n ≤ 32) : turnG [.w32 x, .i n] = some (.w32 (x >>> n.toNat ||| x <<< (32 - n).toNat)) := if_pos h

theorem turn_ok (GL : Nat → Option (List AV)) : PureOK Tryd.prog GL 63 turnG := by
  refine pure_of_awp Tryd.func63 (bodyOf_some rfl) ?_
  intro args r hg
  unfold turnG at hg
  split at hg
  · rename_i x n
    split at hg
    · rename_i hn
      obtain rfl := Option.some.inj hg
      refine ⟨Nat.le_of_ble_eq_true rfl, fun nx => ?_⟩
      refine awp_seqP rfl ?_
      refine awp_regP (Γ := noEnv) [0, 1] (noEnv_ok _ _) rfl rfl rfl (fun K hK => ?_)
      simp only [Tryd.f63, bodyOf, Option.getD_some, cl, rOps, lights, light, rN, List.size_toArray, List.length_cons, List.length_nil, Nat.zero_add, List.map_cons, List.map_nil, Option.map_none]
      simp (maxSteps := 300000) (disch := omega) only [go_sem, Nat.reduceEqDiff, Int.reduceLE, Int.reduceLT, BitVec.reduceOfInt, reduceCtorEq, ↓reduceIte]
      with_reducible refine hK _ ?_
      clear hK K
      repeat (first | with_reducible refine nx_then ?_ | with_reducible refine nx_blk ?_ | with_reducible refine nx_loop ?_ | with_reducible refine nx_ex_then ?_ | with_reducible refine nx_ex_loop ?_ | with_reducible refine nx_ex_blk ?_ | with_reducible refine nx_ret_then ?_ | with_reducible refine nx_ret_blk ?_ | with_reducible refine nx_ret_loop ?_)
      refine awp_seqP rfl ?_
      refine awp_drwP (Γ := noEnv) (fun _ => 0) [4] mixed (noEnv_ok _ _) rfl rfl rfl (by kernel_rfl) (fun K hK => ?_)
      simp only [Tryd.f63, bodyOf, Option.getD_some, cl, cr, rOps, lights, light, rN, List.size_toArray, List.length_cons, List.length_nil, Nat.reduceAdd, Nat.zero_add, List.map_cons, List.map_nil, Option.map_none]
      simp (maxSteps := 300000) (disch := omega) only [go_sem, Nat.reduceAdd, Nat.reduceEqDiff, reduceCtorEq, ↓reduceIte, W_eq]
      with_reducible refine hK _ ?_
      clear hK K
      repeat (first | with_reducible refine nx_then ?_ | with_reducible refine nx_blk ?_ | with_reducible refine nx_loop ?_ | with_reducible refine nx_ex_then ?_ | with_reducible refine nx_ex_loop ?_ | with_reducible refine nx_ex_blk ?_ | with_reducible refine nx_ret_then ?_ | with_reducible refine nx_ret_blk ?_ | with_reducible refine nx_ret_loop ?_)
      refine awp_retP rfl ?_
      simp only [pureQ, resA, resAL, resA1, Tryd.f63, go_sem, ↓reduceIte, immF]
    · cases hg
  · cases hg

def tableG : List AV → Option AV
  | [] => some (.agg (c32 KT))
  | _ => none
theorem c32_noOwn (l : List W32) : noOwn (c32 l) = true := by
  simp only [noOwn, c32, List.all_eq_true, List.mem_map]
  rintro _ ⟨x, _, rfl⟩; rfl
theorem imm_c32 (hp : H) (l : List W32) : immF 4 hp (.agg (c32 l)) = some (.agg (c32 l)) := by
  show obind (immL (immF 3 hp) (c32 l)) _ = _
  simp only [immL, c32_noOwn, if_true]; rfl

/-- A slice of bytes that is one's own, as a function gives it back. -/
def padz (b : List B8) : Nat → List B8
  | 0 => b ++ [0x80#8]
  | k + 1 => padz b k ++ [0#8]
def padn (n : BitVec 64) (l : List B8) : Nat → List B8
  | 0 => l
  | k + 1 => padn n l k ++ [(n >>> (8 * (7 - k))).setWidth 8]
def padk (b : List B8) : Nat := (119 - b.length % 64) % 64
def padL (b : List B8) : List B8 := padn (BitVec.ofInt 64 (b.length : Int) * 8#64) (padz b (padk b)) 8
theorem padz_len (b : List B8) (k : Nat) : (padz b k).length = b.length + 1 + k := by
  induction k with
  | zero => simp [padz]
  | succ k ih => simp only [padz, List.length_append, ih, List.length_cons, List.length_nil]; omega
theorem padn_len (n : BitVec 64) (l : List B8) (k : Nat) : (padn n l k).length = l.length + k := by
  induction k with
  | zero => rfl
  | succ k ih => simp only [padn, List.length_append, ih, List.length_cons, List.length_nil]; omega
def padG : List AV → Option (Nat × Nat × List AV)
  | [.sl n xs] => obind (un8 xs) fun b => guardO (b.length = n ∧ n ≤ 1000000000) (some ((padL b).length, 1, c8 (padL b)))
  | _ => none
theorem one8 (x : B8) : [AV.w8 x] = c8 [x] := (rfl)
theorem nat_ne (a b : Nat) (h : a ≠ b) : (a = b) = False := eq_false h
theorem take1_8 (x : B8) : List.take 1 (c8 [x]) = c8 [x] := (rfl)
theorem rep1_8 (x : B8) : rep 1 (c8 [x]) = c8 [x] := (rfl)
theorem sp1_8 (x y : B8) : splice (c8 [x]) 0 (c8 [y]) = c8 [y] := (rfl)

theorem padk_step (b : List B8) (k : Nat) : (¬ (((b.length + 1 + k : Nat) : Int).tmod 64 = 56)) → k ≤ padk b → k < padk b := by
  intro h hk
  unfold padk at *
  rw [Int.tmod_eq_emod_of_nonneg (by omega)] at h
  omega
theorem padk_end (b : List B8) (k : Nat) : (((b.length + 1 + k : Nat) : Int).tmod 64 = 56) → k ≤ padk b → k = padk b := by
  intro h hk
  unfold padk at *
  rw [Int.tmod_eq_emod_of_nonneg (by omega)] at h
  omega
structure PS where
  k : Nat
  id : Nat
  c : Nat

set_option maxHeartbeats 4000000 in
theorem pad_l1 {GL : Nat → Option (List AV)} {id0 c0 : Nat} {b : List B8} {hp : H} {Q : Exit → S → Prop} (hid : id0 < c0) (hbig : b.length ≤ 1000000000) (hh : ∀ k o, upd (fun _ => none) id0 (.cells (c8 (padz b 0)) true) k = some o → hp k = some o)
    (hQ : ∀ id c m z1 z2, id < c → Q .normal { fr := [(0, .sl b.length (c8 b)), (3, .os id 0 (b.length + 1 + padk b) 1 true), (12, z1), (13, z2)], hp := upd (fun _ => none) id (.cells (c8 (padz b (padk b))) true), nx := m, cx := c }) :
    ∀ n0, Awp Tryd.prog GL Tryd.f62.ntmps (cl (cr (cr (bodyOf Tryd.f62)))) { fr := [(0, .sl b.length (c8 b)), (3, .os id0 0 (b.length + 1) 1 true)], hp := hp, nx := n0, cx := c0 } Q := by
  intro n0
  refine awp_blockN 0 rfl rfl ?_
  refine awp_loopP (fun p : PS => { fr := [(0, .sl b.length (c8 b)), (3, .os p.id 0 (b.length + 1 + p.k) 1 true)], hp := upd (fun _ => none) p.id (.cells (c8 (padz b p.k)) true), nx := 0, cx := p.c }) (fun p => p.k ≤ padk b ∧ p.id < p.c) (fun p => padk b - p.k) rfl ⟨⟨0, id0, c0⟩, ⟨Nat.zero_le _, hid⟩, ⟨fun _ => .inr rfl, hh, Nat.le_refl _⟩⟩ ?_
  rintro ⟨k, id, c⟩ ⟨hk, hid⟩ m
  simp only at hk hid ⊢
  have hl := padz_len b k
  have hpk : padk b < 64 := by unfold padk; omega
  refine awp_seqP rfl ?_
  refine awp_seqP rfl ?_
  refine awp_regP (Γ := noEnv) [0, 3, 12, 13] (noEnv_ok _ _) rfl rfl rfl (fun K hK => ?_)
  simp only [Tryd.f62, bodyOf, Option.getD_some, cl, cr, rOps, lights, light, rN, List.size_toArray, List.length_cons, List.length_nil, Nat.reduceAdd, Nat.zero_add, List.map_cons, List.map_nil, Option.map_none]
  simp (maxSteps := 300000) (disch := omega) only [go_sem, Nat.reduceAdd, Nat.reduceEqDiff, Int.reduceEq, reduceCtorEq, ↓reduceIte]
  with_reducible refine hK _ ?_
  clear hK K
  repeat (first | with_reducible refine nx_then ?_ | with_reducible refine nx_blk ?_ | with_reducible refine nx_loop ?_ | with_reducible refine nx_ex_then ?_ | with_reducible refine nx_ex_loop ?_ | with_reducible refine nx_ex_blk ?_ | with_reducible refine nx_ret_then ?_ | with_reducible refine nx_ret_blk ?_ | with_reducible refine nx_ret_loop ?_)
  refine awp_ifN (¬ (((b.length + 1 + k : Nat) : Int).tmod 64 = 56)) (.tmp 13) rfl rfl (by show AV.b (!decide _) = AV.b (decide _); rw [decide_not]) (fun h => ?_) (fun h => ?_)
  · refine awp_skipP rfl ?_
    repeat (first | with_reducible refine nx_then ?_ | with_reducible refine nx_blk ?_ | with_reducible refine nx_loop ?_ | with_reducible refine nx_ex_then ?_ | with_reducible refine nx_ex_loop ?_ | with_reducible refine nx_ex_blk ?_ | with_reducible refine nx_ret_then ?_ | with_reducible refine nx_ret_blk ?_ | with_reducible refine nx_ret_loop ?_)
    refine awp_blockN 1 rfl rfl ?_
    refine awp_regP (Γ := noEnv) [0, 3] (noEnv_ok _ _) rfl rfl rfl (fun K hK => ?_)
    simp only [Tryd.f62, bodyOf, Option.getD_some, cl, cr, rOps, lights, light, rN, List.size_toArray, List.length_cons, List.length_nil, Nat.reduceAdd, Nat.zero_add, List.map_cons, List.map_nil, Option.map_none]
    simp (maxSteps := 300000) (disch := omega) only [go_sem, Nat.reduceAdd, Nat.reduceLeDiff, Nat.reduceLT, Int.reduceLE, Int.reduceLT, BitVec.reduceOfInt, ↓reduceIte, nat_ne, rep1_8, sp1_8, take1_8, one8, c8_len, frzL_c8, c8_app, hl]
    with_reducible refine hK _ ?_
    clear hK K
    repeat (first | with_reducible refine nx_then ?_ | with_reducible refine nx_blk ?_ | with_reducible refine nx_loop ?_ | with_reducible refine nx_ex_then ?_ | with_reducible refine nx_ex_loop ?_ | with_reducible refine nx_ex_blk ?_ | with_reducible refine nx_ret_then ?_ | with_reducible refine nx_ret_blk ?_ | with_reducible refine nx_ret_loop ?_)
    refine ⟨⟨k + 1, _, _⟩, ⟨padk_step b k h hk, ?_⟩, ?_, ⟨fun _ => .inr rfl, fun j o h => ?_, Nat.le_refl _⟩⟩
    · simp only; omega
    · simp only; have := padk_step b k h hk; omega
    · simp only [upd_apply] at h ⊢
      split at h
      · rename_i e; rw [if_pos e]; exact h
      · cases h
  · refine awp_exitN 0 rfl rfl ?_
    repeat (first | with_reducible refine nx_then ?_ | with_reducible refine nx_blk ?_ | with_reducible refine nx_loop ?_ | with_reducible refine nx_ex_then ?_ | with_reducible refine nx_ex_loop ?_ | with_reducible refine nx_ex_blk ?_ | with_reducible refine nx_ret_then ?_ | with_reducible refine nx_ret_blk ?_ | with_reducible refine nx_ret_loop ?_)
    have := padk_end b k (Decidable.not_not.1 h) hk
    subst this
    exact hQ id _ _ _ _ (by omega)

set_option maxHeartbeats 4000000 in
theorem pad_l2 {GL : Nat → Option (List AV)} {id0 c0 : Nat} {l : List B8} {n : BitVec 64} {hp : H} {Q : Exit → S → Prop} (hid : id0 < c0) (hbig : l.length ≤ 2000000000) (hh : ∀ k o, upd (fun _ => none) id0 (.cells (c8 (padn n l 0)) true) k = some o → hp k = some o)
    (hQ : ∀ id c m z0 z1 z2, id < c → Q .normal { fr := [(3, .os id 0 (l.length + 8) 1 true), (4, .w64 n), (5, z0), (21, z1), (22, z2)], hp := upd (fun _ => none) id (.cells (c8 (padn n l 8)) true), nx := m, cx := c }) :
    ∀ n0, Awp Tryd.prog GL Tryd.f62.ntmps (cr (cl (cr (cr (cr (cr (bodyOf Tryd.f62))))))) { fr := [(3, .os id0 0 l.length 1 true), (4, .w64 n), (5, .i 7)], hp := hp, nx := n0, cx := c0 } Q := by
  intro n0
  refine awp_blockN 2 rfl rfl ?_
  refine awp_loopP (fun p : PS => { fr := [(3, .os p.id 0 (l.length + p.k) 1 true), (4, .w64 n), (5, .i (7 - (p.k : Int)))], hp := upd (fun _ => none) p.id (.cells (c8 (padn n l p.k)) true), nx := 0, cx := p.c }) (fun p => p.k ≤ 8 ∧ p.id < p.c) (fun p => 8 - p.k) rfl ⟨⟨0, id0, c0⟩, ⟨Nat.zero_le _, hid⟩, ⟨fun _ => .inr rfl, hh, Nat.le_refl _⟩⟩ ?_
  rintro ⟨k, id, c⟩ ⟨hk, hid⟩ m
  simp only at hk hid ⊢
  have hl := padn_len n l k
  refine awp_seqP rfl ?_
  refine awp_seqP rfl ?_
  refine awp_regP (Γ := noEnv) [3, 4, 5, 21, 22] (noEnv_ok _ _) rfl rfl rfl (fun K hK => ?_)
  simp only [Tryd.f62, bodyOf, Option.getD_some, cl, cr, rOps, lights, light, rN, List.size_toArray, List.length_cons, List.length_nil, Nat.reduceAdd, Nat.zero_add, List.map_cons, List.map_nil, Option.map_none]
  simp (maxSteps := 300000) (disch := omega) only [go_sem, Nat.reduceAdd, Nat.reduceEqDiff, ↓reduceIte]
  with_reducible refine hK _ ?_
  clear hK K
  repeat (first | with_reducible refine nx_then ?_ | with_reducible refine nx_blk ?_ | with_reducible refine nx_loop ?_ | with_reducible refine nx_ex_then ?_ | with_reducible refine nx_ex_loop ?_ | with_reducible refine nx_ex_blk ?_ | with_reducible refine nx_ret_then ?_ | with_reducible refine nx_ret_blk ?_ | with_reducible refine nx_ret_loop ?_)
  refine awp_ifN ((0 : Int) ≤ 7 - (k : Int)) (.tmp 22) rfl rfl rfl (fun h => ?_) (fun h => ?_)
  · refine awp_skipP rfl ?_
    repeat (first | with_reducible refine nx_then ?_ | with_reducible refine nx_blk ?_ | with_reducible refine nx_loop ?_ | with_reducible refine nx_ex_then ?_ | with_reducible refine nx_ex_loop ?_ | with_reducible refine nx_ex_blk ?_ | with_reducible refine nx_ret_then ?_ | with_reducible refine nx_ret_blk ?_ | with_reducible refine nx_ret_loop ?_)
    refine awp_seqP rfl ?_
    refine awp_blockN 3 rfl rfl ?_
    have e1 : (8 * (7 - (k : Int))).toNat = 8 * (7 - k) := by omega
    refine awp_regP (Γ := noEnv) [3, 4, 5] (noEnv_ok _ _) rfl rfl rfl (fun K hK => ?_)
    simp only [Tryd.f62, bodyOf, Option.getD_some, cl, cr, rOps, lights, light, rN, List.size_toArray, List.length_cons, List.length_nil, Nat.reduceAdd, Nat.zero_add, List.map_cons, List.map_nil, Option.map_none]
    simp (maxSteps := 300000) (disch := omega) only [go_sem, Nat.reduceAdd, Nat.reduceLeDiff, Nat.reduceLT, ↓reduceIte, W_eq, nat_ne, e1, rep1_8, sp1_8, take1_8, one8, c8_len, frzL_c8, c8_app, hl]
    with_reducible refine hK _ ?_
    clear hK K
    repeat (first | with_reducible refine nx_then ?_ | with_reducible refine nx_blk ?_ | with_reducible refine nx_loop ?_ | with_reducible refine nx_ex_then ?_ | with_reducible refine nx_ex_loop ?_ | with_reducible refine nx_ex_blk ?_ | with_reducible refine nx_ret_then ?_ | with_reducible refine nx_ret_blk ?_ | with_reducible refine nx_ret_loop ?_)
    refine awp_regP (Γ := noEnv) [3, 4, 5] (noEnv_ok _ _) rfl rfl rfl (fun K hK => ?_)
    simp only [Tryd.f62, bodyOf, Option.getD_some, cl, cr, rOps, lights, light, rN, List.size_toArray, List.length_cons, List.length_nil, Nat.reduceAdd, Nat.zero_add, List.map_cons, List.map_nil, Option.map_none]
    simp (maxSteps := 300000) (disch := omega) only [go_sem, Nat.reduceAdd, Nat.reduceEqDiff, ↓reduceIte, W_eq]
    with_reducible refine hK _ ?_
    clear hK K
    repeat (first | with_reducible refine nx_then ?_ | with_reducible refine nx_blk ?_ | with_reducible refine nx_loop ?_ | with_reducible refine nx_ex_then ?_ | with_reducible refine nx_ex_loop ?_ | with_reducible refine nx_ex_blk ?_ | with_reducible refine nx_ret_then ?_ | with_reducible refine nx_ret_blk ?_ | with_reducible refine nx_ret_loop ?_)
    have e5 : (7 : Int) - (k : Int) - 1 = 7 - ((k + 1 : Nat) : Int) := by omega
    rw [e5]
    refine ⟨⟨k + 1, c + 2 + 7, c + 2 + 9 + 3⟩, ⟨by simp only; omega, by simp only; omega⟩, by simp only; omega, ⟨fun _ => .inr rfl, fun j o h => ?_, Nat.le_refl _⟩⟩
    simp only [upd_apply] at h ⊢
    split at h
    · rename_i e; rw [if_pos e]; exact h
    · cases h
  · refine awp_exitN 2 rfl rfl ?_
    repeat (first | with_reducible refine nx_then ?_ | with_reducible refine nx_blk ?_ | with_reducible refine nx_loop ?_ | with_reducible refine nx_ex_then ?_ | with_reducible refine nx_ex_loop ?_ | with_reducible refine nx_ex_blk ?_ | with_reducible refine nx_ret_then ?_ | with_reducible refine nx_ret_blk ?_ | with_reducible refine nx_ret_loop ?_)
    obtain rfl : k = 8 := by omega
    exact hQ id _ _ _ _ _ (by omega)

set_option maxHeartbeats 4000000 in
theorem pad_ok (GL : Nat → Option (List AV)) : FreshOK Tryd.prog GL 62 padG := by
  refine fresh_of_awp Tryd.func62 (bodyOf_some rfl) ?_
  intro args r hg
  unfold padG at hg
  split at hg
  · rename_i n xs
    replace hg := obind_inv hg; obtain ⟨b, hb, hg⟩ := hg
    replace hg := guardO_inv hg; obtain ⟨⟨hn, hbig⟩, hg⟩ := hg
    obtain rfl := Option.some.inj hg
    have := un8_inv _ hb; subst this
    subst hn
    refine ⟨Nat.le_of_ble_eq_true rfl, fun nx => ?_⟩
    have hbl := c8_len b
    refine awp_seqP rfl ?_
    refine awp_regP (Γ := noEnv) [0] (noEnv_ok _ _) rfl rfl rfl (fun K hK => ?_)
    simp only [Tryd.f62, bodyOf, Option.getD_some, cl, rOps, lights, light, rN, List.size_toArray, List.length_cons, List.length_nil, Nat.zero_add, List.map_cons, List.map_nil, Option.map_none]
    simp (maxSteps := 300000) (disch := omega) only [go_sem, reduceCtorEq, ↓reduceIte]
    with_reducible refine hK _ ?_
    clear hK K
    repeat (first | with_reducible refine nx_then ?_ | with_reducible refine nx_blk ?_ | with_reducible refine nx_loop ?_ | with_reducible refine nx_ex_then ?_ | with_reducible refine nx_ex_loop ?_ | with_reducible refine nx_ex_blk ?_ | with_reducible refine nx_ret_then ?_ | with_reducible refine nx_ret_blk ?_ | with_reducible refine nx_ret_loop ?_)
    refine awp_seqP rfl ?_
    refine awp_regP (Γ := noEnv) [0, 3] (noEnv_ok _ _) rfl rfl rfl (fun K hK => ?_)
    simp only [Tryd.f62, bodyOf, Option.getD_some, cl, cr, rOps, lights, light, rN, List.size_toArray, List.length_cons, List.length_nil, Nat.reduceAdd, Nat.zero_add, List.map_cons, List.map_nil, Option.map_none]
    simp (maxSteps := 300000) (disch := omega) only [go_sem, Nat.reduceAdd, Nat.reduceLeDiff, Nat.reduceLT, Int.reduceLE, Int.reduceLT, BitVec.reduceOfInt, ↓reduceIte, nat_ne, hbl, rep1_8, sp1_8, take1_8, one8, c8_len, frzL_c8, c8_app]
    with_reducible refine hK _ ?_
    clear hK K
    repeat (first | with_reducible refine nx_then ?_ | with_reducible refine nx_blk ?_ | with_reducible refine nx_loop ?_ | with_reducible refine nx_ex_then ?_ | with_reducible refine nx_ex_loop ?_ | with_reducible refine nx_ex_blk ?_ | with_reducible refine nx_ret_then ?_ | with_reducible refine nx_ret_blk ?_ | with_reducible refine nx_ret_loop ?_)
    refine awp_seqP rfl ?_
    refine pad_l1 (id0 := nx + 1 + 3) (c0 := nx + 1 + 5) (by omega) hbig (fun k o h => ?_) (fun id c m z1 z2 hid => ?_) _
    · simp only [upd_apply] at h ⊢
      split at h
      · rename_i e; rw [if_pos e]; exact h
      · cases h
    repeat (first | with_reducible refine nx_then ?_ | with_reducible refine nx_blk ?_ | with_reducible refine nx_loop ?_ | with_reducible refine nx_ex_then ?_ | with_reducible refine nx_ex_loop ?_ | with_reducible refine nx_ex_blk ?_ | with_reducible refine nx_ret_then ?_ | with_reducible refine nx_ret_blk ?_ | with_reducible refine nx_ret_loop ?_)
    refine awp_seqP rfl ?_
    refine awp_regP (Γ := noEnv) [0, 3, 4] (noEnv_ok _ _) rfl rfl rfl (fun K hK => ?_)
    simp only [Tryd.f62, bodyOf, Option.getD_some, cl, cr, rOps, lights, light, rN, List.size_toArray, List.length_cons, List.length_nil, Nat.reduceAdd, Nat.zero_add, List.map_cons, List.map_nil, Option.map_none]
    simp (maxSteps := 300000) (disch := omega) only [go_sem, Nat.reduceAdd, Nat.reduceEqDiff, Int.reduceLE, Int.reduceLT, BitVec.reduceOfInt, reduceCtorEq, ↓reduceIte]
    with_reducible refine hK _ ?_
    clear hK K
    repeat (first | with_reducible refine nx_then ?_ | with_reducible refine nx_blk ?_ | with_reducible refine nx_loop ?_ | with_reducible refine nx_ex_then ?_ | with_reducible refine nx_ex_loop ?_ | with_reducible refine nx_ex_blk ?_ | with_reducible refine nx_ret_then ?_ | with_reducible refine nx_ret_blk ?_ | with_reducible refine nx_ret_loop ?_)
    have hl0 := padz_len b (padk b)
    have hpk : padk b < 64 := by unfold padk; omega
    refine awp_seqP rfl ?_
    refine awp_seqP rfl ?_
    refine awp_regP (Γ := noEnv) [3, 4, 5] (noEnv_ok _ _) rfl rfl rfl (fun K hK => ?_)
    simp only [Tryd.f62, bodyOf, Option.getD_some, cl, cr, rOps, lights, light, rN, List.size_toArray, List.length_cons, List.length_nil, Nat.zero_add, List.map_cons, List.map_nil, Option.map_none]
    simp (maxSteps := 300000) (disch := omega) only [go_sem, Nat.reduceEqDiff, reduceCtorEq, ↓reduceIte]
    with_reducible refine hK _ ?_
    clear hK K
    repeat (first | with_reducible refine nx_then ?_ | with_reducible refine nx_blk ?_ | with_reducible refine nx_loop ?_ | with_reducible refine nx_ex_then ?_ | with_reducible refine nx_ex_loop ?_ | with_reducible refine nx_ex_blk ?_ | with_reducible refine nx_ret_then ?_ | with_reducible refine nx_ret_blk ?_ | with_reducible refine nx_ret_loop ?_)
    rw [← hl0]
    refine pad_l2 (l := padz b (padk b)) (id0 := id) (c0 := c + 5 + 1) (by omega) (by omega) (fun k o h => h) (fun id2 c2 m2 z0 z3 z4 hid2 => ?_) _
    repeat (first | with_reducible refine nx_then ?_ | with_reducible refine nx_blk ?_ | with_reducible refine nx_loop ?_ | with_reducible refine nx_ex_then ?_ | with_reducible refine nx_ex_loop ?_ | with_reducible refine nx_ex_blk ?_ | with_reducible refine nx_ret_then ?_ | with_reducible refine nx_ret_blk ?_ | with_reducible refine nx_ret_loop ?_)
    refine awp_seqP rfl ?_
    refine awp_regP (Γ := noEnv) [2] (noEnv_ok _ _) rfl rfl rfl (fun K hK => ?_)
    simp only [Tryd.f62, bodyOf, Option.getD_some, cl, cr, rOps, lights, light, rN, List.size_toArray, List.length_cons, List.length_nil, Nat.reduceAdd, Nat.zero_add, List.map_cons, List.map_nil, Option.map_none]
    simp (maxSteps := 300000) (disch := omega) only [go_sem, Nat.reduceAdd, ↓reduceIte]
    with_reducible refine hK _ ?_
    clear hK K
    repeat (first | with_reducible refine nx_then ?_ | with_reducible refine nx_blk ?_ | with_reducible refine nx_loop ?_ | with_reducible refine nx_ex_then ?_ | with_reducible refine nx_ex_loop ?_ | with_reducible refine nx_ex_blk ?_ | with_reducible refine nx_ret_then ?_ | with_reducible refine nx_ret_blk ?_ | with_reducible refine nx_ret_loop ?_)
    refine awp_retP rfl ?_
    have hpl : (padL b).length = (padz b (padk b)).length + 8 := padn_len _ _ _
    have hcl : (c8 (padL b)).length = (padL b).length := c8_len _
    show freshR _ _ 1 { fr := [(2, .os id2 0 ((padz b (padk b)).length + 8) 1 true)], hp := upd (fun _ => none) id2 (.cells (c8 (padL b)) true), nx := c2, cx := c2 + 2 } = _
    rw [← hpl]
    simp only [freshR, resA, resAL, resA1, Tryd.f62, look_cons, ob_some, up_app, ↓reduceIte, hcl, List.drop_zero, immL, c8_noOwn, Nat.mul_one, Nat.zero_add, and_self, guardO_True]
  · cases hg
end Go.AX
