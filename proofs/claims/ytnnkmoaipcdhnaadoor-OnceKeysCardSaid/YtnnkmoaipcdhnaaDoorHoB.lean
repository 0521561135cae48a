/-
  Once, part B: the reference's words, its secrets; digests.
-/
import Derived.Test.YtnnkmoaipcdhnaaDoorHoA
namespace Go.AX
open Go Go.Proofs

/-- A word's last k bytes, the greatest first: as far as j of them. -/
def beL (n : W32) (k : Nat) : Nat → List B8
  | 0 => []
  | j + 1 => beL n k j ++ [(n >>> (8 * (k - 1 - j))).setWidth 8]
theorem beL_len (n : W32) (k j : Nat) : (beL n k j).length = j := by
  induction j with
  | zero => rfl
  | succ j ih => simp [beL, ih]
theorem beL_4 (n : W32) : beL n 4 4 = w4 n := by
  simp only [beL, w4, List.nil_append, List.cons_append, Nat.reduceSub, Nat.reduceMul, BitVec.ushiftRight_zero]
def putV (nx : Nat) : Nat → AV
  | 0 => .v (.slice none 0 0)
  | j + 1 => .os (nx + 4 + 14 * j + 9) 0 (j + 1) 1 true
def putH (nx : Nat) (n : W32) (k : Nat) (hp : H) : Nat → H
  | 0 => hp
  | j + 1 => upd hp (nx + 4 + 14 * j + 9) (.cells (c8 (beL n k (j + 1))) true)
def putG : List AV → H → Nat → Option (AV × H × Nat)
  | [.v (.slice none 0 0), .w32 n, .i k], hp, nx => guardO (1 ≤ k ∧ k ≤ 8) (some (putV nx k.toNat, putH nx n k.toNat hp k.toNat, nx + 4 + 14 * k.toNat + 4))
  | _, _, _ => none
theorem putG_eq (n : W32) (k : Int) (hp : H) (nx : Nat) : putG [.v (.slice none 0 0), .w32 n, .i k] hp nx = guardO (1 ≤ k ∧ k ≤ 8) (some (putV nx k.toNat, putH nx n k.toNat hp k.toNat, nx + 4 + 14 * k.toNat + 4)) := (rfl)
attribute [go_sem] putG_eq

set_option maxHeartbeats 4000000 in
theorem put_ok : HeapOK Tryd.prog GLh 75 putG := by
  refine heap_of_awp Tryd.func75 (bodyOf_some rfl) ?_
  intro args hp nx r hp' nx' hg
  unfold putG at hg
  split at hg
  · rename_i h2 n2 n k0
    replace hg := guardO_inv hg; obtain ⟨⟨hk1, hk8⟩, hg⟩ := hg
    simp only [Option.some.injEq, Prod.mk.injEq] at hg; obtain ⟨rfl, rfl, rfl⟩ := hg
    obtain ⟨k, rfl⟩ := Int.eq_ofNat_of_zero_le (show 0 ≤ k0 by omega)
    simp only [Int.toNat_natCast] at *
    refine ⟨Nat.le_of_ble_eq_true rfl, by omega, fun hnone => ?_⟩
    refine awp_seqP rfl ?_
    refine awp_regP (Γ := noEnv) [0, 1, 2] (noEnv_ok _ _) rfl rfl rfl (fun K hK => ?_)
    simp only [Tryd.f75, bodyOf, Option.getD_some, cl, rOps, lights, light, rN, List.size_toArray, List.length_cons, List.length_nil, Nat.zero_add, List.map_cons, List.map_nil, Option.map_none]
    simp (maxSteps := 300000) (disch := omega) only [go_sem, Nat.reduceAdd, ↓reduceIte]
    with_reducible refine hK _ ?_
    clear hK K
    refine nx_then ?_
    refine awp_seqP rfl ?_
    refine awp_seqP rfl ?_
    refine awp_regP (Γ := noEnv) [0, 1, 7] (noEnv_ok _ _) rfl rfl rfl (fun K hK => ?_)
    simp only [Tryd.f75, bodyOf, Option.getD_some, cl, cr, rOps, lights, light, rN, List.size_toArray, List.length_cons, List.length_nil, Nat.reduceAdd, Nat.zero_add, List.map_cons, List.map_nil, Option.map_none]
    simp (maxSteps := 300000) (disch := omega) only [go_sem, Nat.reduceAdd, ↓reduceIte]
    with_reducible refine hK _ ?_
    clear hK K
    refine nx_then ?_
    refine awp_blockN 0 rfl rfl ?_
    refine awp_loopP (fun j : Nat => { fr := [(0, putV nx j), (1, .w32 n), (7, .i ((k : Int) - 1 - (j : Int)))], hp := putH nx n k hp j, nx := 0, cx := nx + 4 + 14 * j }) (fun j => j ≤ k) (fun j => k - j) rfl ⟨0, Nat.zero_le _, sub_same (by simp only [putV, Int.natCast_zero, Int.sub_zero]) rfl (by simp only; omega)⟩ ?_
    rintro j hj n0
    refine awp_seqP rfl ?_
    refine awp_seqP rfl ?_
    refine awp_regP (Γ := noEnv) [11, 0, 1, 7] (noEnv_ok _ _) rfl rfl rfl (fun K hK => ?_)
    simp only [Tryd.f75, bodyOf, Option.getD_some, cl, cr, rOps, lights, light, rN, List.size_toArray, List.length_cons, List.length_nil, Nat.reduceAdd, Nat.zero_add, List.map_cons, List.map_nil, Option.map_none]
    simp (maxSteps := 300000) (disch := omega) only [go_sem, Nat.reduceAdd, ↓reduceIte]
    with_reducible refine hK _ ?_
    clear hK K
    refine nx_then ?_
    refine awp_ifD (.tmp 11) rfl rfl rfl (fun h => ?_) (fun h => ?_)
    · skip
      refine awp_drop rfl ?_
      have e1 : (8 * ((k : Int) - 1 - (j : Int))).toNat = 8 * (k - 1 - j) := by omega
      have hl := beL_len n k j
      rcases Nat.eq_zero_or_pos j with rfl | hj0
      · skip
        simp only [putV, putH, Int.natCast_zero, Int.sub_zero, Nat.sub_zero, Nat.mul_zero, Nat.add_zero] at e1 ⊢
        refine awp_skipP rfl ?_
        refine nx_then ?_
        refine awp_seqP rfl ?_
        refine awp_blockN 1 rfl rfl ?_
        refine awp_regP (Γ := noEnv) [0, 1, 7] (noEnv_ok _ _) rfl rfl rfl (fun K hK => ?_)
        simp only [Tryd.f75, bodyOf, Option.getD_some, cl, cr, rOps, lights, light, rN, List.size_toArray, List.length_cons, List.length_nil, Nat.reduceAdd, Nat.zero_add, List.map_cons, List.map_nil, Option.map_none]
        simp (maxSteps := 300000) (disch := omega) only [go_sem, Nat.reduceAdd, Nat.reduceLeDiff, Nat.reduceLT, ↓reduceIte, e1]
        with_reducible refine hK _ ?_
        clear hK K
        refine nx_blk (nx_then ?_)
        refine awp_regP (Γ := noEnv) [0, 1, 7] (noEnv_ok _ _) rfl rfl rfl (fun K hK => ?_)
        simp only [Tryd.f75, bodyOf, Option.getD_some, cl, cr, rOps, lights, light, rN, List.size_toArray, List.length_cons, List.length_nil, Nat.reduceAdd, Nat.zero_add, List.map_cons, List.map_nil, Option.map_none]
        simp (maxSteps := 300000) (disch := omega) only [go_sem, Nat.reduceAdd, ↓reduceIte]
        with_reducible refine hK _ ?_
        clear hK K
        refine nx_loop ?_
        refine ⟨1, by omega, by omega, ⟨fun _ => .inr ?_, fun id o h => ?_, by simp only; omega⟩⟩
        · simp only [Nat.mul_zero, Nat.add_zero, Int.natCast_one]
        · have z1 := hnone (nx + 4 + 2 + 6) (by omega)
          simp only [beL, List.nil_append, Nat.mul_zero, Nat.add_zero, Nat.sub_zero, c8, List.map_cons, List.map_nil, Nat.add_assoc, Nat.reduceAdd] at h z1 ⊢
          grind [upd_apply]
      · skip
        obtain ⟨j, rfl⟩ : ∃ i, j = i + 1 := ⟨j - 1, by omega⟩
        simp only [putV, putH] at hl ⊢
        refine awp_skipP rfl ?_
        refine nx_then ?_
        refine awp_seqP rfl ?_
        refine awp_blockN 1 rfl rfl ?_
        refine awp_regP (Γ := noEnv) [0, 1, 7] (noEnv_ok _ _) rfl rfl rfl (fun K hK => ?_)
        simp only [Tryd.f75, bodyOf, Option.getD_some, cl, cr, rOps, lights, light, rN, List.size_toArray, List.length_cons, List.length_nil, Nat.reduceAdd, Nat.zero_add, List.map_cons, List.map_nil, Option.map_none]
        simp (maxSteps := 300000) (disch := omega) only [go_sem, Nat.reduceAdd, Nat.reduceLeDiff, Nat.reduceLT, ↓reduceIte, e1, hl]
        with_reducible refine hK _ ?_
        clear hK K
        refine nx_blk (nx_then ?_)
        refine awp_regP (Γ := noEnv) [0, 1, 7] (noEnv_ok _ _) rfl rfl rfl (fun K hK => ?_)
        simp only [Tryd.f75, bodyOf, Option.getD_some, cl, cr, rOps, lights, light, rN, List.size_toArray, List.length_cons, List.length_nil, Nat.reduceAdd, Nat.zero_add, List.map_cons, List.map_nil, Option.map_none]
        simp (maxSteps := 300000) (disch := omega) only [go_sem, Nat.reduceAdd, ↓reduceIte]
        with_reducible refine hK _ ?_
        clear hK K
        refine nx_loop ?_
        refine ⟨j + 2, by omega, by omega, ⟨fun _ => .inr ?_, fun id o h => ?_, by simp only; omega⟩⟩
        · have e2 : (k : Int) - 1 - ((j + 2 : Nat) : Int) = (k : Int) - 1 - ((j + 1 : Nat) : Int) - 1 := by omega
          have e3 : nx + 4 + 14 * (j + 1) + 9 = nx + 4 + 14 * (j + 1) + 2 + 7 := by omega
          simp only [e2, e3]
        · have z1 := hnone (nx + 4 + 14 * (j + 1) + 2 + 6) (by omega)
          have z2 := hnone (nx + 4 + 14 * j + 9) (by omega)
          have e4 : beL n k (j + 1 + 1) = beL n k (j + 1) ++ [(n >>> (8 * (k - 1 - (j + 1)))).setWidth 8] := rfl
          simp only [e4] at h
          grind [upd_apply, del_apply]
    · skip
      refine awp_drop rfl ?_
      refine awp_exitN 0 rfl rfl ?_
      refine nx_ex_then (nx_ex_loop (nx_ex_blk ?_))
      refine nx_then ?_
      refine awp_seqP rfl ?_
      obtain rfl : j = k := by omega
      refine awp_regP (Γ := noEnv) [6] (noEnv_ok _ _) rfl rfl rfl (fun K hK => ?_)
      simp only [Tryd.f75, bodyOf, Option.getD_some, cl, cr, rOps, lights, light, rN, List.size_toArray, List.length_cons, List.length_nil, Nat.reduceAdd, Nat.zero_add, List.map_cons, List.map_nil, Option.map_none]
      simp (maxSteps := 300000) (disch := omega) only [go_sem, Nat.reduceAdd, ↓reduceIte]
      with_reducible refine hK _ ?_
      clear hK K
      refine nx_then ?_
      refine awp_retP rfl ?_
      exact ⟨rfl, fun _ _ h => h, by simp only; omega⟩
  · cases hg
theorem ok75 : EntOK Tryd.prog GLh 75 (.heap putG) := ⟨⟨_, Tryd.func75, rfl, rfl⟩, put_ok⟩

def fourG : List AV → Option (Nat × Nat × List AV)
  | [.w32 n] => some (4, 1, c8 (w4 n))
  | _ => none
theorem fourG_eq (n : W32) : fourG [.w32 n] = some (4, 1, c8 (w4 n)) := (rfl)
attribute [go_sem] fourG_eq
theorem putV_s (nx j : Nat) : putV nx (j + 1) = .os (nx + 4 + 14 * j + 9) 0 (j + 1) 1 true := (rfl)
theorem putH_s (nx : Nat) (n : W32) (k : Nat) (hp : H) (j : Nat) : putH nx n k hp (j + 1) = upd hp (nx + 4 + 14 * j + 9) (.cells (c8 (beL n k (j + 1))) true) := (rfl)

set_option maxHeartbeats 4000000 in
theorem four_ok : FreshOK Tryd.prog GLh 82 fourG := by
  refine fresh_of_awp Tryd.func82 (bodyOf_some rfl) ?_
  intro args r hg
  unfold fourG at hg
  split at hg
  · rename_i n
    obtain rfl := Option.some.inj hg
    clear hg
    refine ⟨Nat.le_of_ble_eq_true rfl, fun nx => ?_⟩
    have hv : putV (nx + 1 + 3) 4 = .os (nx + 1 + 3 + 4 + 14 * 3 + 9) 0 4 1 true := rfl
    have hh : putH (nx + 1 + 3) n 4 (fun _ => none) 4 = upd (fun _ => none) (nx + 1 + 3 + 4 + 14 * 3 + 9) (.cells (c8 (w4 n)) true) := by rw [← beL_4]; rfl
    refine awp_seqP rfl ?_
    refine awp_regP (Γ := noEnv) [0] (noEnv_ok _ _) rfl rfl rfl (fun K hK => ?_)
    simp only [Tryd.f82, bodyOf, Option.getD_some, cl, rOps, lights, light, rN, List.size_toArray, List.length_cons, List.length_nil, Nat.zero_add, List.map_cons, List.map_nil, Option.map_none]
    simp (maxSteps := 300000) (disch := omega) only [go_sem, ↓reduceIte]
    with_reducible refine hK _ ?_
    clear hK K
    refine nx_then ?_
    refine awp_seqP rfl ?_
    refine awp_regP (Γ := envL [(75, .heap putG)]) [2] (envOK_cons ok75 envOK_nil) rfl rfl rfl (fun K hK => ?_)
    simp only [Tryd.f82, bodyOf, Option.getD_some, cl, cr, rOps, lights, light, rN, List.size_toArray, List.length_cons, List.length_nil, Nat.reduceAdd, Nat.zero_add, List.map_cons, List.map_nil, Option.map_none]
    simp (maxSteps := 300000) (disch := omega) only [go_sem, Nat.reduceAdd, Nat.reduceMul, Int.reduceLE, Int.reduceToNat, ↓reduceIte, hv, hh]
    with_reducible refine hK _ ?_
    clear hK K
    refine nx_then ?_
    trace_state
    refine awp_retP rfl ?_
    simp (disch := omega) only [freshQ, freshR, resA, resAL, resA1, Tryd.f82, go_sem, ↓reduceIte, c8_noOwn]
  · cases hg
theorem ok82 : EntOK Tryd.prog GLh 82 (.fresh true fourG) := ⟨⟨_, Tryd.func82, rfl, rfl⟩, four_ok⟩

/-- The words' fold. -/
def getL (l : List B8) : W32 := l.foldl (fun n x => n <<< 8 ||| x.setWidth 32) 0#32
def getG : List AV → Option AV
  | [.sl n xs] => obind (un8 xs) fun b => guardO (b.length = n ∧ n ≤ 9223372036854775806) (some (.w32 (getL b)))
  | _ => none
theorem getG_eq (n : Nat) (xs : List AV) : getG [.sl n xs] = obind (un8 xs) fun b => guardO (b.length = n ∧ n ≤ 9223372036854775806) (some (.w32 (getL b))) := (rfl)
attribute [go_sem] getG_eq
theorem getL_snoc (l : List B8) (k : Nat) (h : k < l.length) : getL (l.take (k + 1)) = getL (l.take k) <<< 8 ||| (l.getD k 0#8).setWidth 32 := by
  rw [take_step l k 0#8 h]; simp [getL]

set_option maxHeartbeats 4000000 in
theorem get_ok : PureOK Tryd.prog GLh 70 getG := by
  refine pure_of_awp Tryd.func70 (bodyOf_some rfl) ?_
  intro args r hg
  unfold getG at hg
  split at hg
  · rename_i n xs
    replace hg := obind_inv hg; obtain ⟨b, hb, hg⟩ := hg
    replace hg := guardO_inv hg; obtain ⟨⟨hn, hbig⟩, hg⟩ := hg
    obtain rfl := Option.some.inj hg
    have := un8_inv _ hb; subst this
    subst hn
    clear hg hb
    refine ⟨Nat.le_of_ble_eq_true rfl, fun nx => ?_⟩
    refine awp_seqP rfl ?_
    refine awp_regP (Γ := noEnv) [0] (noEnv_ok _ _) rfl rfl rfl (fun K hK => ?_)
    simp only [Tryd.f70, bodyOf, Option.getD_some, cl, rOps, lights, light, rN, List.size_toArray, List.length_cons, List.length_nil, Nat.zero_add, List.map_cons, List.map_nil, Option.map_none]
    simp (maxSteps := 300000) (disch := omega) only [go_sem, Int.reduceLE, Int.reduceLT, BitVec.reduceOfInt, ↓reduceIte]
    with_reducible refine hK _ ?_
    clear hK K
    refine nx_then ?_
    refine awp_seqP rfl ?_
    refine awp_regP (Γ := noEnv) [0, 3] (noEnv_ok _ _) rfl rfl rfl (fun K hK => ?_)
    simp only [Tryd.f70, bodyOf, Option.getD_some, cl, cr, rOps, lights, light, rN, List.size_toArray, List.length_cons, List.length_nil, Nat.zero_add, List.map_cons, List.map_nil, Option.map_none]
    simp (maxSteps := 300000) (disch := omega) only [go_sem, Int.reduceLE, Int.reduceLT, BitVec.reduceOfInt, ↓reduceIte]
    with_reducible refine hK _ ?_
    clear hK K
    refine nx_then ?_
    refine awp_seqP rfl ?_
    refine awp_seqP rfl ?_
    refine awp_regP (Γ := noEnv) [0, 3, 4] (noEnv_ok _ _) rfl rfl rfl (fun K hK => ?_)
    simp only [Tryd.f70, bodyOf, Option.getD_some, cl, cr, rOps, lights, light, rN, List.size_toArray, List.length_cons, List.length_nil, Nat.zero_add, List.map_cons, List.map_nil, Option.map_none]
    simp (maxSteps := 300000) (disch := omega) only [go_sem, ↓reduceIte]
    with_reducible refine hK _ ?_
    clear hK K
    refine nx_then ?_
    refine awp_blockN 0 rfl rfl ?_
    refine awp_loopP (fun p : KC => { fr := [(0, .sl b.length (c8 b)), (3, .w32 (getL (b.take p.k))), (4, .i p.k)], hp := fun _ => none, nx := 0, cx := p.c }) (fun p => p.k ≤ b.length) (fun p => b.length - p.k) rfl ⟨⟨0, _⟩, Nat.zero_le _, sub_same rfl rfl (Nat.le_refl _)⟩ ?_
    rintro ⟨k, c⟩ hk n0
    simp only at hk ⊢
    refine awp_seqP rfl ?_
    refine awp_seqP rfl ?_
    refine awp_regP (Γ := noEnv) [8, 0, 3, 4] (noEnv_ok _ _) rfl rfl rfl (fun K hK => ?_)
    simp only [Tryd.f70, bodyOf, Option.getD_some, cl, cr, rOps, lights, light, rN, List.size_toArray, List.length_cons, List.length_nil, Nat.reduceAdd, Nat.zero_add, List.map_cons, List.map_nil, Option.map_none]
    simp (maxSteps := 300000) (disch := omega) only [go_sem, Nat.reduceAdd, ↓reduceIte]
    with_reducible refine hK _ ?_
    clear hK K
    refine nx_then ?_
    refine awp_ifD (.tmp 8) rfl rfl rfl (fun h => ?_) (fun h => ?_)
    · skip
      refine awp_drop rfl ?_
      refine awp_skipP rfl ?_
      refine nx_then ?_
      refine awp_seqP rfl ?_
      refine awp_blockN 1 rfl rfl ?_
      refine awp_regP (Γ := noEnv) [0, 3, 4] (noEnv_ok _ _) rfl rfl rfl (fun K hK => ?_)
      simp only [Tryd.f70, bodyOf, Option.getD_some, cl, cr, rOps, lights, light, rN, List.size_toArray, List.length_cons, List.length_nil, Nat.reduceAdd, Nat.zero_add, List.map_cons, List.map_nil, Option.map_none]
      simp (maxSteps := 300000) (disch := omega) only [go_sem, Nat.reduceAdd, Int.reduceLE, Int.reduceLT, BitVec.reduceOfInt, BitVec.reduceToNat, ↓reduceIte]
      with_reducible refine hK _ ?_
      clear hK K
      refine nx_blk (nx_then ?_)
      refine awp_regP (Γ := noEnv) [0, 3, 4] (noEnv_ok _ _) rfl rfl rfl (fun K hK => ?_)
      simp only [Tryd.f70, bodyOf, Option.getD_some, cl, cr, rOps, lights, light, rN, List.size_toArray, List.length_cons, List.length_nil, Nat.reduceAdd, Nat.zero_add, List.map_cons, List.map_nil, Option.map_none]
      simp (maxSteps := 300000) (disch := omega) only [go_sem, Nat.reduceAdd, ↓reduceIte]
      with_reducible refine hK _ ?_
      clear hK K
      refine nx_loop ?_
      refine ⟨⟨k + 1, _⟩, by simp only; omega, by simp only; omega, sub_same ?_ rfl (Nat.le_refl _)⟩
      simp only [Int.natCast_add, Int.natCast_one, getL_snoc b k (by omega)]
    · skip
      refine awp_drop rfl ?_
      refine awp_exitN 0 rfl rfl ?_
      refine nx_ex_then (nx_ex_loop (nx_ex_blk ?_))
      refine nx_then ?_
      refine awp_seqP rfl ?_
      obtain rfl : k = b.length := by omega
      rw [List.take_length]
      refine awp_regP (Γ := noEnv) [2] (noEnv_ok _ _) rfl rfl rfl (fun K hK => ?_)
      simp only [Tryd.f70, bodyOf, Option.getD_some, cl, cr, rOps, lights, light, rN, List.size_toArray, List.length_cons, List.length_nil, Nat.reduceAdd, Nat.zero_add, List.map_cons, List.map_nil, Option.map_none]
      simp (maxSteps := 300000) (disch := omega) only [go_sem, Nat.reduceAdd, ↓reduceIte]
      with_reducible refine hK _ ?_
      clear hK K
      refine nx_then ?_
      refine awp_retP rfl ?_
      simp (disch := omega) only [pureQ, resA, resAL, resA1, Tryd.f70, go_sem, ↓reduceIte]
  · cases hg
theorem ok70 : EntOK Tryd.prog GLh 70 (.pure true getG) := ⟨⟨_, Tryd.func70, rfl, rfl⟩, get_ok⟩
end Go.AX
