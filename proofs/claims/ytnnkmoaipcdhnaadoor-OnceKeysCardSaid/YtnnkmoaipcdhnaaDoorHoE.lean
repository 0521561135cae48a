/-
  Once, part E: the reference's public keys.
-/
import Derived.Test.YtnnkmoaipcdhnaaDoorHoD
namespace Go.AX
open Go Go.Proofs

structure KVIC where
  v : Nat
  id : Nat
  c : Nat

set_option maxHeartbeats 4000000 in
theorem rpub_ok : PureOK Tryd.prog GLh 34 pubG := by
  refine pure_of_awp Tryd.func34 (bodyOf_some rfl) ?_
  intro args r hg
  unfold pubG at hg
  split at hg
  · rename_i xs leaf
    replace hg := obind_inv hg; obtain ⟨seed, hb, hg⟩ := hg
    replace hg := guardO_inv hg; obtain ⟨hn, hg⟩ := hg
    obtain rfl := Option.some.inj hg
    have := un8_inv _ hb; subst this
    clear hg hb
    refine ⟨Nat.le_of_ble_eq_true rfl, fun nx => ?_⟩
    have hs := publicL_len seed leaf
    refine awp_seqP rfl ?_
    refine awp_regP (Γ := noEnv) [1, 2, 4] (noEnv_ok _ _) rfl rfl rfl (fun K hK => ?_)
    simp only [Tryd.f34, bodyOf, Option.getD_some, cl, rOps, lights, light, rN, List.size_toArray, List.length_cons, List.length_nil, Nat.reduceAdd, Nat.zero_add, List.map_cons, List.map_nil, Option.map_none]
    simp (maxSteps := 300000) (disch := omega) only [go_sem, Nat.reduceAdd, ↓reduceIte]
    with_reducible refine hK _ ?_
    clear hK K
    refine nx_then ?_
    refine awp_seqP rfl ?_
    refine awp_regP (Γ := noEnv) [1, 2, 4, 5] (noEnv_ok _ _) rfl rfl rfl (fun K hK => ?_)
    simp only [Tryd.f34, bodyOf, Option.getD_some, cl, cr, rOps, lights, light, rN, List.size_toArray, List.length_cons, List.length_nil, Nat.zero_add, List.map_cons, List.map_nil, Option.map_none]
    simp (maxSteps := 300000) (disch := omega) only [go_sem, ↓reduceIte]
    with_reducible refine hK _ ?_
    clear hK K
    refine nx_then ?_
    refine awp_seqP rfl ?_
    refine awp_seqP rfl ?_
    refine awp_regP (Γ := noEnv) [1, 2, 4, 5, 6] (noEnv_ok _ _) rfl rfl rfl (fun K hK => ?_)
    simp only [Tryd.f34, bodyOf, Option.getD_some, cl, cr, rOps, lights, light, rN, List.size_toArray, List.length_cons, List.length_nil, Nat.zero_add, List.map_cons, List.map_nil, Option.map_none]
    simp (maxSteps := 300000) (disch := omega) only [go_sem, ↓reduceIte]
    with_reducible refine hK _ ?_
    clear hK K
    refine nx_then ?_
    refine awp_blockN 0 rfl rfl ?_
    refine awp_own 5 1 rfl ?_
    refine awp_keep [1, 2, 4, 5, 6] ?_
    simp only [kf_nil, kf_cons, look_cons, ↓reduceIte, Nat.reduceEqDiff]
    refine awp_loopP (fun p : KIC => { fr := [(1, .w32 leaf), (2, .op nx 0), (4, .op (nx + 1) 0), (5, .os p.id 0 (16 * p.k) 1 true), (6, .i p.k)], hp := upd (upd (upd (fun _ => none) nx (.cells (c8 seed) true)) (nx + 1) (.cells (c8 (List.replicate 8 0#8)) true)) p.id (.cells (c8 (fl (lk2 seed leaf) p.k)) true), nx := 0, cx := p.c }) (fun p => p.k ≤ 32 ∧ nx + 2 ≤ p.id ∧ p.id < p.c) (fun p => 32 - p.k) rfl ⟨⟨0, _, _⟩, ⟨Nat.zero_le _, by simp only; omega, by simp only; omega⟩, sub_same rfl rfl (Nat.le_refl _)⟩ ?_
    rintro ⟨k, id, c⟩ ⟨hk, hid, hc⟩ n0
    simp only at hk hid hc ⊢
    refine awp_seqP rfl ?_
    refine awp_seqP rfl ?_
    refine awp_regP (Γ := noEnv) [11, 1, 2, 4, 5, 6] (noEnv_ok _ _) rfl rfl rfl (fun K hK => ?_)
    simp only [Tryd.f34, bodyOf, Option.getD_some, cl, cr, rOps, lights, light, rN, List.size_toArray, List.length_cons, List.length_nil, Nat.reduceAdd, Nat.zero_add, List.map_cons, List.map_nil, Option.map_none]
    simp (maxSteps := 300000) (disch := omega) only [go_sem, Nat.reduceAdd, ↓reduceIte]
    with_reducible refine hK _ ?_
    clear hK K
    refine nx_then ?_
    refine awp_ifD (.tmp 11) rfl rfl rfl (fun h => ?_) (fun h => ?_)
    · skip
      refine awp_drop rfl ?_
      refine awp_skipP rfl ?_
      refine nx_then ?_
      refine awp_seqP rfl ?_
      refine awp_blockN 1 rfl rfl ?_
      refine awp_seqP rfl ?_
      refine awp_regP (Γ := noEnv) [1, 2, 4, 5, 6, 7] (noEnv_ok _ _) rfl rfl rfl (fun K hK => ?_)
      simp only [Tryd.f34, bodyOf, Option.getD_some, cl, cr, rOps, lights, light, rN, List.size_toArray, List.length_cons, List.length_nil, Nat.zero_add, List.map_cons, List.map_nil, Option.map_none]
      simp (maxSteps := 300000) (disch := omega) only [go_sem, ↓reduceIte]
      with_reducible refine hK _ ?_
      clear hK K
      refine nx_then ?_
      refine awp_blockN 2 rfl rfl ?_
      refine awp_loopP (fun p : KVIC => { fr := [(1, .w32 leaf), (2, .op nx 0), (4, .op (nx + 1) 0), (5, .os p.id 0 (16 * k + 8 * p.v) 1 true), (6, .i k), (7, .i p.v)], hp := upd (upd (upd (fun _ => none) nx (.cells (c8 seed) true)) (nx + 1) (.cells (c8 (List.replicate 8 0#8)) true)) p.id (.cells (c8 (lrow seed leaf k p.v)) true), nx := 0, cx := p.c }) (fun p => p.v ≤ 2 ∧ nx + 2 ≤ p.id ∧ p.id < p.c) (fun p => 2 - p.v) rfl ⟨⟨0, id, _⟩, ⟨Nat.zero_le _, hid, by simp only; omega⟩, sub_same rfl (by rw [← lrow_zero]) (Nat.le_refl _)⟩ ?_
      rintro ⟨v, id, c⟩ ⟨hv, hid, hc⟩ n0
      simp only at hv hid hc ⊢
      have hl := lrow_len seed leaf k v hv
      refine awp_seqP rfl ?_
      refine awp_seqP rfl ?_
      refine awp_regP (Γ := noEnv) [15, 1, 2, 4, 5, 6, 7] (noEnv_ok _ _) rfl rfl rfl (fun K hK => ?_)
      simp only [Tryd.f34, bodyOf, Option.getD_some, cl, cr, rOps, lights, light, rN, List.size_toArray, List.length_cons, List.length_nil, Nat.reduceAdd, Nat.zero_add, List.map_cons, List.map_nil, Option.map_none]
      simp (maxSteps := 300000) (disch := omega) only [go_sem, Nat.reduceAdd, ↓reduceIte]
      with_reducible refine hK _ ?_
      clear hK K
      refine nx_then ?_
      refine awp_ifD (.tmp 15) rfl rfl rfl (fun h => ?_) (fun h => ?_)
      · skip
        refine awp_drop rfl ?_
        have hsl := secretL_len seed leaf (BitVec.ofInt 8 (k : Int)) (BitVec.ofInt 8 (v : Int))
        have hll : lockL (secretL seed leaf (BitVec.ofInt 8 (k : Int)) (BitVec.ofInt 8 (v : Int))) = lkv seed leaf k (BitVec.ofInt 8 (v : Int)) := rfl
        have hkl := lkv_len seed leaf k (BitVec.ofInt 8 (v : Int))
        refine awp_skipP rfl ?_
        refine nx_then ?_
        refine awp_seqP rfl ?_
        refine awp_blockN 3 rfl rfl ?_
        refine awp_seqP rfl ?_
        refine awp_regP (Γ := envL [(68, .pure true rsecretG)]) [1, 2, 4, 5, 6, 7, 8] (envOK_cons ok68 envOK_nil) rfl rfl rfl (fun K hK => ?_)
        simp only [Tryd.f34, bodyOf, Option.getD_some, cl, cr, rOps, lights, light, rN, List.size_toArray, List.length_cons, List.length_nil, Nat.reduceAdd, Nat.zero_add, List.map_cons, List.map_nil, Option.map_none]
        simp (maxSteps := 300000) (disch := omega) only [go_sem, Nat.reduceAdd, Nat.reduceLeDiff, ↓reduceIte, hn]
        with_reducible refine hK _ ?_
        clear hK K
        refine nx_then ?_
        refine awp_seqP rfl ?_
        refine awp_regP (Γ := envL [(69, .pure true lockG)]) [1, 2, 4, 5, 6, 7, 9] (envOK_cons ok69 envOK_nil) rfl rfl rfl (fun K hK => ?_)
        simp only [Tryd.f34, bodyOf, Option.getD_some, cl, cr, rOps, lights, light, rN, List.size_toArray, List.length_cons, List.length_nil, Nat.reduceAdd, Nat.zero_add, List.map_cons, List.map_nil, Option.map_none]
        simp (maxSteps := 300000) (disch := omega) only [go_sem, Nat.reduceAdd, Nat.reduceSub, Nat.reduceLeDiff, Int.reduceLE, Int.reduceToNat, ↓reduceIte, hll]
        with_reducible refine hK _ ?_
        clear hK K
        refine nx_then ?_
        refine awp_regP (Γ := noEnv) [1, 2, 4, 5, 6, 7] (noEnv_ok _ _) rfl rfl rfl (fun K hK => ?_)
        simp only [Tryd.f34, bodyOf, Option.getD_some, cl, cr, rOps, lights, light, rN, List.size_toArray, List.length_cons, List.length_nil, Nat.reduceAdd, Nat.zero_add, List.map_cons, List.map_nil, Option.map_none]
        simp (maxSteps := 300000) (disch := omega) only [go_sem, Nat.reduceAdd, Nat.reduceSub, Nat.reduceLeDiff, Nat.reduceLT, Int.reduceLE, Int.reduceToNat, ↓reduceIte, hl]
        with_reducible refine hK _ ?_
        clear hK K
        refine nx_blk (nx_then ?_)
        refine awp_regP (Γ := noEnv) [1, 2, 4, 5, 6, 7] (noEnv_ok _ _) rfl rfl rfl (fun K hK => ?_)
        simp only [Tryd.f34, bodyOf, Option.getD_some, cl, cr, rOps, lights, light, rN, List.size_toArray, List.length_cons, List.length_nil, Nat.reduceAdd, Nat.zero_add, List.map_cons, List.map_nil, Option.map_none]
        simp (maxSteps := 300000) (disch := omega) only [go_sem, Nat.reduceAdd, ↓reduceIte]
        with_reducible refine hK _ ?_
        clear hK K
        refine nx_loop ?_
        have e5 : 16 * k + 8 * (v + 1) = 16 * k + 8 * v + 8 := by omega
        refine ⟨⟨v + 1, c + 2 + 9 + 4 + 2, _⟩, ⟨by simp only; omega, ?_, ?_⟩, by simp only; omega, ⟨fun _ => .inr ?_, fun j o h => ?_, Nat.le_refl _⟩⟩
        · simp only; omega
        · simp only; omega
        · simp only [e5, Int.natCast_add, Int.natCast_one]
        · simp only [lrow_next seed leaf k v (by omega)] at h
          grind [upd_apply, del_apply]
      · skip
        refine awp_drop rfl ?_
        refine awp_exitN 2 rfl rfl ?_
        refine nx_ex_then (nx_ex_loop (nx_ex_blk ?_))
        refine nx_blk (nx_then ?_)
        obtain rfl : v = 2 := by omega
        rw [lrow_two]
        refine awp_regP (Γ := noEnv) [1, 2, 4, 5, 6] (noEnv_ok _ _) rfl rfl rfl (fun K hK => ?_)
        simp only [Tryd.f34, bodyOf, Option.getD_some, cl, cr, rOps, lights, light, rN, List.size_toArray, List.length_cons, List.length_nil, Nat.reduceAdd, Nat.zero_add, List.map_cons, List.map_nil, Option.map_none]
        simp (maxSteps := 300000) (disch := omega) only [go_sem, Nat.reduceAdd, Nat.reduceMul, ↓reduceIte]
        with_reducible refine hK _ ?_
        clear hK K
        refine nx_loop ?_
        refine ⟨⟨k + 1, id, _⟩, ⟨by simp only; omega, hid, by simp only; omega⟩, by simp only; omega, sub_same ?_ rfl (Nat.le_refl _)⟩
        simp only [Int.natCast_add, Int.natCast_one]; rfl
    · skip
      refine awp_drop rfl ?_
      refine awp_exitN 0 rfl rfl ?_
      refine nx_ex_then (nx_ex_loop (nx_ex_blk ?_))
      refine nx_then ?_
      refine awp_seqP rfl ?_
      obtain rfl : k = 32 := by omega
      have hl := lks_len seed leaf
      have hq : fl (lk2 seed leaf) 32 = lks seed leaf := rfl
      rw [hq]
      have hf : shortL 3#8 [lks seed leaf] = publicL seed leaf := rfl
      refine awp_regP (Γ := envL [(25, .pure true shortG)]) [4] (envOK_cons ok25 envOK_nil) rfl rfl rfl (fun K hK => ?_)
      simp only [Tryd.f34, bodyOf, Option.getD_some, cl, cr, rOps, lights, light, rN, List.size_toArray, List.length_cons, List.length_nil, Nat.reduceAdd, Nat.zero_add, List.map_cons, List.map_nil, Option.map_none]
      simp (maxSteps := 300000) (disch := omega) only [go_sem, Nat.reduceAdd, Nat.reduceMul, Nat.reduceLeDiff, Nat.reduceLT, Int.reduceLE, Int.reduceLT, BitVec.reduceOfInt, ↓reduceIte, hf]
      with_reducible refine hK _ ?_
      clear hK K
      refine nx_then ?_
      refine awp_retP rfl ?_
      simp (disch := omega) only [pureQ, resA, resAL, resA1, Tryd.f34, go_sem, Nat.reduceLeDiff, ↓reduceIte, ldV, imm_c8, hs]
  · cases hg
theorem ok34 : EntOK Tryd.prog GLh 34 (.pure true pubG) := ⟨⟨_, Tryd.func34, rfl, rfl⟩, rpub_ok⟩
end Go.AX
