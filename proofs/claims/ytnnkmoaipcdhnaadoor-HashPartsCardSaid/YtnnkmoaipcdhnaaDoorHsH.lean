/-
  Hash, part H: the reference's table.
-/
import Derived.Test.YtnnkmoaipcdhnaaDoorHsG
namespace Go.AX
open Go Go.Proofs

set_option maxHeartbeats 4000000 in
set_option maxRecDepth 4000 in
theorem table_ok (GL : Nat → Option (List AV)) : PureOK Tryd.prog GL 61 tableG := by
  refine pure_of_awp Tryd.func61 (bodyOf_some rfl) ?_
  intro args r hg
  unfold tableG at hg
  split at hg
  · obtain rfl := Option.some.inj hg
    refine ⟨Nat.le_of_ble_eq_true rfl, fun nx => ?_⟩
    refine awp_seqP rfl ?_
    refine awp_regP (Γ := noEnv) [0] (noEnv_ok _ _) rfl rfl rfl (fun K hK => ?_)
    simp only [Tryd.f61, bodyOf, Option.getD_some, cl, rOps, lights, light, rN, List.size_toArray, List.length_cons, List.length_nil, Nat.zero_add, List.map_cons, List.map_nil, Option.map_none]
    simp (maxSteps := 300000) (disch := omega) only [go_sem, ↓reduceIte, c32_rep]
    with_reducible refine hK _ ?_
    clear hK K
    repeat (first | with_reducible refine nx_then ?_ | with_reducible refine nx_blk ?_ | with_reducible refine nx_loop ?_ | with_reducible refine nx_ex_then ?_ | with_reducible refine nx_ex_loop ?_ | with_reducible refine nx_ex_blk ?_ | with_reducible refine nx_ret_then ?_ | with_reducible refine nx_ret_blk ?_ | with_reducible refine nx_ret_loop ?_)
    refine awp_seqP rfl ?_
    refine awp_regP (Γ := noEnv) [0] (noEnv_ok _ _) rfl rfl rfl (fun K hK => ?_)
    simp only [Tryd.f61, bodyOf, Option.getD_some, cl, cr, rOps, lights, light, rN, List.size_toArray, List.length_cons, List.length_nil, Nat.reduceAdd, Nat.zero_add, List.map_cons, List.map_nil, Option.map_none]
    simp (maxSteps := 300000) (disch := omega) only [go_sem, Nat.reduceAdd, Nat.reduceLeDiff, Int.reduceLE, Int.reduceLT, BitVec.reduceOfInt, reduceCtorEq, ↓reduceIte, c32_len]
    with_reducible refine hK _ ?_
    clear hK K
    repeat (first | with_reducible refine nx_then ?_ | with_reducible refine nx_blk ?_ | with_reducible refine nx_loop ?_ | with_reducible refine nx_ex_then ?_ | with_reducible refine nx_ex_loop ?_ | with_reducible refine nx_ex_blk ?_ | with_reducible refine nx_ret_then ?_ | with_reducible refine nx_ret_blk ?_ | with_reducible refine nx_ret_loop ?_)
    refine awp_retP rfl ?_
    have hst : storeL (c32 (List.replicate 64 0#32)) 0 (c32 KT) = c32 KT := by
      rw [storeL_sp _ _ _ (by rw [c32_len, KT_len]; omega), splice_all _ _ (by rw [c32_len, c32_len, KT_len, List.length_replicate])]
    have hk : (c32 KT).length = 64 := (c32_len _).trans KT_len
    show pureQ _ _ _ .ret { fr := [(0, .op nx 0)], hp := upd (upd (fun _ => none) nx (.cells (c32 (List.replicate 64 0#32)) true)) nx (.cells (storeL (c32 (List.replicate 64 0#32)) 0 (c32 KT)) true), nx := nx + 1, cx := nx + 1 + 2 }
    rw [hst]
    simp only [pureQ, resA, resAL, resA1, Tryd.f61, ldV, imm_c32, KT_take, hk, go_sem, Nat.reduceLeDiff, ↓reduceIte]
  · cases hg
end Go.AX
