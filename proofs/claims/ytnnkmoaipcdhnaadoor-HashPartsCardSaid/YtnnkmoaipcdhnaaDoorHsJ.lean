/-
  Hash, part J: the reference's sum: the words behind the first sixteen.
-/
import Derived.Test.YtnnkmoaipcdhnaaDoorHsI
namespace Go.AX
open Go Go.Proofs

theorem addlc (x y z : W32) : x + (y + z) = y + (x + z) := by rw [← BitVec.add_assoc, BitVec.add_comm x y, BitVec.add_assoc]
theorem nextw_alt (w : List W32) (i : Nat) : nextw w i =
    w.getD (i - 16) 0#32 + ((w.getD (i - 15) 0#32 >>> 7 ||| w.getD (i - 15) 0#32 <<< 25) ^^^ (w.getD (i - 15) 0#32 >>> 18 ||| w.getD (i - 15) 0#32 <<< 14) ^^^ w.getD (i - 15) 0#32 >>> 3) + w.getD (i - 7) 0#32 +
      ((w.getD (i - 2) 0#32 >>> 17 ||| w.getD (i - 2) 0#32 <<< 15) ^^^ (w.getD (i - 2) 0#32 >>> 19 ||| w.getD (i - 2) 0#32 <<< 13) ^^^ w.getD (i - 2) 0#32 >>> 10) := by
  simp only [nextw, ro, Nat.reduceSub]
  rw [BitVec.or_comm (w.getD (i - 15) 0#32 <<< 25), BitVec.or_comm (w.getD (i - 15) 0#32 <<< 14), BitVec.or_comm (w.getD (i - 2) 0#32 <<< 15), BitVec.or_comm (w.getD (i - 2) 0#32 <<< 13)]
  simp only [BitVec.add_comm, addlc]

set_option maxHeartbeats 4000000 in
theorem ref_l2 {i2 i3 i4 ip i7 c0 c1 a m : Nat} {bl : List B8} {hp : H} {Q : Exit → S → Prop} (hlt : i7 < c1) (hc : c0 ≤ c1)
    (hQ : ∀ n z1 z2 z3, Q .normal { fr := [(2, .op i2 0), (3, .op i3 0), (4, .op i4 0), (5, .os ip 0 m 1 true), (6, .i a), (7, .op i7 0), (9, z1), (82, z2), (83, z3)], hp := upd hp i7 (.cells (c32 (w64 bl 48)) true), nx := n, cx := c1 + 100 * 48 + 2 }) :
    ∀ n0, Awp Tryd.prog GLh Tryd.f23.ntmps (cr (cl (cr (cr (cl (cl (cr (cl (cl (cr (cl (cr (cr (cr (cr (bodyOf Tryd.f23)))))))))))))))) { fr := [(2, .op i2 0), (3, .op i3 0), (4, .op i4 0), (5, .os ip 0 m 1 true), (6, .i a), (7, .op i7 0), (9, .i 16)], hp := upd hp i7 (.cells (c32 (w16 bl 16)) true), nx := n0, cx := c0 } Q := by
  intro n0
  refine awp_blockN 4 rfl rfl ?_
  refine awp_loopP (fun j : Nat => { fr := [(2, .op i2 0), (3, .op i3 0), (4, .op i4 0), (5, .os ip 0 m 1 true), (6, .i a), (7, .op i7 0), (9, .i ((16 + j : Nat) : Int))], hp := upd hp i7 (.cells (c32 (w64 bl j)) true), nx := 0, cx := c1 + 100 * j }) (fun j => j ≤ 48) (fun j => 48 - j) rfl ⟨0, by omega, sub_same rfl rfl hc⟩ ?_
  intro j hj n
  have hl : (w64 bl j).length = 64 := w64_len bl j
  refine awp_seqP rfl ?_
  refine awp_seqP rfl ?_
  refine awp_regP (Γ := noEnv) [2, 3, 4, 5, 6, 7, 9, 82, 83] (noEnv_ok _ _) rfl rfl rfl (fun K hK => ?_)
  simp only [Tryd.f23, bodyOf, Option.getD_some, cl, cr, rOps, lights, light, rN, List.size_toArray, List.length_cons, List.length_nil, Nat.reduceAdd, Nat.zero_add, List.map_cons, List.map_nil, Option.map_none]
  simp (maxSteps := 300000) (disch := omega) only [go_sem, Nat.reduceAdd, Nat.reduceEqDiff, ↓reduceIte]
  with_reducible refine hK _ ?_
  clear hK K
  repeat (first | with_reducible refine nx_then ?_ | with_reducible refine nx_blk ?_ | with_reducible refine nx_loop ?_ | with_reducible refine nx_ex_then ?_ | with_reducible refine nx_ex_loop ?_ | with_reducible refine nx_ex_blk ?_ | with_reducible refine nx_ret_then ?_ | with_reducible refine nx_ret_blk ?_ | with_reducible refine nx_ret_loop ?_)
  refine awp_ifN (((16 + j : Nat) : Int) < 64) (.tmp 83) rfl rfl rfl (fun h => ?_) (fun h => ?_)
  · refine awp_skipP rfl ?_
    repeat (first | with_reducible refine nx_then ?_ | with_reducible refine nx_blk ?_ | with_reducible refine nx_loop ?_ | with_reducible refine nx_ex_then ?_ | with_reducible refine nx_ex_loop ?_ | with_reducible refine nx_ex_blk ?_ | with_reducible refine nx_ret_then ?_ | with_reducible refine nx_ret_blk ?_ | with_reducible refine nx_ret_loop ?_)
    refine awp_seqP rfl ?_
    refine awp_blockN 5 rfl rfl ?_
    refine awp_seqP rfl ?_
    have e15 : (((16 + j : Nat) : Int) - 15).toNat = 16 + j - 15 := by omega
    have e2 : (((16 + j : Nat) : Int) - 2).toNat = 16 + j - 2 := by omega
    have e16 : (((16 + j : Nat) : Int) - 16).toNat = 16 + j - 16 := by omega
    have e7 : (((16 + j : Nat) : Int) - 7).toNat = 16 + j - 7 := by omega
    refine awp_drwP (Γ := noEnv) (fun _ => 2) [2, 3, 4, 5, 6, 7, 9, 10, 11] mixed (noEnv_ok _ _) rfl rfl rfl (by kernel_rfl) (fun K hK => ?_)
    simp only [Tryd.f23, bodyOf, Option.getD_some, cl, cr, rOps, lights, light, rN, List.size_toArray, List.length_cons, List.length_nil, Nat.reduceAdd, Nat.zero_add, List.map_cons, List.map_nil, Option.map_none]
    simp (maxSteps := 300000) (disch := omega) only [go_sem, Nat.reduceAdd, Nat.reduceEqDiff, ↓reduceIte, W_eq, e15, e2, c32_head]
    with_reducible refine hK _ ?_
    clear hK K
    repeat (first | with_reducible refine nx_then ?_ | with_reducible refine nx_blk ?_ | with_reducible refine nx_loop ?_ | with_reducible refine nx_ex_then ?_ | with_reducible refine nx_ex_loop ?_ | with_reducible refine nx_ex_blk ?_ | with_reducible refine nx_ret_then ?_ | with_reducible refine nx_ret_blk ?_ | with_reducible refine nx_ret_loop ?_)
    refine awp_drwP (Γ := envL [(63, .pure true turnG)]) (fun _ => 2) [2, 3, 4, 5, 6, 7, 9] mixed (envT_ok) rfl rfl rfl (by kernel_rfl) (fun K hK => ?_)
    simp only [Tryd.f23, bodyOf, Option.getD_some, cl, cr, rOps, lights, light, rN, List.size_toArray, List.length_cons, List.length_nil, Nat.reduceAdd, Nat.zero_add, List.map_cons, List.map_nil, Option.map_none]
    simp (maxSteps := 300000) (disch := omega) only [go_sem, Nat.reduceAdd, Nat.reduceEqDiff, Nat.reduceLeDiff, Int.reduceLE, Int.reduceLT, Int.reduceToNat, Int.reduceSub, BitVec.reduceOfInt, BitVec.reduceToNat, ↓reduceIte, W_eq, e16, e7, c32_head, c32_len, c32_set, hl, tn, Int.toNat_natCast]
    with_reducible refine hK _ ?_
    clear hK K
    repeat (first | with_reducible refine nx_then ?_ | with_reducible refine nx_blk ?_ | with_reducible refine nx_loop ?_ | with_reducible refine nx_ex_then ?_ | with_reducible refine nx_ex_loop ?_ | with_reducible refine nx_ex_blk ?_ | with_reducible refine nx_ret_then ?_ | with_reducible refine nx_ret_blk ?_ | with_reducible refine nx_ret_loop ?_)
    refine awp_regP (Γ := noEnv) [2, 3, 4, 5, 6, 7, 9] (noEnv_ok _ _) rfl rfl rfl (fun K hK => ?_)
    simp only [Tryd.f23, bodyOf, Option.getD_some, cl, cr, rOps, lights, light, rN, List.size_toArray, List.length_cons, List.length_nil, Nat.reduceAdd, Nat.zero_add, List.map_cons, List.map_nil, Option.map_none]
    simp (maxSteps := 300000) (disch := omega) only [go_sem, Nat.reduceAdd, Nat.reduceEqDiff, ↓reduceIte, W_eq]
    with_reducible refine hK _ ?_
    clear hK K
    repeat (first | with_reducible refine nx_then ?_ | with_reducible refine nx_blk ?_ | with_reducible refine nx_loop ?_ | with_reducible refine nx_ex_then ?_ | with_reducible refine nx_ex_loop ?_ | with_reducible refine nx_ex_blk ?_ | with_reducible refine nx_ret_then ?_ | with_reducible refine nx_ret_blk ?_ | with_reducible refine nx_ret_loop ?_)
    exact ⟨j + 1, by omega, by omega, sub_same (by simp only [List.cons.injEq, Prod.mk.injEq, AV.i.injEq, true_and, and_true]; omega) (by simp only [upd_upd, w64, nextw_alt]) (by simp only; omega)⟩
  · refine awp_exitN 4 rfl rfl ?_
    repeat (first | with_reducible refine nx_then ?_ | with_reducible refine nx_blk ?_ | with_reducible refine nx_loop ?_ | with_reducible refine nx_ex_then ?_ | with_reducible refine nx_ex_loop ?_ | with_reducible refine nx_ex_blk ?_ | with_reducible refine nx_ret_then ?_ | with_reducible refine nx_ret_blk ?_ | with_reducible refine nx_ret_loop ?_)
    obtain rfl : j = 48 := by omega
    exact hQ _ _ _ _
end Go.AX
