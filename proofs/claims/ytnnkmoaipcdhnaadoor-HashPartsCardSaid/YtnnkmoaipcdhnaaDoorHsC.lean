/-
  Hash, part C: mixing a block in: the words behind the first sixteen, the rounds, the sums.
-/
import Derived.Test.YtnnkmoaipcdhnaaDoorHsB
namespace Go.AX
open Go Go.Proofs

set_option maxHeartbeats 4000000 in
theorem mix_l2 {hp : H} {nx id c0 : Nat} {bl : List B8} {Q : Exit → S → Prop} (hc : c0 ≤ nx + 2000)
    (hQ : ∀ n z, Q .normal { fr := [(0, .op id 0), (4, .op nx 0), (6, .i ((16 + 48 : Nat) : Int)), (63, z)], hp := upd hp nx (.cells (c32 (w64 bl 48)) true), nx := n, cx := nx + 2000 + 100 * 48 + 2 }) :
    ∀ n0, Awp Tryd.prog GLh Tryd.f60.ntmps (cr (cl (cr (cr (bodyOf Tryd.f60))))) { fr := [(0, .op id 0), (4, .op nx 0), (6, .i 16)], hp := upd hp nx (.cells (c32 (w16 bl 16)) true), nx := n0, cx := c0 } Q := by
  intro n0
  refine awp_blockN 2 rfl rfl ?_
  refine awp_loopP (fun j : Nat => { fr := [(0, .op id 0), (4, .op nx 0), (6, .i ((16 + j : Nat) : Int))], hp := upd hp nx (.cells (c32 (w64 bl j)) true), nx := 0, cx := nx + 2000 + 100 * j }) (fun j => j ≤ 48) (fun j => 48 - j) rfl ⟨0, by omega, sub_same rfl rfl hc⟩ ?_
  intro j hj n
  have hl : (w64 bl j).length = 64 := w64_len bl j
  refine awp_seqP rfl ?_
  refine awp_seqP rfl ?_
  refine awp_regP (Γ := noEnv) [0, 4, 6, 63] (noEnv_ok _ _) rfl rfl rfl (fun K hK => ?_)
  simp only [Tryd.f60, bodyOf, Option.getD_some, cl, cr, rOps, lights, light, rN, List.size_toArray, List.length_cons, List.length_nil, Nat.reduceAdd, Nat.zero_add, List.map_cons, List.map_nil, Option.map_none]
  simp (maxSteps := 300000) (disch := omega) only [go_sem, Nat.reduceAdd, Nat.reduceEqDiff, reduceCtorEq, ↓reduceIte]
  with_reducible refine hK _ ?_
  clear hK K
  repeat (first | with_reducible refine nx_then ?_ | with_reducible refine nx_blk ?_ | with_reducible refine nx_loop ?_ | with_reducible refine nx_ex_then ?_ | with_reducible refine nx_ex_loop ?_ | with_reducible refine nx_ex_blk ?_ | with_reducible refine nx_ret_then ?_ | with_reducible refine nx_ret_blk ?_ | with_reducible refine nx_ret_loop ?_)
  refine awp_ifN (((16 + j : Nat) : Int) < 64) (.tmp 63) rfl rfl rfl (fun h => ?_) (fun h => ?_)
  · refine awp_skipP rfl ?_
    repeat (first | with_reducible refine nx_then ?_ | with_reducible refine nx_blk ?_ | with_reducible refine nx_loop ?_ | with_reducible refine nx_ex_then ?_ | with_reducible refine nx_ex_loop ?_ | with_reducible refine nx_ex_blk ?_ | with_reducible refine nx_ret_then ?_ | with_reducible refine nx_ret_blk ?_ | with_reducible refine nx_ret_loop ?_)
    refine awp_seqP rfl ?_
    refine awp_blockN 3 rfl rfl ?_
    refine awp_seqP rfl ?_
    have e15 : (((16 + j : Nat) : Int) - 15).toNat = 16 + j - 15 := by omega
    have e2 : (((16 + j : Nat) : Int) - 2).toNat = 16 + j - 2 := by omega
    have e16 : (((16 + j : Nat) : Int) - 16).toNat = 16 + j - 16 := by omega
    have e7 : (((16 + j : Nat) : Int) - 7).toNat = 16 + j - 7 := by omega
    refine awp_drwP (Γ := noEnv) (fun _ => 2) [0, 4, 6, 7, 8] mixed (noEnv_ok _ _) rfl rfl rfl (by kernel_rfl) (fun K hK => ?_)
    simp only [Tryd.f60, bodyOf, Option.getD_some, cl, cr, rOps, lights, light, rN, List.size_toArray, List.length_cons, List.length_nil, Nat.reduceAdd, Nat.zero_add, List.map_cons, List.map_nil, Option.map_none]
    simp (maxSteps := 300000) (disch := omega) only [go_sem, Nat.reduceAdd, Nat.reduceEqDiff, reduceCtorEq, ↓reduceIte, W_eq, e15, e2, c32_head]
    with_reducible refine hK _ ?_
    clear hK K
    repeat (first | with_reducible refine nx_then ?_ | with_reducible refine nx_blk ?_ | with_reducible refine nx_loop ?_ | with_reducible refine nx_ex_then ?_ | with_reducible refine nx_ex_loop ?_ | with_reducible refine nx_ex_blk ?_ | with_reducible refine nx_ret_then ?_ | with_reducible refine nx_ret_blk ?_ | with_reducible refine nx_ret_loop ?_)
    refine awp_drwP (Γ := envL [(81, .pure true rotG)]) (fun _ => 2) [0, 4, 6] mixed (envR_ok) rfl rfl rfl (by kernel_rfl) (fun K hK => ?_)
    simp only [Tryd.f60, bodyOf, Option.getD_some, cl, cr, rOps, lights, light, rN, List.size_toArray, List.length_cons, List.length_nil, Nat.reduceAdd, Nat.zero_add, List.map_cons, List.map_nil, Option.map_none]
    simp (maxSteps := 300000) (disch := omega) only [go_sem, Nat.reduceAdd, Nat.reduceEqDiff, Nat.reduceLeDiff, Int.reduceLE, Int.reduceLT, Int.reduceNeg, BitVec.reduceOfInt, BitVec.reduceToNat, BitVec.reduceAnd, BitVec.reduceSub, reduceCtorEq, ↓reduceIte, W_eq, e16, e7, c32_head, c32_len, c32_set, hl, rotG_eq, Int.toNat_natCast]
    with_reducible refine hK _ ?_
    clear hK K
    repeat (first | with_reducible refine nx_then ?_ | with_reducible refine nx_blk ?_ | with_reducible refine nx_loop ?_ | with_reducible refine nx_ex_then ?_ | with_reducible refine nx_ex_loop ?_ | with_reducible refine nx_ex_blk ?_ | with_reducible refine nx_ret_then ?_ | with_reducible refine nx_ret_blk ?_ | with_reducible refine nx_ret_loop ?_)
    refine awp_regP (Γ := noEnv) [0, 4, 6] (noEnv_ok _ _) rfl rfl rfl (fun K hK => ?_)
    simp only [Tryd.f60, bodyOf, Option.getD_some, cl, cr, rOps, lights, light, rN, List.size_toArray, List.length_cons, List.length_nil, Nat.reduceAdd, Nat.zero_add, List.map_cons, List.map_nil, Option.map_none]
    simp (maxSteps := 300000) (disch := omega) only [go_sem, Nat.reduceAdd, Nat.reduceEqDiff, reduceCtorEq, ↓reduceIte, W_eq]
    with_reducible refine hK _ ?_
    clear hK K
    repeat (first | with_reducible refine nx_then ?_ | with_reducible refine nx_blk ?_ | with_reducible refine nx_loop ?_ | with_reducible refine nx_ex_then ?_ | with_reducible refine nx_ex_loop ?_ | with_reducible refine nx_ex_blk ?_ | with_reducible refine nx_ret_then ?_ | with_reducible refine nx_ret_blk ?_ | with_reducible refine nx_ret_loop ?_)
    exact ⟨j + 1, by omega, by omega, sub_same (by simp only [List.cons.injEq, Prod.mk.injEq, AV.i.injEq, true_and, and_true]; omega) (by simp only [upd_upd, w64, nextw, ro, Nat.reduceSub]) (by simp only; omega)⟩
  · refine awp_exitN 2 rfl rfl ?_
    repeat (first | with_reducible refine nx_then ?_ | with_reducible refine nx_blk ?_ | with_reducible refine nx_loop ?_ | with_reducible refine nx_ex_then ?_ | with_reducible refine nx_ex_loop ?_ | with_reducible refine nx_ex_blk ?_ | with_reducible refine nx_ret_then ?_ | with_reducible refine nx_ret_blk ?_ | with_reducible refine nx_ret_loop ?_)
    obtain rfl : j = 48 := by omega
    exact hQ _ _

/-- The frame's words in the rounds. -/
def frV (id nx : Nat) (v : V8) (k : Nat) : List (Nat × AV) :=
  [(0, .op id 0), (4, .op nx 0), (9, .w32 v.a), (10, .w32 v.c), (11, .w32 v.d), (12, .w32 v.e), (13, .w32 v.f), (14, .w32 v.g), (15, .w32 v.h), (16, .w32 v.i), (135, .agg (c32 KT)), (136, .i k)]

set_option maxHeartbeats 4000000 in
theorem mix_l3 {hp : H} {nx id c0 : Nat} {w : List W32} {v : V8} {Q : Exit → S → Prop} (hl : w.length = 64) (hc : c0 ≤ nx + 7000)
    (hQ : ∀ n z, Q .normal { fr := frV id nx (rnds w v 64) 64 ++ [(137, z)], hp := upd hp nx (.cells (c32 w) true), nx := n, cx := nx + 7000 + 150 * 64 + 1 }) :
    ∀ n0, Awp Tryd.prog GLh Tryd.f60.ntmps (cr (cl (cr (cr (cr (cr (cr (bodyOf Tryd.f60)))))))) { fr := frV id nx v 0, hp := upd hp nx (.cells (c32 w) true), nx := n0, cx := c0 } Q := by
  intro n0
  refine awp_blockN 4 rfl rfl ?_
  refine awp_loopP (fun k : Nat => { fr := frV id nx (rnds w v k) k, hp := upd hp nx (.cells (c32 w) true), nx := 0, cx := nx + 7000 + 150 * k }) (fun k => k ≤ 64) (fun k => 64 - k) rfl ⟨0, by omega, sub_same rfl rfl hc⟩ ?_
  intro k hk n
  have hKT := KT_len
  simp only [frV]
  refine awp_seqP rfl ?_
  refine awp_regP (Γ := noEnv) [0, 4, 9, 10, 11, 12, 13, 14, 15, 16, 135, 136, 137] (noEnv_ok _ _) rfl rfl rfl (fun K hK => ?_)
  simp only [Tryd.f60, bodyOf, Option.getD_some, cl, cr, rOps, lights, light, rN, List.size_toArray, List.length_cons, List.length_nil, Nat.zero_add, List.map_cons, List.map_nil, Option.map_none]
  simp (maxSteps := 300000) (disch := omega) only [go_sem, Nat.reduceEqDiff, reduceCtorEq, ↓reduceIte]
  with_reducible refine hK _ ?_
  clear hK K
  repeat (first | with_reducible refine nx_then ?_ | with_reducible refine nx_blk ?_ | with_reducible refine nx_loop ?_ | with_reducible refine nx_ex_then ?_ | with_reducible refine nx_ex_loop ?_ | with_reducible refine nx_ex_blk ?_ | with_reducible refine nx_ret_then ?_ | with_reducible refine nx_ret_blk ?_ | with_reducible refine nx_ret_loop ?_)
  refine awp_seqP rfl ?_
  refine awp_ifN ((k : Int) < 64) (.tmp 137) rfl rfl rfl (fun h => ?_) (fun h => ?_)
  · refine awp_skipP rfl ?_
    repeat (first | with_reducible refine nx_then ?_ | with_reducible refine nx_blk ?_ | with_reducible refine nx_loop ?_ | with_reducible refine nx_ex_then ?_ | with_reducible refine nx_ex_loop ?_ | with_reducible refine nx_ex_blk ?_ | with_reducible refine nx_ret_then ?_ | with_reducible refine nx_ret_blk ?_ | with_reducible refine nx_ret_loop ?_)
    refine awp_seqP rfl ?_
    refine awp_blockN 5 rfl rfl ?_
    refine awp_seqP rfl ?_
    refine awp_regP (Γ := noEnv) [0, 4, 9, 10, 11, 12, 13, 14, 15, 16, 17, 18, 135, 136] (noEnv_ok _ _) rfl rfl rfl (fun K hK => ?_)
    simp only [Tryd.f60, bodyOf, Option.getD_some, cl, cr, rOps, lights, light, rN, List.size_toArray, List.length_cons, List.length_nil, Nat.reduceAdd, Nat.zero_add, List.map_cons, List.map_nil, Option.map_none]
    simp (maxSteps := 300000) (disch := omega) only [go_sem, Nat.reduceAdd, Nat.reduceEqDiff, reduceCtorEq, ↓reduceIte, c32_head, Int.toNat_natCast]
    with_reducible refine hK _ ?_
    clear hK K
    repeat (first | with_reducible refine nx_then ?_ | with_reducible refine nx_blk ?_ | with_reducible refine nx_loop ?_ | with_reducible refine nx_ex_then ?_ | with_reducible refine nx_ex_loop ?_ | with_reducible refine nx_ex_blk ?_ | with_reducible refine nx_ret_then ?_ | with_reducible refine nx_ret_blk ?_ | with_reducible refine nx_ret_loop ?_)
    refine awp_seqP rfl ?_
    refine awp_drwP (Γ := envL [(81, .pure true rotG)]) (fun _ => 2) [0, 4, 9, 10, 11, 12, 13, 14, 15, 16, 17, 18, 19, 135, 136] mixed (envR_ok) rfl rfl rfl (by kernel_rfl) (fun K hK => ?_)
    simp only [Tryd.f60, bodyOf, Option.getD_some, cl, cr, rOps, lights, light, rN, List.size_toArray, List.length_cons, List.length_nil, Nat.reduceAdd, Nat.zero_add, List.map_cons, List.map_nil, Option.map_none]
    simp (maxSteps := 300000) (disch := omega) only [go_sem, Nat.reduceAdd, Nat.reduceEqDiff, Int.reduceNeg, BitVec.reduceOfInt, BitVec.reduceToNat, BitVec.reduceAnd, BitVec.reduceSub, reduceCtorEq, ↓reduceIte, c32_head, rotG_eq, Int.toNat_natCast]
    with_reducible refine hK _ ?_
    clear hK K
    repeat (first | with_reducible refine nx_then ?_ | with_reducible refine nx_blk ?_ | with_reducible refine nx_loop ?_ | with_reducible refine nx_ex_then ?_ | with_reducible refine nx_ex_loop ?_ | with_reducible refine nx_ex_blk ?_ | with_reducible refine nx_ret_then ?_ | with_reducible refine nx_ret_blk ?_ | with_reducible refine nx_ret_loop ?_)
    refine awp_seqP rfl ?_
    refine awp_regP (Γ := envL [(81, .pure true rotG)]) [0, 4, 9, 10, 11, 12, 13, 14, 15, 16, 19, 20, 135, 136] (envR_ok) rfl rfl rfl (fun K hK => ?_)
    simp only [Tryd.f60, bodyOf, Option.getD_some, cl, cr, rOps, lights, light, rN, List.size_toArray, List.length_cons, List.length_nil, Nat.reduceAdd, Nat.zero_add, List.map_cons, List.map_nil, Option.map_none]
    simp (maxSteps := 300000) (disch := omega) only [go_sem, Nat.reduceAdd, Nat.reduceEqDiff, Int.reduceNeg, BitVec.reduceOfInt, BitVec.reduceToNat, BitVec.reduceAnd, BitVec.reduceSub, reduceCtorEq, ↓reduceIte, rotG_eq]
    with_reducible refine hK _ ?_
    clear hK K
    repeat (first | with_reducible refine nx_then ?_ | with_reducible refine nx_blk ?_ | with_reducible refine nx_loop ?_ | with_reducible refine nx_ex_then ?_ | with_reducible refine nx_ex_loop ?_ | with_reducible refine nx_ex_blk ?_ | with_reducible refine nx_ret_then ?_ | with_reducible refine nx_ret_blk ?_ | with_reducible refine nx_ret_loop ?_)
    refine awp_seqP rfl ?_
    refine awp_regP (Γ := noEnv) [0, 4, 9, 10, 11, 12, 13, 14, 15, 16, 19, 20, 135, 136] (noEnv_ok _ _) rfl rfl rfl (fun K hK => ?_)
    simp only [Tryd.f60, bodyOf, Option.getD_some, cl, cr, rOps, lights, light, rN, List.size_toArray, List.length_cons, List.length_nil, Nat.reduceAdd, Nat.zero_add, List.map_cons, List.map_nil, Option.map_none]
    simp (maxSteps := 300000) (disch := omega) only [go_sem, Nat.reduceAdd, Nat.reduceEqDiff, reduceCtorEq, ↓reduceIte]
    with_reducible refine hK _ ?_
    clear hK K
    repeat (first | with_reducible refine nx_then ?_ | with_reducible refine nx_blk ?_ | with_reducible refine nx_loop ?_ | with_reducible refine nx_ex_then ?_ | with_reducible refine nx_ex_loop ?_ | with_reducible refine nx_ex_blk ?_ | with_reducible refine nx_ret_then ?_ | with_reducible refine nx_ret_blk ?_ | with_reducible refine nx_ret_loop ?_)
    refine awp_regP (Γ := noEnv) [0, 4, 9, 10, 11, 12, 13, 14, 15, 16, 135, 136] (noEnv_ok _ _) rfl rfl rfl (fun K hK => ?_)
    simp only [Tryd.f60, bodyOf, Option.getD_some, cl, cr, rOps, lights, light, rN, List.size_toArray, List.length_cons, List.length_nil, Nat.reduceAdd, Nat.zero_add, List.map_cons, List.map_nil, Option.map_none]
    simp (maxSteps := 300000) (disch := omega) only [go_sem, Nat.reduceAdd, Nat.reduceEqDiff, reduceCtorEq, ↓reduceIte]
    with_reducible refine hK _ ?_
    clear hK K
    repeat (first | with_reducible refine nx_then ?_ | with_reducible refine nx_blk ?_ | with_reducible refine nx_loop ?_ | with_reducible refine nx_ex_then ?_ | with_reducible refine nx_ex_loop ?_ | with_reducible refine nx_ex_blk ?_ | with_reducible refine nx_ret_then ?_ | with_reducible refine nx_ret_blk ?_ | with_reducible refine nx_ret_loop ?_)
    refine awp_regP (Γ := noEnv) [0, 4, 9, 10, 11, 12, 13, 14, 15, 16, 135, 136] (noEnv_ok _ _) rfl rfl rfl (fun K hK => ?_)
    simp only [Tryd.f60, bodyOf, Option.getD_some, cl, cr, rOps, lights, light, rN, List.size_toArray, List.length_cons, List.length_nil, Nat.reduceAdd, Nat.zero_add, List.map_cons, List.map_nil, Option.map_none]
    simp (maxSteps := 300000) (disch := omega) only [go_sem, Nat.reduceAdd, Nat.reduceEqDiff, reduceCtorEq, ↓reduceIte, W_eq]
    with_reducible refine hK _ ?_
    clear hK K
    repeat (first | with_reducible refine nx_then ?_ | with_reducible refine nx_blk ?_ | with_reducible refine nx_loop ?_ | with_reducible refine nx_ex_then ?_ | with_reducible refine nx_ex_loop ?_ | with_reducible refine nx_ex_blk ?_ | with_reducible refine nx_ret_then ?_ | with_reducible refine nx_ret_blk ?_ | with_reducible refine nx_ret_loop ?_)
    exact ⟨k + 1, by omega, by omega, sub_same (by simp only [rnds, rnd, one, two, ro, Nat.reduceSub, Int.natCast_add, Int.natCast_one]) rfl (by simp only; omega)⟩
  · refine awp_exitN 4 rfl rfl ?_
    repeat (first | with_reducible refine nx_then ?_ | with_reducible refine nx_blk ?_ | with_reducible refine nx_loop ?_ | with_reducible refine nx_ex_then ?_ | with_reducible refine nx_ex_loop ?_ | with_reducible refine nx_ex_blk ?_ | with_reducible refine nx_ret_then ?_ | with_reducible refine nx_ret_blk ?_ | with_reducible refine nx_ret_loop ?_)
    obtain rfl : k = 64 := by omega
    exact hQ _ _

set_option maxHeartbeats 4000000 in
theorem mix_l4 {hp : H} {nx id c0 : Nat} {s x : List W32} {Q : Exit → S → Prop} (hs : s.length = 8) (hx : x.length = 8) (hid : id < nx) (ho : hp id = some (.cells (c32 s) true)) (hno : hp nx = none) (ob : AO) (hc : c0 ≤ nx + 17000)
    (hQ : ∀ n z, Q .normal { fr := [(0, .op id 0), (206, .agg (c32 x)), (207, .i ((8 : Nat) : Int)), (208, z)], hp := upd hp id (.cells (c32 (add8 s x 8)) true), nx := n, cx := nx + 17000 + 100 * 8 + 1 }) :
    ∀ n0, Awp Tryd.prog GLh Tryd.f60.ntmps (cr (cr (cr (cr (cr (cr (cr (bodyOf Tryd.f60)))))))) { fr := [(0, .op id 0), (206, .agg (c32 x)), (207, .i 0)], hp := upd hp nx ob, nx := n0, cx := c0 } Q := by
  intro n0
  refine awp_blockN 6 rfl rfl ?_
  refine awp_loopP (fun k : Nat => { fr := [(0, .op id 0), (206, .agg (c32 x)), (207, .i k)], hp := upd hp id (.cells (c32 (add8 s x k)) true), nx := 0, cx := nx + 17000 + 100 * k }) (fun k => k ≤ 8) (fun k => 8 - k) rfl ⟨0, by omega, ⟨fun _ => .inr rfl, fun j o h => ?_, hc⟩⟩ ?_
  · simp only [upd_apply, add8] at h ⊢
    split at h
    · rename_i e; subst e; rw [if_neg (by omega), ho]; exact h
    · split
      · rename_i e; subst e; rw [hno] at h; cases h
      · exact h
  intro k hk n
  have hl : (add8 s x k).length = 8 := by rw [add8_len, hs]
  refine awp_seqP rfl ?_
  refine awp_regP (Γ := noEnv) [0, 206, 207, 208] (noEnv_ok _ _) rfl rfl rfl (fun K hK => ?_)
  simp only [Tryd.f60, bodyOf, Option.getD_some, cl, cr, rOps, lights, light, rN, List.size_toArray, List.length_cons, List.length_nil, Nat.zero_add, List.map_cons, List.map_nil, Option.map_none]
  simp (maxSteps := 300000) (disch := omega) only [go_sem, Nat.reduceEqDiff, reduceCtorEq, ↓reduceIte]
  with_reducible refine hK _ ?_
  clear hK K
  repeat (first | with_reducible refine nx_then ?_ | with_reducible refine nx_blk ?_ | with_reducible refine nx_loop ?_ | with_reducible refine nx_ex_then ?_ | with_reducible refine nx_ex_loop ?_ | with_reducible refine nx_ex_blk ?_ | with_reducible refine nx_ret_then ?_ | with_reducible refine nx_ret_blk ?_ | with_reducible refine nx_ret_loop ?_)
  refine awp_seqP rfl ?_
  refine awp_ifN ((k : Int) < 8) (.tmp 208) rfl rfl rfl (fun h => ?_) (fun h => ?_)
  · refine awp_skipP rfl ?_
    repeat (first | with_reducible refine nx_then ?_ | with_reducible refine nx_blk ?_ | with_reducible refine nx_loop ?_ | with_reducible refine nx_ex_then ?_ | with_reducible refine nx_ex_loop ?_ | with_reducible refine nx_ex_blk ?_ | with_reducible refine nx_ret_then ?_ | with_reducible refine nx_ret_blk ?_ | with_reducible refine nx_ret_loop ?_)
    refine awp_seqP rfl ?_
    refine awp_blockN 7 rfl rfl ?_
    refine awp_seqP rfl ?_
    refine awp_regP (Γ := noEnv) [0, 21, 22, 206, 207] (noEnv_ok _ _) rfl rfl rfl (fun K hK => ?_)
    simp only [Tryd.f60, bodyOf, Option.getD_some, cl, cr, rOps, lights, light, rN, List.size_toArray, List.length_cons, List.length_nil, Nat.reduceAdd, Nat.zero_add, List.map_cons, List.map_nil, Option.map_none]
    simp (maxSteps := 300000) (disch := omega) only [go_sem, Nat.reduceAdd, Nat.reduceEqDiff, reduceCtorEq, ↓reduceIte, c32_head, Int.toNat_natCast]
    with_reducible refine hK _ ?_
    clear hK K
    repeat (first | with_reducible refine nx_then ?_ | with_reducible refine nx_blk ?_ | with_reducible refine nx_loop ?_ | with_reducible refine nx_ex_then ?_ | with_reducible refine nx_ex_loop ?_ | with_reducible refine nx_ex_blk ?_ | with_reducible refine nx_ret_then ?_ | with_reducible refine nx_ret_blk ?_ | with_reducible refine nx_ret_loop ?_)
    refine awp_drwP (Γ := noEnv) (fun _ => 2) [0, 206, 207] mixed (noEnv_ok _ _) rfl rfl rfl (by kernel_rfl) (fun K hK => ?_)
    simp only [Tryd.f60, bodyOf, Option.getD_some, cl, cr, rOps, lights, light, rN, List.size_toArray, List.length_cons, List.length_nil, Nat.reduceAdd, Nat.zero_add, List.map_cons, List.map_nil, Option.map_none]
    simp (maxSteps := 300000) (disch := omega) only [go_sem, Nat.reduceAdd, Nat.reduceEqDiff, Nat.reduceLeDiff, reduceCtorEq, ↓reduceIte, c32_head, c32_len, c32_set, hl, Int.toNat_natCast]
    with_reducible refine hK _ ?_
    clear hK K
    repeat (first | with_reducible refine nx_then ?_ | with_reducible refine nx_blk ?_ | with_reducible refine nx_loop ?_ | with_reducible refine nx_ex_then ?_ | with_reducible refine nx_ex_loop ?_ | with_reducible refine nx_ex_blk ?_ | with_reducible refine nx_ret_then ?_ | with_reducible refine nx_ret_blk ?_ | with_reducible refine nx_ret_loop ?_)
    refine awp_regP (Γ := noEnv) [0, 206, 207] (noEnv_ok _ _) rfl rfl rfl (fun K hK => ?_)
    simp only [Tryd.f60, bodyOf, Option.getD_some, cl, cr, rOps, lights, light, rN, List.size_toArray, List.length_cons, List.length_nil, Nat.reduceAdd, Nat.zero_add, List.map_cons, List.map_nil, Option.map_none]
    simp (maxSteps := 300000) (disch := omega) only [go_sem, Nat.reduceAdd, Nat.reduceEqDiff, reduceCtorEq, ↓reduceIte, W_eq]
    with_reducible refine hK _ ?_
    clear hK K
    repeat (first | with_reducible refine nx_then ?_ | with_reducible refine nx_blk ?_ | with_reducible refine nx_loop ?_ | with_reducible refine nx_ex_then ?_ | with_reducible refine nx_ex_loop ?_ | with_reducible refine nx_ex_blk ?_ | with_reducible refine nx_ret_then ?_ | with_reducible refine nx_ret_blk ?_ | with_reducible refine nx_ret_loop ?_)
    exact ⟨k + 1, by omega, by omega, sub_same (by simp only [Int.natCast_add, Int.natCast_one]) (by simp only [upd_upd, add8]) (by simp only; omega)⟩
  · refine awp_exitN 6 rfl rfl ?_
    repeat (first | with_reducible refine nx_then ?_ | with_reducible refine nx_blk ?_ | with_reducible refine nx_loop ?_ | with_reducible refine nx_ex_then ?_ | with_reducible refine nx_ex_loop ?_ | with_reducible refine nx_ex_blk ?_ | with_reducible refine nx_ret_then ?_ | with_reducible refine nx_ret_blk ?_ | with_reducible refine nx_ret_loop ?_)
    obtain rfl : k = 8 := by omega
    exact hQ _ _
end Go.AX
