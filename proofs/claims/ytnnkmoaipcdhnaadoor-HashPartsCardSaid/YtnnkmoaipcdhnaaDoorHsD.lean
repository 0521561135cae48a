/-
  Hash, part D: mixing a block in, whole.
-/
import Derived.Test.YtnnkmoaipcdhnaaDoorHsC
namespace Go.AX
open Go Go.Proofs

set_option maxHeartbeats 4000000 in
theorem mix_end {hp : H} {nx id c0 n0 : Nat} {s : List W32} {v : V8} {z : AV} {Q : Exit → S → Prop} (hs : s.length = 8) (hid : id < nx) (ho : hp id = some (.cells (c32 s) true)) (hno : hp nx = none) (ob : AO) (hc : c0 ≤ nx + 16900)
    (hQ : ∀ n z, Q .normal { fr := [(0, .op id 0), (206, .agg (c32 (l8 v))), (207, .i ((8 : Nat) : Int)), (208, z)], hp := upd hp id (.cells (c32 (add8 s (l8 v) 8)) true), nx := n, cx := nx + 17000 + 100 * 8 + 1 }) :
    Awp Tryd.prog GLh Tryd.f60.ntmps (cr (cr (cr (cr (cr (cr (bodyOf Tryd.f60))))))) { fr := frV id nx v 64 ++ [(137, z)], hp := upd hp nx ob, nx := n0, cx := c0 } Q := by
  simp only [frV, List.cons_append, List.nil_append]
  refine awp_seqP rfl ?_
  refine awp_regP (Γ := noEnv) [0, 206, 207] (noEnv_ok _ _) rfl rfl rfl (fun K hK => ?_)
  simp only [Tryd.f60, bodyOf, Option.getD_some, cl, cr, rOps, lights, light, rN, List.size_toArray, List.length_cons, List.length_nil, Nat.reduceAdd, Nat.zero_add, List.map_cons, List.map_nil, Option.map_none]
  simp (maxSteps := 300000) (disch := omega) only [go_sem, Nat.reduceAdd, Nat.reduceEqDiff, reduceCtorEq, ↓reduceIte]
  with_reducible refine hK _ ?_
  clear hK K
  repeat (first | with_reducible refine nx_then ?_ | with_reducible refine nx_blk ?_ | with_reducible refine nx_loop ?_ | with_reducible refine nx_ex_then ?_ | with_reducible refine nx_ex_loop ?_ | with_reducible refine nx_ex_blk ?_ | with_reducible refine nx_ret_then ?_ | with_reducible refine nx_ret_blk ?_ | with_reducible refine nx_ret_loop ?_)
  exact mix_l4 (x := l8 v) hs rfl hid ho hno _ (by omega) (fun n4 z4 => hQ n4 z4) _

theorem mix_r {hp : H} {nx id c0 n0 : Nat} {s w : List W32} {Q : Exit → S → Prop} (hw : w.length = 64) (hs : s.length = 8) (hid : id < nx) (ho : hp id = some (.cells (c32 s) true)) (hno : hp nx = none) (hc : c0 ≤ nx + 7000)
    (hQ : ∀ n z, Q .normal { fr := [(0, .op id 0), (206, .agg (c32 (l8 (rnds w (v8 s) 64)))), (207, .i ((8 : Nat) : Int)), (208, z)], hp := upd hp id (.cells (c32 (add8 s (l8 (rnds w (v8 s) 64)) 8)) true), nx := n, cx := nx + 17000 + 100 * 8 + 1 }) :
    Awp Tryd.prog GLh Tryd.f60.ntmps (cr (cl (cr (cr (cr (cr (cr (bodyOf Tryd.f60)))))))) { fr := frV id nx (v8 s) 0, hp := upd hp nx (.cells (c32 w) true), nx := n0, cx := c0 } (andThenQ Tryd.prog GLh Tryd.f60.ntmps (cr (cr (cr (cr (cr (cr (bodyOf Tryd.f60))))))) Q) :=
  mix_l3 hw hc (fun _ _ => nx_then (mix_end hs hid ho hno _ (by omega) hQ)) _

set_option maxHeartbeats 4000000 in
theorem mix_ok : HeapOK Tryd.prog GLh 60 mixG := by
  refine heap_of_awp Tryd.func60 (bodyOf_some rfl) ?_
  intro args hp nx r hp' nx' hg
  unfold mixG at hg
  split at hg
  · rename_i h2 n2 id y
    replace hg := obind_inv hg; obtain ⟨bl, hbl, hg⟩ := hg
    replace hg := obind_inv hg; obtain ⟨o, ho, hg⟩ := hg
    obtain ⟨xs, mt⟩ := o
    replace hg := obind_inv hg; obtain ⟨s, hs, hg⟩ := hg
    replace hg := guardO_inv hg; obtain ⟨⟨hmt, hsl, hbll, hnot, hid⟩, hg⟩ := hg
    simp only [Option.some.injEq, Prod.mk.injEq] at hg; obtain ⟨rfl, rfl, rfl⟩ := hg
    subst hmt
    have := un32_inv _ hs; subst this
    have hbig := bigK_ge
    refine ⟨Nat.le_of_ble_eq_true rfl, by omega, fun hnone => ?_⟩
    have hne : (id = nx) = False := eq_false (by omega)
    refine awp_seqP rfl ?_
    refine awp_regP (Γ := noEnv) [0, 1, 4] (noEnv_ok _ _) rfl rfl rfl (fun K hK => ?_)
    simp only [Tryd.f60, bodyOf, Option.getD_some, cl, rOps, lights, light, rN, List.size_toArray, List.length_cons, List.length_nil, Nat.zero_add, List.map_cons, List.map_nil, Option.map_none]
    simp (maxSteps := 300000) (disch := omega) only [go_sem, Nat.reduceEqDiff, reduceCtorEq, ↓reduceIte, c32_rep]
    with_reducible refine hK _ ?_
    clear hK K
    repeat (first | with_reducible refine nx_then ?_ | with_reducible refine nx_blk ?_ | with_reducible refine nx_loop ?_ | with_reducible refine nx_ex_then ?_ | with_reducible refine nx_ex_loop ?_ | with_reducible refine nx_ex_blk ?_ | with_reducible refine nx_ret_then ?_ | with_reducible refine nx_ret_blk ?_ | with_reducible refine nx_ret_loop ?_)
    refine awp_seqP rfl ?_
    refine awp_seqP rfl ?_
    refine awp_regP (Γ := noEnv) [0, 1, 4, 23] (noEnv_ok _ _) rfl rfl rfl (fun K hK => ?_)
    simp only [Tryd.f60, bodyOf, Option.getD_some, cl, cr, rOps, lights, light, rN, List.size_toArray, List.length_cons, List.length_nil, Nat.zero_add, List.map_cons, List.map_nil, Option.map_none]
    simp (maxSteps := 300000) (disch := omega) only [go_sem, Nat.reduceEqDiff, reduceCtorEq, ↓reduceIte]
    with_reducible refine hK _ ?_
    clear hK K
    repeat (first | with_reducible refine nx_then ?_ | with_reducible refine nx_blk ?_ | with_reducible refine nx_loop ?_ | with_reducible refine nx_ex_then ?_ | with_reducible refine nx_ex_loop ?_ | with_reducible refine nx_ex_blk ?_ | with_reducible refine nx_ret_then ?_ | with_reducible refine nx_ret_blk ?_ | with_reducible refine nx_ret_loop ?_)
    refine mix_l1 hbl hbll hnone hid (by omega) (fun n1 z1 => ?_) _
    repeat (first | with_reducible refine nx_then ?_ | with_reducible refine nx_blk ?_ | with_reducible refine nx_loop ?_ | with_reducible refine nx_ex_then ?_ | with_reducible refine nx_ex_loop ?_ | with_reducible refine nx_ex_blk ?_ | with_reducible refine nx_ret_then ?_ | with_reducible refine nx_ret_blk ?_ | with_reducible refine nx_ret_loop ?_)
    refine awp_seqP rfl ?_
    refine awp_seqP rfl ?_
    refine awp_regP (Γ := noEnv) [0, 4, 6] (noEnv_ok _ _) rfl rfl rfl (fun K hK => ?_)
    simp only [Tryd.f60, bodyOf, Option.getD_some, cl, cr, rOps, lights, light, rN, List.size_toArray, List.length_cons, List.length_nil, Nat.zero_add, List.map_cons, List.map_nil, Option.map_none]
    simp (maxSteps := 300000) (disch := omega) only [go_sem, Nat.reduceMul, Nat.reduceEqDiff, reduceCtorEq, ↓reduceIte]
    with_reducible refine hK _ ?_
    clear hK K
    repeat (first | with_reducible refine nx_then ?_ | with_reducible refine nx_blk ?_ | with_reducible refine nx_loop ?_ | with_reducible refine nx_ex_then ?_ | with_reducible refine nx_ex_loop ?_ | with_reducible refine nx_ex_blk ?_ | with_reducible refine nx_ret_then ?_ | with_reducible refine nx_ret_blk ?_ | with_reducible refine nx_ret_loop ?_)
    refine mix_l2 (by omega) (fun n2 z2 => ?_) _
    repeat (first | with_reducible refine nx_then ?_ | with_reducible refine nx_blk ?_ | with_reducible refine nx_loop ?_ | with_reducible refine nx_ex_then ?_ | with_reducible refine nx_ex_loop ?_ | with_reducible refine nx_ex_blk ?_ | with_reducible refine nx_ret_then ?_ | with_reducible refine nx_ret_blk ?_ | with_reducible refine nx_ret_loop ?_)
    refine awp_seqP rfl ?_
    refine awp_drwP (Γ := noEnv) (fun _ => 2) [0, 4, 9, 10, 11, 12] mixed (noEnv_ok _ _) rfl rfl rfl (by kernel_rfl) (fun K hK => ?_)
    simp only [Tryd.f60, bodyOf, Option.getD_some, cl, cr, rOps, lights, light, rN, List.size_toArray, List.length_cons, List.length_nil, Nat.reduceAdd, Nat.zero_add, List.map_cons, List.map_nil, Option.map_none]
    simp (maxSteps := 300000) (disch := omega) only [go_sem, Nat.reduceAdd, Nat.reduceMul, Nat.reduceEqDiff, Int.reduceLE, Int.reduceToNat, reduceCtorEq, ↓reduceIte, c32_head, c32_head0, hne, ho]
    with_reducible refine hK _ ?_
    clear hK K
    repeat (first | with_reducible refine nx_then ?_ | with_reducible refine nx_blk ?_ | with_reducible refine nx_loop ?_ | with_reducible refine nx_ex_then ?_ | with_reducible refine nx_ex_loop ?_ | with_reducible refine nx_ex_blk ?_ | with_reducible refine nx_ret_then ?_ | with_reducible refine nx_ret_blk ?_ | with_reducible refine nx_ret_loop ?_)
    refine awp_seqP rfl ?_
    refine awp_drwP (Γ := noEnv) (fun _ => 2) [0, 4, 9, 10, 11, 12, 13, 14, 15, 16] mixed (noEnv_ok _ _) rfl rfl rfl (by kernel_rfl) (fun K hK => ?_)
    simp only [Tryd.f60, bodyOf, Option.getD_some, cl, cr, rOps, lights, light, rN, List.size_toArray, List.length_cons, List.length_nil, Nat.reduceAdd, Nat.zero_add, List.map_cons, List.map_nil, Option.map_none]
    simp (maxSteps := 300000) (disch := omega) only [go_sem, Nat.reduceAdd, Nat.reduceEqDiff, Int.reduceLE, Int.reduceToNat, reduceCtorEq, ↓reduceIte, c32_head, hne, ho]
    with_reducible refine hK _ ?_
    clear hK K
    repeat (first | with_reducible refine nx_then ?_ | with_reducible refine nx_blk ?_ | with_reducible refine nx_loop ?_ | with_reducible refine nx_ex_then ?_ | with_reducible refine nx_ex_loop ?_ | with_reducible refine nx_ex_blk ?_ | with_reducible refine nx_ret_then ?_ | with_reducible refine nx_ret_blk ?_ | with_reducible refine nx_ret_loop ?_)
    refine awp_seqP rfl ?_
    refine awp_seqP rfl ?_
    refine awp_regP (Γ := noEnv) [0, 4, 9, 10, 11, 12, 13, 14, 15, 16, 135, 136] (noEnv_ok _ _) rfl rfl rfl (fun K hK => ?_)
    simp only [Tryd.f60, bodyOf, Option.getD_some, cl, cr, rOps, lights, light, rN, List.size_toArray, List.length_cons, List.length_nil, Nat.reduceAdd, Nat.zero_add, List.map_cons, List.map_nil, Option.map_none]
    simp (maxSteps := 300000) (disch := omega) only [go_sem, Nat.reduceAdd, Nat.reduceEqDiff, Nat.reduceLeDiff, reduceCtorEq, ↓reduceIte, evg0, KT_take, c32_len, KT_len]
    with_reducible refine hK _ ?_
    clear hK K
    repeat (first | with_reducible refine nx_then ?_ | with_reducible refine nx_blk ?_ | with_reducible refine nx_loop ?_ | with_reducible refine nx_ex_then ?_ | with_reducible refine nx_ex_loop ?_ | with_reducible refine nx_ex_blk ?_ | with_reducible refine nx_ret_then ?_ | with_reducible refine nx_ret_blk ?_ | with_reducible refine nx_ret_loop ?_)
    refine mix_r (w64_len bl 48) hsl hid ho (hnone nx (Nat.le_refl _)) (by omega) fun n4 z4 => ?_
    exact ⟨rfl, fun k o h => h, by simp only; omega⟩
  · cases hg
end Go.AX
