/-
  Hash, part I: the reference's sum: the words of a block.
-/
import Derived.Test.YtnnkmoaipcdhnaaDoorHsH
namespace Go.AX
open Go Go.Proofs

theorem getD_blk (p : List B8) (a k : Nat) (h : k < 64) : ((p.drop a).take 64).getD k 0#8 = p.getD (a + k) 0#8 := by
  simp only [List.getD_eq_getElem?_getD, List.getElem?_take, List.getElem?_drop, h, if_true]

theorem envT_ok : EnvOK Tryd.prog GLh (envL [(63, .pure true turnG)]) := by
  intro f s h
  simp only [envL] at h
  split at h
  · rename_i e; subst e
    obtain rfl := Option.some.inj h
    exact ⟨⟨_, Tryd.func63, rfl, rfl⟩, turn_ok _⟩
  · cases h
theorem tn (x : W32) (n : Int) (h0 : 0 ≤ n) (h1 : n ≤ 32) : turnG [.w32 x, .i n] = some (.w32 (x >>> n.toNat ||| x <<< (32 - n).toNat)) := if_pos ⟨h0, h1⟩

set_option maxHeartbeats 4000000 in
theorem ref_l1 {i2 i3 i4 ip i7 c0 c1 a m : Nat} {p : List B8} {mt : Bool} {hp : H} {Q : Exit → S → Prop} (hpp : hp ip = some (.cells (c8 p) mt)) (ha : a + 64 ≤ p.length) (hm : p.length = m) (hbig : m ≤ 2000000000)
    (h7 : ip ≠ i7) (_ : i7 < c1) (hlp : ip < c1) (hc : c0 ≤ c1)
    (hQ : ∀ n z1 z2 z3, Q .normal { fr := [(2, .op i2 0), (3, .op i3 0), (4, .op i4 0), (5, .os ip 0 m 1 true), (6, .i a), (7, .op i7 0), (8, z1), (35, z2), (36, z3)], hp := upd hp i7 (.cells (c32 (w16 ((p.drop a).take 64) 16)) true), nx := n, cx := c1 + 100 * 16 + 2 }) :
    ∀ n0, Awp Tryd.prog GLh Tryd.f23.ntmps (cr (cl (cr (cl (cl (cr (cl (cl (cr (cl (cr (cr (cr (cr (bodyOf Tryd.f23))))))))))))))) { fr := [(2, .op i2 0), (3, .op i3 0), (4, .op i4 0), (5, .os ip 0 m 1 true), (6, .i a), (7, .op i7 0), (8, .i 0)], hp := upd hp i7 (.cells (c32 (w16 ((p.drop a).take 64) 0)) true), nx := n0, cx := c0 } Q := by
  intro n0
  subst hm
  refine awp_blockN 2 rfl rfl ?_
  refine awp_loopP (fun i : Nat => { fr := [(2, .op i2 0), (3, .op i3 0), (4, .op i4 0), (5, .os ip 0 p.length 1 true), (6, .i a), (7, .op i7 0), (8, .i i)], hp := upd hp i7 (.cells (c32 (w16 ((p.drop a).take 64) i)) true), nx := 0, cx := c1 + 100 * i }) (fun i => i ≤ 16) (fun i => 16 - i) rfl ⟨0, by omega, sub_same rfl rfl hc⟩ ?_
  intro i hi n
  have hl : (w16 ((p.drop a).take 64) i).length = 64 := w16_len _ i
  refine awp_seqP rfl ?_
  refine awp_seqP rfl ?_
  refine awp_regP (Γ := noEnv) [2, 3, 4, 5, 6, 7, 8, 35, 36] (noEnv_ok _ _) rfl rfl rfl (fun K hK => ?_)
  simp only [Tryd.f23, bodyOf, Option.getD_some, cl, cr, rOps, lights, light, rN, List.size_toArray, List.length_cons, List.length_nil, Nat.reduceAdd, Nat.zero_add, List.map_cons, List.map_nil, Option.map_none]
  simp (maxSteps := 300000) (disch := omega) only [go_sem, Nat.reduceAdd, Nat.reduceEqDiff, ↓reduceIte]
  with_reducible refine hK _ ?_
  clear hK K
  repeat (first | with_reducible refine nx_then ?_ | with_reducible refine nx_blk ?_ | with_reducible refine nx_loop ?_ | with_reducible refine nx_ex_then ?_ | with_reducible refine nx_ex_loop ?_ | with_reducible refine nx_ex_blk ?_ | with_reducible refine nx_ret_then ?_ | with_reducible refine nx_ret_blk ?_ | with_reducible refine nx_ret_loop ?_)
  refine awp_ifN ((i : Int) < 16) (.tmp 36) rfl rfl rfl (fun h => ?_) (fun h => ?_)
  · refine awp_skipP rfl ?_
    repeat (first | with_reducible refine nx_then ?_ | with_reducible refine nx_blk ?_ | with_reducible refine nx_loop ?_ | with_reducible refine nx_ex_then ?_ | with_reducible refine nx_ex_loop ?_ | with_reducible refine nx_ex_blk ?_ | with_reducible refine nx_ret_then ?_ | with_reducible refine nx_ret_blk ?_ | with_reducible refine nx_ret_loop ?_)
    refine awp_seqP rfl ?_
    refine awp_blockN 3 rfl rfl ?_
    have e0 : ((a : Int) + 4 * (i : Int)).toNat = a + 4 * i := by omega
    have e1 : ((a : Int) + 4 * (i : Int) + 1).toNat = a + (4 * i + 1) := by omega
    have e2 : ((a : Int) + 4 * (i : Int) + 2).toNat = a + (4 * i + 2) := by omega
    have e3 : ((a : Int) + 4 * (i : Int) + 3).toNat = a + (4 * i + 3) := by omega
    refine awp_drwP (Γ := noEnv) (fun _ => 2) [2, 3, 4, 5, 6, 7, 8] mixed (noEnv_ok _ _) rfl rfl rfl (by kernel_rfl) (fun K hK => ?_)
    simp only [Tryd.f23, bodyOf, Option.getD_some, cl, cr, rOps, lights, light, rN, List.size_toArray, List.length_cons, List.length_nil, Nat.reduceAdd, Nat.zero_add, List.map_cons, List.map_nil, Option.map_none]
    simp (maxSteps := 300000) (disch := omega) only [go_sem, Nat.reduceAdd, Nat.reduceLeDiff, Int.reduceLE, Int.reduceLT, BitVec.reduceOfInt, BitVec.reduceToNat, ↓reduceIte, W_eq, nat_ne, hpp, e0, e1, e2, e3, c8_head, c32_set, c32_len, hl, Int.toNat_natCast]
    with_reducible refine hK _ ?_
    clear hK K
    repeat (first | with_reducible refine nx_then ?_ | with_reducible refine nx_blk ?_ | with_reducible refine nx_loop ?_ | with_reducible refine nx_ex_then ?_ | with_reducible refine nx_ex_loop ?_ | with_reducible refine nx_ex_blk ?_ | with_reducible refine nx_ret_then ?_ | with_reducible refine nx_ret_blk ?_ | with_reducible refine nx_ret_loop ?_)
    refine awp_regP (Γ := noEnv) [2, 3, 4, 5, 6, 7, 8] (noEnv_ok _ _) rfl rfl rfl (fun K hK => ?_)
    simp only [Tryd.f23, bodyOf, Option.getD_some, cl, cr, rOps, lights, light, rN, List.size_toArray, List.length_cons, List.length_nil, Nat.reduceAdd, Nat.zero_add, List.map_cons, List.map_nil, Option.map_none]
    simp (maxSteps := 300000) (disch := omega) only [go_sem, Nat.reduceAdd, Nat.reduceEqDiff, ↓reduceIte, W_eq]
    with_reducible refine hK _ ?_
    clear hK K
    repeat (first | with_reducible refine nx_then ?_ | with_reducible refine nx_blk ?_ | with_reducible refine nx_loop ?_ | with_reducible refine nx_ex_then ?_ | with_reducible refine nx_ex_loop ?_ | with_reducible refine nx_ex_blk ?_ | with_reducible refine nx_ret_then ?_ | with_reducible refine nx_ret_blk ?_ | with_reducible refine nx_ret_loop ?_)
    have g0 := getD_blk p a (4 * i) (by omega)
    have g1 := getD_blk p a (4 * i + 1) (by omega)
    have g2 := getD_blk p a (4 * i + 2) (by omega)
    have g3 := getD_blk p a (4 * i + 3) (by omega)
    exact ⟨i + 1, by omega, by omega, sub_same (by simp only [Int.natCast_add, Int.natCast_one]) (by simp only [upd_upd, w16, word, g0, g1, g2, g3]) (by simp only; omega)⟩
  · refine awp_exitN 2 rfl rfl ?_
    repeat (first | with_reducible refine nx_then ?_ | with_reducible refine nx_blk ?_ | with_reducible refine nx_loop ?_ | with_reducible refine nx_ex_then ?_ | with_reducible refine nx_ex_loop ?_ | with_reducible refine nx_ex_blk ?_ | with_reducible refine nx_ret_then ?_ | with_reducible refine nx_ret_blk ?_ | with_reducible refine nx_ret_loop ?_)
    obtain rfl : i = 16 := by omega
    exact hQ _ _ _ _
end Go.AX
