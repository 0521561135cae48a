/-
  Hash, part F: the sum, whole.
-/
import Derived.Test.YtnnkmoaipcdhnaaDoorHsE
namespace Go.AX
open Go Go.Proofs

theorem sumL_eq (b : List B8) : sumL b = ob (ab (ab S0 b (b.length / 64)) (tl (BitVec.ofInt 64 (b.length : Int) * 8#64) (en (b.drop (64 * (b.length / 64)))) (tl0 (b.drop (64 * (b.length / 64)))) 8) (en (b.drop (64 * (b.length / 64))) / 64)) 8 := by
  simp only [sumL]

set_option maxHeartbeats 4000000 in
theorem sum_l6 {nx c0 c1 id9 : Nat} {s : List W32} {hp : H} {Q : Exit → S → Prop} (hs : s.length = 8) (hc : c0 ≤ c1)
    (hQ : ∀ m z, Q .normal { fr := [(2, .op nx 0), (9, .op id9 0), (57, .agg (c32 s)), (58, .i ((8 : Nat) : Int)), (59, z)], hp := upd hp id9 (.cells (c8 (ob s 8)) true), nx := m, cx := c1 + 100 * 8 + 1 }) :
    ∀ n0, Awp Tryd.prog GLh Tryd.f22.ntmps (cr (cl (cr (cr (cr (cr (cr (cr (cr (cr (cr (cr (cr (bodyOf Tryd.f22)))))))))))))) { fr := [(2, .op nx 0), (9, .op id9 0), (57, .agg (c32 s)), (58, .i 0)], hp := upd hp id9 (.cells (c8 (ob s 0)) true), nx := n0, cx := c0 } Q := by
  intro n0
  refine awp_blockN 6 rfl rfl ?_
  refine awp_loopP (fun k : Nat => { fr := [(2, .op nx 0), (9, .op id9 0), (57, .agg (c32 s)), (58, .i k)], hp := upd hp id9 (.cells (c8 (ob s k)) true), nx := 0, cx := c1 + 100 * k }) (fun k => k ≤ 8) (fun k => 8 - k) rfl ⟨0, by omega, sub_same rfl rfl hc⟩ ?_
  intro k hk m
  have hl : (ob s k).length = 32 := ob_len s k
  refine awp_seqP rfl ?_
  refine awp_regP (Γ := noEnv) [2, 9, 57, 58, 59] (noEnv_ok _ _) rfl rfl rfl (fun K hK => ?_)
  simp only [Tryd.f22, bodyOf, Option.getD_some, cl, cr, rOps, lights, light, rN, List.size_toArray, List.length_cons, List.length_nil, Nat.zero_add, List.map_cons, List.map_nil, Option.map_none]
  simp (maxSteps := 300000) (disch := omega) only [go_sem, Nat.reduceEqDiff, ↓reduceIte]
  with_reducible refine hK _ ?_
  clear hK K
  repeat (first | with_reducible refine nx_then ?_ | with_reducible refine nx_blk ?_ | with_reducible refine nx_loop ?_ | with_reducible refine nx_ex_then ?_ | with_reducible refine nx_ex_loop ?_ | with_reducible refine nx_ex_blk ?_ | with_reducible refine nx_ret_then ?_ | with_reducible refine nx_ret_blk ?_ | with_reducible refine nx_ret_loop ?_)
  refine awp_seqP rfl ?_
  refine awp_ifN ((k : Int) < 8) (.tmp 59) rfl rfl rfl (fun h => ?_) (fun h => ?_)
  · refine awp_skipP rfl ?_
    repeat (first | with_reducible refine nx_then ?_ | with_reducible refine nx_blk ?_ | with_reducible refine nx_loop ?_ | with_reducible refine nx_ex_then ?_ | with_reducible refine nx_ex_loop ?_ | with_reducible refine nx_ex_blk ?_ | with_reducible refine nx_ret_then ?_ | with_reducible refine nx_ret_blk ?_ | with_reducible refine nx_ret_loop ?_)
    refine awp_seqP rfl ?_
    refine awp_blockN 7 rfl rfl ?_
    refine awp_seqP rfl ?_
    refine awp_regP (Γ := noEnv) [2, 9, 10, 11, 57, 58] (noEnv_ok _ _) rfl rfl rfl (fun K hK => ?_)
    simp only [Tryd.f22, bodyOf, Option.getD_some, cl, cr, rOps, lights, light, rN, List.size_toArray, List.length_cons, List.length_nil, Nat.reduceAdd, Nat.zero_add, List.map_cons, List.map_nil, Option.map_none]
    simp (maxSteps := 300000) (disch := omega) only [go_sem, Nat.reduceAdd, Nat.reduceEqDiff, ↓reduceIte, c32_head, Int.toNat_natCast]
    with_reducible refine hK _ ?_
    clear hK K
    repeat (first | with_reducible refine nx_then ?_ | with_reducible refine nx_blk ?_ | with_reducible refine nx_loop ?_ | with_reducible refine nx_ex_then ?_ | with_reducible refine nx_ex_loop ?_ | with_reducible refine nx_ex_blk ?_ | with_reducible refine nx_ret_then ?_ | with_reducible refine nx_ret_blk ?_ | with_reducible refine nx_ret_loop ?_)
    have e0 : ((4 * (k : Int))).toNat = 4 * k := by omega
    have e1 : ((4 * (k : Int) + 1)).toNat = 4 * k + 1 := by omega
    have e2 : ((4 * (k : Int) + 2)).toNat = 4 * k + 2 := by omega
    have e3 : ((4 * (k : Int) + 3)).toNat = 4 * k + 3 := by omega
    refine awp_regP (Γ := noEnv) [2, 9, 57, 58] (noEnv_ok _ _) rfl rfl rfl (fun K hK => ?_)
    simp only [Tryd.f22, bodyOf, Option.getD_some, cl, cr, rOps, lights, light, rN, List.size_toArray, List.length_cons, List.length_nil, Nat.reduceAdd, Nat.zero_add, List.map_cons, List.map_nil, Option.map_none]
    simp (maxSteps := 300000) (disch := omega) only [go_sem, Nat.reduceAdd, Nat.reduceEqDiff, Nat.reduceLeDiff, Int.reduceLE, Int.reduceLT, BitVec.reduceOfInt, BitVec.reduceToNat, ↓reduceIte, W_eq, c8_len, c8_set, List.length_set, hl, e0, e1, e2, e3]
    with_reducible refine hK _ ?_
    clear hK K
    repeat (first | with_reducible refine nx_then ?_ | with_reducible refine nx_blk ?_ | with_reducible refine nx_loop ?_ | with_reducible refine nx_ex_then ?_ | with_reducible refine nx_ex_loop ?_ | with_reducible refine nx_ex_blk ?_ | with_reducible refine nx_ret_then ?_ | with_reducible refine nx_ret_blk ?_ | with_reducible refine nx_ret_loop ?_)
    refine awp_regP (Γ := noEnv) [2, 9, 57, 58] (noEnv_ok _ _) rfl rfl rfl (fun K hK => ?_)
    simp only [Tryd.f22, bodyOf, Option.getD_some, cl, cr, rOps, lights, light, rN, List.size_toArray, List.length_cons, List.length_nil, Nat.reduceAdd, Nat.zero_add, List.map_cons, List.map_nil, Option.map_none]
    simp (maxSteps := 300000) (disch := omega) only [go_sem, Nat.reduceAdd, Nat.reduceEqDiff, ↓reduceIte, W_eq]
    with_reducible refine hK _ ?_
    clear hK K
    repeat (first | with_reducible refine nx_then ?_ | with_reducible refine nx_blk ?_ | with_reducible refine nx_loop ?_ | with_reducible refine nx_ex_then ?_ | with_reducible refine nx_ex_loop ?_ | with_reducible refine nx_ex_blk ?_ | with_reducible refine nx_ret_then ?_ | with_reducible refine nx_ret_blk ?_ | with_reducible refine nx_ret_loop ?_)
    exact ⟨k + 1, by omega, by omega, sub_same (by simp only [Int.natCast_add, Int.natCast_one]) (by simp only [upd_upd, ob]) (by simp only; omega)⟩
  · refine awp_exitN 6 rfl rfl ?_
    repeat (first | with_reducible refine nx_then ?_ | with_reducible refine nx_blk ?_ | with_reducible refine nx_loop ?_ | with_reducible refine nx_ex_then ?_ | with_reducible refine nx_ex_loop ?_ | with_reducible refine nx_ex_blk ?_ | with_reducible refine nx_ret_then ?_ | with_reducible refine nx_ret_blk ?_ | with_reducible refine nx_ret_loop ?_)
    obtain rfl : k = 8 := by omega
    exact hQ _ _

set_option maxHeartbeats 4000000 in
theorem sum_t2 {nx id3 id5 m : Nat} {r : List B8} {s : List W32} {n : BitVec 64} {l : List B8} {o2 : List AV} {c0 c1 : Nat} (hr : r.length < 64) (hm : m ≤ 2) (hm1 : 1 ≤ m) (hs : s.length = 8) (hl : l.length = 128)
    (h1 : nx < id3) (h2 : id3 < id5) (h3 : id5 < c1) (hc : c0 ≤ c1) (ho2 : o2 = c8 (List.replicate 32 0#8)) (n0 : Nat) :
    Awp Tryd.prog GLh Tryd.f22.ntmps (cr (cr (cr (cr (cr (cr (cr (bodyOf Tryd.f22)))))))) { fr := [(0, .sl r.length (c8 r)), (2, .op nx 0), (3, .op id3 0), (4, .w64 n), (5, .op id5 0), (6, .i ((64 * m : Nat) : Int))], hp := upd (upd (upd (fun _ => none) nx (.cells o2 true)) id3 (.cells (c32 s) true)) id5 (.cells (c8 l) true), nx := n0, cx := c0 }
      (pureQ Tryd.prog Tryd.f22.results.toList (.agg (c8 (ob (ab s (tl n (64 * m) (l.set r.length 0x80#8) 8) m) 8)))) := by
  subst ho2
  have n53 : (id5 = id3) = False := eq_false (by omega)
  have n35 : (id3 = id5) = False := eq_false (by omega)
  have n2_3 : (nx = id3) = False := eq_false (by omega)
  have n2_5 : (nx = id5) = False := eq_false (by omega)
  refine awp_seqP rfl ?_
  refine awp_regP (Γ := noEnv) [2, 3, 4, 5, 6] (noEnv_ok _ _) rfl rfl rfl (fun K hK => ?_)
  simp only [Tryd.f22, bodyOf, Option.getD_some, cl, cr, rOps, lights, light, rN, List.size_toArray, List.length_cons, List.length_nil, Nat.reduceAdd, Nat.zero_add, List.map_cons, List.map_nil, Option.map_none]
  simp (maxSteps := 300000) (disch := omega) only [go_sem, Nat.reduceAdd, Nat.reduceEqDiff, Nat.reduceLeDiff, Int.reduceLE, Int.reduceLT, BitVec.reduceOfInt, reduceCtorEq, ↓reduceIte, c8_len, c8_set, hl, Int.toNat_natCast]
  with_reducible refine hK _ ?_
  clear hK K
  repeat (first | with_reducible refine nx_then ?_ | with_reducible refine nx_blk ?_ | with_reducible refine nx_loop ?_ | with_reducible refine nx_ex_then ?_ | with_reducible refine nx_ex_loop ?_ | with_reducible refine nx_ex_blk ?_ | with_reducible refine nx_ret_then ?_ | with_reducible refine nx_ret_blk ?_ | with_reducible refine nx_ret_loop ?_)
  refine awp_seqP rfl ?_
  refine awp_seqP rfl ?_
  refine awp_regP (Γ := noEnv) [2, 3, 4, 5, 6, 32] (noEnv_ok _ _) rfl rfl rfl (fun K hK => ?_)
  simp only [Tryd.f22, bodyOf, Option.getD_some, cl, cr, rOps, lights, light, rN, List.size_toArray, List.length_cons, List.length_nil, Nat.zero_add, List.map_cons, List.map_nil, Option.map_none]
  simp (maxSteps := 300000) (disch := omega) only [go_sem, Nat.reduceEqDiff, ↓reduceIte]
  with_reducible refine hK _ ?_
  clear hK K
  repeat (first | with_reducible refine nx_then ?_ | with_reducible refine nx_blk ?_ | with_reducible refine nx_loop ?_ | with_reducible refine nx_ex_then ?_ | with_reducible refine nx_ex_loop ?_ | with_reducible refine nx_ex_blk ?_ | with_reducible refine nx_ret_then ?_ | with_reducible refine nx_ret_blk ?_ | with_reducible refine nx_ret_loop ?_)
  simp only [upd_upd]
  refine sum_l2 (e := 64 * m) (c1 := c1 + 10) (by omega) (by simp only [List.length_set]; exact hl) (by omega) (by omega) (fun m2 z2 => ?_) _
  repeat (first | with_reducible refine nx_then ?_ | with_reducible refine nx_blk ?_ | with_reducible refine nx_loop ?_ | with_reducible refine nx_ex_then ?_ | with_reducible refine nx_ex_loop ?_ | with_reducible refine nx_ex_blk ?_ | with_reducible refine nx_ret_then ?_ | with_reducible refine nx_ret_blk ?_ | with_reducible refine nx_ret_loop ?_)
  refine awp_seqP rfl ?_
  refine awp_seqP rfl ?_
  refine awp_regP (Γ := noEnv) [2, 3, 5, 6, 8] (noEnv_ok _ _) rfl rfl rfl (fun K hK => ?_)
  simp only [Tryd.f22, bodyOf, Option.getD_some, cl, cr, rOps, lights, light, rN, List.size_toArray, List.length_cons, List.length_nil, Nat.zero_add, List.map_cons, List.map_nil, Option.map_none]
  simp (maxSteps := 300000) (disch := omega) only [go_sem, Nat.reduceMul, Nat.reduceEqDiff, ↓reduceIte]
  with_reducible refine hK _ ?_
  clear hK K
  repeat (first | with_reducible refine nx_then ?_ | with_reducible refine nx_blk ?_ | with_reducible refine nx_loop ?_ | with_reducible refine nx_ex_then ?_ | with_reducible refine nx_ex_loop ?_ | with_reducible refine nx_ex_blk ?_ | with_reducible refine nx_ret_then ?_ | with_reducible refine nx_ret_blk ?_ | with_reducible refine nx_ret_loop ?_)
  rw [upd_swap _ (by omega : id3 ≠ id5)]
  refine sum_l4 (c1 := c1 + 10 + 1000) (l := tl n (64 * m) (l.set r.length 0x80#8) 8) hm (by rw [tl_len, List.length_set]; exact hl) hs (by omega) (by omega) (by omega) (by omega) (by simp only [upd_apply, ↓reduceIte]) (fun m3 z3 => ?_) _
  repeat (first | with_reducible refine nx_then ?_ | with_reducible refine nx_blk ?_ | with_reducible refine nx_loop ?_ | with_reducible refine nx_ex_then ?_ | with_reducible refine nx_ex_loop ?_ | with_reducible refine nx_ex_blk ?_ | with_reducible refine nx_ret_then ?_ | with_reducible refine nx_ret_blk ?_ | with_reducible refine nx_ret_loop ?_)
  have hcx := cxR_le (c1 + 10 + 1000) m
  have hab : (ab s (tl n (64 * m) (l.set r.length 0x80#8) 8) m).length = 8 := by rw [ab_len, hs]
  generalize ab s (tl n (64 * m) (l.set r.length 0x80#8) 8) m = z at hab ⊢
  generalize hi9 : cxR (c1 + 10 + 1000) m + 3 = id9
  have n3_9 : (id3 = id9) = False := eq_false (by omega)
  have n2_9 : (nx = id9) = False := eq_false (by omega)
  have hz8 := c32_take_all z 8 (by omega)
  refine awp_seqP rfl ?_
  refine awp_regP (Γ := noEnv) [2, 3, 9] (noEnv_ok _ _) rfl rfl rfl (fun K hK => ?_)
  simp only [Tryd.f22, bodyOf, Option.getD_some, cl, cr, rOps, lights, light, rN, List.size_toArray, List.length_cons, List.length_nil, Nat.zero_add, List.map_cons, List.map_nil, Option.map_none]
  simp (maxSteps := 300000) (disch := omega) only [go_sem, Nat.reduceEqDiff, ↓reduceIte, c8_rep]
  with_reducible refine hK _ ?_
  clear hK K
  repeat (first | with_reducible refine nx_then ?_ | with_reducible refine nx_blk ?_ | with_reducible refine nx_loop ?_ | with_reducible refine nx_ex_then ?_ | with_reducible refine nx_ex_loop ?_ | with_reducible refine nx_ex_blk ?_ | with_reducible refine nx_ret_then ?_ | with_reducible refine nx_ret_blk ?_ | with_reducible refine nx_ret_loop ?_)
  refine awp_seqP rfl ?_
  refine awp_seqP rfl ?_
  refine awp_regP (Γ := noEnv) [2, 9, 57, 58] (noEnv_ok _ _) rfl rfl rfl (fun K hK => ?_)
  simp only [Tryd.f22, bodyOf, Option.getD_some, cl, cr, rOps, lights, light, rN, List.size_toArray, List.length_cons, List.length_nil, Nat.reduceAdd, Nat.zero_add, List.map_cons, List.map_nil, Option.map_none]
  simp (maxSteps := 300000) (disch := omega) only [go_sem, Nat.reduceAdd, Nat.reduceEqDiff, Nat.reduceLeDiff, ↓reduceIte, n3_9, c32_len, hab, hz8]
  with_reducible refine hK _ ?_
  clear hK K
  repeat (first | with_reducible refine nx_then ?_ | with_reducible refine nx_blk ?_ | with_reducible refine nx_loop ?_ | with_reducible refine nx_ex_then ?_ | with_reducible refine nx_ex_loop ?_ | with_reducible refine nx_ex_blk ?_ | with_reducible refine nx_ret_then ?_ | with_reducible refine nx_ret_blk ?_ | with_reducible refine nx_ret_loop ?_)
  refine sum_l6 (c1 := id9 + 100) hab (by omega) (fun m4 z4 => ?_) _
  repeat (first | with_reducible refine nx_then ?_ | with_reducible refine nx_blk ?_ | with_reducible refine nx_loop ?_ | with_reducible refine nx_ex_then ?_ | with_reducible refine nx_ex_loop ?_ | with_reducible refine nx_ex_blk ?_ | with_reducible refine nx_ret_then ?_ | with_reducible refine nx_ret_blk ?_ | with_reducible refine nx_ret_loop ?_)
  have hob := ob_len z 8
  have ho32 := c8_take_all (ob z 8) 32 (by omega)
  have hcl : (c8 (ob z 8)).length = 32 := (c8_len _).trans hob
  have hrl : (c8 (List.replicate 32 0#8)).length = 32 := (c8_len _).trans List.length_replicate
  refine awp_seqP rfl ?_
  refine awp_regP (Γ := noEnv) [2] (noEnv_ok _ _) rfl rfl rfl (fun K hK => ?_)
  simp only [Tryd.f22, bodyOf, Option.getD_some, cl, cr, rOps, lights, light, rN, List.size_toArray, List.length_cons, List.length_nil, Nat.reduceAdd, Nat.zero_add, List.map_cons, List.map_nil, Option.map_none]
  simp (maxSteps := 300000) (disch := omega) only [go_sem, Nat.reduceAdd, Nat.reduceMul, Nat.reduceEqDiff, Nat.reduceLeDiff, ↓reduceIte, n2_9, n2_3, n2_5, ho32, hcl, hrl, storeL_sp, splice_all]
  with_reducible refine hK _ ?_
  clear hK K
  repeat (first | with_reducible refine nx_then ?_ | with_reducible refine nx_blk ?_ | with_reducible refine nx_loop ?_ | with_reducible refine nx_ex_then ?_ | with_reducible refine nx_ex_loop ?_ | with_reducible refine nx_ex_blk ?_ | with_reducible refine nx_ret_then ?_ | with_reducible refine nx_ret_blk ?_ | with_reducible refine nx_ret_loop ?_)
  refine awp_retP rfl ?_
  simp only [pureQ, resA, resAL, resA1, Tryd.f22, ldV, imm_c8, ho32, hcl, go_sem, Nat.reduceLeDiff, ↓reduceIte]

set_option maxHeartbeats 4000000 in
theorem sum_ok : PureOK Tryd.prog GLh 22 sumG := by
  refine pure_of_awp Tryd.func22 (bodyOf_some rfl) ?_
  intro args r hg
  unfold sumG at hg
  split at hg
  · rename_i n xs
    replace hg := obind_inv hg; obtain ⟨b, hb, hg⟩ := hg
    replace hg := guardO_inv hg; obtain ⟨hn, hg⟩ := hg
    obtain rfl := Option.some.inj hg
    have := un8_inv _ hb; subst this
    subst hn
    refine ⟨Nat.le_of_ble_eq_true rfl, fun nx => ?_⟩
    refine awp_seqP rfl ?_
    refine awp_regP (Γ := noEnv) [0, 2] (noEnv_ok _ _) rfl rfl rfl (fun K hK => ?_)
    simp only [Tryd.f22, bodyOf, Option.getD_some, cl, rOps, lights, light, rN, List.size_toArray, List.length_cons, List.length_nil, Nat.zero_add, List.map_cons, List.map_nil, Option.map_none]
    simp (maxSteps := 300000) (disch := omega) only [go_sem, reduceCtorEq, ↓reduceIte, c8_rep]
    with_reducible refine hK _ ?_
    clear hK K
    repeat (first | with_reducible refine nx_then ?_ | with_reducible refine nx_blk ?_ | with_reducible refine nx_loop ?_ | with_reducible refine nx_ex_then ?_ | with_reducible refine nx_ex_loop ?_ | with_reducible refine nx_ex_blk ?_ | with_reducible refine nx_ret_then ?_ | with_reducible refine nx_ret_blk ?_ | with_reducible refine nx_ret_loop ?_)
    refine awp_seqP rfl ?_
    refine awp_regP (Γ := noEnv) [0, 2, 3] (noEnv_ok _ _) rfl rfl rfl (fun K hK => ?_)
    simp only [Tryd.f22, bodyOf, Option.getD_some, cl, cr, rOps, lights, light, rN, List.size_toArray, List.length_cons, List.length_nil, Nat.reduceAdd, Nat.zero_add, List.map_cons, List.map_nil, Option.map_none]
    simp (maxSteps := 300000) (disch := omega) only [go_sem, Nat.reduceAdd, Nat.reduceEqDiff, Nat.reduceLeDiff, Int.reduceLE, Int.reduceLT, BitVec.reduceOfInt, reduceCtorEq, ↓reduceIte]
    with_reducible refine hK _ ?_
    clear hK K
    repeat (first | with_reducible refine nx_then ?_ | with_reducible refine nx_blk ?_ | with_reducible refine nx_loop ?_ | with_reducible refine nx_ex_then ?_ | with_reducible refine nx_ex_loop ?_ | with_reducible refine nx_ex_blk ?_ | with_reducible refine nx_ret_then ?_ | with_reducible refine nx_ret_blk ?_ | with_reducible refine nx_ret_loop ?_)
    refine awp_seqP rfl ?_
    refine awp_regP (Γ := noEnv) [0, 2, 3, 4] (noEnv_ok _ _) rfl rfl rfl (fun K hK => ?_)
    simp only [Tryd.f22, bodyOf, Option.getD_some, cl, cr, rOps, lights, light, rN, List.size_toArray, List.length_cons, List.length_nil, Nat.reduceAdd, Nat.zero_add, List.map_cons, List.map_nil, Option.map_none]
    simp (maxSteps := 300000) (disch := omega) only [go_sem, Nat.reduceAdd, Nat.reduceEqDiff, Int.reduceLE, Int.reduceLT, BitVec.reduceOfInt, reduceCtorEq, ↓reduceIte]
    with_reducible refine hK _ ?_
    clear hK K
    repeat (first | with_reducible refine nx_then ?_ | with_reducible refine nx_blk ?_ | with_reducible refine nx_loop ?_ | with_reducible refine nx_ex_then ?_ | with_reducible refine nx_ex_loop ?_ | with_reducible refine nx_ex_blk ?_ | with_reducible refine nx_ret_then ?_ | with_reducible refine nx_ret_blk ?_ | with_reducible refine nx_ret_loop ?_)
    refine awp_seqP rfl ?_
    simp only [upd_upd]
    refine sum_l1 (o2 := .cells (c8 (List.replicate 32 0#8)) true) (by omega) (fun m1 z1 => ?_) _
    repeat (first | with_reducible refine nx_then ?_ | with_reducible refine nx_blk ?_ | with_reducible refine nx_loop ?_ | with_reducible refine nx_ex_then ?_ | with_reducible refine nx_ex_loop ?_ | with_reducible refine nx_ex_blk ?_ | with_reducible refine nx_ret_then ?_ | with_reducible refine nx_ret_blk ?_ | with_reducible refine nx_ret_loop ?_)
    have hcx := cxR_le (nx + 100) (b.length / 64)
    have hrl : (b.drop (64 * (b.length / 64))).length = b.length - 64 * (b.length / 64) := List.length_drop ..
    have hr : (b.drop (64 * (b.length / 64))).length < 64 := by omega
    have hs : (ab S0 b (b.length / 64)).length = 8 := by rw [ab_len, S0_len]
    rw [← hrl]
    rw [sumL_eq]
    generalize b.drop (64 * (b.length / 64)) = r at hr
    generalize ab S0 b (b.length / 64) = s0 at hs
    generalize BitVec.ofInt 64 (b.length : Int) * 8#64 = n64
    generalize hid5 : cxR (nx + 100) (b.length / 64) + 3 = id5
    have h5 : nx + 100 < id5 := by omega
    clear hid5 hcx hrl hb
    refine awp_seqP rfl ?_
    refine awp_regP (Γ := noEnv) [0, 2, 3, 4, 5] (noEnv_ok _ _) rfl rfl rfl (fun K hK => ?_)
    simp only [Tryd.f22, bodyOf, Option.getD_some, cl, cr, rOps, lights, light, rN, List.size_toArray, List.length_cons, List.length_nil, Nat.zero_add, List.map_cons, List.map_nil, Option.map_none]
    simp (maxSteps := 300000) (disch := omega) only [go_sem, Nat.reduceEqDiff, reduceCtorEq, ↓reduceIte, c8_rep]
    with_reducible refine hK _ ?_
    clear hK K
    repeat (first | with_reducible refine nx_then ?_ | with_reducible refine nx_blk ?_ | with_reducible refine nx_loop ?_ | with_reducible refine nx_ex_then ?_ | with_reducible refine nx_ex_loop ?_ | with_reducible refine nx_ex_blk ?_ | with_reducible refine nx_ret_then ?_ | with_reducible refine nx_ret_blk ?_ | with_reducible refine nx_ret_loop ?_)
    refine awp_seqP rfl ?_
    refine awp_regP (Γ := noEnv) [0, 2, 3, 4, 5, 6] (noEnv_ok _ _) rfl rfl rfl (fun K hK => ?_)
    simp only [Tryd.f22, bodyOf, Option.getD_some, cl, cr, rOps, lights, light, rN, List.size_toArray, List.length_cons, List.length_nil, Nat.zero_add, List.map_cons, List.map_nil, Option.map_none]
    simp (maxSteps := 300000) (disch := omega) only [go_sem, Nat.reduceEqDiff, reduceCtorEq, ↓reduceIte]
    with_reducible refine hK _ ?_
    clear hK K
    repeat (first | with_reducible refine nx_then ?_ | with_reducible refine nx_blk ?_ | with_reducible refine nx_loop ?_ | with_reducible refine nx_ex_then ?_ | with_reducible refine nx_ex_loop ?_ | with_reducible refine nx_ex_blk ?_ | with_reducible refine nx_ret_then ?_ | with_reducible refine nx_ret_blk ?_ | with_reducible refine nx_ret_loop ?_)
    refine awp_seqP rfl ?_
    refine awp_seqP rfl ?_
    have hcr : (c8 r).length = r.length := c8_len r
    have h128 : (c8 (List.replicate 128 0#8)).length = 128 := (c8_len _).trans List.length_replicate
    refine awp_regP (Γ := noEnv) [0, 2, 3, 4, 5, 6, 28] (noEnv_ok _ _) rfl rfl rfl (fun K hK => ?_)
    simp only [Tryd.f22, bodyOf, Option.getD_some, cl, cr, rOps, lights, light, rN, List.size_toArray, List.length_cons, List.length_nil, Nat.reduceAdd, Nat.zero_add, List.map_cons, List.map_nil, Option.map_none]
    simp (maxSteps := 300000) (disch := omega) only [go_sem, Nat.reduceAdd, Nat.reduceSub, Nat.reduceEqDiff, Nat.reduceLeDiff, Int.reduceLE, Int.reduceToNat, reduceCtorEq, ↓reduceIte, hcr, h128, c8_take, c8_splice, Int.toNat_natCast]
    with_reducible refine hK _ ?_
    clear hK K
    repeat (first | with_reducible refine nx_then ?_ | with_reducible refine nx_blk ?_ | with_reducible refine nx_loop ?_ | with_reducible refine nx_ex_then ?_ | with_reducible refine nx_ex_loop ?_ | with_reducible refine nx_ex_blk ?_ | with_reducible refine nx_ret_then ?_ | with_reducible refine nx_ret_blk ?_ | with_reducible refine nx_ret_loop ?_)
    simp only [upd_upd]
    have hsl : (splice8 (List.replicate 128 0#8) 0 (List.take (min r.length 128) r)).length = 128 := by
      simp only [splice8, List.length_append, List.length_take, List.length_drop, List.length_replicate]; omega
    refine awp_ifN ((56 : Int) ≤ ((min r.length 128 : Nat) : Int)) (.tmp 28) rfl rfl rfl (fun h => ?_) (fun h => ?_)
    · have he : en r = 64 * 2 := by unfold en; rw [if_pos (by omega)]
      refine awp_regP (Γ := noEnv) [0, 2, 3, 4, 5, 6] (noEnv_ok _ _) rfl rfl rfl (fun K hK => ?_)
      simp only [Tryd.f22, bodyOf, Option.getD_some, cl, cr, rOps, lights, light, rN, List.size_toArray, List.length_cons, List.length_nil, Nat.zero_add, List.map_cons, List.map_nil, Option.map_none]
      simp (maxSteps := 300000) (disch := omega) only [go_sem, Nat.reduceEqDiff, reduceCtorEq, ↓reduceIte]
      with_reducible refine hK _ ?_
      clear hK K
      repeat (first | with_reducible refine nx_then ?_ | with_reducible refine nx_blk ?_ | with_reducible refine nx_loop ?_ | with_reducible refine nx_ex_then ?_ | with_reducible refine nx_ex_loop ?_ | with_reducible refine nx_ex_blk ?_ | with_reducible refine nx_ret_then ?_ | with_reducible refine nx_ret_blk ?_ | with_reducible refine nx_ret_loop ?_)
      rw [he, Nat.mul_div_cancel_left _ (by omega), tl0]
      exact sum_t2 (m := 2) (c1 := id5 + 100) hr (by omega) (by omega) hs hsl (by omega) (by omega) (by omega) (by omega) rfl _
    · have he : en r = 64 * 1 := by unfold en; rw [if_neg (by omega)]
      refine awp_skipP rfl ?_
      repeat (first | with_reducible refine nx_then ?_ | with_reducible refine nx_blk ?_ | with_reducible refine nx_loop ?_ | with_reducible refine nx_ex_then ?_ | with_reducible refine nx_ex_loop ?_ | with_reducible refine nx_ex_blk ?_ | with_reducible refine nx_ret_then ?_ | with_reducible refine nx_ret_blk ?_ | with_reducible refine nx_ret_loop ?_)
      rw [he, Nat.mul_div_cancel_left _ (by omega), tl0]
      refine awp_sub (t := _) (sum_t2 (m := 1) (c1 := id5 + 100) (n0 := id5 + 1 + 1) (c0 := id5 + 1 + 1 + 4) hr (by omega) (by omega) hs hsl (by omega) (by omega) (by omega) (by omega) rfl) ⟨fun k => ?_, fun _ _ h => h, Nat.le_refl _⟩ rfl
      have := look_keepF [0, 2, 3, 4, 5, 6] [(0, .sl r.length (c8 r)), (2, .op nx 0), (3, .op (nx + 1 + 1) 0), (4, .w64 n64), (5, .op id5 0), (6, .i 64), (28, .b (decide ((56 : Int) ≤ ((min r.length 128 : Nat) : Int))))] k
      exact this
  · cases hg
end Go.AX
