/-
  Hash, part I: the reference's sum: the words of a block. Hash, part J: the reference's sum: the words behind the first sixteen. Hash, part K: the reference's sum: the rounds. Hash, part L: the reference's sum, whole. Hash, part M: the reference's sum comes to the program's. Hash, part N: plain law: the reference's sum is the program's. Hash, part O: what is shortened. Hash, part P: the reference's parts and what it cuts and shortens. Hash, part Q: what the statements of layer 1 ask ahead of all.
-/
import Derived.Test.YtkpgebeipmedeaaDoorBF
namespace Go.AX
open Go Go.Proofs

theorem getD_blk (p : List B8) (a k : Nat) (h : k < 64) : ((p.drop a).take 64).getD k 0#8 = p.getD (a + k) 0#8 := by
  simp (failIfUnchanged := false) only [List.getD_eq_getElem?_getD, List.getElem?_take, List.getElem?_drop, h, if_true]

theorem envT_ok : EnvOK Tryd.prog GLh (envL [(77, .pure true turnG)]) := by
  intro f s h
  simp (failIfUnchanged := false) only [envL] at h
  split at h
  · rename_i e; subst e
    obtain rfl := Option.some.inj h
    exact ⟨⟨_, Tryd.func77, rfl, rfl⟩, turn_ok _⟩
  · cases h
set_option maxHeartbeats 4000000 in
theorem ref_l1 {i2 i3 i4 ip i7 c0 c1 a m : Nat} {p : List B8} {mt : Bool} {hp : H} {Q : Exit → S → Prop} (hpp : hp ip = some (.cells (c8 p) mt)) (ha : a + 64 ≤ p.length) (hm : p.length = m) (hbig : m ≤ 2000000000)
    (h7 : ip ≠ i7) (_ : i7 < c1) (hlp : ip < c1) (hc : c0 ≤ c1)
    (hQ : ∀ n z1 z2 z3, Q .normal { fr := [(2, .op i2 0), (3, .op i3 0), (4, .op i4 0), (5, .os ip 0 m 1 true), (6, .i a), (7, .op i7 0), (8, z1), (35, z2), (36, z3)], hp := upd hp i7 (.cells (c32 (w16 ((p.drop a).take 64) 16)) true), nx := n, cx := c1 + 100 * 16 + 2 }) :
    ∀ n0, Awp Tryd.prog GLh Tryd.f65.ntmps (cr (cl (cr (cl (cl (cr (cl (cl (cr (cl (cr (cr (cr (cr (bodyOf Tryd.f65))))))))))))))) { fr := [(2, .op i2 0), (3, .op i3 0), (4, .op i4 0), (5, .os ip 0 m 1 true), (6, .i a), (7, .op i7 0), (8, .i 0)], hp := upd hp i7 (.cells (c32 (w16 ((p.drop a).take 64) 0)) true), nx := n0, cx := c0 } Q := by
  intro n0
  subst hm
  refine awp_blockN 2 rfl rfl ?_
  refine awp_loopP (fun i : Nat => { fr := [(2, .op i2 0), (3, .op i3 0), (4, .op i4 0), (5, .os ip 0 p.length 1 true), (6, .i a), (7, .op i7 0), (8, .i i)], hp := upd hp i7 (.cells (c32 (w16 ((p.drop a).take 64) i)) true), nx := 0, cx := c1 + 100 * i }) (fun i => i ≤ 16) (fun i => 16 - i) rfl ⟨0, by omega, sub_same rfl rfl hc⟩ ?_
  intro i hi n
  have hl : (w16 ((p.drop a).take 64) i).length = 64 := w16_len _ i
  refine awp_seqP rfl ?_
  refine awp_seqP rfl ?_
  refine awp_regP (Γ := noEnv) [2, 3, 4, 5, 6, 7, 8, 35, 36] (noEnv_ok _ _) rfl rfl rfl (fun K hK => ?_)
  simp (failIfUnchanged := false) (disch := omega) only [Tryd.f65, go_sem, Nat.reduceAdd, ↓reduceIte]
  refine hK _ ?_
  repeat (first | with_reducible refine nx_then ?_ | with_reducible refine nx_blk ?_ | with_reducible refine nx_loop ?_ | with_reducible refine nx_ex_then ?_ | with_reducible refine nx_ex_loop ?_ | with_reducible refine nx_ex_blk ?_ | with_reducible refine nx_ret_then ?_ | with_reducible refine nx_ret_blk ?_ | with_reducible refine nx_ret_loop ?_)
  refine awp_ifN ((i : Int) < 16) (.tmp 36) rfl rfl rfl (fun h => ?_) (fun h => ?_)
  · refine awp_skipP rfl ?_
    repeat (first | with_reducible refine nx_then ?_ | with_reducible refine nx_blk ?_ | with_reducible refine nx_loop ?_ | with_reducible refine nx_ex_then ?_ | with_reducible refine nx_ex_loop ?_ | with_reducible refine nx_ex_blk ?_ | with_reducible refine nx_ret_then ?_ | with_reducible refine nx_ret_blk ?_ | with_reducible refine nx_ret_loop ?_)
    refine awp_seqP rfl ?_
    refine awp_blockN 3 rfl rfl ?_
    have e0 : ((a : Int) + 4 * (i : Int)).toNat = a + 4 * i := by omega
    have e1 : ((a : Int) + 4 * (i : Int) + 1).toNat = a + (4 * i + 1) := by omega
    have e2 : ((a : Int) + 4 * (i : Int) + 2).toNat = a + (4 * i + 2) := by omega
    have e3 : ((a : Int) + 4 * (i : Int) + 3).toNat = a + (4 * i + 3) := by omega
    refine awp_drwP (Γ := noEnv) (fun _ => 2) [2, 3, 4, 5, 6, 7, 8] mixed (noEnv_ok _ _) rfl rfl rfl (by kernel_rfl) (fun K hK => ?_)
    simp (failIfUnchanged := false) (disch := omega) only [Tryd.f65, go_sem, Nat.reduceAdd, Nat.reduceLeDiff, Int.reduceLE, Int.reduceLT, BitVec.reduceOfInt, BitVec.reduceToNat, ↓reduceIte, W_eq, nat_ne, hpp, e0, e1, e2, e3, c32_set, c32_len, hl, Int.toNat_natCast]
    refine hK _ ?_
    repeat (first | with_reducible refine nx_then ?_ | with_reducible refine nx_blk ?_ | with_reducible refine nx_loop ?_ | with_reducible refine nx_ex_then ?_ | with_reducible refine nx_ex_loop ?_ | with_reducible refine nx_ex_blk ?_ | with_reducible refine nx_ret_then ?_ | with_reducible refine nx_ret_blk ?_ | with_reducible refine nx_ret_loop ?_)
    refine awp_regP (Γ := noEnv) [2, 3, 4, 5, 6, 7, 8] (noEnv_ok _ _) rfl rfl rfl (fun K hK => ?_)
    simp (failIfUnchanged := false) (disch := omega) only [Tryd.f65, go_sem, Nat.reduceAdd, ↓reduceIte, W_eq]
    refine hK _ ?_
    repeat (first | with_reducible refine nx_then ?_ | with_reducible refine nx_blk ?_ | with_reducible refine nx_loop ?_ | with_reducible refine nx_ex_then ?_ | with_reducible refine nx_ex_loop ?_ | with_reducible refine nx_ex_blk ?_ | with_reducible refine nx_ret_then ?_ | with_reducible refine nx_ret_blk ?_ | with_reducible refine nx_ret_loop ?_)
    have g0 := getD_blk p a (4 * i) (by omega)
    have g1 := getD_blk p a (4 * i + 1) (by omega)
    have g2 := getD_blk p a (4 * i + 2) (by omega)
    have g3 := getD_blk p a (4 * i + 3) (by omega)
    exact ⟨i + 1, by omega, by omega, sub_same (by simp only [Int.natCast_add, Int.natCast_one]) (by simp only [w16, word, g0, g1, g2, g3]) (by simp only; omega)⟩
  · refine awp_exitN 2 rfl rfl ?_
    repeat (first | with_reducible refine nx_then ?_ | with_reducible refine nx_blk ?_ | with_reducible refine nx_loop ?_ | with_reducible refine nx_ex_then ?_ | with_reducible refine nx_ex_loop ?_ | with_reducible refine nx_ex_blk ?_ | with_reducible refine nx_ret_then ?_ | with_reducible refine nx_ret_blk ?_ | with_reducible refine nx_ret_loop ?_)
    obtain rfl : i = 16 := by omega
    exact hQ _ _ _ _
end Go.AX

namespace Go.AX
open Go Go.Proofs

theorem addlc (x y z : W32) : x + (y + z) = y + (x + z) := by rw [← BitVec.add_assoc, BitVec.add_comm x y, BitVec.add_assoc]
theorem nextw_alt (w : List W32) (i : Nat) : nextw w i =
    w.getD (i - 16) 0#32 + ((w.getD (i - 15) 0#32 >>> 7 ||| w.getD (i - 15) 0#32 <<< 25) ^^^ (w.getD (i - 15) 0#32 >>> 18 ||| w.getD (i - 15) 0#32 <<< 14) ^^^ w.getD (i - 15) 0#32 >>> 3) + w.getD (i - 7) 0#32 +
      ((w.getD (i - 2) 0#32 >>> 17 ||| w.getD (i - 2) 0#32 <<< 15) ^^^ (w.getD (i - 2) 0#32 >>> 19 ||| w.getD (i - 2) 0#32 <<< 13) ^^^ w.getD (i - 2) 0#32 >>> 10) := by
  simp (failIfUnchanged := false) only [nextw, ro, Nat.reduceSub]
  rw [BitVec.or_comm (w.getD (i - 15) 0#32 <<< 25), BitVec.or_comm (w.getD (i - 15) 0#32 <<< 14), BitVec.or_comm (w.getD (i - 2) 0#32 <<< 15), BitVec.or_comm (w.getD (i - 2) 0#32 <<< 13)]
  simp (failIfUnchanged := false) only [BitVec.add_comm, addlc]

set_option maxHeartbeats 4000000 in
theorem ref_l2 {i2 i3 i4 ip i7 c0 c1 a m : Nat} {bl : List B8} {hp : H} {Q : Exit → S → Prop} (hlt : i7 < c1) (hc : c0 ≤ c1)
    (hQ : ∀ n z1 z2 z3, Q .normal { fr := [(2, .op i2 0), (3, .op i3 0), (4, .op i4 0), (5, .os ip 0 m 1 true), (6, .i a), (7, .op i7 0), (9, z1), (82, z2), (83, z3)], hp := upd hp i7 (.cells (c32 (w64 bl 48)) true), nx := n, cx := c1 + 100 * 48 + 2 }) :
    ∀ n0, Awp Tryd.prog GLh Tryd.f65.ntmps (cr (cl (cr (cr (cl (cl (cr (cl (cl (cr (cl (cr (cr (cr (cr (bodyOf Tryd.f65)))))))))))))))) { fr := [(2, .op i2 0), (3, .op i3 0), (4, .op i4 0), (5, .os ip 0 m 1 true), (6, .i a), (7, .op i7 0), (9, .i 16)], hp := upd hp i7 (.cells (c32 (w16 bl 16)) true), nx := n0, cx := c0 } Q := by
  intro n0
  refine awp_blockN 4 rfl rfl ?_
  refine awp_loopP (fun j : Nat => { fr := [(2, .op i2 0), (3, .op i3 0), (4, .op i4 0), (5, .os ip 0 m 1 true), (6, .i a), (7, .op i7 0), (9, .i ((16 + j : Nat) : Int))], hp := upd hp i7 (.cells (c32 (w64 bl j)) true), nx := 0, cx := c1 + 100 * j }) (fun j => j ≤ 48) (fun j => 48 - j) rfl ⟨0, by omega, sub_same rfl rfl hc⟩ ?_
  intro j hj n
  have hl : (w64 bl j).length = 64 := w64_len bl j
  refine awp_seqP rfl ?_
  refine awp_seqP rfl ?_
  refine awp_regP (Γ := noEnv) [2, 3, 4, 5, 6, 7, 9, 82, 83] (noEnv_ok _ _) rfl rfl rfl (fun K hK => ?_)
  simp (failIfUnchanged := false) (disch := omega) only [Tryd.f65, go_sem, Nat.reduceAdd, ↓reduceIte]
  refine hK _ ?_
  repeat (first | with_reducible refine nx_then ?_ | with_reducible refine nx_blk ?_ | with_reducible refine nx_loop ?_ | with_reducible refine nx_ex_then ?_ | with_reducible refine nx_ex_loop ?_ | with_reducible refine nx_ex_blk ?_ | with_reducible refine nx_ret_then ?_ | with_reducible refine nx_ret_blk ?_ | with_reducible refine nx_ret_loop ?_)
  refine awp_ifN (((16 + j : Nat) : Int) < 64) (.tmp 83) rfl rfl rfl (fun h => ?_) (fun h => ?_)
  · refine awp_skipP rfl ?_
    repeat (first | with_reducible refine nx_then ?_ | with_reducible refine nx_blk ?_ | with_reducible refine nx_loop ?_ | with_reducible refine nx_ex_then ?_ | with_reducible refine nx_ex_loop ?_ | with_reducible refine nx_ex_blk ?_ | with_reducible refine nx_ret_then ?_ | with_reducible refine nx_ret_blk ?_ | with_reducible refine nx_ret_loop ?_)
    refine awp_seqP rfl ?_
    refine awp_blockN 5 rfl rfl ?_
    refine awp_seqP rfl ?_
    have e15 : (((16 + j : Nat) : Int) - 15).toNat = 16 + j - 15 := by omega
    have e2 : (((16 + j : Nat) : Int) - 2).toNat = 16 + j - 2 := by omega
    have e16 : (((16 + j : Nat) : Int) - 16).toNat = 16 + j - 16 := by omega
    have e7 : (((16 + j : Nat) : Int) - 7).toNat = 16 + j - 7 := by omega
    refine awp_drwP (Γ := noEnv) (fun _ => 2) [2, 3, 4, 5, 6, 7, 9, 10, 11] mixed (noEnv_ok _ _) rfl rfl rfl (by kernel_rfl) (fun K hK => ?_)
    simp (failIfUnchanged := false) (disch := omega) only [Tryd.f65, go_sem, Nat.reduceAdd, ↓reduceIte, W_eq, e15, e2, c32_head]
    refine hK _ ?_
    repeat (first | with_reducible refine nx_then ?_ | with_reducible refine nx_blk ?_ | with_reducible refine nx_loop ?_ | with_reducible refine nx_ex_then ?_ | with_reducible refine nx_ex_loop ?_ | with_reducible refine nx_ex_blk ?_ | with_reducible refine nx_ret_then ?_ | with_reducible refine nx_ret_blk ?_ | with_reducible refine nx_ret_loop ?_)
    refine awp_drwP (Γ := envL [(77, .pure true turnG)]) (fun _ => 2) [2, 3, 4, 5, 6, 7, 9] mixed (envT_ok) rfl rfl rfl (by kernel_rfl) (fun K hK => ?_)
    simp (failIfUnchanged := false) (disch := omega) only [Tryd.f65, go_sem, Nat.reduceAdd, Nat.reduceLeDiff, Int.reduceLE, Int.reduceLT, Int.reduceToNat, Int.reduceSub, BitVec.reduceOfInt, BitVec.reduceToNat, ↓reduceIte, W_eq, e16, e7, c32_head, c32_len, c32_set, hl, tn, Int.toNat_natCast]
    refine hK _ ?_
    repeat (first | with_reducible refine nx_then ?_ | with_reducible refine nx_blk ?_ | with_reducible refine nx_loop ?_ | with_reducible refine nx_ex_then ?_ | with_reducible refine nx_ex_loop ?_ | with_reducible refine nx_ex_blk ?_ | with_reducible refine nx_ret_then ?_ | with_reducible refine nx_ret_blk ?_ | with_reducible refine nx_ret_loop ?_)
    refine awp_regP (Γ := noEnv) [2, 3, 4, 5, 6, 7, 9] (noEnv_ok _ _) rfl rfl rfl (fun K hK => ?_)
    simp (failIfUnchanged := false) (disch := omega) only [Tryd.f65, go_sem, Nat.reduceAdd, ↓reduceIte, W_eq]
    refine hK _ ?_
    repeat (first | with_reducible refine nx_then ?_ | with_reducible refine nx_blk ?_ | with_reducible refine nx_loop ?_ | with_reducible refine nx_ex_then ?_ | with_reducible refine nx_ex_loop ?_ | with_reducible refine nx_ex_blk ?_ | with_reducible refine nx_ret_then ?_ | with_reducible refine nx_ret_blk ?_ | with_reducible refine nx_ret_loop ?_)
    exact ⟨j + 1, by omega, by omega, sub_same (by simp only [List.cons.injEq, Prod.mk.injEq, AV.i.injEq, true_and, and_true]; omega) (by simp only [w64, nextw_alt]) (by simp only; omega)⟩
  · refine awp_exitN 4 rfl rfl ?_
    repeat (first | with_reducible refine nx_then ?_ | with_reducible refine nx_blk ?_ | with_reducible refine nx_loop ?_ | with_reducible refine nx_ex_then ?_ | with_reducible refine nx_ex_loop ?_ | with_reducible refine nx_ex_blk ?_ | with_reducible refine nx_ret_then ?_ | with_reducible refine nx_ret_blk ?_ | with_reducible refine nx_ret_loop ?_)
    obtain rfl : j = 48 := by omega
    exact hQ _ _ _ _
end Go.AX

namespace Go.AX
open Go Go.Proofs

attribute [go_sem] W_eq c8_len c32_len c8_head c32_head c8_head0 c32_head0 c8_set c32_set c8_take c8_drop upd_upd Int.toNat_natCast evg0 tn frzL_c8 c8_app c32_app
theorem ok63 : EntOK Tryd.prog GLh 77 (.pure true turnG) := ⟨⟨_, Tryd.func77, rfl, rfl⟩, turn_ok _⟩
theorem ok61 : EntOK Tryd.prog GLh 75 (.pure true tableG) := ⟨⟨_, Tryd.func75, rfl, rfl⟩, table_ok _⟩
theorem ok62 : EntOK Tryd.prog GLh 76 (.fresh true padG) := ⟨⟨_, Tryd.func76, rfl, rfl⟩, pad_ok _⟩
theorem ok22 : EntOK Tryd.prog GLh 74 (.pure true sumG) := ⟨⟨_, Tryd.func74, rfl, rfl⟩, sum_ok⟩

/-- The frame in the reference's rounds. -/
def frR (i2 i3 i4 ip i7 a m : Nat) (v : V8) (k : Nat) : List (Nat × AV) :=
  [(2, .op i2 0), (3, .op i3 0), (4, .op i4 0), (5, .os ip 0 m 1 true), (6, .i a), (7, .op i7 0), (12, .w32 v.a), (13, .w32 v.c), (14, .w32 v.d), (15, .w32 v.e), (16, .w32 v.f), (17, .w32 v.g), (18, .w32 v.h), (19, .w32 v.i), (20, .i k)]

theorem one_alt (v : V8) (x w : W32) : one v x w = v.i + ((v.f >>> 6 ||| v.f <<< 26) ^^^ (v.f >>> 11 ||| v.f <<< 21) ^^^ (v.f >>> 25 ||| v.f <<< 7)) + (v.f &&& v.g ^^^ ~~~v.f &&& v.h) + x + w := by
  simp (failIfUnchanged := false) only [one, ro, Nat.reduceSub]
  rw [BitVec.or_comm (v.f <<< 26), BitVec.or_comm (v.f <<< 21), BitVec.or_comm (v.f <<< 7)]
theorem two_alt (v : V8) : two v = ((v.a >>> 2 ||| v.a <<< 30) ^^^ (v.a >>> 13 ||| v.a <<< 19) ^^^ (v.a >>> 22 ||| v.a <<< 10)) + (v.a &&& v.c ^^^ v.a &&& v.d ^^^ v.c &&& v.d) := by
  simp (failIfUnchanged := false) only [two, ro, Nat.reduceSub]
  rw [BitVec.or_comm (v.a <<< 30), BitVec.or_comm (v.a <<< 19), BitVec.or_comm (v.a <<< 10)]

set_option maxHeartbeats 4000000 in
theorem ref_l3 {i2 i3 i4 ip i7 c0 c1 a m : Nat} {w : List W32} {v : V8} {mt : Bool} {hp : H} {Q : Exit → S → Prop} (hw : w.length = 64) (h4 : hp i4 = some (.cells (c32 KT) mt)) (h7 : hp i7 = some (.cells (c32 w) true)) (hlt : i7 < c1) (hl4 : i4 < c1) (hc : c0 ≤ c1)
    (hQ : ∀ n c, c1 ≤ c → Q .normal { fr := frR i2 i3 i4 ip i7 a m (rnds w v 64) 64, hp := hp, nx := n, cx := c }) :
    ∀ n0, Awp Tryd.prog GLh Tryd.f65.ntmps (cr (cl (cr (cr (cr (cr (cl (cl (cr (cl (cl (cr (cl (cr (cr (cr (cr (bodyOf Tryd.f65)))))))))))))))))) { fr := frR i2 i3 i4 ip i7 a m v 0, hp := hp, nx := n0, cx := c0 } Q := by
  intro n0
  refine awp_blockN 6 rfl rfl ?_
  refine awp_loopP (fun p : KC => { fr := [(2, .op i2 0), (3, .op i3 0), (4, .op i4 0), (5, .os ip 0 m 1 true), (6, .i a), (7, .op i7 0), (12, .w32 (rnds w v p.k).a), (13, .w32 (rnds w v p.k).c), (14, .w32 (rnds w v p.k).d), (15, .w32 (rnds w v p.k).e), (16, .w32 (rnds w v p.k).f), (17, .w32 (rnds w v p.k).g), (18, .w32 (rnds w v p.k).h), (19, .w32 (rnds w v p.k).i), (20, .i p.k)], hp := hp, nx := 0, cx := p.c }) (fun p => p.k ≤ 64 ∧ c1 ≤ p.c) (fun p => 64 - p.k) rfl ⟨⟨0, c1⟩, ⟨Nat.zero_le _, Nat.le_refl _⟩, sub_same rfl rfl hc⟩ ?_
  rintro ⟨k, c⟩ ⟨hk, hc1⟩ n0
  simp only at hk hc1 ⊢
  have hKT := KT_len
  generalize hu : rnds w v k = u
  refine awp_seqP rfl ?_
  refine awp_seqP rfl ?_
  refine awp_regP (Γ := noEnv) [140, 2, 3, 4, 5, 6, 7, 12, 13, 14, 15, 16, 17, 18, 19, 20] (noEnv_ok _ _) rfl rfl rfl (fun K hK => ?_)
  simp (failIfUnchanged := false) (disch := omega) only [Tryd.f65, go_sem, Nat.reduceAdd, ↓reduceIte]
  refine hK _ ?_
  refine nx_then ?_
  refine awp_ifD (.tmp 140) rfl rfl rfl (fun h => ?_) (fun h => ?_)
  · skip
    refine awp_drop rfl ?_
    refine awp_skipP rfl ?_
    refine nx_then ?_
    refine awp_seqP rfl ?_
    refine awp_blockN 7 rfl rfl ?_
    refine awp_seqP rfl ?_
    refine awp_drwP (Γ := envL [(77, .pure true turnG)]) (fun _ => 2) [2, 3, 4, 5, 6, 7, 12, 13, 14, 15, 16, 17, 18, 20, 21] mixed (envOK_cons ok63 envOK_nil) rfl rfl rfl (by kernel_rfl) (fun K hK => ?_)
    simp (failIfUnchanged := false) (disch := omega) only [Tryd.f65, go_sem, Nat.reduceAdd, Int.reduceToNat, Int.reduceSub, ↓reduceIte, h4, h7]
    refine hK _ ?_
    refine nx_then ?_
    refine awp_seqP rfl ?_
    refine awp_regP (Γ := envL [(77, .pure true turnG)]) [2, 3, 4, 5, 6, 7, 12, 13, 14, 15, 16, 17, 18, 20, 21, 22] (envOK_cons ok63 envOK_nil) rfl rfl rfl (fun K hK => ?_)
    simp (failIfUnchanged := false) (disch := omega) only [Tryd.f65, go_sem, Nat.reduceAdd, Int.reduceToNat, Int.reduceSub, ↓reduceIte]
    refine hK _ ?_
    refine nx_then ?_
    refine awp_regP (Γ := noEnv) [2, 3, 4, 5, 6, 7, 12, 13, 14, 15, 16, 17, 18, 19, 20] (noEnv_ok _ _) rfl rfl rfl (fun K hK => ?_)
    simp (failIfUnchanged := false) (disch := omega) only [Tryd.f65, go_sem, Nat.reduceAdd, ↓reduceIte]
    refine hK _ ?_
    refine nx_blk (nx_then ?_)
    refine awp_regP (Γ := noEnv) [2, 3, 4, 5, 6, 7, 12, 13, 14, 15, 16, 17, 18, 19, 20] (noEnv_ok _ _) rfl rfl rfl (fun K hK => ?_)
    simp (failIfUnchanged := false) (disch := omega) only [Tryd.f65, go_sem, Nat.reduceAdd, ↓reduceIte]
    refine hK _ ?_
    refine nx_loop ?_
    refine ⟨⟨k + 1, _⟩, ⟨?_, ?_⟩, ?_, sub_same ?_ rfl (Nat.le_refl _)⟩
    · simp only; omega
    · simp only; omega
    · simp only; omega
    have e : rnds w v (k + 1) = rnd u (KT.getD k 0#32) (w.getD k 0#32) := by rw [rnds, hu]
    simp (failIfUnchanged := false) only [e, rnd, one_alt, two_alt, Int.natCast_add, Int.natCast_one]
  · skip
    refine awp_drop rfl ?_
    refine awp_exitN 6 rfl rfl ?_
    refine nx_ex_then (nx_ex_loop (nx_ex_blk ?_))
    obtain rfl : k = 64 := by omega
    subst hu
    exact hQ _ _ (by omega)
end Go.AX

namespace Go.AX
open Go Go.Proofs

attribute [go_sem] c8_rep c32_rep KT_len List.length_set List.length_replicate
def obr (s : List W32) : Nat → List B8
  | 0 => List.replicate 32 0#8
  | k + 1 => (obr s k).set k ((s.getD (k / 4) 0#32 >>> (24 - 8 * (k % 4))).setWidth 8)
theorem obr_len (s : List W32) (k : Nat) : (obr s k).length = 32 := by
  induction k with
  | zero => rfl
  | succ j ih => simp only [obr, List.length_set, ih]
theorem obr_ob (s : List W32) : obr s 32 = ob s 8 := by
  simp (failIfUnchanged := false) only [obr, ob, Nat.reduceMul, Nat.reduceAdd, Nat.reduceDiv, Nat.reduceMod, Nat.reduceSub, BitVec.ushiftRight_zero]
theorem list8 {s : List W32} (h : s.length = 8) : ∃ a b c d e f g i, s = [a, b, c, d, e, f, g, i] := by
  match s, h with
  | [a, b, c, d, e, f, g, i], _ => exact ⟨a, b, c, d, e, f, g, i, rfl⟩
theorem comp_eq {s : List W32} (h : s.length = 8) (bl : List B8) (v : V8) (hv : v = rnds (w64 bl 48) (v8 s) 64) :
    comp s bl = (((((((s.set 0 (s.getD 0 0#32 + v.a)).set 1 (s.getD 1 0#32 + v.c)).set 2 (s.getD 2 0#32 + v.d)).set 3 (s.getD 3 0#32 + v.e)).set 4 (s.getD 4 0#32 + v.f)).set 5 (s.getD 5 0#32 + v.g)).set 6 (s.getD 6 0#32 + v.h)).set 7 (s.getD 7 0#32 + v.i) := by
  obtain ⟨a, b, c, d, e, f, g, i, rfl⟩ := list8 h
  unfold comp
  rw [← hv]
  rfl
def refL (b : List B8) : List B8 := ob (ab S0 (padL b) ((padL b).length / 64)) 8
def refG : List AV → Option AV
  | [.sl n xs] => obind (un8 xs) fun b => guardO (b.length = n ∧ n ≤ 1000000000) (some (.agg (c8 (refL b))))
  | _ => none
theorem padL_len (b : List B8) : (padL b).length = b.length + 1 + padk b + 8 := by unfold padL; rw [padn_len, padz_len]
theorem padL_mod (b : List B8) : (padL b).length % 64 = 0 := by rw [padL_len]; unfold padk; omega
theorem set_getD {s : List W32} {i j : Nat} {x : W32} (h : i ≠ j) : (s.set i x).getD j 0#32 = s.getD j 0#32 := by simp [List.getD_eq_getElem?_getD, List.getElem?_set_ne h]
theorem padG_eq (n : Nat) (b : List B8) (h : b.length = n) (hn : n ≤ 1000000000) : padG [.sl n (c8 b)] = some ((padL b).length, 1, c8 (padL b)) := by
  show obind (un8 (c8 b)) (fun b => guardO (b.length = n ∧ n ≤ 1000000000) (some ((padL b).length, 1, c8 (padL b)))) = _
  rw [un8_c8]; exact guardO_true _ ⟨h, hn⟩
theorem tableG_eq : tableG [] = some (.agg (c32 KT)) := (rfl)
attribute [go_sem] padG_eq nmL_c8 nmL_c32 tableG_eq nat_ne List.take_of_length_le
set_option maxHeartbeats 4000000 in
theorem ref_l0 {i2 i3 i4 ip c0 nb m : Nat} {p : List B8} {o2 : AO} (hp : p.length = m) (hm : m = 64 * nb) (hbig : m ≤ 2000000000) (h23 : i2 < i3) (h34 : i3 < i4) (h4p : i4 < ip) (hpc : ip < c0) {Q : Exit → S → Prop}
    (hQ : ∀ n c, c0 ≤ c → Q .normal { fr := [(2, .op i2 0), (3, .op i3 0), (4, .op i4 0), (5, .os ip 0 m 1 true), (6, .i (64 * nb : Nat))], hp := upd (upd (upd (upd (fun _ => none) i2 o2) i4 (.cells (c32 KT) true)) ip (.cells (c8 p) true)) i3 (.cells (c32 (ab S0 p nb)) true), nx := n, cx := c }) :
    ∀ n0, Awp Tryd.prog GLh Tryd.f65.ntmps (cr (cl (cr (cr (cr (cr (bodyOf Tryd.f65))))))) { fr := [(2, .op i2 0), (3, .op i3 0), (4, .op i4 0), (5, .os ip 0 m 1 true), (6, .i 0)], hp := upd (upd (upd (upd (fun _ => none) i2 o2) i4 (.cells (c32 KT) true)) ip (.cells (c8 p) true)) i3 (.cells (c32 S0) true), nx := n0, cx := c0 } Q := by
  intro n0
  refine awp_blockN 0 rfl rfl ?_
  refine awp_loopP (fun p1 : KC => { fr := [(2, .op i2 0), (3, .op i3 0), (4, .op i4 0), (5, .os ip 0 m 1 true), (6, .i (64 * p1.k : Nat))], hp := upd (upd (upd (upd (fun _ => none) i2 o2) i4 (.cells (c32 KT) true)) ip (.cells (c8 p) true)) i3 (.cells (c32 (ab S0 p p1.k)) true), nx := 0, cx := p1.c }) (fun p1 => p1.k ≤ nb ∧ c0 ≤ p1.c) (fun p1 => nb - p1.k) rfl ⟨⟨0, c0⟩, ⟨Nat.zero_le _, Nat.le_refl _⟩, sub_same rfl rfl (Nat.le_refl _)⟩ ?_
  rintro ⟨k, c⟩ ⟨hk, hc⟩ n0
  simp only at hk hc ⊢
  have hl : (ab S0 p k).length = 8 := by rw [ab_len, S0_len]
  refine awp_seqP rfl ?_
  refine awp_seqP rfl ?_
  refine awp_regP (Γ := noEnv) [32, 2, 3, 4, 5, 6] (noEnv_ok _ _) rfl rfl rfl (fun K hK => ?_)
  simp (failIfUnchanged := false) (disch := omega) only [Tryd.f65, go_sem, Nat.reduceAdd, ↓reduceIte]
  refine hK _ ?_
  refine nx_then ?_
  refine awp_ifD (.tmp 32) rfl rfl rfl (fun h => ?_) (fun h => ?_)
  · skip
    refine awp_drop rfl ?_
    refine awp_skipP rfl ?_
    refine nx_then ?_
    refine awp_seqP rfl ?_
    refine awp_blockN 1 rfl rfl ?_
    refine awp_seqP rfl ?_
    refine awp_regP (Γ := noEnv) [2, 3, 4, 5, 6, 7] (noEnv_ok _ _) rfl rfl rfl (fun K hK => ?_)
    simp (failIfUnchanged := false) (disch := omega) only [Tryd.f65, go_sem, ↓reduceIte]
    refine hK _ ?_
    refine nx_then ?_
    refine awp_seqP rfl ?_
    refine awp_seqP rfl ?_
    refine awp_regP (Γ := noEnv) [2, 3, 4, 5, 6, 7, 8] (noEnv_ok _ _) rfl rfl rfl (fun K hK => ?_)
    simp (failIfUnchanged := false) (disch := omega) only [Tryd.f65, go_sem, ↓reduceIte]
    refine hK _ ?_
    refine nx_then ?_
    refine ref_l1 (p := p) (mt := true) (c1 := c + 100) (by simp only [upd_apply, if_neg (show ¬ ip = i3 by omega), if_pos]) (by omega) hp hbig (by omega) (by omega) (by omega) (by omega) (fun n1 z1 z2 z3 => ?_) _
    refine nx_then ?_
    refine awp_seqP rfl ?_
    refine awp_seqP rfl ?_
    refine awp_regP (Γ := noEnv) [2, 3, 4, 5, 6, 7, 9] (noEnv_ok _ _) rfl rfl rfl (fun K hK => ?_)
    simp (failIfUnchanged := false) (disch := omega) only [Tryd.f65, go_sem, Nat.reduceMul, ↓reduceIte]
    refine hK _ ?_
    refine nx_then ?_
    refine ref_l2 (c1 := c + 2000) (by omega) (by omega) (fun n1 z1 z2 z3 => ?_) _
    refine nx_then ?_
    generalize hw : w64 (List.take 64 (List.drop (64 * k) p)) 48 = w
    have hwl : w.length = 64 := by rw [← hw, w64_len]
    generalize hs : ab S0 p k = s at hl
    have e0 : s.getD 0 0#32 = (v8 s).a := rfl
    have e1 : s.getD 1 0#32 = (v8 s).c := rfl
    have e2 : s.getD 2 0#32 = (v8 s).d := rfl
    have e3 : s.getD 3 0#32 = (v8 s).e := rfl
    have e4 : s.getD 4 0#32 = (v8 s).f := rfl
    have e5 : s.getD 5 0#32 = (v8 s).g := rfl
    have e6 : s.getD 6 0#32 = (v8 s).h := rfl
    have e7 : s.getD 7 0#32 = (v8 s).i := rfl
    refine awp_seqP rfl ?_
    refine awp_drwP (Γ := noEnv) (fun _ => 2) [2, 3, 4, 5, 6, 7, 12, 13, 14, 15, 16, 17, 18, 19] mixed (noEnv_ok _ _) rfl rfl rfl (by kernel_rfl) (fun K hK => ?_)
    simp (failIfUnchanged := false) (disch := omega) only [Tryd.f65, go_sem, Nat.reduceAdd, Nat.reduceMul, Int.reduceLE, Int.reduceToNat, ↓reduceIte, e0, e1, e2, e3, e4, e5, e6, e7]
    refine hK _ ?_
    refine nx_then ?_
    refine awp_seqP rfl ?_
    refine awp_seqP rfl ?_
    refine awp_regP (Γ := noEnv) [2, 3, 4, 5, 6, 7, 12, 13, 14, 15, 16, 17, 18, 19, 20] (noEnv_ok _ _) rfl rfl rfl (fun K hK => ?_)
    simp (failIfUnchanged := false) (disch := omega) only [Tryd.f65, go_sem, ↓reduceIte]
    refine hK _ ?_
    refine nx_then ?_
    refine ref_l3 (w := w) (v := v8 s) (mt := true) (c1 := c + 10000) hwl (by simp only [upd_apply, if_neg (show ¬ i4 = c + 4 by omega), if_neg (show ¬ i4 = i3 by omega), if_neg (show ¬ i4 = ip by omega), if_pos]) (by simp only [upd_apply, if_pos]) (by omega) (by omega) (by omega) (fun n2 c2 hc2 => ?_) _
    refine nx_then ?_
    simp (failIfUnchanged := false) only [frR]
    generalize hv : rnds w (v8 s) 64 = v
    clear e0 e1 e2 e3 e4 e5 e6 e7
    refine awp_seqP rfl ?_
    refine awp_regP (Γ := noEnv) [2, 3, 4, 5, 6, 16, 17, 18, 19] (noEnv_ok _ _) rfl rfl rfl (fun K hK => ?_)
    simp (failIfUnchanged := false) (disch := omega) only [Tryd.f65, go_sem, Nat.reduceAdd, Nat.reduceLeDiff, Int.reduceLE, Int.reduceToNat, ↓reduceIte, hl]
    refine hK _ ?_
    refine nx_then ?_
    refine awp_regP (Γ := noEnv) [2, 3, 4, 5, 6] (noEnv_ok _ _) rfl rfl rfl (fun K hK => ?_)
    simp (disch := first | omega | (simp only [List.length_set, List.length_append, List.length_take, List.length_drop, List.length_replicate, List.length_cons, List.length_nil, c8_len, c32_len]; omega)) only [Tryd.f65, go_sem, Nat.reduceAdd, Nat.reduceLeDiff, Int.reduceLE, Int.reduceToNat, ↓reduceIte, hl, set_getD]
    refine hK _ ?_
    refine nx_blk (nx_then ?_)
    refine awp_regP (Γ := noEnv) [2, 3, 4, 5, 6] (noEnv_ok _ _) rfl rfl rfl (fun K hK => ?_)
    simp (failIfUnchanged := false) (disch := omega) only [Tryd.f65, go_sem, Nat.reduceAdd, ↓reduceIte]
    refine hK _ ?_
    refine nx_loop ?_
    refine ⟨⟨k + 1, _⟩, ⟨by simp only; omega, by simp only; omega⟩, by simp only; omega, ⟨fun _ => .inr ?_, fun j o h => ?_, Nat.le_refl _⟩⟩
    · simp only; congr 5
    · have ha : ab S0 p (k + 1) = comp s (List.take 64 (List.drop (64 * k) p)) := by rw [ab, hs]
      rw [ha, comp_eq hl _ v (by rw [hw, hv])] at h
      simp (failIfUnchanged := false) only [upd_apply] at h ⊢
      by_cases j3 : j = i3
      · simp only [if_pos j3] at h ⊢
        exact h
      · simp only [if_neg j3] at h ⊢
        by_cases jc : j = c + 4
        · subst jc
          rw [if_neg (by omega), if_neg (by omega), if_neg (by omega)] at h
          cases h
        · rw [if_neg jc]; exact h
  · skip
    refine awp_drop rfl ?_
    refine awp_exitN 0 rfl rfl ?_
    refine nx_ex_then (nx_ex_loop (nx_ex_blk ?_))
    obtain rfl : k = nb := by omega
    exact hQ _ _ (by omega)

set_option maxHeartbeats 4000000 in
theorem ref_l8 {i2 i3 c0 : Nat} {s : List W32} {hp : H} (hs : s.length = 8) (_ : i2 ≠ i3) (hc : i2 < c0) (hc3 : i3 < c0) (h3 : hp i3 = some (.cells (c32 s) true)) (h2 : hp i2 = some (.cells (c8 (List.replicate 32 0#8)) true)) (n0 : Nat) :
    Awp Tryd.prog GLh Tryd.f65.ntmps (cr (cr (cr (cr (cr (bodyOf Tryd.f65)))))) { fr := [(2, .op i2 0), (3, .op i3 0)], hp := hp, nx := n0, cx := c0 } (pureQ Tryd.prog Tryd.f65.results.toList (.agg (c8 (ob s 8)))) := by
  refine awp_seqP rfl ?_
  refine awp_regP (Γ := noEnv) [2, 3, 23] (noEnv_ok _ _) rfl rfl rfl (fun K hK => ?_)
  simp (failIfUnchanged := false) (disch := omega) only [Tryd.f65, go_sem, ↓reduceIte]
  refine hK _ ?_
  refine nx_then ?_
  refine awp_seqP rfl ?_
  refine awp_seqP rfl ?_
  refine awp_regP (Γ := noEnv) [2, 3, 23, 24] (noEnv_ok _ _) rfl rfl rfl (fun K hK => ?_)
  simp (failIfUnchanged := false) (disch := omega) only [Tryd.f65, go_sem, ↓reduceIte]
  refine hK _ ?_
  refine nx_then ?_
  refine awp_blockN 8 rfl rfl ?_
  refine awp_loopP (fun p : KC => { fr := [(2, .op i2 0), (3, .op i3 0), (23, .op c0 0), (24, .i p.k)], hp := upd hp c0 (.cells (c8 (obr s p.k)) true), nx := 0, cx := p.c }) (fun p => p.k ≤ 32 ∧ c0 < p.c) (fun p => 32 - p.k) rfl ⟨⟨0, _⟩, ⟨Nat.zero_le _, by simp only; omega⟩, sub_same rfl rfl (Nat.le_refl _)⟩ ?_
  rintro ⟨k, c⟩ ⟨hk, hcc⟩ n0
  simp only at hk hcc ⊢
  have hl := obr_len s k
  refine awp_seqP rfl ?_
  refine awp_seqP rfl ?_
  refine awp_regP (Γ := noEnv) [243, 2, 3, 23, 24] (noEnv_ok _ _) rfl rfl rfl (fun K hK => ?_)
  simp (failIfUnchanged := false) (disch := omega) only [Tryd.f65, go_sem, Nat.reduceAdd, ↓reduceIte]
  refine hK _ ?_
  refine nx_then ?_
  refine awp_ifD (.tmp 243) rfl rfl rfl (fun h => ?_) (fun h => ?_)
  · skip
    refine awp_drop rfl ?_
    have e1 : ((k : Int).tdiv 4) = ((k / 4 : Nat) : Int) := by rw [Int.tdiv_eq_ediv_of_nonneg (by omega)]; omega
    have e2 : ((k : Int).tmod 4) = ((k % 4 : Nat) : Int) := by rw [Int.tmod_eq_emod_of_nonneg (by omega)]; omega
    have e3 : ((24 : Int) - 8 * ((k % 4 : Nat) : Int)).toNat = 24 - 8 * (k % 4) := by omega
    refine awp_skipP rfl ?_
    refine nx_then ?_
    refine awp_seqP rfl ?_
    refine awp_blockN 9 rfl rfl ?_
    refine awp_regP (Γ := noEnv) [2, 3, 23, 24] (noEnv_ok _ _) rfl rfl rfl (fun K hK => ?_)
    simp (failIfUnchanged := false) (disch := omega) only [Tryd.f65, go_sem, Nat.reduceAdd, Nat.reduceLeDiff, Int.reduceEq, ↓reduceIte, h3, hl, e1, e2, e3]
    refine hK _ ?_
    refine nx_blk (nx_then ?_)
    refine awp_regP (Γ := noEnv) [2, 3, 23, 24] (noEnv_ok _ _) rfl rfl rfl (fun K hK => ?_)
    simp (failIfUnchanged := false) (disch := omega) only [Tryd.f65, go_sem, Nat.reduceAdd, ↓reduceIte]
    refine hK _ ?_
    refine nx_loop ?_
    refine ⟨⟨k + 1, _⟩, ⟨by simp only; omega, by simp only; omega⟩, by simp only; omega, sub_same rfl ?_ (Nat.le_refl _)⟩
    simp (failIfUnchanged := false) only [obr]
  · skip
    refine awp_drop rfl ?_
    refine awp_exitN 8 rfl rfl ?_
    refine nx_ex_then (nx_ex_loop (nx_ex_blk ?_))
    refine nx_then ?_
    refine awp_seqP rfl ?_
    obtain rfl : k = 32 := by omega
    have hob := ob_len s 8
    have hsp : storeL (c8 (List.replicate 32 0#8)) 0 (c8 (ob s 8)) = c8 (ob s 8) := by rw [storeL_sp _ _ _ (by rw [c8_len]; omega), splice_all _ _ (by rw [c8_len, c8_len, hob, List.length_replicate])]
    rw [obr_ob]
    refine awp_regP (Γ := noEnv) [2] (noEnv_ok _ _) rfl rfl rfl (fun K hK => ?_)
    simp (failIfUnchanged := false) (disch := omega) only [Tryd.f65, go_sem, Nat.reduceAdd, Nat.reduceLeDiff, ↓reduceIte, h2, hob, hsp]
    refine hK _ ?_
    refine nx_then ?_
    refine awp_retP rfl ?_
    simp (failIfUnchanged := false) (disch := omega) only [pureQ, resA, resAL, resA1, Tryd.f65, go_sem, Nat.reduceLeDiff, ↓reduceIte, ldV, imm_c8, hob]
end Go.AX

namespace Go.AX
open Go Go.Proofs

set_option maxHeartbeats 4000000 in
theorem ref_ok : PureOK Tryd.prog GLh 65 refG := by
  refine pure_of_awp Tryd.func65 (bodyOf_some rfl) ?_
  intro args r hg
  unfold refG at hg
  split at hg
  · rename_i n xs
    replace hg := obind_inv hg; obtain ⟨b, hb, hg⟩ := hg
    replace hg := guardO_inv hg; obtain ⟨⟨hn, hbig⟩, hg⟩ := hg
    obtain rfl := Option.some.inj hg
    have := un8_inv _ hb; subst this
    subst hn
    refine ⟨Nat.le_of_ble_eq_true rfl, fun nx => ?_⟩
    have hpl := padL_len b
    have hpm := padL_mod b
    have hpk : padk b < 64 := by unfold padk; omega
    refine awp_seqP rfl ?_
    refine awp_regP (Γ := noEnv) [0, 2] (noEnv_ok _ _) rfl rfl rfl (fun K hK => ?_)
    simp (failIfUnchanged := false) (disch := omega) only [Tryd.f65, go_sem, ↓reduceIte]
    refine hK _ ?_
    refine nx_then ?_
    refine awp_seqP rfl ?_
    refine awp_regP (Γ := noEnv) [0, 2, 3] (noEnv_ok _ _) rfl rfl rfl (fun K hK => ?_)
    simp (failIfUnchanged := false) (disch := omega) only [Tryd.f65, go_sem, Nat.reduceAdd, Nat.reduceLeDiff, Int.reduceLE, Int.reduceLT, BitVec.reduceOfInt, ↓reduceIte]
    refine hK _ ?_
    refine nx_then ?_
    refine awp_seqP rfl ?_
    refine awp_regP (Γ := envL [(75, .pure true tableG)]) [0, 2, 3, 4] (envOK_cons ok61 envOK_nil) rfl rfl rfl (fun K hK => ?_)
    simp (failIfUnchanged := false) (disch := omega) only [Tryd.f65, go_sem, Nat.reduceAdd, Nat.reduceLeDiff, ↓reduceIte]
    refine hK _ ?_
    refine nx_then ?_
    refine awp_seqP rfl ?_
    refine awp_regP (Γ := envL [(76, .fresh true padG)]) [2, 3, 4, 5] (envOK_cons ok62 envOK_nil) rfl rfl rfl (fun K hK => ?_)
    simp (failIfUnchanged := false) (disch := omega) only [Tryd.f65, go_sem, Nat.reduceAdd, ↓reduceIte, padL_len]
    refine hK _ ?_
    refine nx_then ?_
    refine awp_seqP rfl ?_
    refine awp_seqP rfl ?_
    refine awp_regP (Γ := noEnv) [2, 3, 4, 5, 6] (noEnv_ok _ _) rfl rfl rfl (fun K hK => ?_)
    simp (failIfUnchanged := false) (disch := omega) only [Tryd.f65, go_sem, ↓reduceIte]
    refine hK _ ?_
    refine nx_then ?_
    have hst : storeL (c32 (List.replicate 64 0#32)) 0 (c32 KT) = c32 KT := by
      rw [storeL_sp _ _ _ (by rw [c32_len, KT_len]; omega), splice_all _ _ (by rw [c32_len, c32_len, KT_len, List.length_replicate])]
    have hst2 : storeL (c32 (List.replicate 8 0#32)) 0 [AV.w32 1779033703#32, AV.w32 3144134277#32, AV.w32 1013904242#32, AV.w32 2773480762#32, AV.w32 1359893119#32, AV.w32 2600822924#32, AV.w32 528734635#32, AV.w32 1541459225#32] = c32 S0 := rfl
    rw [hst, hst2]
    have hdiv : (padL b).length = 64 * ((padL b).length / 64) := by omega
    refine awp_sub (ref_l0 (i2 := nx) (i3 := nx + 1 + 1) (i4 := nx + 1 + 3 + 1) (ip := nx + 1 + 3 + 3 + 1) (c0 := nx + 1 + 3 + 3 + 3 + 1) (nb := (padL b).length / 64) (m := b.length + 1 + padk b + 8) (p := padL b) (o2 := AO.cells (c8 (List.replicate 32 0#8)) true) hpl (by omega) (by omega) (by omega) (by omega) (by omega) (by omega) (fun n c hc => ?_) _) ⟨fun _ => .inr rfl, fun j o h => ?_, Nat.le_refl _⟩ rfl
    rotate_left
    · simp only [upd_apply] at h ⊢
      by_cases h1 : j = nx + 1 + 1
      · rw [if_pos h1] at h; rw [if_neg (by omega), if_neg (by omega), if_pos h1]; exact h
      · rw [if_neg h1] at h ⊢; exact h
    refine nx_then ?_
    refine awp_keep [2, 3] ?_
    simp (failIfUnchanged := false) only [kf_nil, kf_cons, look_cons, ↓reduceIte, Nat.reduceEqDiff]
    refine ref_l8 (i2 := nx) (i3 := nx + 1 + 1) (c0 := c) (s := ab S0 (padL b) ((padL b).length / 64)) (by rw [ab_len, S0_len]) (by omega) (by omega) (by omega) (by simp only [upd_apply, if_pos]) ?_ _
    simp (failIfUnchanged := false) only [upd_apply, if_neg (show ¬ nx = nx + 1 + 1 by omega), if_neg (show ¬ nx = nx + 1 + 3 + 3 + 1 by omega), if_neg (show ¬ nx = nx + 1 + 3 + 1 by omega), if_pos]
  · cases hg
end Go.AX

namespace Go.AX
open Go Go.Proofs

theorem ab_append (s : List W32) (x y : List B8) (q : Nat) (hx : x.length = 64 * q) : ∀ m, ab s (x ++ y) (q + m) = ab (ab s x q) y m
  | 0 => by
    show ab s (x ++ y) q = ab s x q
    have : ∀ j, j ≤ q → ab s (x ++ y) j = ab s x j := by
      intro j
      induction j with
      | zero => intro _; rfl
      | succ j ih =>
        intro hj
        simp (failIfUnchanged := false) only [ab]
        rw [ih (by omega), List.drop_append_of_le_length (by omega), List.take_append_of_le_length (by rw [List.length_drop]; omega)]
    exact this q (Nat.le_refl _)
  | m + 1 => by
    show comp (ab s (x ++ y) (q + m)) _ = comp (ab (ab s x q) y m) _
    rw [ab_append s x y q hx m]
    congr 1
    rw [show 64 * q.add m = x.length + 64 * m by rw [Nat.add_eq]; omega, List.drop_append]
    rw [List.drop_of_length_le (by omega), List.nil_append, show x.length + 64 * m - x.length = 64 * m by omega]
theorem ab_take (s : List W32) (l : List B8) (e : Nat) : ∀ n, 64 * n ≤ e → ab s (l.take e) n = ab s l n
  | 0, _ => rfl
  | n + 1, h => by
    simp (failIfUnchanged := false) only [ab]
    rw [ab_take s l e n (by omega), List.drop_take, List.take_take, Nat.min_eq_left (by omega)]
def len8 (n : BitVec 64) : List B8 := [(n >>> 56).setWidth 8, (n >>> 48).setWidth 8, (n >>> 40).setWidth 8, (n >>> 32).setWidth 8, (n >>> 24).setWidth 8, (n >>> 16).setWidth 8, (n >>> 8).setWidth 8, n.setWidth 8]
theorem padn8 (n : BitVec 64) (l : List B8) : padn n l 8 = l ++ len8 n := by
  simp (failIfUnchanged := false) only [padn, len8, List.append_assoc, List.cons_append, List.nil_append, Nat.reduceMul, Nat.reduceSub, BitVec.ushiftRight_zero, Nat.sub_self, Nat.mul_zero]
theorem padz_eq (b : List B8) (k : Nat) : padz b k = b ++ 0x80#8 :: List.replicate k 0#8 := by
  induction k with
  | zero => rfl
  | succ k ih => simp only [padz, ih, List.append_assoc, List.cons_append, List.replicate_succ']
theorem tl8 (n : BitVec 64) (a d : List B8) (c0 c1 c2 c3 c4 c5 c6 c7 : B8) : tl n (a.length + 8) (a ++ c0 :: c1 :: c2 :: c3 :: c4 :: c5 :: c6 :: c7 :: d) 8 = a ++ len8 n ++ d := by
  simp (failIfUnchanged := false) only [tl, len8]
  have h : ∀ k, k < 8 → a.length + 8 - 1 - k = a.length + (7 - k) := by intro k hk; omega
  rw [h 0 (by omega), h 1 (by omega), h 2 (by omega), h 3 (by omega), h 4 (by omega), h 5 (by omega), h 6 (by omega), h 7 (by omega)]
  simp (failIfUnchanged := false) only [List.set_append_right _ _ (Nat.le_add_right _ _), Nat.add_sub_cancel_left, Nat.reduceSub, List.set_cons_succ, List.set_cons_zero, Nat.reduceMul, BitVec.ushiftRight_zero, Nat.mul_zero, List.append_assoc, List.cons_append, List.nil_append]
theorem split8 (l : List B8) (e : Nat) (h : 8 ≤ e) (he : e ≤ l.length) : ∃ c0 c1 c2 c3 c4 c5 c6 c7, l = l.take (e - 8) ++ c0 :: c1 :: c2 :: c3 :: c4 :: c5 :: c6 :: c7 :: l.drop e := by
  have h1 : l = l.take (e - 8) ++ l.drop (e - 8) := (List.take_append_drop _ _).symm
  have h2 : ∀ k, k < 8 → l.drop (e - 8 + k) = l.getD (e - 8 + k) 0#8 :: l.drop (e - 8 + (k + 1)) := by
    intro k hk
    rw [List.drop_eq_getElem_cons (by omega : e - 8 + k < l.length)]
    simp [List.getD_eq_getElem?_getD, List.getElem?_eq_getElem (by omega : e - 8 + k < l.length), Nat.add_assoc]
  refine ⟨l.getD (e - 8 + 0) 0#8, l.getD (e - 8 + 1) 0#8, l.getD (e - 8 + 2) 0#8, l.getD (e - 8 + 3) 0#8, l.getD (e - 8 + 4) 0#8, l.getD (e - 8 + 5) 0#8, l.getD (e - 8 + 6) 0#8, l.getD (e - 8 + 7) 0#8, h1.trans ?_⟩
  congr 1
  have h0 := h2 0 (by omega)
  rw [show l.drop (e - 8) = l.drop (e - 8 + 0) from rfl, h0, h2 1 (by omega), h2 2 (by omega), h2 3 (by omega), h2 4 (by omega), h2 5 (by omega), h2 6 (by omega), h2 7 (by omega), show e - 8 + (7 + 1) = e by omega]
theorem tl0_eq (r : List B8) (h : r.length < 64) : tl0 r = r ++ 0x80#8 :: List.replicate (127 - r.length) 0#8 := by
  unfold tl0 splice8
  rw [Nat.min_eq_left (by omega), List.take_of_length_le (Nat.le_refl _), List.take_zero, List.nil_append, Nat.zero_add, List.drop_replicate, List.set_append_right _ _ (Nat.le_refl _), Nat.sub_self, show 128 - r.length = (127 - r.length) + 1 by omega, List.replicate_succ, List.set_cons_zero]

theorem refL_eq (b : List B8) : refL b = sumL b := by
  rw [sumL_eq]
  unfold refL
  congr 1
  have hlen := padL_len b
  have hmod := padL_mod b
  generalize hN : BitVec.ofInt 64 (b.length : Int) * 8#64 = N
  have hb : b = b.take (64 * (b.length / 64)) ++ b.drop (64 * (b.length / 64)) := (List.take_append_drop _ _).symm
  have hx : (b.take (64 * (b.length / 64))).length = 64 * (b.length / 64) := by rw [List.length_take]; omega
  have hr : (b.drop (64 * (b.length / 64))).length = b.length - 64 * (b.length / 64) := List.length_drop ..
  have hpk : padk b = if 56 ≤ b.length - 64 * (b.length / 64) then 119 - (b.length - 64 * (b.length / 64)) else 55 - (b.length - 64 * (b.length / 64)) := by
    unfold padk; split <;> omega
  have hp : padL b = b.take (64 * (b.length / 64)) ++ (b.drop (64 * (b.length / 64)) ++ (0x80#8 :: List.replicate (padk b) 0#8 ++ len8 N)) := by
    rw [padL, hN, padn8, padz_eq]
    conv => lhs; rw [hb]
    simp (failIfUnchanged := false) only [List.append_assoc, List.cons_append]
    rw [← hb]
  generalize hq : b.length / 64 = q at *
  generalize hrr : b.drop (64 * q) = r at *
  generalize hxx : b.take (64 * q) = x at *
  have hr64 : r.length < 64 := by omega
  have hbx : ab S0 b q = ab S0 x q := by
    rw [hb]
    have := ab_append S0 x r q hx 0
    exact this
  have he : en r = r.length + 1 + padk b + 8 := by
    unfold en; rw [hpk, ← hr]; split <;> omega
  have hem : en r % 64 = 0 ∧ en r ≤ 128 ∧ 64 ≤ en r := by unfold en; split <;> omega
  have hd : (padL b).length / 64 = q + en r / 64 := by omega
  rw [hd, hbx, hp, ab_append S0 x _ q hx]
  rw [tl0_eq r hr64]
  obtain ⟨c0, c1, c2, c3, c4, c5, c6, c7, hs⟩ := split8 (r ++ 0x80#8 :: List.replicate (127 - r.length) 0#8) (en r) (by omega) (by simp only [List.length_append, List.length_cons, List.length_replicate]; omega)
  have htl : (r ++ 0x80#8 :: List.replicate (127 - r.length) 0#8).take (en r - 8) = r ++ 0x80#8 :: List.replicate (padk b) 0#8 := by
    rw [List.take_append, List.take_of_length_le (by omega), show en r - 8 - r.length = padk b + 1 by omega, List.take_succ_cons, List.take_replicate, Nat.min_eq_left (by omega)]
  rw [htl] at hs
  have hla : (r ++ 0x80#8 :: List.replicate (padk b) 0#8).length + 8 = en r := by simp only [List.length_append, List.length_cons, List.length_replicate]; omega
  rw [hs]
  have key := tl8 N (r ++ 0x80#8 :: List.replicate (padk b) 0#8) (List.drop (en r) (r ++ 0x80#8 :: List.replicate (127 - r.length) 0#8)) c0 c1 c2 c3 c4 c5 c6 c7
  rw [hla] at key
  rw [key]
  have hta := ab_take (ab S0 x q) (r ++ 0x80#8 :: List.replicate (padk b) 0#8 ++ len8 N ++ List.drop (en r) (r ++ 0x80#8 :: List.replicate (127 - r.length) 0#8)) (en r) (en r / 64) (by omega)
  rw [← hta, List.take_append_of_le_length (by simp only [List.length_append, List.length_cons, List.length_replicate, len8, List.length_nil]; omega), List.take_of_length_le (by simp only [List.length_append, List.length_cons, List.length_replicate, len8, List.length_nil]; omega)]
  simp (failIfUnchanged := false) only [List.append_assoc]
end Go.AX

namespace Go.AX
open Go Go.Proofs

def part1 (p : List B8) : List B8 := b4 p.length ++ p
def cat (l : List B8) (ps : List (List B8)) : List B8 := l ++ ps.flatMap part1
def shortL (tag : B8) (ps : List (List B8)) : List B8 := (sumL (cat [tag] ps)).take 8
theorem shortL_len (tag : B8) (ps : List (List B8)) : (shortL tag ps).length = 8 := by simp [shortL, sumL_len]
theorem part1_len (p : List B8) : (part1 p).length = p.length + 4 := by simp [part1, b4]
def tot (ps : List (List B8)) : Nat := (ps.flatMap part1).length
theorem tot_nil : tot [] = 0 := rfl
theorem tot_cons (p : List B8) (ps : List (List B8)) : tot (p :: ps) = p.length + 4 + tot ps := by simp [tot, part1_len]
theorem cat_len (l : List B8) (ps : List (List B8)) : (cat l ps).length = l.length + tot ps := by simp [cat, tot]
theorem tot_take (ps : List (List B8)) (k : Nat) : tot (ps.take k) ≤ tot ps := by
  induction ps generalizing k with
  | nil => simp [tot]
  | cons p ps ih => cases k with
    | zero => simp [tot]
    | succ k => rw [List.take_succ_cons, tot_cons, tot_cons]; have := ih k; omega
theorem take_step {α : Type} (ps : List α) (k : Nat) (d : α) (h : k < ps.length) : ps.take (k + 1) = ps.take k ++ [ps.getD k d] := by
  rw [List.take_add_one, List.getElem?_eq_getElem h, List.getD_eq_getElem?_getD, List.getElem?_eq_getElem h]; rfl
theorem cat_step (l : List B8) (ps : List (List B8)) (k : Nat) (h : k < ps.length) : cat l (ps.take (k + 1)) = cat l (ps.take k) ++ b4 (ps.getD k []).length ++ ps.getD k [] := by
  rw [take_step ps k [] h]; simp [cat, part1]
theorem tot_step (ps : List (List B8)) (k : Nat) (h : k < ps.length) : tot (ps.take (k + 1)) = tot (ps.take k) + ((ps.getD k []).length + 4) := by
  rw [take_step ps k [] h]; simp [tot, part1_len]

theorem tot_ge (ps : List (List B8)) : 4 * ps.length ≤ tot ps := by
  induction ps with
  | nil => simp
  | cons p ps ih => rw [tot_cons, List.length_cons]; omega
theorem unP_inv : ∀ {xs : List AV} {ps : List (List B8)}, unP xs = some ps → xs = cP ps
  | [], ps, h => by obtain rfl := Option.some.inj h; rfl
  | x :: r, ps, h => by
    cases x <;> simp only [unP] at h <;> first | (cases h; done) | skip
    replace h := obind_inv h; obtain ⟨b, hb, h⟩ := h
    replace h := guardO_inv h; obtain ⟨hn, h⟩ := h
    replace h := obind_inv h; obtain ⟨l, hl, h⟩ := h
    obtain rfl := Option.some.inj h
    rw [un8_inv _ hb, unP_inv hl, ← hn]; rfl
def shortK (tag : B8) (n : Nat) (ps : List (List B8)) : Option AV := guardO (ps.length = n ∧ tot ps ≤ 900000000) (some (.agg (c8 (shortL tag ps))))
def shortG : List AV → Option AV
  | [.w8 tag, .sl n xs] => obind (unP xs) (shortK tag n)
  | _ => none
theorem shortG_eq (tag : B8) (n : Nat) (xs : List AV) : shortG [.w8 tag, .sl n xs] = obind (unP xs) (shortK tag n) := (rfl)
theorem shortK_eq (tag : B8) (n : Nat) (ps : List (List B8)) : shortK tag n ps = guardO (ps.length = n ∧ tot ps ≤ 900000000) (some (.agg (c8 (shortL tag ps)))) := (rfl)
theorem sumG_eq (n : Nat) (xs : List AV) : sumG [.sl n xs] = obind (un8 xs) fun b => guardO (b.length = n) (some (.agg (c8 (sumL b)))) := (rfl)
theorem frzL4 (hp : H) (a b c d : B8) : frzL hp [AV.w8 a, .w8 b, .w8 c, .w8 d] = some ([.w8 a, .w8 b, .w8 c, .w8 d], hp) := (rfl)
theorem take4 (a b c d : AV) : List.take 4 [a, b, c, d] = [a, b, c, d] := (rfl)
theorem b4_eq (n : Nat) : [BitVec.ofInt 8 ((n : Int).fdiv (2 ^ min 24 64)), BitVec.ofInt 8 ((n : Int).fdiv (2 ^ min 16 64)), BitVec.ofInt 8 ((n : Int).fdiv (2 ^ min 8 64)), BitVec.ofInt 8 (n : Int)] = b4 n := (rfl)
theorem b4_len (n : Nat) : (b4 n).length = 4 := (rfl)
attribute [go_sem] storeL_rep8 storeL_eq8 frzL4 take4 app4 c8_noOwn b4_eq b4_len unP_nil unP_cons unP_cP cP_len cP_head un8_nil un8_w8 un8_c8 shortG_eq shortK_eq sumG_eq shortL_len sumL_len tot_nil tot_cons List.length_append rep1_8 sp1_8 take1_8
set_option maxHeartbeats 4000000 in
theorem short_ok : PureOK Tryd.prog GLh 73 shortG := by
  refine pure_of_awp Tryd.func73 (bodyOf_some rfl) ?_
  intro args r hg
  unfold shortG at hg
  split at hg
  · rename_i tag n xs
    replace hg := obind_inv hg; obtain ⟨ps, hps, hg⟩ := hg
    rw [shortK_eq] at hg
    replace hg := guardO_inv hg; obtain ⟨⟨hn, hbig⟩, hg⟩ := hg
    obtain rfl := Option.some.inj hg
    have := unP_inv hps; subst this
    subst hn
    clear hps hg
    refine ⟨Nat.le_of_ble_eq_true rfl, fun nx => ?_⟩
    refine awp_seqP rfl ?_
    refine awp_regP (Γ := noEnv) [0, 1, 4] (noEnv_ok _ _) rfl rfl rfl (fun K hK => ?_)
    simp (failIfUnchanged := false) (disch := omega) only [Tryd.f73, go_sem, ↓reduceIte]
    refine hK _ ?_
    refine nx_then ?_
    refine awp_seqP rfl ?_
    refine awp_regP (Γ := noEnv) [1, 4, 5] (noEnv_ok _ _) rfl rfl rfl (fun K hK => ?_)
    simp (failIfUnchanged := false) (disch := omega) only [Tryd.f73, go_sem, Nat.reduceAdd, Nat.reduceLeDiff, Nat.reduceLT, ↓reduceIte]
    refine hK _ ?_
    refine nx_then ?_
    refine awp_seqP rfl ?_
    refine awp_seqP rfl ?_
    refine awp_regP (Γ := noEnv) [4, 5, 12, 13, 14] (noEnv_ok _ _) rfl rfl rfl (fun K hK => ?_)
    simp (failIfUnchanged := false) (disch := omega) only [Tryd.f73, go_sem, Nat.reduceAdd, ↓reduceIte]
    refine hK _ ?_
    refine nx_then ?_
    have h1 : c8 [tag] = c8 (cat [tag] (ps.take 0)) := by simp [cat]
    have hge := tot_ge ps
    refine awp_blockN 0 rfl rfl ?_
    refine awp_loopP (fun p : KIC => { fr := [(4, .op nx 0), (5, .os p.id 0 (1 + tot (ps.take p.k)) 1 true), (12, .sl ps.length (cP ps)), (13, .i ps.length), (14, .i p.k)], hp := upd (upd (fun _ => none) nx (.cells (c8 (List.replicate 8 0#8)) true)) p.id (.cells (c8 (cat [tag] (ps.take p.k))) true), nx := 0, cx := p.c }) (fun p => p.k ≤ ps.length ∧ nx < p.id ∧ p.id < p.c) (fun p => ps.length - p.k) rfl ⟨⟨0, nx + 1 + 1, _⟩, ⟨Nat.zero_le _, by simp only; omega, by simp only; omega⟩, sub_same rfl (by rw [← h1]; rfl) (Nat.le_refl _)⟩ ?_
    rintro ⟨k, id, c⟩ ⟨hk, hid, hc⟩ n0
    simp only at hk hid hc ⊢
    have ht := tot_take ps k
    have hl : (cat [tag] (ps.take k)).length = 1 + tot (ps.take k) := cat_len [tag] (ps.take k)
    refine awp_seqP rfl ?_
    refine awp_regP (Γ := noEnv) [15, 4, 5, 12, 13, 14] (noEnv_ok _ _) rfl rfl rfl (fun K hK => ?_)
    simp (failIfUnchanged := false) (disch := omega) only [Tryd.f73, go_sem, ↓reduceIte]
    refine hK _ ?_
    refine nx_then ?_
    refine awp_seqP rfl ?_
    refine awp_ifD (.tmp 15) rfl rfl rfl (fun h => ?_) (fun h => ?_)
    · skip
      refine awp_drop rfl ?_
      have hs := tot_step ps k (by omega)
      have hst := cat_step [tag] ps k (by omega)
      have htk := tot_take ps (k + 1)
      refine awp_skipP rfl ?_
      refine nx_then ?_
      refine awp_seqP rfl ?_
      refine awp_blockN 1 rfl rfl ?_
      refine awp_seqP rfl ?_
      refine awp_regP (Γ := noEnv) [4, 5, 7, 12, 13, 14] (noEnv_ok _ _) rfl rfl rfl (fun K hK => ?_)
      simp (failIfUnchanged := false) (disch := omega) only [Tryd.f73, go_sem, Nat.reduceAdd, ↓reduceIte]
      refine hK _ ?_
      refine nx_then ?_
      generalize ps.getD k [] = q at hs hst ⊢
      refine awp_seqP rfl ?_
      refine awp_regP (Γ := noEnv) [4, 5, 7, 8, 12, 13, 14] (noEnv_ok _ _) rfl rfl rfl (fun K hK => ?_)
      simp (failIfUnchanged := false) (disch := omega) only [Tryd.f73, go_sem, Nat.reduceAdd, ↓reduceIte]
      refine hK _ ?_
      refine nx_then ?_
      refine awp_seqP rfl ?_
      refine awp_regP (Γ := noEnv) [4, 5, 7, 12, 13, 14] (noEnv_ok _ _) rfl rfl rfl (fun K hK => ?_)
      simp (failIfUnchanged := false) (disch := omega) only [Tryd.f73, go_sem, Nat.reduceAdd, Nat.reduceLeDiff, Nat.reduceLT, Int.reduceLE, Int.reduceLT, BitVec.reduceOfInt, BitVec.reduceToNat, ↓reduceIte, hl]
      refine hK _ ?_
      refine nx_then ?_
      refine awp_regP (Γ := noEnv) [4, 5, 12, 13, 14] (noEnv_ok _ _) rfl rfl rfl (fun K hK => ?_)
      simp (failIfUnchanged := false) (disch := omega) only [Tryd.f73, go_sem, Nat.reduceAdd, Nat.reduceLT, ↓reduceIte, hl]
      refine hK _ ?_
      refine nx_blk (nx_then ?_)
      refine awp_regP (Γ := noEnv) [4, 5, 12, 13, 14] (noEnv_ok _ _) rfl rfl rfl (fun K hK => ?_)
      simp (failIfUnchanged := false) (disch := omega) only [Tryd.f73, go_sem, Nat.reduceAdd, ↓reduceIte]
      refine hK _ ?_
      refine nx_loop ?_
      have e5 : 1 + tot (ps.take (k + 1)) = 1 + tot (ps.take k) + 4 + q.length := by omega
      refine ⟨⟨k + 1, c + 1 + 3 + 3 + 15 + 2, _⟩, ⟨by simp only; omega, ?_, ?_⟩, by simp only; omega, ⟨fun _ => .inr ?_, fun j o h => ?_, Nat.le_refl _⟩⟩
      · simp only; omega
      · simp only; omega
      · simp only [e5, Int.natCast_add, Int.natCast_one]
      · simp only [hst] at h
        grind [upd_apply, del_apply]
    · skip
      refine awp_drop rfl ?_
      refine awp_exitN 0 rfl rfl ?_
      refine nx_ex_then (nx_ex_loop (nx_ex_blk ?_))
      refine nx_then ?_
      refine awp_seqP rfl ?_
      obtain rfl : k = ps.length := by omega
      rw [List.take_length] at hl ⊢
      have hsl := shortL_len tag ps
      have hsu := sumL_len (cat [tag] ps)
      have hs8 : (sumL (cat [tag] ps)).take 8 = shortL tag ps := rfl
      refine awp_regP (Γ := envL [(74, .pure true sumG)]) [4, 9] (envOK_cons ok22 envOK_nil) rfl rfl rfl (fun K hK => ?_)
      simp (failIfUnchanged := false) (disch := omega) only [Tryd.f73, go_sem, Nat.reduceAdd, Nat.reduceLeDiff, ↓reduceIte, hl]
      refine hK _ ?_
      refine nx_then ?_
      refine awp_seqP rfl ?_
      refine awp_regP (Γ := noEnv) [4] (noEnv_ok _ _) rfl rfl rfl (fun K hK => ?_)
      simp (failIfUnchanged := false) (disch := omega) only [Tryd.f73, go_sem, Nat.reduceAdd, Nat.reduceSub, Nat.reduceLeDiff, Int.reduceLE, Int.reduceToNat, ↓reduceIte, hs8]
      refine hK _ ?_
      refine nx_then ?_
      refine awp_retP rfl ?_
      simp (failIfUnchanged := false) (disch := omega) only [pureQ, resA, resAL, resA1, Tryd.f73, go_sem, Nat.reduceLeDiff, ↓reduceIte, ldV, imm_c8]
  · cases hg
end Go.AX

namespace Go.AX
open Go Go.Proofs

def partO (i n m : Nat) (q : List B8) (hp : H) (nx : Nat) : AO → Option (AV × H × Nat)
  | .cells xs mt => obind (un8 xs) fun b => guardO (mt = true ∧ n = b.length ∧ m = q.length ∧ n + q.length ≤ 1000000000 ∧ i < nx)
      (some (.os (nx + 1 + 3 + 15) 0 (n + 4 + q.length) 1 true, upd (del hp i) (nx + 1 + 3 + 15) (.cells (c8 (b ++ b4 q.length ++ q)) true), nx + 1 + 3 + 17))
  | _ => none
noncomputable def partG : List AV → H → Nat → Option (AV × H × Nat)
  | [.os i 0 n 1 true, .sl m ys], hp, nx => obind (un8 ys) fun q => obind (hp i) (partO i n m q hp nx)
  | [.os i 0 n 1 true, .v (.slice none 0 0)], hp, nx => obind (hp i) (partO i n 0 [] hp nx)
  | _, _, _ => none
theorem partG_sl (i n m : Nat) (ys : List AV) (hp : H) (nx : Nat) : partG [.os i 0 n 1 true, .sl m ys] hp nx = obind (un8 ys) fun q => obind (hp i) (partO i n m q hp nx) := (rfl)
theorem partG_nil (i n : Nat) (hp : H) (nx : Nat) : partG [.os i 0 n 1 true, .v (.slice none 0 0)] hp nx = obind (hp i) (partO i n 0 [] hp nx) := (rfl)
theorem partO_c (i n m : Nat) (q : List B8) (hp : H) (nx : Nat) (xs : List AV) (mt : Bool) : partO i n m q hp nx (.cells xs mt) = obind (un8 xs) fun b => guardO (mt = true ∧ n = b.length ∧ m = q.length ∧ n + q.length ≤ 1000000000 ∧ i < nx)
      (some (.os (nx + 1 + 3 + 15) 0 (n + 4 + q.length) 1 true, upd (del hp i) (nx + 1 + 3 + 15) (.cells (c8 (b ++ b4 q.length ++ q)) true), nx + 1 + 3 + 17)) := (rfl)
attribute [go_sem] frzL_nil partG_sl partG_nil partO_c
set_option maxHeartbeats 4000000 in
theorem part_ok : HeapOK Tryd.prog GLh 66 partG := by
  refine heap_of_awp Tryd.func66 (bodyOf_some rfl) ?_
  intro args hp nx r hp' nx' hg
  unfold partG at hg
  split at hg
  · rename_i h2 n2 i n m ys
    replace hg := obind_inv hg; obtain ⟨q, hq, hg⟩ := hg
    replace hg := obind_inv hg; obtain ⟨o, ho, hg⟩ := hg
    obtain ⟨xs, mt, rfl⟩ : ∃ xs mt, o = .cells xs mt := by cases o with | cells xs mt => exact ⟨xs, mt, rfl⟩ | mapo _ _ => cases hg
    rw [partO_c] at hg
    replace hg := obind_inv hg; obtain ⟨b, hb, hg⟩ := hg
    replace hg := guardO_inv hg; obtain ⟨⟨hmt, hn, hm, hbig, hid⟩, hg⟩ := hg
    simp (failIfUnchanged := false) only [Option.some.injEq, Prod.mk.injEq] at hg; obtain ⟨rfl, rfl, rfl⟩ := hg
    subst hmt
    have := un8_inv _ hb; subst this
    have := un8_inv _ hq; subst this
    subst hm; subst hn
    refine ⟨Nat.le_of_ble_eq_true rfl, by omega, fun hnone => ?_⟩
    refine awp_seqP rfl ?_
    refine awp_regP (Γ := noEnv) [0, 1] (noEnv_ok _ _) rfl rfl rfl (fun K hK => ?_)
    simp (failIfUnchanged := false) (disch := omega) only [Tryd.f66, go_sem, ↓reduceIte]
    refine hK _ ?_
    refine nx_then ?_
    refine awp_seqP rfl ?_
    refine awp_regP (Γ := noEnv) [0, 1, 5] (noEnv_ok _ _) rfl rfl rfl (fun K hK => ?_)
    simp (failIfUnchanged := false) (disch := omega) only [Tryd.f66, go_sem, Nat.reduceAdd, ↓reduceIte]
    refine hK _ ?_
    refine nx_then ?_
    refine awp_seqP rfl ?_
    refine awp_regP (Γ := noEnv) [4] (noEnv_ok _ _) rfl rfl rfl (fun K hK => ?_)
    simp (failIfUnchanged := false) (disch := omega) only [Tryd.f66, go_sem, Nat.reduceAdd, Nat.reduceLeDiff, Nat.reduceLT, Int.reduceLE, Int.reduceLT, BitVec.reduceOfInt, BitVec.reduceToNat, ↓reduceIte, ho]
    refine hK _ ?_
    refine nx_then ?_
    refine awp_retP rfl ?_
    refine ⟨rfl, fun j o h => ?_, Nat.le_refl _⟩
    simp only at h ⊢
    grind [upd_apply, del_apply]
  · rename_i h2 n2 i n
    replace hg := obind_inv hg; obtain ⟨o, ho, hg⟩ := hg
    obtain ⟨xs, mt, rfl⟩ : ∃ xs mt, o = .cells xs mt := by cases o with | cells xs mt => exact ⟨xs, mt, rfl⟩ | mapo _ _ => cases hg
    rw [partO_c] at hg
    replace hg := obind_inv hg; obtain ⟨b, hb, hg⟩ := hg
    replace hg := guardO_inv hg; obtain ⟨⟨hmt, hn, hm, hbig, hid⟩, hg⟩ := hg
    simp (failIfUnchanged := false) only [Option.some.injEq, Prod.mk.injEq] at hg; obtain ⟨rfl, rfl, rfl⟩ := hg
    subst hmt
    have := un8_inv _ hb; subst this
    subst hn
    rw [List.length_nil] at hbig
    refine ⟨Nat.le_of_ble_eq_true rfl, by omega, fun hnone => ?_⟩
    refine awp_seqP rfl ?_
    refine awp_regP (Γ := noEnv) [0, 1] (noEnv_ok _ _) rfl rfl rfl (fun K hK => ?_)
    simp (failIfUnchanged := false) (disch := omega) only [Tryd.f66, go_sem, ↓reduceIte]
    refine hK _ ?_
    refine nx_then ?_
    refine awp_seqP rfl ?_
    refine awp_regP (Γ := noEnv) [0, 1, 5] (noEnv_ok _ _) rfl rfl rfl (fun K hK => ?_)
    simp (failIfUnchanged := false) (disch := omega) only [Tryd.f66, go_sem, Nat.reduceAdd, ↓reduceIte]
    refine hK _ ?_
    refine nx_then ?_
    obtain ⟨z, hz⟩ : ∃ z : Nat, z = 0 := ⟨0, rfl⟩
    rw [show (AV.i 0) = AV.i (z : Int) from by rw [hz]; rfl]
    refine awp_seqP rfl ?_
    refine awp_regP (Γ := noEnv) [4] (noEnv_ok _ _) rfl rfl rfl (fun K hK => ?_)
    simp (failIfUnchanged := false) (disch := omega) only [Tryd.f66, go_sem, Nat.reduceAdd, Nat.reduceLeDiff, Nat.reduceLT, Int.reduceLE, Int.reduceLT, BitVec.reduceOfInt, BitVec.reduceToNat, ↓reduceIte, ho]
    refine hK _ ?_
    refine nx_then ?_
    refine awp_retP rfl ?_
    subst hz
    refine ⟨rfl, fun j o h => ?_, Nat.le_refl _⟩
    simp (failIfUnchanged := false) only [List.append_nil, List.length_nil] at h ⊢
    grind [upd_apply, del_apply]
  · cases hg

def ref2G : List AV → Option AV
  | [.sl n xs] => obind (un8 xs) fun b => guardO (b.length = n ∧ n ≤ 1000000000) (some (.agg (c8 (sumL b))))
  | _ => none
theorem ref2G_eq (n : Nat) (xs : List AV) : ref2G [.sl n xs] = obind (un8 xs) fun b => guardO (b.length = n ∧ n ≤ 1000000000) (some (.agg (c8 (sumL b)))) := (rfl)
theorem refG_eq (n : Nat) (xs : List AV) : refG [.sl n xs] = obind (un8 xs) fun b => guardO (b.length = n ∧ n ≤ 1000000000) (some (.agg (c8 (refL b)))) := (rfl)
theorem ref2_ok : PureOK Tryd.prog GLh 65 ref2G := by
  intro σ I w nx args vals r h1 h2 h3 hs hr hg
  refine ref_ok σ I w nx args vals r h1 h2 h3 hs hr ?_
  unfold ref2G at hg
  split at hg
  · rename_i n xs
    replace hg := obind_inv hg; obtain ⟨b, hb, hg⟩ := hg
    replace hg := guardO_inv hg; obtain ⟨hn, hg⟩ := hg
    rw [refG_eq, hb, obind_some, guardO_true _ hn, refL_eq, hg]
  · cases hg
def cutG : List AV → Option AV
  | [.sl n xs] => obind (un8 xs) fun b => guardO (b.length = n ∧ n ≤ 1000000000) (some (.agg (c8 ((sumL b).take 8))))
  | _ => none
theorem cutG_eq (n : Nat) (xs : List AV) : cutG [.sl n xs] = obind (un8 xs) fun b => guardO (b.length = n ∧ n ≤ 1000000000) (some (.agg (c8 ((sumL b).take 8)))) := (rfl)
attribute [go_sem] ref2G_eq cutG_eq
theorem ok23 : EntOK Tryd.prog GLh 65 (.pure true ref2G) := ⟨⟨_, Tryd.func65, rfl, rfl⟩, ref2_ok⟩
theorem ok24 : EntOK Tryd.prog GLh 73 (.pure true shortG) := ⟨⟨_, Tryd.func73, rfl, rfl⟩, short_ok⟩
theorem ok26 : EntOK Tryd.prog GLh 66 (.heap partG) := ⟨⟨_, Tryd.func66, rfl, rfl⟩, part_ok⟩

set_option maxHeartbeats 4000000 in
theorem cut_ok : PureOK Tryd.prog GLh 67 cutG := by
  refine pure_of_awp Tryd.func67 (bodyOf_some rfl) ?_
  intro args r hg
  unfold cutG at hg
  split at hg
  · rename_i n xs
    replace hg := obind_inv hg; obtain ⟨b, hb, hg⟩ := hg
    replace hg := guardO_inv hg; obtain ⟨⟨hn, hbig⟩, hg⟩ := hg
    obtain rfl := Option.some.inj hg
    have := un8_inv _ hb; subst this
    subst hn
    refine ⟨Nat.le_of_ble_eq_true rfl, fun nx => ?_⟩
    have hs := sumL_len b
    have hl : ((sumL b).take 8).length = 8 := by rw [List.length_take]; omega
    refine awp_seqP rfl ?_
    refine awp_regP (Γ := noEnv) [0, 2] (noEnv_ok _ _) rfl rfl rfl (fun K hK => ?_)
    simp (failIfUnchanged := false) (disch := omega) only [Tryd.f67, go_sem, ↓reduceIte]
    refine hK _ ?_
    refine nx_then ?_
    refine awp_seqP rfl ?_
    refine awp_regP (Γ := envL [(65, .pure true ref2G)]) [2, 3] (envOK_cons ok23 envOK_nil) rfl rfl rfl (fun K hK => ?_)
    simp (failIfUnchanged := false) (disch := omega) only [Tryd.f67, go_sem, Nat.reduceAdd, Nat.reduceLeDiff, ↓reduceIte]
    refine hK _ ?_
    refine nx_then ?_
    refine awp_seqP rfl ?_
    refine awp_regP (Γ := noEnv) [2] (noEnv_ok _ _) rfl rfl rfl (fun K hK => ?_)
    simp (failIfUnchanged := false) (disch := omega) only [Tryd.f67, go_sem, Nat.reduceAdd, Nat.reduceSub, Nat.reduceLeDiff, Int.reduceLE, Int.reduceToNat, ↓reduceIte, hl]
    refine hK _ ?_
    refine nx_then ?_
    refine awp_retP rfl ?_
    simp (failIfUnchanged := false) (disch := omega) only [pureQ, resA, resAL, resA1, Tryd.f67, go_sem, Nat.reduceLeDiff, ↓reduceIte, ldV, imm_c8, hl]
  · cases hg
theorem ok27 : EntOK Tryd.prog GLh 67 (.pure true cutG) := ⟨⟨_, Tryd.func67, rfl, rfl⟩, cut_ok⟩

set_option maxHeartbeats 4000000 in
theorem rshort_ok : PureOK Tryd.prog GLh 53 shortG := by
  refine pure_of_awp Tryd.func53 (bodyOf_some rfl) ?_
  intro args r hg
  unfold shortG at hg
  split at hg
  · rename_i tag n xs
    replace hg := obind_inv hg; obtain ⟨ps, hps, hg⟩ := hg
    rw [shortK_eq] at hg
    replace hg := guardO_inv hg; obtain ⟨⟨hn, hbig⟩, hg⟩ := hg
    obtain rfl := Option.some.inj hg
    have := unP_inv hps; subst this
    subst hn
    clear hps hg
    refine ⟨Nat.le_of_ble_eq_true rfl, fun nx => ?_⟩
    refine awp_seqP rfl ?_
    refine awp_regP (Γ := noEnv) [0, 1, 4] (noEnv_ok _ _) rfl rfl rfl (fun K hK => ?_)
    simp (failIfUnchanged := false) (disch := omega) only [Tryd.f53, go_sem, ↓reduceIte]
    refine hK _ ?_
    refine nx_then ?_
    refine awp_seqP rfl ?_
    refine awp_regP (Γ := noEnv) [1, 4, 5] (noEnv_ok _ _) rfl rfl rfl (fun K hK => ?_)
    simp (failIfUnchanged := false) (disch := omega) only [Tryd.f53, go_sem, Nat.reduceAdd, Nat.reduceLeDiff, Nat.reduceLT, ↓reduceIte]
    refine hK _ ?_
    refine nx_then ?_
    refine awp_seqP rfl ?_
    refine awp_seqP rfl ?_
    refine awp_regP (Γ := noEnv) [1, 4, 5, 6] (noEnv_ok _ _) rfl rfl rfl (fun K hK => ?_)
    simp (failIfUnchanged := false) (disch := omega) only [Tryd.f53, go_sem, ↓reduceIte]
    refine hK _ ?_
    refine nx_then ?_
    have h1 : c8 [tag] = c8 (cat [tag] (ps.take 0)) := by simp [cat]
    have hge := tot_ge ps
    refine awp_blockN 0 rfl rfl ?_
    refine awp_loopP (fun p : KIC => { fr := [(1, .sl ps.length (cP ps)), (4, .op nx 0), (5, .os p.id 0 (1 + tot (ps.take p.k)) 1 true), (6, .i p.k)], hp := upd (upd (fun _ => none) nx (.cells (c8 (List.replicate 8 0#8)) true)) p.id (.cells (c8 (cat [tag] (ps.take p.k))) true), nx := 0, cx := p.c }) (fun p => p.k ≤ ps.length ∧ nx < p.id ∧ p.id < p.c) (fun p => ps.length - p.k) rfl ⟨⟨0, nx + 1 + 1, _⟩, ⟨Nat.zero_le _, by simp only; omega, by simp only; omega⟩, sub_same rfl (by rw [← h1]; rfl) (Nat.le_refl _)⟩ ?_
    rintro ⟨k, id, c⟩ ⟨hk, hid, hc⟩ n0
    simp only at hk hid hc ⊢
    have ht := tot_take ps k
    have hl : (cat [tag] (ps.take k)).length = 1 + tot (ps.take k) := cat_len [tag] (ps.take k)
    refine awp_seqP rfl ?_
    refine awp_seqP rfl ?_
    refine awp_regP (Γ := noEnv) [12, 1, 4, 5, 6] (noEnv_ok _ _) rfl rfl rfl (fun K hK => ?_)
    simp (failIfUnchanged := false) (disch := omega) only [Tryd.f53, go_sem, Nat.reduceAdd, ↓reduceIte]
    refine hK _ ?_
    refine nx_then ?_
    refine awp_ifD (.tmp 12) rfl rfl rfl (fun h => ?_) (fun h => ?_)
    · skip
      refine awp_drop rfl ?_
      have hs := tot_step ps k (by omega)
      have hst := cat_step [tag] ps k (by omega)
      have htk := tot_take ps (k + 1)
      refine awp_skipP rfl ?_
      refine nx_then ?_
      refine awp_seqP rfl ?_
      refine awp_blockN 1 rfl rfl ?_
      refine awp_regP (Γ := envL [(66, .heap partG)]) [1, 4, 5, 6] (envOK_cons ok26 envOK_nil) rfl rfl rfl (fun K hK => ?_)
      simp (failIfUnchanged := false) (disch := omega) only [Tryd.f53, go_sem, Nat.reduceAdd, ↓reduceIte, hl]
      refine hK _ ?_
      refine nx_blk (nx_then ?_)
      generalize ps.getD k [] = q at hs hst ⊢
      refine awp_regP (Γ := noEnv) [1, 4, 5, 6] (noEnv_ok _ _) rfl rfl rfl (fun K hK => ?_)
      simp (failIfUnchanged := false) (disch := omega) only [Tryd.f53, go_sem, Nat.reduceAdd, ↓reduceIte]
      refine hK _ ?_
      refine nx_loop ?_
      have e5 : 1 + tot (ps.take (k + 1)) = 1 + tot (ps.take k) + 4 + q.length := by omega
      refine ⟨⟨k + 1, c + 4 + 7 + 1 + 3 + 15, _⟩, ⟨by simp only; omega, ?_, ?_⟩, by simp only; omega, ⟨fun _ => .inr ?_, fun j o h => ?_, Nat.le_refl _⟩⟩
      · simp only; omega
      · simp only; omega
      · simp only [e5, Int.natCast_add, Int.natCast_one]
      · simp only [hst] at h
        grind [upd_apply, del_apply]
    · skip
      refine awp_drop rfl ?_
      refine awp_exitN 0 rfl rfl ?_
      refine nx_ex_then (nx_ex_loop (nx_ex_blk ?_))
      refine nx_then ?_
      refine awp_seqP rfl ?_
      obtain rfl : k = ps.length := by omega
      rw [List.take_length] at hl ⊢
      have hsl := shortL_len tag ps
      have hs8 : (sumL (cat [tag] ps)).take 8 = shortL tag ps := rfl
      refine awp_regP (Γ := envL [(67, .pure true cutG)]) [4] (envOK_cons ok27 envOK_nil) rfl rfl rfl (fun K hK => ?_)
      simp (failIfUnchanged := false) (disch := omega) only [Tryd.f53, go_sem, Nat.reduceAdd, Nat.reduceLeDiff, ↓reduceIte, hl, hs8]
      refine hK _ ?_
      refine nx_then ?_
      refine awp_retP rfl ?_
      simp (failIfUnchanged := false) (disch := omega) only [pureQ, resA, resAL, resA1, Tryd.f53, go_sem, Nat.reduceLeDiff, ↓reduceIte, ldV, imm_c8]
  · cases hg
theorem ok25 : EntOK Tryd.prog GLh 53 (.pure true shortG) := ⟨⟨_, Tryd.func53, rfl, rfl⟩, rshort_ok⟩
end Go.AX

namespace Go.AX
open Go Go.Proofs

attribute [go_sem] c8_headd rep_2 rep_3 rep_5 sp_z sp_s tk_s tk_n List.take_zero
def known1G : List AV → Option AV
  | [] => some (.b true)
  | _ => none
theorem known1G_eq : known1G [] = some (.b true) := (rfl)
attribute [go_sem] known1G_eq
theorem egA8 : Tryd.prog.eqGuardType Tryd.prog.depth 22 = false := by kernel_rfl
theorem eqA8 (l m : List B8) (hl : l.length = 8) (hm : m.length = 8) : eqT Tryd.prog 6 22 (.agg (c8 l)) (.agg (c8 m)) = some (decide (l = m)) :=
  eqT_c8 _ 22 5 8 Tryd.underlying22 Tryd.underlying5 sz5 ag5 l m hl hm
attribute [go_sem] egA8 eqA8
end Go.AX
