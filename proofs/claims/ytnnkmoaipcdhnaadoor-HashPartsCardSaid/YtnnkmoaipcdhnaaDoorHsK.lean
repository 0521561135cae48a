/-
  Hash, part K: the reference's sum: the rounds.
-/
import Derived.Test.YtnnkmoaipcdhnaaDoorHsJ
namespace Go.AX
open Go Go.Proofs

attribute [go_sem] W_eq c8_len c32_len c8_head c32_head c8_head0 c32_head0 c8_set c32_set c8_take c8_drop upd_upd Int.toNat_natCast evg0 tn frzL_c8 c8_app c32_app
theorem ok63 : EntOK Tryd.prog GLh 63 (.pure true turnG) := ⟨⟨_, Tryd.func63, rfl, rfl⟩, turn_ok _⟩
theorem ok61 : EntOK Tryd.prog GLh 61 (.pure true tableG) := ⟨⟨_, Tryd.func61, rfl, rfl⟩, table_ok _⟩
theorem ok62 : EntOK Tryd.prog GLh 62 (.fresh true padG) := ⟨⟨_, Tryd.func62, rfl, rfl⟩, pad_ok _⟩
theorem ok22 : EntOK Tryd.prog GLh 22 (.pure true sumG) := ⟨⟨_, Tryd.func22, rfl, rfl⟩, sum_ok⟩

/-- The frame in the reference's rounds. -/
def frR (i2 i3 i4 ip i7 a m : Nat) (v : V8) (k : Nat) : List (Nat × AV) :=
  [(2, .op i2 0), (3, .op i3 0), (4, .op i4 0), (5, .os ip 0 m 1 true), (6, .i a), (7, .op i7 0), (12, .w32 v.a), (13, .w32 v.c), (14, .w32 v.d), (15, .w32 v.e), (16, .w32 v.f), (17, .w32 v.g), (18, .w32 v.h), (19, .w32 v.i), (20, .i k)]

theorem one_alt (v : V8) (x w : W32) : one v x w = v.i + ((v.f >>> 6 ||| v.f <<< 26) ^^^ (v.f >>> 11 ||| v.f <<< 21) ^^^ (v.f >>> 25 ||| v.f <<< 7)) + (v.f &&& v.g ^^^ ~~~v.f &&& v.h) + x + w := by
  simp only [one, ro, Nat.reduceSub]
  rw [BitVec.or_comm (v.f <<< 26), BitVec.or_comm (v.f <<< 21), BitVec.or_comm (v.f <<< 7)]
theorem two_alt (v : V8) : two v = ((v.a >>> 2 ||| v.a <<< 30) ^^^ (v.a >>> 13 ||| v.a <<< 19) ^^^ (v.a >>> 22 ||| v.a <<< 10)) + (v.a &&& v.c ^^^ v.a &&& v.d ^^^ v.c &&& v.d) := by
  simp only [two, ro, Nat.reduceSub]
  rw [BitVec.or_comm (v.a <<< 30), BitVec.or_comm (v.a <<< 19), BitVec.or_comm (v.a <<< 10)]

structure KC where
  k : Nat
  c : Nat

set_option maxHeartbeats 4000000 in
theorem ref_l3 {i2 i3 i4 ip i7 c0 c1 a m : Nat} {w : List W32} {v : V8} {mt : Bool} {hp : H} {Q : Exit → S → Prop} (hw : w.length = 64) (h4 : hp i4 = some (.cells (c32 KT) mt)) (h7 : hp i7 = some (.cells (c32 w) true)) (hlt : i7 < c1) (hl4 : i4 < c1) (hc : c0 ≤ c1)
    (hQ : ∀ n c, c1 ≤ c → Q .normal { fr := frR i2 i3 i4 ip i7 a m (rnds w v 64) 64, hp := hp, nx := n, cx := c }) :
    ∀ n0, Awp Tryd.prog GLh Tryd.f23.ntmps (cr (cl (cr (cr (cr (cr (cl (cl (cr (cl (cl (cr (cl (cr (cr (cr (cr (bodyOf Tryd.f23)))))))))))))))))) { fr := frR i2 i3 i4 ip i7 a m v 0, hp := hp, nx := n0, cx := c0 } Q := by
  intro n0
  refine awp_blockN 6 rfl rfl ?_
  refine awp_loopP (fun p : KC => { fr := [(2, .op i2 0), (3, .op i3 0), (4, .op i4 0), (5, .os ip 0 m 1 true), (6, .i a), (7, .op i7 0), (12, .w32 (rnds w v p.k).a), (13, .w32 (rnds w v p.k).c), (14, .w32 (rnds w v p.k).d), (15, .w32 (rnds w v p.k).e), (16, .w32 (rnds w v p.k).f), (17, .w32 (rnds w v p.k).g), (18, .w32 (rnds w v p.k).h), (19, .w32 (rnds w v p.k).i), (20, .i p.k)], hp := hp, nx := 0, cx := p.c }) (fun p => p.k ≤ 64 ∧ c1 ≤ p.c) (fun p => 64 - p.k) rfl ⟨⟨0, c1⟩, ⟨Nat.zero_le _, Nat.le_refl _⟩, sub_same rfl rfl hc⟩ ?_
  rintro ⟨k, c⟩ ⟨hk, hc1⟩ n0
  simp only at hk hc1 ⊢
  have hKT := KT_len
  generalize hu : rnds w v k = u
  refine awp_seqP rfl ?_
  refine awp_seqP rfl ?_
  refine awp_regP (Γ := noEnv) [140, 2, 3, 4, 5, 6, 7, 12, 13, 14, 15, 16, 17, 18, 19, 20] (noEnv_ok _ _) rfl rfl rfl (fun K hK => ?_)
  simp only [Tryd.f23, bodyOf, Option.getD_some, cl, cr, rOps, lights, light, rN, List.size_toArray, List.length_cons, List.length_nil, Nat.reduceAdd, Nat.zero_add, List.map_cons, List.map_nil, Option.map_none]
  simp (maxSteps := 300000) (disch := omega) only [go_sem, Nat.reduceAdd, Nat.reduceEqDiff, ↓reduceIte]
  with_reducible refine hK _ ?_
  clear hK K
  refine nx_then ?_
  refine awp_ifD (.tmp 140) rfl rfl rfl (fun h => ?_) (fun h => ?_)
  · skip
    refine awp_drop rfl ?_
    refine awp_skipP rfl ?_
    refine nx_then ?_
    refine awp_seqP rfl ?_
    refine awp_blockN 7 rfl rfl ?_
    refine awp_seqP rfl ?_
    refine awp_drwP (Γ := envL [(63, .pure true turnG)]) (fun _ => 2) [2, 3, 4, 5, 6, 7, 12, 13, 14, 15, 16, 17, 18, 20, 21] mixed (envOK_cons ok63 envOK_nil) rfl rfl rfl (by kernel_rfl) (fun K hK => ?_)
    simp only [Tryd.f23, bodyOf, Option.getD_some, cl, cr, rOps, lights, light, rN, List.size_toArray, List.length_cons, List.length_nil, Nat.reduceAdd, Nat.zero_add, List.map_cons, List.map_nil, Option.map_none]
    simp (maxSteps := 300000) (disch := omega) only [go_sem, Nat.reduceAdd, Nat.reduceEqDiff, Int.reduceToNat, Int.reduceSub, ↓reduceIte, h4, h7]
    with_reducible refine hK _ ?_
    clear hK K
    refine nx_then ?_
    refine awp_seqP rfl ?_
    refine awp_regP (Γ := envL [(63, .pure true turnG)]) [2, 3, 4, 5, 6, 7, 12, 13, 14, 15, 16, 17, 18, 20, 21, 22] (envOK_cons ok63 envOK_nil) rfl rfl rfl (fun K hK => ?_)
    simp only [Tryd.f23, bodyOf, Option.getD_some, cl, cr, rOps, lights, light, rN, List.size_toArray, List.length_cons, List.length_nil, Nat.reduceAdd, Nat.zero_add, List.map_cons, List.map_nil, Option.map_none]
    simp (maxSteps := 300000) (disch := omega) only [go_sem, Nat.reduceAdd, Nat.reduceEqDiff, Int.reduceToNat, Int.reduceSub, ↓reduceIte]
    with_reducible refine hK _ ?_
    clear hK K
    refine nx_then ?_
    refine awp_regP (Γ := noEnv) [2, 3, 4, 5, 6, 7, 12, 13, 14, 15, 16, 17, 18, 19, 20] (noEnv_ok _ _) rfl rfl rfl (fun K hK => ?_)
    simp only [Tryd.f23, bodyOf, Option.getD_some, cl, cr, rOps, lights, light, rN, List.size_toArray, List.length_cons, List.length_nil, Nat.reduceAdd, Nat.zero_add, List.map_cons, List.map_nil, Option.map_none]
    simp (maxSteps := 300000) (disch := omega) only [go_sem, Nat.reduceAdd, Nat.reduceEqDiff, ↓reduceIte]
    with_reducible refine hK _ ?_
    clear hK K
    refine nx_blk (nx_then ?_)
    refine awp_regP (Γ := noEnv) [2, 3, 4, 5, 6, 7, 12, 13, 14, 15, 16, 17, 18, 19, 20] (noEnv_ok _ _) rfl rfl rfl (fun K hK => ?_)
    simp only [Tryd.f23, bodyOf, Option.getD_some, cl, cr, rOps, lights, light, rN, List.size_toArray, List.length_cons, List.length_nil, Nat.reduceAdd, Nat.zero_add, List.map_cons, List.map_nil, Option.map_none]
    simp (maxSteps := 300000) (disch := omega) only [go_sem, Nat.reduceAdd, Nat.reduceEqDiff, ↓reduceIte]
    with_reducible refine hK _ ?_
    clear hK K
    refine nx_loop ?_
    refine ⟨⟨k + 1, _⟩, ⟨?_, ?_⟩, ?_, sub_same ?_ rfl (Nat.le_refl _)⟩
    · simp only; omega
    · simp only; omega
    · simp only; omega
    have e : rnds w v (k + 1) = rnd u (KT.getD k 0#32) (w.getD k 0#32) := by rw [rnds, hu]
    simp only [e, rnd, one_alt, two_alt, Int.natCast_add, Int.natCast_one]
  · skip
    refine awp_drop rfl ?_
    refine awp_exitN 6 rfl rfl ?_
    refine nx_ex_then (nx_ex_loop (nx_ex_blk ?_))
    obtain rfl : k = 64 := by omega
    subst hu
    exact hQ _ _ (by omega)
end Go.AX
