/-
  Hash, part M: the reference's sum comes to the program's.
-/
import Derived.Test.YtnnkmoaipcdhnaaDoorHsL
namespace Go.AX
open Go Go.Proofs

theorem c8_mul (n : Nat) : n * 1 = n := Nat.mul_one n
theorem awp_keep {P : Program} {GL : Nat → Option (List AV)} {nt : Nat} {code : Code} {Q : Exit → S → Prop} {fr : List (Nat × AV)} {hp : H} {nx cx : Nat} (ks : List Nat)
    (h : Awp P GL nt code { fr := keepF ks fr, hp := hp, nx := nx, cx := cx } Q) : Awp P GL nt code { fr := fr, hp := hp, nx := nx, cx := cx } Q :=
  awp_sub h (sub_keep ks { fr := fr, hp := hp, nx := nx, cx := cx }) rfl
set_option maxHeartbeats 4000000 in
theorem ref_ok : PureOK Tryd.prog GLh 23 refG := by
  refine pure_of_awp Tryd.func23 (bodyOf_some rfl) ?_
  intro args r hg
  unfold refG at hg
  split at hg
  · rename_i n xs
    replace hg := obind_inv hg; obtain ⟨b, hb, hg⟩ := hg
    replace hg := guardO_inv hg; obtain ⟨⟨hn, hbig⟩, hg⟩ := hg
    obtain rfl := Option.some.inj hg
    have := un8_inv _ hb; subst this
    subst hn
    refine ⟨Nat.le_of_ble_eq_true rfl, fun nx => ?_⟩
    have hpl := padL_len b
    have hpm := padL_mod b
    have hpk : padk b < 64 := by unfold padk; omega
    refine awp_seqP rfl ?_
    refine awp_regP (Γ := noEnv) [0, 2] (noEnv_ok _ _) rfl rfl rfl (fun K hK => ?_)
    simp only [Tryd.f23, bodyOf, Option.getD_some, cl, rOps, lights, light, rN, List.size_toArray, List.length_cons, List.length_nil, Nat.zero_add, List.map_cons, List.map_nil, Option.map_none]
    simp (maxSteps := 300000) (disch := omega) only [go_sem, ↓reduceIte]
    with_reducible refine hK _ ?_
    clear hK K
    refine nx_then ?_
    refine awp_seqP rfl ?_
    refine awp_regP (Γ := noEnv) [0, 2, 3] (noEnv_ok _ _) rfl rfl rfl (fun K hK => ?_)
    simp only [Tryd.f23, bodyOf, Option.getD_some, cl, cr, rOps, lights, light, rN, List.size_toArray, List.length_cons, List.length_nil, Nat.reduceAdd, Nat.zero_add, List.map_cons, List.map_nil, Option.map_none]
    simp (maxSteps := 300000) (disch := omega) only [go_sem, Nat.reduceAdd, Nat.reduceLeDiff, Int.reduceLE, Int.reduceLT, BitVec.reduceOfInt, ↓reduceIte]
    with_reducible refine hK _ ?_
    clear hK K
    refine nx_then ?_
    refine awp_seqP rfl ?_
    refine awp_regP (Γ := envL [(61, .pure true tableG)]) [0, 2, 3, 4] (envOK_cons ok61 envOK_nil) rfl rfl rfl (fun K hK => ?_)
    simp only [Tryd.f23, bodyOf, Option.getD_some, cl, cr, rOps, lights, light, rN, List.size_toArray, List.length_cons, List.length_nil, Nat.reduceAdd, Nat.zero_add, List.map_cons, List.map_nil, Option.map_none]
    simp (maxSteps := 300000) (disch := omega) only [go_sem, Nat.reduceAdd, Nat.reduceLeDiff, ↓reduceIte]
    with_reducible refine hK _ ?_
    clear hK K
    refine nx_then ?_
    refine awp_seqP rfl ?_
    refine awp_regP (Γ := envL [(62, .fresh true padG)]) [2, 3, 4, 5] (envOK_cons ok62 envOK_nil) rfl rfl rfl (fun K hK => ?_)
    simp only [Tryd.f23, bodyOf, Option.getD_some, cl, cr, rOps, lights, light, rN, List.size_toArray, List.length_cons, List.length_nil, Nat.reduceAdd, Nat.zero_add, List.map_cons, List.map_nil, Option.map_none]
    simp (maxSteps := 300000) (disch := omega) only [go_sem, Nat.reduceAdd, ↓reduceIte, padL_len]
    with_reducible refine hK _ ?_
    clear hK K
    refine nx_then ?_
    refine awp_seqP rfl ?_
    refine awp_seqP rfl ?_
    refine awp_regP (Γ := noEnv) [2, 3, 4, 5, 6] (noEnv_ok _ _) rfl rfl rfl (fun K hK => ?_)
    simp only [Tryd.f23, bodyOf, Option.getD_some, cl, cr, rOps, lights, light, rN, List.size_toArray, List.length_cons, List.length_nil, Nat.zero_add, List.map_cons, List.map_nil, Option.map_none]
    simp (maxSteps := 300000) (disch := omega) only [go_sem, ↓reduceIte]
    with_reducible refine hK _ ?_
    clear hK K
    refine nx_then ?_
    have hst : storeL (c32 (List.replicate 64 0#32)) 0 (c32 KT) = c32 KT := by
      rw [storeL_sp _ _ _ (by rw [c32_len, KT_len]; omega), splice_all _ _ (by rw [c32_len, c32_len, KT_len, List.length_replicate])]
    have hst2 : storeL (c32 (List.replicate 8 0#32)) 0 [AV.w32 1779033703#32, AV.w32 3144134277#32, AV.w32 1013904242#32, AV.w32 2773480762#32, AV.w32 1359893119#32, AV.w32 2600822924#32, AV.w32 528734635#32, AV.w32 1541459225#32] = c32 S0 := rfl
    rw [hst, hst2]
    have hdiv : (padL b).length = 64 * ((padL b).length / 64) := by omega
    refine awp_sub (ref_l0 (i2 := nx) (i3 := nx + 1 + 1) (i4 := nx + 1 + 3 + 1) (ip := nx + 1 + 3 + 3 + 1) (c0 := nx + 1 + 3 + 3 + 3 + 1) (nb := (padL b).length / 64) (m := b.length + 1 + padk b + 8) (p := padL b) (o2 := AO.cells (c8 (List.replicate 32 0#8)) true) hpl (by omega) (by omega) (by omega) (by omega) (by omega) (by omega) (fun n c hc => ?_) _) ⟨fun _ => .inr rfl, fun j o h => ?_, Nat.le_refl _⟩ rfl
    rotate_left
    · simp only [upd_apply] at h ⊢
      by_cases h1 : j = nx + 1 + 1
      · rw [if_pos h1] at h; rw [if_neg (by omega), if_neg (by omega), if_pos h1]; exact h
      · rw [if_neg h1] at h ⊢; exact h
    refine nx_then ?_
    refine awp_keep [2, 3] ?_
    simp only [kf_nil, kf_cons, look_cons, ↓reduceIte, Nat.reduceEqDiff]
    refine ref_l8 (i2 := nx) (i3 := nx + 1 + 1) (c0 := c) (s := ab S0 (padL b) ((padL b).length / 64)) (by rw [ab_len, S0_len]) (by omega) (by omega) (by omega) (by simp only [upd_apply, if_pos]) ?_ _
    simp only [upd_apply, if_neg (show ¬ nx = nx + 1 + 1 by omega), if_neg (show ¬ nx = nx + 1 + 3 + 3 + 1 by omega), if_neg (show ¬ nx = nx + 1 + 3 + 1 by omega), if_pos]
  · cases hg
end Go.AX
