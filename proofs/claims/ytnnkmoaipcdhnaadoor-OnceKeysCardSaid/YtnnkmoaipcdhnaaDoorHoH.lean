/-
  Once, part H: the reference's opening.
-/
import Derived.Test.YtnnkmoaipcdhnaaDoorHoG
namespace Go.AX
open Go Go.Proofs
theorem ok30 : EntOK Tryd.prog GLh 30 (.pure true openG) := ⟨⟨_, Tryd.func30, rfl, rfl⟩, open_ok⟩

theorem fob_0 (d : W32) (sig : List B8) (k : Nat) (hv : bitL d k = 0#8) : fl (ob1 d sig) (k + 1) = fl (ob1 d sig) k ++ lockL (sx sig k) ++ sy sig k := by rw [fl, ob1, if_pos hv, List.append_assoc]
theorem fob_1 (d : W32) (sig : List B8) (k : Nat) (hv : ¬ bitL d k = 0#8) : fl (ob1 d sig) (k + 1) = fl (ob1 d sig) k ++ sy sig k ++ lockL (sx sig k) := by rw [fl, ob1, if_neg hv, List.append_assoc]

set_option maxHeartbeats 1000000 in
theorem ropen_ok : PureOK Tryd.prog GLh 37 openG := by
  refine pure_of_awp Tryd.func37 (bodyOf_some rfl) ?_
  intro args r hg
  unfold openG at hg
  split at hg
  · rename_i n m xs ys
    replace hg := obind_inv hg; obtain ⟨msg, ha, hg⟩ := hg
    replace hg := obind_inv hg; obtain ⟨sig, hb, hg⟩ := hg
    replace hg := guardO_inv hg; obtain ⟨⟨hn, hm, hb1, hb2⟩, hg⟩ := hg
    obtain rfl := Option.some.inj hg
    have := un8_inv _ ha; subst this
    have := un8_inv _ hb; subst this
    subst hn; subst hm
    clear hg ha hb
    refine ⟨Nat.le_of_ble_eq_true rfl, fun nx => ?_⟩
    refine awp_seqP rfl ?_
    refine awp_regP (Γ := noEnv) [0, 1, 4] (noEnv_ok _ _) rfl rfl rfl (fun K hK => ?_)
    simp only [Tryd.f37, bodyOf, Option.getD_some, cl, rOps, lights, light, rN, List.size_toArray, List.length_cons, List.length_nil, Nat.reduceAdd, Nat.zero_add, List.map_cons, List.map_nil, Option.map_none]
    simp (maxSteps := 300000) (disch := omega) only [go_sem, Nat.reduceAdd, ↓reduceIte]
    with_reducible refine hK _ ?_
    clear hK K
    refine nx_then ?_
    refine awp_seqP rfl ?_
    refine awp_seqP rfl ?_
    refine awp_regP (Γ := noEnv) [13, 0, 1, 4] (noEnv_ok _ _) rfl rfl rfl (fun K hK => ?_)
    simp only [Tryd.f37, bodyOf, Option.getD_some, cl, cr, rOps, lights, light, rN, List.size_toArray, List.length_cons, List.length_nil, Nat.reduceAdd, Nat.zero_add, List.map_cons, List.map_nil, Option.map_none]
    simp (maxSteps := 300000) (disch := omega) only [go_sem, Nat.reduceAdd, ↓reduceIte]
    with_reducible refine hK _ ?_
    clear hK K
    refine nx_then ?_
    refine awp_ifE (.tmp 13) rfl rfl rfl (fun h => ?_) (fun h => ?_)
    · skip
      refine awp_drop rfl ?_
      rw [openR_n _ _ (by omega)]
      have hst : storeL (c8 (List.replicate 8 0#8)) 0 (c8 (List.replicate 8 0#8)) = c8 (List.replicate 8 0#8) := storeL_rep8 8 _ _ (by simp)
      refine awp_seqP rfl ?_
      refine awp_regP (Γ := noEnv) [4, 5] (noEnv_ok _ _) rfl rfl rfl (fun K hK => ?_)
      simp only [Tryd.f37, bodyOf, Option.getD_some, cl, cr, rOps, lights, light, rN, List.size_toArray, List.length_cons, List.length_nil, Nat.reduceAdd, Nat.zero_add, List.map_cons, List.map_nil, Option.map_none]
      simp (maxSteps := 300000) (disch := omega) only [go_sem, Nat.reduceAdd, Nat.reduceLeDiff, ↓reduceIte, hst]
      with_reducible refine hK _ ?_
      clear hK K
      refine nx_then ?_
      refine awp_retP rfl ?_
      refine nx_ret_then ?_
      simp (disch := omega) only [pureQ, resA, resAL, resA1, Tryd.f37, go_sem, Nat.reduceLeDiff, ↓reduceIte, ldV, c8_noOwn]
    · skip
      refine awp_drop rfl ?_
      have hl : sig.length = 512 := by omega
      rw [openR_y _ _ hl]
      have hs := openL_len (digL msg) sig
      refine awp_skipP rfl ?_
      refine nx_then ?_
      refine awp_seqP rfl ?_
      refine awp_regP (Γ := envL [(36, .pure true digG)]) [1, 4, 6] (envOK_cons ok36 envOK_nil) rfl rfl rfl (fun K hK => ?_)
      simp only [Tryd.f37, bodyOf, Option.getD_some, cl, cr, rOps, lights, light, rN, List.size_toArray, List.length_cons, List.length_nil, Nat.reduceAdd, Nat.zero_add, List.map_cons, List.map_nil, Option.map_none]
      simp (maxSteps := 300000) (disch := omega) only [go_sem, Nat.reduceAdd, ↓reduceIte]
      with_reducible refine hK _ ?_
      clear hK K
      refine nx_then ?_
      generalize digL msg = d at hs ⊢
      refine awp_seqP rfl ?_
      refine awp_regP (Γ := noEnv) [1, 4, 6, 7] (noEnv_ok _ _) rfl rfl rfl (fun K hK => ?_)
      simp only [Tryd.f37, bodyOf, Option.getD_some, cl, cr, rOps, lights, light, rN, List.size_toArray, List.length_cons, List.length_nil, Nat.zero_add, List.map_cons, List.map_nil, Option.map_none]
      simp (maxSteps := 300000) (disch := omega) only [go_sem, ↓reduceIte]
      with_reducible refine hK _ ?_
      clear hK K
      refine nx_then ?_
      refine awp_seqP rfl ?_
      refine awp_seqP rfl ?_
      refine awp_regP (Γ := noEnv) [1, 4, 6, 7, 8] (noEnv_ok _ _) rfl rfl rfl (fun K hK => ?_)
      simp only [Tryd.f37, bodyOf, Option.getD_some, cl, cr, rOps, lights, light, rN, List.size_toArray, List.length_cons, List.length_nil, Nat.zero_add, List.map_cons, List.map_nil, Option.map_none]
      simp (maxSteps := 300000) (disch := omega) only [go_sem, ↓reduceIte]
      with_reducible refine hK _ ?_
      clear hK K
      refine nx_then ?_
      refine awp_blockN 0 rfl rfl ?_
      refine awp_own 7 1 rfl ?_
      refine awp_keep [1, 4, 6, 7, 8] ?_
      simp only [kf_nil, kf_cons, look_cons, ↓reduceIte, Nat.reduceEqDiff]
      refine awp_loopP (fun p : KIC => { fr := [(1, .sl sig.length (c8 sig)), (4, .op nx 0), (6, .w32 d), (7, .os p.id 0 (16 * p.k) 1 true), (8, .i p.k)], hp := upd (upd (fun _ => none) nx (.cells (c8 (List.replicate 8 0#8)) true)) p.id (.cells (c8 (fl (ob1 d sig) p.k)) true), nx := 0, cx := p.c }) (fun p => p.k ≤ 32 ∧ nx < p.id ∧ p.id < p.c) (fun p => 32 - p.k) rfl ⟨⟨0, _, _⟩, ⟨Nat.zero_le _, by simp only; omega, by simp only; omega⟩, sub_same rfl rfl (Nat.le_refl _)⟩ ?_
      rintro ⟨k, id, c⟩ ⟨hk, hid, hc⟩ n0
      simp only at hk hid hc ⊢
      have hol := fob_len d sig hl k hk
      refine awp_seqP rfl ?_
      refine awp_seqP rfl ?_
      refine awp_regP (Γ := noEnv) [18, 1, 4, 6, 7, 8] (noEnv_ok _ _) rfl rfl rfl (fun K hK => ?_)
      simp only [Tryd.f37, bodyOf, Option.getD_some, cl, cr, rOps, lights, light, rN, List.size_toArray, List.length_cons, List.length_nil, Nat.reduceAdd, Nat.zero_add, List.map_cons, List.map_nil, Option.map_none]
      simp (maxSteps := 300000) (disch := omega) only [go_sem, Nat.reduceAdd, ↓reduceIte]
      with_reducible refine hK _ ?_
      clear hK K
      refine nx_then ?_
      refine awp_ifD (.tmp 18) rfl rfl rfl (fun h => ?_) (fun h => ?_)
      · skip
        refine awp_drop rfl ?_
        have hsx := sx_len sig hl k (by omega)
        have hsy := sy_len sig hl k (by omega)
        have hll := lockL_len (sx sig k)
        have e1 : (16 * (k : Int)).toNat = 16 * k := by omega
        have e2 : (16 * (k : Int) + 8).toNat = 16 * k + 8 := by omega
        have e3 : (16 * (k : Int) + 16).toNat = 16 * k + 16 := by omega
        have e4 : 16 * k + 8 - 16 * k = 8 := by omega
        have e5 : 16 * k + 16 - (16 * k + 8) = 8 := by omega
        have hx : List.take 8 (List.drop (16 * k) sig) = sx sig k := rfl
        have hy : List.take 8 (List.drop (16 * k + 8) sig) = sy sig k := rfl
        refine awp_skipP rfl ?_
        refine nx_then ?_
        refine awp_seqP rfl ?_
        refine awp_blockN 1 rfl rfl ?_
        refine awp_seqP rfl ?_
        refine awp_drwP (Γ := envL [(69, .pure true lockG)]) (fun _ => 2) [1, 4, 6, 7, 8, 9, 10] mixed (envOK_cons ok69 envOK_nil) rfl rfl rfl (by kernel_rfl) (fun K hK => ?_)
        simp only [Tryd.f37, bodyOf, Option.getD_some, cl, cr, rOps, lights, light, rN, List.size_toArray, List.length_cons, List.length_nil, Nat.reduceAdd, Nat.zero_add, List.map_cons, List.map_nil, Option.map_none]
        simp (maxSteps := 300000) (disch := omega) only [go_sem, Nat.reduceAdd, Nat.reduceLeDiff, ↓reduceIte, e1, e2, e3, e4, e5, hx, hy, hsx]
        with_reducible refine hK _ ?_
        clear hK K
        refine nx_then ?_
        have e31 : ((31 : Int) - (k : Int)).toNat = 31 - k := by omega
        have hbe := bit_eq0 d k
        refine awp_seqP rfl ?_
        refine awp_regP (Γ := noEnv) [42, 1, 4, 6, 7, 8, 9, 10] (noEnv_ok _ _) rfl rfl rfl (fun K hK => ?_)
        simp only [Tryd.f37, bodyOf, Option.getD_some, cl, cr, rOps, lights, light, rN, List.size_toArray, List.length_cons, List.length_nil, Nat.reduceAdd, Nat.zero_add, List.map_cons, List.map_nil, Option.map_none]
        simp (maxSteps := 300000) (disch := omega) only [go_sem, Nat.reduceAdd, Int.reduceLE, Int.reduceLT, BitVec.reduceOfInt, ↓reduceIte, e31, hbe]
        with_reducible refine hK _ ?_
        clear hK K
        refine nx_then ?_
        have e5 : 16 * (k + 1) = 16 * k + 8 + 8 := by omega
        refine awp_ifD (.tmp 42) rfl rfl rfl (fun h => ?_) (fun h => ?_)
        · skip
          refine awp_drop rfl ?_
          refine awp_regP (Γ := noEnv) [1, 4, 6, 7, 8] (noEnv_ok _ _) rfl rfl rfl (fun K hK => ?_)
          simp only [Tryd.f37, bodyOf, Option.getD_some, cl, cr, rOps, lights, light, rN, List.size_toArray, List.length_cons, List.length_nil, Nat.reduceAdd, Nat.zero_add, List.map_cons, List.map_nil, Option.map_none]
          simp (maxSteps := 300000) (disch := omega) only [go_sem, Nat.reduceAdd, Nat.reduceSub, Nat.reduceLeDiff, Nat.reduceLT, Int.reduceLE, Int.reduceToNat, ↓reduceIte, hol, hsy]
          with_reducible refine hK _ ?_
          clear hK K
          refine nx_blk (nx_then ?_)
          refine awp_regP (Γ := noEnv) [1, 4, 6, 7, 8] (noEnv_ok _ _) rfl rfl rfl (fun K hK => ?_)
          simp only [Tryd.f37, bodyOf, Option.getD_some, cl, cr, rOps, lights, light, rN, List.size_toArray, List.length_cons, List.length_nil, Nat.reduceAdd, Nat.zero_add, List.map_cons, List.map_nil, Option.map_none]
          simp (maxSteps := 300000) (disch := omega) only [go_sem, Nat.reduceAdd, ↓reduceIte]
          with_reducible refine hK _ ?_
          clear hK K
          refine nx_loop ?_
          refine ⟨⟨k + 1, c + 2 + 19 + 6 + 4, _⟩, ⟨by simp only; omega, by simp only; omega, by simp only; omega⟩, by simp only; omega, ⟨fun _ => .inr ?_, fun j o h => ?_, Nat.le_refl _⟩⟩
          · simp only [e5, Int.natCast_add, Int.natCast_one]
          · simp only [fob_0 d sig k (by assumption)] at h
            exact hsub_cons (by simp (disch := omega) only [up_app, ↓reduceIte, eq_self]) (hsub_cons (by simp (disch := omega) only [up_app, de_app, nat_ne, ↓reduceIte, eq_self]) (hsub_nil)) j o h
        · skip
          refine awp_drop rfl ?_
          refine awp_drwP (Γ := noEnv) (fun k => if k = 4 then 10 else 2) [1, 4, 6, 7, 8] mixed (noEnv_ok _ _) rfl rfl rfl (by kernel_rfl) (fun K hK => ?_)
          simp only [Tryd.f37, bodyOf, Option.getD_some, cl, cr, rOps, lights, light, rN, List.size_toArray, List.length_cons, List.length_nil, Nat.reduceAdd, Nat.zero_add, List.map_cons, List.map_nil, Option.map_none]
          simp (maxSteps := 300000) (disch := first | omega | decide) only [go_sem, Nat.reduceAdd, Nat.reduceSub, Nat.reduceLeDiff, Nat.reduceLT, Int.reduceLE, Int.reduceToNat, ↓reduceIte, hol, hsy]
          with_reducible refine hK _ ?_
          clear hK K
          refine nx_blk (nx_then ?_)
          refine awp_regP (Γ := noEnv) [1, 4, 6, 7, 8] (noEnv_ok _ _) rfl rfl rfl (fun K hK => ?_)
          simp only [Tryd.f37, bodyOf, Option.getD_some, cl, cr, rOps, lights, light, rN, List.size_toArray, List.length_cons, List.length_nil, Nat.reduceAdd, Nat.zero_add, List.map_cons, List.map_nil, Option.map_none]
          simp (maxSteps := 300000) (disch := omega) only [go_sem, Nat.reduceAdd, ↓reduceIte]
          with_reducible refine hK _ ?_
          clear hK K
          refine nx_loop ?_
          refine ⟨⟨k + 1, c + 2 + 19 + 6 + 4, _⟩, ⟨by simp only; omega, by simp only; omega, by simp only; omega⟩, by simp only; omega, ⟨fun _ => .inr ?_, fun j o h => ?_, Nat.le_refl _⟩⟩
          · simp only [e5, Int.natCast_add, Int.natCast_one]
          · simp only [fob_1 d sig k (by assumption)] at h
            exact hsub_cons (by simp (disch := omega) only [up_app, ↓reduceIte, eq_self]) (hsub_cons (by simp (disch := omega) only [up_app, de_app, nat_ne, ↓reduceIte, eq_self]) (hsub_nil)) j o h
      · skip
        refine awp_drop rfl ?_
        refine awp_exitN 0 rfl rfl ?_
        refine nx_ex_then (nx_ex_loop (nx_ex_blk ?_))
        refine nx_then ?_
        refine awp_seqP rfl ?_
        obtain rfl : k = 32 := by omega
        have hf : shortL 3#8 [fl (ob1 d sig) 32] = openL d sig := rfl
        refine awp_regP (Γ := envL [(25, .pure true shortG)]) [4, 5] (envOK_cons ok25 envOK_nil) rfl rfl rfl (fun K hK => ?_)
        simp only [Tryd.f37, bodyOf, Option.getD_some, cl, cr, rOps, lights, light, rN, List.size_toArray, List.length_cons, List.length_nil, Nat.reduceAdd, Nat.zero_add, List.map_cons, List.map_nil, Option.map_none]
        simp (maxSteps := 300000) (disch := omega) only [go_sem, Nat.reduceAdd, Nat.reduceMul, Nat.reduceLeDiff, Nat.reduceLT, Int.reduceLE, Int.reduceLT, BitVec.reduceOfInt, ↓reduceIte, hf, hol]
        with_reducible refine hK _ ?_
        clear hK K
        refine nx_then ?_
        refine awp_retP rfl ?_
        simp (disch := omega) only [pureQ, resA, resAL, resA1, Tryd.f37, go_sem, Nat.reduceLeDiff, ↓reduceIte, ldV, c8_noOwn, hs]
  · cases hg
theorem ok37 : EntOK Tryd.prog GLh 37 (.pure true openG) := ⟨⟨_, Tryd.func37, rfl, rfl⟩, ropen_ok⟩
end Go.AX
