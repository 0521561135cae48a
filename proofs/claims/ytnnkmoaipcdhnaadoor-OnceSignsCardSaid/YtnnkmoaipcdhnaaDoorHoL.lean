/-
  Once, part L: the statements of layer 7, walked.
-/
import Derived.Test.YtnnkmoaipcdhnaaDoorHoJ
namespace Go.AX
open Go Go.Proofs

def law7aG : List AV → Option AV
  | [.agg xs, .w32 _, .sl n ys] => obind (un8 xs) fun s => obind (un8 ys) fun m => guardO (s.length = 8 ∧ m.length = n ∧ n ≤ 9223372036854775807) (some (.b true))
  | _ => none

set_option maxHeartbeats 1000000 in
theorem law7a_ok : PureOK Tryd.prog GLh 7 law7aG := by
  refine pure_of_awp Tryd.func7 (bodyOf_some rfl) ?_
  intro args r hg
  unfold law7aG at hg
  split at hg
  · rename_i xs leaf n ys
    replace hg := obind_inv hg; obtain ⟨seed, hb, hg⟩ := hg
    replace hg := obind_inv hg; obtain ⟨msg, hb2, hg⟩ := hg
    replace hg := guardO_inv hg; obtain ⟨⟨hs8, hm, hbig⟩, hg⟩ := hg
    obtain rfl := Option.some.inj hg
    have := un8_inv _ hb; subst this
    have := un8_inv _ hb2; subst this
    subst hm
    clear hg hb hb2
    refine ⟨Nat.le_of_ble_eq_true rfl, fun nx => ?_⟩
    have hsg := signL_len seed leaf (digL msg)
    have hop := openR_sign seed msg msg leaf rfl
    have hpl := publicL_len seed leaf
    refine awp_seqP rfl ?_
    refine awp_regP (Γ := noEnv) [1, 2, 3] (noEnv_ok _ _) rfl rfl rfl (fun K hK => ?_)
    simp only [Tryd.f7, bodyOf, Option.getD_some, cl, rOps, lights, light, rN, List.size_toArray, List.length_cons, List.length_nil, Nat.reduceAdd, Nat.zero_add, List.map_cons, List.map_nil, Option.map_none]
    simp (maxSteps := 300000) (disch := omega) only [go_sem, Nat.reduceAdd, ↓reduceIte]
    with_reducible refine hK _ ?_
    clear hK K
    refine nx_then ?_
    refine awp_seqP rfl ?_
    refine awp_seqP rfl ?_
    refine awp_regP (Γ := envL [(28, .pure true known7G)]) [11, 1, 2, 3] (envOK_cons ok28 envOK_nil) rfl rfl rfl (fun K hK => ?_)
    simp only [Tryd.f7, bodyOf, Option.getD_some, cl, cr, rOps, lights, light, rN, List.size_toArray, List.length_cons, List.length_nil, Nat.reduceAdd, Nat.zero_add, List.map_cons, List.map_nil, Option.map_none]
    simp (maxSteps := 300000) (disch := omega) only [go_sem, Nat.reduceAdd, ↓reduceIte]
    with_reducible refine hK _ ?_
    clear hK K
    refine nx_then ?_
    refine awp_ifB (.tmp 11) rfl rfl rfl (fun h => ?_) (fun h => ?_)
    · skip
      refine awp_drop rfl ?_
      cases h
    · skip
      refine awp_drop rfl ?_
      refine awp_skipP rfl ?_
      refine nx_then ?_
      refine awp_seqP rfl ?_
      refine awp_seqP rfl ?_
      refine awp_regP (Γ := noEnv) [14, 1, 2, 3] (noEnv_ok _ _) rfl rfl rfl (fun K hK => ?_)
      simp only [Tryd.f7, bodyOf, Option.getD_some, cl, cr, rOps, lights, light, rN, List.size_toArray, List.length_cons, List.length_nil, Nat.reduceAdd, Nat.zero_add, List.map_cons, List.map_nil, Option.map_none]
      simp (maxSteps := 300000) (disch := omega) only [go_sem, Nat.reduceAdd, ↓reduceIte]
      with_reducible refine hK _ ?_
      clear hK K
      refine nx_then ?_
      refine awp_ifD (.tmp 14) rfl rfl rfl (fun h => ?_) (fun h => ?_)
      · skip
        refine awp_drop rfl ?_
        refine awp_seqP rfl ?_
        refine awp_regP (Γ := noEnv) [6] (noEnv_ok _ _) rfl rfl rfl (fun K hK => ?_)
        simp only [Tryd.f7, bodyOf, Option.getD_some, cl, cr, rOps, lights, light, rN, List.size_toArray, List.length_cons, List.length_nil, Nat.zero_add, List.map_cons, List.map_nil, Option.map_none]
        simp (maxSteps := 300000) (disch := omega) only [go_sem, ↓reduceIte]
        with_reducible refine hK _ ?_
        clear hK K
        refine nx_then ?_
        refine awp_retP rfl ?_
        refine nx_ret_then ?_
        simp (disch := omega) only [pureQ, resA, resAL, resA1, Tryd.f7, go_sem, ↓reduceIte]
      · skip
        refine awp_drop rfl ?_
        refine awp_skipP rfl ?_
        refine nx_then ?_
        refine awp_seqP rfl ?_
        refine awp_regP (Γ := envL [(29, .fresh true signG)]) [1, 2, 3, 7] (envOK_cons ok29 envOK_nil) rfl rfl rfl (fun K hK => ?_)
        simp only [Tryd.f7, bodyOf, Option.getD_some, cl, cr, rOps, lights, light, rN, List.size_toArray, List.length_cons, List.length_nil, Nat.reduceAdd, Nat.zero_add, List.map_cons, List.map_nil, Option.map_none]
        simp (maxSteps := 300000) (disch := omega) only [go_sem, Nat.reduceAdd, ↓reduceIte]
        with_reducible refine hK _ ?_
        clear hK K
        refine nx_then ?_
        refine awp_seqP rfl ?_
        refine awp_regP (Γ := envL [(30, .pure true openG)]) [1, 2, 3, 7, 8, 9] (envOK_cons ok30 envOK_nil) rfl rfl rfl (fun K hK => ?_)
        simp only [Tryd.f7, bodyOf, Option.getD_some, cl, cr, rOps, lights, light, rN, List.size_toArray, List.length_cons, List.length_nil, Nat.reduceAdd, Nat.zero_add, List.map_cons, List.map_nil, Option.map_none]
        simp (maxSteps := 300000) (disch := omega) only [go_sem, Nat.reduceAdd, Nat.reduceLeDiff, ↓reduceIte, hop]
        with_reducible refine hK _ ?_
        clear hK K
        refine nx_then ?_
        refine awp_seqP rfl ?_
        refine awp_drwP (Γ := envL [(32, .fresh true signG), (31, .pure true bytG), (33, .pure true pubG), (34, .pure true pubG), (35, .pure true digG), (36, .pure true digG)]) (fun k => if k = 1 then 0 else if k = 4 then 0 else if k = 5 then 0 else if k = 25 then 0 else if k = 27 then 0 else 2) [6] mixed (envOK_cons ok32 (envOK_cons ok31 (envOK_cons ok33 (envOK_cons ok34 (envOK_cons ok35 (envOK_cons ok36 envOK_nil)))))) rfl rfl rfl (by kernel_rfl) (fun K hK => ?_)
        simp only [Tryd.f7, bodyOf, Option.getD_some, cl, cr, rOps, lights, light, rN, List.size_toArray, List.length_cons, List.length_nil, Nat.reduceAdd, Nat.zero_add, List.map_cons, List.map_nil, Option.map_none, Option.map_some, List.getElem?_toArray, List.getElem?_cons_zero, List.getElem?_cons_succ, Option.bind_some]
        simp (maxSteps := 300000) (disch := omega) only [go_sem, Nat.reduceAdd, Nat.reduceLeDiff, ↓reduceIte]
        with_reducible refine hK _ ?_
        clear hK K
        refine nx_then ?_
        refine awp_retP rfl ?_
        simp (disch := omega) only [pureQ, resA, resAL, resA1, Tryd.f7, go_sem, ↓reduceIte]
  · cases hg
theorem ok7 : EntOK Tryd.prog GLh 7 (.pure true law7aG) := ⟨⟨_, Tryd.func7, rfl, rfl⟩, law7a_ok⟩

end Go.AX
