/-
  Once, part M: the statements of layer 7, walked.
-/
import Derived.Test.YtnnkmoaipcdhnaaDoorHoJ
namespace Go.AX
open Go Go.Proofs

def law7bG : List AV → Option AV
  | [.sl n xs, .sl m ys, .w16 _] => obind (un8 xs) fun a => obind (un8 ys) fun b => guardO (a.length = n ∧ b.length = m ∧ n ≤ 9223372036854775807 ∧ m ≤ 9223372036854775807) (some (.b true))
  | _ => none

def law7cG : List AV → Option AV
  | [.agg zs, .w32 _, .sl n xs, .sl m ys] => obind (un8 zs) fun s => obind (un8 xs) fun a => obind (un8 ys) fun b => guardO (s.length = 8 ∧ a.length = n ∧ b.length = m ∧ n ≤ 9223372036854775807 ∧ m ≤ 9223372036854775807) (some (.b true))
  | _ => none

set_option maxHeartbeats 1000000 in
theorem law7c_ok : PureOK Tryd.prog GLh 9 law7cG := by
  refine pure_of_awp Tryd.func9 (bodyOf_some rfl) ?_
  intro args r hg
  unfold law7cG at hg
  split at hg
  · rename_i zs leaf n xs m ys
    replace hg := obind_inv hg; obtain ⟨seed, hb0, hg⟩ := hg
    replace hg := obind_inv hg; obtain ⟨a, hb, hg⟩ := hg
    replace hg := obind_inv hg; obtain ⟨b, hb2, hg⟩ := hg
    replace hg := guardO_inv hg; obtain ⟨⟨hs8, hn, hm, hbig, hbig2⟩, hg⟩ := hg
    obtain rfl := Option.some.inj hg
    have := un8_inv _ hb0; subst this
    have := un8_inv _ hb; subst this
    have := un8_inv _ hb2; subst this
    subst hn; subst hm
    clear hg hb hb2 hb0
    refine ⟨Nat.le_of_ble_eq_true rfl, fun nx => ?_⟩
    have hsg := signL_len seed leaf (digL a)
    have hpl := publicL_len seed leaf
    have hop := openR_y b (signL seed leaf (digL a)) hsg
    have hol := openL_len (digL b) (signL seed leaf (digL a))
    refine awp_seqP rfl ?_
    refine awp_regP (Γ := noEnv) [1, 2, 3, 4] (noEnv_ok _ _) rfl rfl rfl (fun K hK => ?_)
    simp only [Tryd.f9, bodyOf, Option.getD_some, cl, rOps, lights, light, rN, List.size_toArray, List.length_cons, List.length_nil, Nat.reduceAdd, Nat.zero_add, List.map_cons, List.map_nil, Option.map_none]
    simp (maxSteps := 300000) (disch := omega) only [go_sem, Nat.reduceAdd, ↓reduceIte]
    with_reducible refine hK _ ?_
    clear hK K
    refine nx_then ?_
    refine awp_seqP rfl ?_
    refine awp_seqP rfl ?_
    refine awp_regP (Γ := envL [(28, .pure true known7G)]) [15, 1, 2, 3, 4] (envOK_cons ok28 envOK_nil) rfl rfl rfl (fun K hK => ?_)
    simp only [Tryd.f9, bodyOf, Option.getD_some, cl, cr, rOps, lights, light, rN, List.size_toArray, List.length_cons, List.length_nil, Nat.reduceAdd, Nat.zero_add, List.map_cons, List.map_nil, Option.map_none]
    simp (maxSteps := 300000) (disch := omega) only [go_sem, Nat.reduceAdd, ↓reduceIte]
    with_reducible refine hK _ ?_
    clear hK K
    refine nx_then ?_
    refine awp_ifB (.tmp 15) rfl rfl rfl (fun h => ?_) (fun h => ?_)
    · skip
      refine awp_drop rfl ?_
      cases h
    · skip
      refine awp_drop rfl ?_
      clear h
      by_cases ha : 200 < a.length
      · skip
        have ha2 : decide (200 < (a.length : Int)) = true := decide_eq_true (by omega)
        refine awp_skipP rfl ?_
        refine nx_then ?_
        refine awp_seqP rfl ?_
        refine awp_seqP rfl ?_
        refine awp_regP (Γ := noEnv) [23, 1, 2, 3, 4] (noEnv_ok _ _) rfl rfl rfl (fun K hK => ?_)
        simp only [Tryd.f9, bodyOf, Option.getD_some, cl, cr, rOps, lights, light, rN, List.size_toArray, List.length_cons, List.length_nil, Nat.reduceAdd, Nat.zero_add, List.map_cons, List.map_nil, Option.map_none, Option.map_some, List.getElem?_toArray, List.getElem?_cons_zero, List.getElem?_cons_succ, Option.bind_some]
        simp (maxSteps := 300000) (disch := omega) only [go_sem, Nat.reduceAdd, ↓reduceIte, ha2]
        with_reducible refine hK _ ?_
        clear hK K
        refine nx_then ?_
        refine awp_ifB (.tmp 23) rfl rfl rfl (fun h => ?_) (fun h => ?_)
        · skip
          refine awp_drop rfl ?_
          refine awp_seqP rfl ?_
          refine awp_regP (Γ := noEnv) [8] (noEnv_ok _ _) rfl rfl rfl (fun K hK => ?_)
          simp only [Tryd.f9, bodyOf, Option.getD_some, cl, cr, rOps, lights, light, rN, List.size_toArray, List.length_cons, List.length_nil, Nat.zero_add, List.map_cons, List.map_nil, Option.map_none]
          simp (maxSteps := 300000) (disch := omega) only [go_sem, ↓reduceIte]
          with_reducible refine hK _ ?_
          clear hK K
          refine nx_then ?_
          refine awp_retP rfl ?_
          refine nx_ret_then ?_
          simp (disch := omega) only [pureQ, resA, resAL, resA1, Tryd.f9, go_sem, ↓reduceIte]
        · skip
          refine awp_drop rfl ?_
          cases h
      · skip
        have ha2 : decide (200 < (a.length : Int)) = false := decide_eq_false (by omega)
        refine awp_skipP rfl ?_
        refine nx_then ?_
        refine awp_seqP rfl ?_
        refine awp_seqP rfl ?_
        refine awp_regP (Γ := noEnv) [23, 1, 2, 3, 4] (noEnv_ok _ _) rfl rfl rfl (fun K hK => ?_)
        simp only [Tryd.f9, bodyOf, Option.getD_some, cl, cr, rOps, lights, light, rN, List.size_toArray, List.length_cons, List.length_nil, Nat.reduceAdd, Nat.zero_add, List.map_cons, List.map_nil, Option.map_none, Option.map_some, List.getElem?_toArray, List.getElem?_cons_zero, List.getElem?_cons_succ, Option.bind_some]
        simp (maxSteps := 300000) (disch := omega) only [go_sem, Nat.reduceAdd, reduceCtorEq, ↓reduceIte, ha2]
        with_reducible refine hK _ ?_
        clear hK K
        refine nx_then ?_
        refine awp_ifD (.tmp 23) rfl rfl rfl (fun h => ?_) (fun h => ?_)
        · skip
          refine awp_drop rfl ?_
          refine awp_seqP rfl ?_
          refine awp_regP (Γ := noEnv) [8] (noEnv_ok _ _) rfl rfl rfl (fun K hK => ?_)
          simp only [Tryd.f9, bodyOf, Option.getD_some, cl, cr, rOps, lights, light, rN, List.size_toArray, List.length_cons, List.length_nil, Nat.zero_add, List.map_cons, List.map_nil, Option.map_none]
          simp (maxSteps := 300000) (disch := omega) only [go_sem, ↓reduceIte]
          with_reducible refine hK _ ?_
          clear hK K
          refine nx_then ?_
          refine awp_retP rfl ?_
          refine nx_ret_then ?_
          simp (disch := omega) only [pureQ, resA, resAL, resA1, Tryd.f9, go_sem, ↓reduceIte]
        · skip
          refine awp_drop rfl ?_
          refine awp_skipP rfl ?_
          refine nx_then ?_
          refine awp_seqP rfl ?_
          refine awp_regP (Γ := envL [(29, .fresh true signG)]) [1, 2, 3, 4, 9] (envOK_cons ok29 envOK_nil) rfl rfl rfl (fun K hK => ?_)
          simp only [Tryd.f9, bodyOf, Option.getD_some, cl, cr, rOps, lights, light, rN, List.size_toArray, List.length_cons, List.length_nil, Nat.reduceAdd, Nat.zero_add, List.map_cons, List.map_nil, Option.map_none]
          simp (maxSteps := 300000) (disch := omega) only [go_sem, Nat.reduceAdd, ↓reduceIte]
          with_reducible refine hK _ ?_
          clear hK K
          refine nx_then ?_
          refine awp_seqP rfl ?_
          refine awp_regP (Γ := envL [(30, .pure true openG)]) [1, 2, 3, 4, 9, 10, 11] (envOK_cons ok30 envOK_nil) rfl rfl rfl (fun K hK => ?_)
          simp only [Tryd.f9, bodyOf, Option.getD_some, cl, cr, rOps, lights, light, rN, List.size_toArray, List.length_cons, List.length_nil, Nat.reduceAdd, Nat.zero_add, List.map_cons, List.map_nil, Option.map_none]
          simp (maxSteps := 300000) (disch := omega) only [go_sem, Nat.reduceAdd, Nat.reduceLeDiff, ↓reduceIte, hop]
          with_reducible refine hK _ ?_
          clear hK K
          refine nx_then ?_
          refine awp_seqP rfl ?_
          refine awp_regP (Γ := envL [(37, .pure true openG)]) [1, 2, 3, 4, 10, 11, 12, 13] (envOK_cons ok37 envOK_nil) rfl rfl rfl (fun K hK => ?_)
          simp only [Tryd.f9, bodyOf, Option.getD_some, cl, cr, rOps, lights, light, rN, List.size_toArray, List.length_cons, List.length_nil, Nat.reduceAdd, Nat.zero_add, List.map_cons, List.map_nil, Option.map_none]
          simp (maxSteps := 300000) (disch := omega) only [go_sem, Nat.reduceAdd, Nat.reduceLeDiff, ↓reduceIte, hop]
          with_reducible refine hK _ ?_
          clear hK K
          refine nx_then ?_
          refine awp_seqP rfl ?_
          refine awp_seqP rfl ?_
          refine awp_regP (Γ := noEnv) [50, 1, 2, 3, 4, 10] (noEnv_ok _ _) rfl rfl rfl (fun K hK => ?_)
          simp only [Tryd.f9, bodyOf, Option.getD_some, cl, cr, rOps, lights, light, rN, List.size_toArray, List.length_cons, List.length_nil, Nat.reduceAdd, Nat.zero_add, List.map_cons, List.map_nil, Option.map_none, Option.map_some, List.getElem?_toArray, List.getElem?_cons_zero, List.getElem?_cons_succ, Option.bind_some]
          simp (maxSteps := 300000) (disch := omega) only [go_sem, Nat.reduceAdd, Nat.reduceLeDiff, reduceCtorEq, ↓reduceIte]
          with_reducible refine hK _ ?_
          clear hK K
          refine nx_then ?_
          refine awp_ifB (.tmp 50) rfl rfl rfl (fun h => ?_) (fun h => ?_)
          · skip
            refine awp_drop rfl ?_
            cases h
          · skip
            refine awp_drop rfl ?_
            clear h
            by_cases hd : digL a = digL b
            · skip
              have hos : openL (digL b) (signL seed leaf (digL a)) = publicL seed leaf := by rw [← hd]; exact open_sign _ _ _
              have hd2 : decide (digL a = digL b) = true := decide_eq_true hd
              refine awp_skipP rfl ?_
              refine nx_then ?_
              refine awp_seqP rfl ?_
              refine awp_drwP (Γ := envL [(35, .pure true digG), (33, .pure true pubG)]) (fun k => if k = 1 then 0 else if k = 3 then 0 else if k = 6 then 22 else if k = 7 then 22 else if k = 9 then 22 else 2) [8] mixed (envOK_cons ok35 (envOK_cons ok33 envOK_nil)) rfl rfl rfl (by kernel_rfl) (fun K hK => ?_)
              simp only [Tryd.f9, bodyOf, Option.getD_some, cl, cr, rOps, lights, light, rN, List.size_toArray, List.length_cons, List.length_nil, Nat.reduceAdd, Nat.zero_add, List.map_cons, List.map_nil, Option.map_none, Option.map_some, List.getElem?_toArray, List.getElem?_cons_zero, List.getElem?_cons_succ, Option.bind_some]
              simp (maxSteps := 300000) (disch := omega) only [go_sem, Nat.reduceAdd, Nat.reduceLeDiff, reduceCtorEq, ↓reduceIte, hd2, hos]
              with_reducible refine hK _ ?_
              clear hK K
              refine nx_then ?_
              refine awp_retP rfl ?_
              simp (disch := omega) only [pureQ, resA, resAL, resA1, Tryd.f9, go_sem, ↓reduceIte]
            · skip
              have hd2 : decide (digL a = digL b) = false := decide_eq_false hd
              refine awp_skipP rfl ?_
              refine nx_then ?_
              refine awp_seqP rfl ?_
              refine awp_drwP (Γ := envL [(35, .pure true digG), (33, .pure true pubG)]) (fun k => if k = 1 then 0 else if k = 3 then 0 else if k = 6 then 22 else if k = 7 then 22 else if k = 9 then 22 else 2) [8] mixed (envOK_cons ok35 (envOK_cons ok33 envOK_nil)) rfl rfl rfl (by kernel_rfl) (fun K hK => ?_)
              simp only [Tryd.f9, bodyOf, Option.getD_some, cl, cr, rOps, lights, light, rN, List.size_toArray, List.length_cons, List.length_nil, Nat.reduceAdd, Nat.zero_add, List.map_cons, List.map_nil, Option.map_none, Option.map_some, List.getElem?_toArray, List.getElem?_cons_zero, List.getElem?_cons_succ, Option.bind_some]
              simp (maxSteps := 300000) (disch := omega) only [go_sem, Nat.reduceAdd, ↓reduceIte, hd2]
              with_reducible refine hK _ ?_
              clear hK K
              refine nx_then ?_
              refine awp_retP rfl ?_
              simp (disch := omega) only [pureQ, resA, resAL, resA1, Tryd.f9, go_sem, ↓reduceIte]
  · cases hg
theorem ok9 : EntOK Tryd.prog GLh 9 (.pure true law7cG) := ⟨⟨_, Tryd.func9, rfl, rfl⟩, law7c_ok⟩
end Go.AX
