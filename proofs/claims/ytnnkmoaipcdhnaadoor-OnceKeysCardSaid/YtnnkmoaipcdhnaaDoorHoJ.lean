/-
  Once, part J: the statements of layer 7, walked.
-/
import Derived.Test.YtnnkmoaipcdhnaaDoorHoK
namespace Go.AX
open Go Go.Proofs

theorem ib4 : isBoolT Tryd.prog 4 = true := by kernel_rfl
theorem nc512 : ((512 : Nat) : Int) = 512 := (rfl)
theorem seed_bld : splice (c8 (List.replicate 8 0#8)) 0 [AV.w8 1#8] = c8 seed7 := (rfl)
theorem seed7_len : seed7.length = 8 := (rfl)
attribute [go_sem] List.getElem?_cons_zero List.getElem?_cons_succ Bool.and_true Bool.true_and Bool.and_self ib4
def known7G : List AV → Option AV
  | [] => some (.b true)
  | _ => none
theorem known7G_eq : known7G [] = some (.b true) := (rfl)
attribute [go_sem] known7G_eq

set_option maxHeartbeats 1000000 in
theorem known7_ok : PureOK Tryd.prog GLh 28 known7G := by
  refine pure_of_awp Tryd.func28 (bodyOf_some rfl) ?_
  intro args r hg
  unfold known7G at hg
  split at hg
  · obtain rfl := Option.some.inj hg
    refine ⟨Nat.le_of_ble_eq_true rfl, fun nx => ?_⟩
    have hsg := signL_len seed7 3#32 (digL [104#8, 105#8])
    have hop := openR_sign seed7 [104#8, 105#8] [104#8, 105#8] 3#32 rfl
    have hnl : openR [104#8, 105#8] [] = .tup [.agg (c8 (List.replicate 8 0#8)), .b false] := openR_n _ _ (by simp)
    have hpl := publicL_len seed7 3#32
    have hs7 := seed7_len
    have hr8 : (List.replicate 8 0#8 : List B8).length = 8 := List.length_replicate
    refine awp_seqP rfl ?_
    refine awp_regP (Γ := noEnv) [] (noEnv_ok _ _) rfl rfl rfl (fun K hK => ?_)
    simp only [Tryd.f28, bodyOf, Option.getD_some, cl, rOps, lights, light, rN, List.size_toArray, List.length_cons, List.length_nil, Nat.zero_add, List.map_cons, List.map_nil, Option.map_none]
    simp (maxSteps := 300000) (disch := omega) only [go_sem]
    with_reducible refine hK _ ?_
    clear hK K
    refine nx_then ?_
    refine awp_seqP rfl ?_
    refine awp_regP (Γ := noEnv) [1] (noEnv_ok _ _) rfl rfl rfl (fun K hK => ?_)
    simp only [Tryd.f28, bodyOf, Option.getD_some, cl, cr, rOps, lights, light, rN, List.size_toArray, List.length_cons, List.length_nil, Nat.reduceAdd, Nat.zero_add, List.map_cons, List.map_nil, Option.map_none]
    simp (maxSteps := 300000) (disch := omega) only [go_sem, Nat.reduceAdd, Nat.reduceLeDiff, Int.reduceLE, Int.reduceLT, BitVec.reduceOfInt, ↓reduceIte, seed_bld, seed7_len]
    with_reducible refine hK _ ?_
    clear hK K
    refine nx_then ?_
    refine awp_seqP rfl ?_
    refine awp_regP (Γ := envL [(29, .fresh true signG)]) [1, 2] (envOK_cons ok29 envOK_nil) rfl rfl rfl (fun K hK => ?_)
    simp only [Tryd.f28, bodyOf, Option.getD_some, cl, cr, rOps, lights, light, rN, List.size_toArray, List.length_cons, List.length_nil, Nat.reduceAdd, Nat.zero_add, List.map_cons, List.map_nil, Option.map_none]
    simp (maxSteps := 300000) (disch := omega) only [go_sem, Nat.reduceAdd, Nat.reduceLeDiff, Nat.reduceLT, Int.reduceLE, Int.reduceLT, BitVec.reduceOfInt, ↓reduceIte, seed7_len]
    with_reducible refine hK _ ?_
    clear hK K
    refine nx_then ?_
    refine awp_seqP rfl ?_
    refine awp_regP (Γ := envL [(30, .pure true openG)]) [1, 2, 3, 4] (envOK_cons ok30 envOK_nil) rfl rfl rfl (fun K hK => ?_)
    simp only [Tryd.f28, bodyOf, Option.getD_some, cl, cr, rOps, lights, light, rN, List.size_toArray, List.length_cons, List.length_nil, Nat.reduceAdd, Nat.zero_add, List.map_cons, List.map_nil, Option.map_none]
    simp (maxSteps := 300000) (disch := omega) only [go_sem, Nat.reduceAdd, Nat.reduceLeDiff, Nat.reduceLT, Int.reduceLE, Int.reduceLT, BitVec.reduceOfInt, ↓reduceIte, hop, hsg, hpl]
    with_reducible refine hK _ ?_
    clear hK K
    refine nx_then ?_
    refine awp_seqP rfl ?_
    refine awp_regP (Γ := envL [(30, .pure true openG)]) [1, 2, 3, 4, 6] (envOK_cons ok30 envOK_nil) rfl rfl rfl (fun K hK => ?_)
    simp only [Tryd.f28, bodyOf, Option.getD_some, cl, cr, rOps, lights, light, rN, List.size_toArray, List.length_cons, List.length_nil, Nat.reduceAdd, Nat.zero_add, List.map_cons, List.map_nil, Option.map_none]
    simp (maxSteps := 300000) (disch := omega) only [go_sem, Nat.reduceAdd, Nat.reduceLeDiff, Nat.reduceLT, Int.reduceLE, Int.reduceLT, BitVec.reduceOfInt, ↓reduceIte, hnl]
    with_reducible refine hK _ ?_
    clear hK K
    refine nx_then ?_
    refine awp_seqP rfl ?_
    refine awp_drwP (Γ := envL [(33, .pure true pubG), (35, .pure true digG)]) (fun k => if k = 17 then 0 else if k = 23 then 0 else if k = 24 then 0 else 2) [0] mixed (envOK_cons ok33 (envOK_cons ok35 envOK_nil)) rfl rfl rfl (by kernel_rfl) (fun K hK => ?_)
    simp only [Tryd.f28, bodyOf, Option.getD_some, cl, cr, rOps, lights, light, rN, List.size_toArray, List.length_cons, List.length_nil, Nat.reduceAdd, Nat.zero_add, List.map_cons, List.map_nil, Option.map_none, Option.map_some, List.getElem?_toArray, List.getElem?_cons_zero, List.getElem?_cons_succ, Option.bind_some]
    simp (maxSteps := 300000) (disch := omega) only [go_sem, Nat.reduceAdd, Nat.reduceLeDiff, Nat.reduceLT, Int.reduceLE, Int.reduceLT, BitVec.reduceOfInt, ↓reduceIte, hpl, k7a, k7b, nc512]
    with_reducible refine hK _ ?_
    clear hK K
    refine nx_then ?_
    refine awp_retP rfl ?_
    simp (disch := omega) only [pureQ, resA, resAL, resA1, Tryd.f28, go_sem, ↓reduceIte]
  · cases hg
theorem ok28 : EntOK Tryd.prog GLh 28 (.pure true known7G) := ⟨⟨_, Tryd.func28, rfl, rfl⟩, known7_ok⟩

end Go.AX
