/-
  Once, part N: the statements of layer 7, walked.
-/
import Derived.Test.YtnnkmoaipcdhnaaDoorHoJ
namespace Go.AX
open Go Go.Proofs

def law7bG : List AV → Option AV
  | [.sl n xs, .sl m ys, .w16 _] => obind (un8 xs) fun a => obind (un8 ys) fun b => guardO (a.length = n ∧ b.length = m ∧ n ≤ 9223372036854775807 ∧ m ≤ 9223372036854775807) (some (.b true))
  | _ => none

theorem repz8 (n : Nat) (x : B8) : rep n [AV.w8 x] = c8 (List.replicate n x) := by rw [rep1, c8_rep]
theorem bself (x : Bool) : (x == x) = true := by cases x <;> rfl
theorem eqb4 (a b : Bool) : binT Tryd.prog .eql 4 (.b a) (.b b) = some (.b (a == b)) := b_eql_b _ _ _ _ Tryd.underlying4
theorem n5_16 : (5#16 = 0#16) = False := by simp
theorem n8_8 : (8#8 = 0#8) = False := by simp

set_option maxHeartbeats 1000000 in
theorem law7b_ok : PureOK Tryd.prog GLh 8 law7bG := by
  refine pure_of_awp Tryd.func8 (bodyOf_some rfl) ?_
  intro args r hg
  unfold law7bG at hg
  split at hg
  · rename_i n0 xs m0 ys n
    replace hg := obind_inv hg; obtain ⟨msg, hb, hg⟩ := hg
    replace hg := obind_inv hg; obtain ⟨sig, hb2, hg⟩ := hg
    replace hg := guardO_inv hg; obtain ⟨⟨hn, hm, hbig, hbig2⟩, hg⟩ := hg
    obtain rfl := Option.some.inj hg
    have := un8_inv _ hb; subst this
    have := un8_inv _ hb2; subst this
    subst hn; subst hm
    clear hg hb hb2
    refine ⟨Nat.le_of_ble_eq_true rfl, fun nx => ?_⟩
    refine awp_seqP rfl ?_
    refine awp_regP (Γ := noEnv) [0, 1, 2] (noEnv_ok _ _) rfl rfl rfl (fun K hK => ?_)
    simp only [Tryd.f8, bodyOf, Option.getD_some, cl, rOps, lights, light, rN, List.size_toArray, List.length_cons, List.length_nil, Nat.zero_add, List.map_cons, List.map_nil, Option.map_none]
    simp (maxSteps := 300000) (disch := omega) only [go_sem, Nat.reduceAdd, ↓reduceIte]
    with_reducible refine hK _ ?_
    clear hK K
    refine nx_then ?_
    refine awp_seqP rfl ?_
    refine awp_seqP rfl ?_
    refine awp_regP (Γ := envL [(28, .pure true known7G)]) [13, 0, 1, 2] (envOK_cons ok28 envOK_nil) rfl rfl rfl (fun K hK => ?_)
    simp only [Tryd.f8, bodyOf, Option.getD_some, cl, cr, rOps, lights, light, rN, List.size_toArray, List.length_cons, List.length_nil, Nat.reduceAdd, Nat.zero_add, List.map_cons, List.map_nil, Option.map_none]
    simp (maxSteps := 300000) (disch := omega) only [go_sem, Nat.reduceAdd, ↓reduceIte]
    with_reducible refine hK _ ?_
    clear hK K
    refine nx_then ?_
    refine awp_ifB (.tmp 13) rfl rfl rfl (fun h => ?_) (fun h => ?_)
    · skip
      refine awp_drop rfl ?_
      cases h
    · skip
      refine awp_drop rfl ?_
      clear h
      by_cases ha : 300 < msg.length
      · skip
        have ha2 : decide (300 < (msg.length : Int)) = true := decide_eq_true (by omega)
        refine awp_skipP rfl ?_
        refine nx_then ?_
        refine awp_seqP rfl ?_
        refine awp_seqP rfl ?_
        refine awp_regP (Γ := noEnv) [21, 0, 1, 2] (noEnv_ok _ _) rfl rfl rfl (fun K hK => ?_)
        simp only [Tryd.f8, bodyOf, Option.getD_some, cl, cr, rOps, lights, light, rN, List.size_toArray, List.length_cons, List.length_nil, Nat.reduceAdd, Nat.zero_add, List.map_cons, List.map_nil, Option.map_none, Option.map_some, List.getElem?_toArray, List.getElem?_cons_zero, List.getElem?_cons_succ, Option.bind_some]
        simp (maxSteps := 300000) (disch := omega) only [go_sem, Nat.reduceAdd, ↓reduceIte, ha2]
        with_reducible refine hK _ ?_
        clear hK K
        refine nx_then ?_
        refine awp_ifB (.tmp 21) rfl rfl rfl (fun h => ?_) (fun h => ?_)
        · skip
          refine awp_drop rfl ?_
          refine awp_seqP rfl ?_
          refine awp_regP (Γ := noEnv) [6] (noEnv_ok _ _) rfl rfl rfl (fun K hK => ?_)
          simp only [Tryd.f8, bodyOf, Option.getD_some, cl, cr, rOps, lights, light, rN, List.size_toArray, List.length_cons, List.length_nil, Nat.zero_add, List.map_cons, List.map_nil, Option.map_none]
          simp (maxSteps := 300000) (disch := omega) only [go_sem, ↓reduceIte]
          with_reducible refine hK _ ?_
          clear hK K
          refine nx_then ?_
          refine awp_retP rfl ?_
          refine nx_ret_then ?_
          simp (disch := omega) only [pureQ, resA, resAL, resA1, Tryd.f8, go_sem, ↓reduceIte]
        · skip
          refine awp_drop rfl ?_
          cases h
      · skip
        have ha2 : decide (300 < (msg.length : Int)) = false := decide_eq_false (by omega)
        refine awp_skipP rfl ?_
        refine nx_then ?_
        refine awp_seqP rfl ?_
        refine awp_seqP rfl ?_
        refine awp_regP (Γ := noEnv) [21, 0, 1, 2] (noEnv_ok _ _) rfl rfl rfl (fun K hK => ?_)
        simp only [Tryd.f8, bodyOf, Option.getD_some, cl, cr, rOps, lights, light, rN, List.size_toArray, List.length_cons, List.length_nil, Nat.reduceAdd, Nat.zero_add, List.map_cons, List.map_nil, Option.map_none, Option.map_some, List.getElem?_toArray, List.getElem?_cons_zero, List.getElem?_cons_succ, Option.bind_some]
        simp (maxSteps := 300000) (disch := omega) only [go_sem, Nat.reduceAdd, reduceCtorEq, ↓reduceIte, ha2]
        with_reducible refine hK _ ?_
        clear hK K
        refine nx_then ?_
        refine awp_ifD (.tmp 21) rfl rfl rfl (fun h => ?_) (fun h => ?_)
        · skip
          refine awp_drop rfl ?_
          refine awp_seqP rfl ?_
          refine awp_regP (Γ := noEnv) [6] (noEnv_ok _ _) rfl rfl rfl (fun K hK => ?_)
          simp only [Tryd.f8, bodyOf, Option.getD_some, cl, cr, rOps, lights, light, rN, List.size_toArray, List.length_cons, List.length_nil, Nat.zero_add, List.map_cons, List.map_nil, Option.map_none]
          simp (maxSteps := 300000) (disch := omega) only [go_sem, ↓reduceIte]
          with_reducible refine hK _ ?_
          clear hK K
          refine nx_then ?_
          refine awp_retP rfl ?_
          refine nx_ret_then ?_
          simp (disch := omega) only [pureQ, resA, resAL, resA1, Tryd.f8, go_sem, ↓reduceIte]
        · skip
          refine awp_drop rfl ?_
          have hr : (List.replicate 512 0#8 : List B8).length = 512 := List.length_replicate
          refine awp_skipP rfl ?_
          refine nx_then ?_
          refine awp_seqP rfl ?_
          refine awp_regP (Γ := noEnv) [0, 1, 2, 7] (noEnv_ok _ _) rfl rfl rfl (fun K hK => ?_)
          simp only [Tryd.f8, bodyOf, Option.getD_some, cl, cr, rOps, lights, light, rN, List.size_toArray, List.length_cons, List.length_nil, Nat.reduceAdd, Nat.zero_add, List.map_cons, List.map_nil, Option.map_none]
          simp (maxSteps := 300000) (disch := omega) only [go_sem, Nat.reduceAdd, Nat.reduceLT, Int.reduceLE, Int.reduceToNat, ↓reduceIte, repz8]
          with_reducible refine hK _ ?_
          clear hK K
          refine nx_then ?_
          obtain ⟨l, hl, hlen⟩ : ∃ l : List B8, splice8 (List.replicate 512 0#8) 0 (List.take (min sig.length 512) sig) = l ∧ l.length = 512 := ⟨_, rfl, by rw [splice8_len _ _ _ (by rw [List.length_take, List.length_replicate]; omega), List.length_replicate]⟩
          refine awp_seqP rfl ?_
          refine awp_regP (Γ := noEnv) [0, 2, 7] (noEnv_ok _ _) rfl rfl rfl (fun K hK => ?_)
          simp only [Tryd.f8, bodyOf, Option.getD_some, cl, cr, rOps, lights, light, rN, List.size_toArray, List.length_cons, List.length_nil, Nat.reduceAdd, Nat.zero_add, List.map_cons, List.map_nil, Option.map_none]
          simp (maxSteps := 300000) (disch := omega) only [go_sem, Nat.reduceAdd, Nat.reduceLeDiff, ↓reduceIte, hr, c8_splice, hl]
          with_reducible refine hK _ ?_
          clear hK K
          refine nx_then ?_
          refine awp_seqP rfl ?_
          refine awp_seqP rfl ?_
          refine awp_regP (Γ := noEnv) [28, 0, 2, 7] (noEnv_ok _ _) rfl rfl rfl (fun K hK => ?_)
          simp only [Tryd.f8, bodyOf, Option.getD_some, cl, cr, rOps, lights, light, rN, List.size_toArray, List.length_cons, List.length_nil, Nat.reduceAdd, Nat.zero_add, List.map_cons, List.map_nil, Option.map_none]
          simp (maxSteps := 300000) (disch := omega) only [go_sem, Nat.reduceAdd, Int.reduceLE, Int.reduceLT, BitVec.reduceOfInt, ↓reduceIte, n5_16]
          with_reducible refine hK _ ?_
          clear hK K
          refine nx_then ?_
          obtain ⟨m, hm, hm2⟩ : ∃ m : Nat, n.toNat % 513 = m ∧ m ≤ 512 := ⟨_, rfl, by omega⟩
          · skip
            refine awp_ifD (.tmp 28) rfl rfl rfl (fun h => ?_) (fun h => ?_)
            · skip
              refine awp_drop rfl ?_
              have e1 : ((n.toNat : Int).tmod 513) = (m : Int) := by rw [Int.tmod_eq_emod_of_nonneg (by omega)]; omega
              have hlt : (l.take m).length = m := by rw [List.length_take]; omega
              refine awp_regP (Γ := noEnv) [0, 7] (noEnv_ok _ _) rfl rfl rfl (fun K hK => ?_)
              simp only [Tryd.f8, bodyOf, Option.getD_some, cl, cr, rOps, lights, light, rN, List.size_toArray, List.length_cons, List.length_nil, Nat.reduceAdd, Nat.zero_add, List.map_cons, List.map_nil, Option.map_none]
              simp (maxSteps := 300000) (disch := omega) only [go_sem, Nat.reduceAdd, Int.reduceLE, Int.reduceToNat, Int.reduceEq, ↓reduceIte, e1, Nat.sub_zero]
              with_reducible refine hK _ ?_
              clear hK K
              refine nx_then ?_
              obtain ⟨p, ok, hp, hpl⟩ := openR_cases msg (l.take m)
              refine awp_seqP rfl ?_
              refine awp_regP (Γ := envL [(30, .pure true openG)]) [0, 7, 8, 9] (envOK_cons ok30 envOK_nil) rfl rfl rfl (fun K hK => ?_)
              simp only [Tryd.f8, bodyOf, Option.getD_some, cl, cr, rOps, lights, light, rN, List.size_toArray, List.length_cons, List.length_nil, Nat.reduceAdd, Nat.zero_add, List.map_cons, List.map_nil, Option.map_none]
              simp (maxSteps := 300000) (disch := omega) only [go_sem, Nat.reduceAdd, Nat.reduceLeDiff, ↓reduceIte, hp, hlt]
              with_reducible refine hK _ ?_
              clear hK K
              refine nx_then ?_
              refine awp_seqP rfl ?_
              refine awp_regP (Γ := envL [(37, .pure true openG)]) [8, 9, 10, 11] (envOK_cons ok37 envOK_nil) rfl rfl rfl (fun K hK => ?_)
              simp only [Tryd.f8, bodyOf, Option.getD_some, cl, cr, rOps, lights, light, rN, List.size_toArray, List.length_cons, List.length_nil, Nat.reduceAdd, Nat.zero_add, List.map_cons, List.map_nil, Option.map_none]
              simp (maxSteps := 300000) (disch := omega) only [go_sem, Nat.reduceAdd, Nat.reduceLeDiff, ↓reduceIte, hp, hlt]
              with_reducible refine hK _ ?_
              clear hK K
              refine nx_then ?_
              refine awp_seqP rfl ?_
              refine awp_regP (Γ := noEnv) [6] (noEnv_ok _ _) rfl rfl rfl (fun K hK => ?_)
              simp only [Tryd.f8, bodyOf, Option.getD_some, cl, cr, rOps, lights, light, rN, List.size_toArray, List.length_cons, List.length_nil, Nat.reduceAdd, Nat.zero_add, List.map_cons, List.map_nil, Option.map_none, Option.map_some, List.getElem?_toArray, List.getElem?_cons_zero, List.getElem?_cons_succ, Option.bind_some]
              simp (maxSteps := 300000) (disch := omega) only [go_sem, Nat.reduceAdd, ↓reduceIte, eqb4, bself]
              with_reducible refine hK _ ?_
              clear hK K
              refine nx_then ?_
              refine awp_retP rfl ?_
              simp (disch := omega) only [pureQ, resA, resAL, resA1, Tryd.f8, go_sem, ↓reduceIte]
            · skip
              refine awp_drop rfl ?_
              refine awp_skipP rfl ?_
              refine nx_then ?_
              refine awp_seqP rfl ?_
              refine awp_keep [0, 7] ?_
              simp only [kf_nil, kf_cons, look_cons, ↓reduceIte, Nat.reduceEqDiff]
              obtain ⟨p, ok, hp, hpl⟩ := openR_cases msg l
              refine awp_regP (Γ := envL [(30, .pure true openG)]) [0, 7, 8, 9] (envOK_cons ok30 envOK_nil) rfl rfl rfl (fun K hK => ?_)
              simp only [Tryd.f8, bodyOf, Option.getD_some, cl, cr, rOps, lights, light, rN, List.size_toArray, List.length_cons, List.length_nil, Nat.reduceAdd, Nat.zero_add, List.map_cons, List.map_nil, Option.map_none]
              simp (maxSteps := 300000) (disch := omega) only [go_sem, Nat.reduceAdd, Nat.reduceLeDiff, ↓reduceIte, hp]
              with_reducible refine hK _ ?_
              clear hK K
              refine nx_then ?_
              refine awp_seqP rfl ?_
              refine awp_regP (Γ := envL [(37, .pure true openG)]) [8, 9, 10, 11] (envOK_cons ok37 envOK_nil) rfl rfl rfl (fun K hK => ?_)
              simp only [Tryd.f8, bodyOf, Option.getD_some, cl, cr, rOps, lights, light, rN, List.size_toArray, List.length_cons, List.length_nil, Nat.reduceAdd, Nat.zero_add, List.map_cons, List.map_nil, Option.map_none]
              simp (maxSteps := 300000) (disch := omega) only [go_sem, Nat.reduceAdd, Nat.reduceLeDiff, ↓reduceIte, hp]
              with_reducible refine hK _ ?_
              clear hK K
              refine nx_then ?_
              refine awp_seqP rfl ?_
              refine awp_regP (Γ := noEnv) [6] (noEnv_ok _ _) rfl rfl rfl (fun K hK => ?_)
              simp only [Tryd.f8, bodyOf, Option.getD_some, cl, cr, rOps, lights, light, rN, List.size_toArray, List.length_cons, List.length_nil, Nat.reduceAdd, Nat.zero_add, List.map_cons, List.map_nil, Option.map_none, Option.map_some, List.getElem?_toArray, List.getElem?_cons_zero, List.getElem?_cons_succ, Option.bind_some]
              simp (maxSteps := 300000) (disch := omega) only [go_sem, Nat.reduceAdd, ↓reduceIte, eqb4, bself]
              with_reducible refine hK _ ?_
              clear hK K
              refine nx_then ?_
              refine awp_retP rfl ?_
              simp (disch := omega) only [pureQ, resA, resAL, resA1, Tryd.f8, go_sem, ↓reduceIte]
  · cases hg
theorem ok8 : EntOK Tryd.prog GLh 8 (.pure true law7bG) := ⟨⟨_, Tryd.func8, rfl, rfl⟩, law7b_ok⟩

def law7dG : List AV → Option AV
  | [.agg xs, .w32 _, .w32 _, .w8 _] => obind (un8 xs) fun s => guardO (s.length = 8) (some (.b true))
  | _ => none

set_option maxHeartbeats 1000000 in
theorem law7d_ok : PureOK Tryd.prog GLh 10 law7dG := by
  refine pure_of_awp Tryd.func10 (bodyOf_some rfl) ?_
  intro args r hg
  unfold law7dG at hg
  split at hg
  · rename_i xs a b bit
    replace hg := obind_inv hg; obtain ⟨seed, hb, hg⟩ := hg
    replace hg := guardO_inv hg; obtain ⟨hs8, hg⟩ := hg
    obtain rfl := Option.some.inj hg
    have := un8_inv _ hb; subst this
    clear hg hb
    refine ⟨Nat.le_of_ble_eq_true rfl, fun nx => ?_⟩
    have hpa := publicL_len seed a
    have hpb := publicL_len seed b
    have hix : (bit / 8#8 % 8#8).toNat < 8 := by rw [BitVec.toNat_umod]; exact Nat.mod_lt _ (by decide)
    refine awp_seqP rfl ?_
    refine awp_regP (Γ := noEnv) [1, 2, 3, 4] (noEnv_ok _ _) rfl rfl rfl (fun K hK => ?_)
    simp only [Tryd.f10, bodyOf, Option.getD_some, cl, rOps, lights, light, rN, List.size_toArray, List.length_cons, List.length_nil, Nat.reduceAdd, Nat.zero_add, List.map_cons, List.map_nil, Option.map_none]
    simp (maxSteps := 300000) (disch := omega) only [go_sem, Nat.reduceAdd, ↓reduceIte]
    with_reducible refine hK _ ?_
    clear hK K
    refine nx_then ?_
    refine awp_seqP rfl ?_
    refine awp_seqP rfl ?_
    refine awp_regP (Γ := envL [(28, .pure true known7G)]) [14, 1, 2, 3, 4] (envOK_cons ok28 envOK_nil) rfl rfl rfl (fun K hK => ?_)
    simp only [Tryd.f10, bodyOf, Option.getD_some, cl, cr, rOps, lights, light, rN, List.size_toArray, List.length_cons, List.length_nil, Nat.reduceAdd, Nat.zero_add, List.map_cons, List.map_nil, Option.map_none]
    simp (maxSteps := 300000) (disch := omega) only [go_sem, Nat.reduceAdd, ↓reduceIte]
    with_reducible refine hK _ ?_
    clear hK K
    refine nx_then ?_
    refine awp_ifB (.tmp 14) rfl rfl rfl (fun h => ?_) (fun h => ?_)
    · skip
      refine awp_drop rfl ?_
      cases h
    · skip
      refine awp_drop rfl ?_
      clear h
      refine awp_skipP rfl ?_
      refine nx_then ?_
      refine awp_seqP rfl ?_
      refine awp_drwP (Γ := envL [(33, .pure true pubG)]) (fun _ => 2) [1, 2, 3, 4, 9, 10] mixed (envOK_cons ok33 envOK_nil) rfl rfl rfl (by kernel_rfl) (fun K hK => ?_)
      simp only [Tryd.f10, bodyOf, Option.getD_some, cl, cr, rOps, lights, light, rN, List.size_toArray, List.length_cons, List.length_nil, Nat.reduceAdd, Nat.zero_add, List.map_cons, List.map_nil, Option.map_none]
      simp (maxSteps := 300000) (disch := omega) only [go_sem, Nat.reduceAdd, Nat.reduceLeDiff, ↓reduceIte]
      with_reducible refine hK _ ?_
      clear hK K
      refine nx_then ?_
      refine awp_seqP rfl ?_
      refine awp_regP (Γ := noEnv) [1, 2, 3, 4, 9, 10, 11] (noEnv_ok _ _) rfl rfl rfl (fun K hK => ?_)
      simp only [Tryd.f10, bodyOf, Option.getD_some, cl, cr, rOps, lights, light, rN, List.size_toArray, List.length_cons, List.length_nil, Nat.reduceAdd, Nat.zero_add, List.map_cons, List.map_nil, Option.map_none]
      simp (maxSteps := 300000) (disch := omega) only [go_sem, Nat.reduceAdd, Nat.reduceLeDiff, ↓reduceIte]
      with_reducible refine hK _ ?_
      clear hK K
      refine nx_then ?_
      generalize hi : bit / 8#8 % 8#8 = i at hix
      refine awp_seqP rfl ?_
      refine awp_regP (Γ := noEnv) [1, 2, 4, 9, 10, 11] (noEnv_ok _ _) rfl rfl rfl (fun K hK => ?_)
      simp only [Tryd.f10, bodyOf, Option.getD_some, cl, cr, rOps, lights, light, rN, List.size_toArray, List.length_cons, List.length_nil, Nat.reduceAdd, Nat.zero_add, List.map_cons, List.map_nil, Option.map_none]
      simp (maxSteps := 300000) (disch := omega) only [go_sem, Nat.reduceAdd, Int.reduceLE, Int.reduceLT, BitVec.reduceOfInt, ↓reduceIte, n8_8, hi]
      with_reducible refine hK _ ?_
      clear hK K
      refine nx_then ?_
      generalize hot : seed.set i.toNat (seed.getD i.toNat 0#8 ^^^ 1#8 <<< (bit % 8#8).toNat) = other
      have hol : other.length = 8 := by rw [← hot, List.length_set, hs8]
      have hpo := publicL_len other a
      refine awp_seqP rfl ?_
      refine awp_regP (Γ := envL [(33, .pure true pubG)]) [1, 2, 4, 9, 10, 11, 12] (envOK_cons ok33 envOK_nil) rfl rfl rfl (fun K hK => ?_)
      simp only [Tryd.f10, bodyOf, Option.getD_some, cl, cr, rOps, lights, light, rN, List.size_toArray, List.length_cons, List.length_nil, Nat.reduceAdd, Nat.zero_add, List.map_cons, List.map_nil, Option.map_none]
      simp (maxSteps := 300000) (disch := omega) only [go_sem, Nat.reduceAdd, Nat.reduceLeDiff, ↓reduceIte]
      with_reducible refine hK _ ?_
      clear hK K
      refine nx_then ?_
      by_cases hab : a = b
      · skip
        subst hab
        refine awp_seqP rfl ?_
        refine awp_drwP (Γ := envL [(34, .pure true pubG)]) (fun _ => 2) [8] mixed (envOK_cons ok34 envOK_nil) rfl rfl rfl (by kernel_rfl) (fun K hK => ?_)
        simp only [Tryd.f10, bodyOf, Option.getD_some, cl, cr, rOps, lights, light, rN, List.size_toArray, List.length_cons, List.length_nil, Nat.reduceAdd, Nat.zero_add, List.map_cons, List.map_nil, Option.map_none, Option.map_some, List.getElem?_toArray, List.getElem?_cons_zero, List.getElem?_cons_succ, Option.bind_some]
        simp (maxSteps := 300000) (disch := omega) only [go_sem, Nat.reduceAdd, Nat.reduceLeDiff, reduceCtorEq, ↓reduceIte, eqb4, bself]
        with_reducible refine hK _ ?_
        clear hK K
        refine nx_then ?_
        refine awp_retP rfl ?_
        simp (disch := omega) only [pureQ, resA, resAL, resA1, Tryd.f10, go_sem, ↓reduceIte]
      · skip
        have hd : decide (a = b) = false := decide_eq_false hab
        refine awp_seqP rfl ?_
        refine awp_drwP (Γ := envL [(34, .pure true pubG)]) (fun _ => 2) [8] mixed (envOK_cons ok34 envOK_nil) rfl rfl rfl (by kernel_rfl) (fun K hK => ?_)
        simp only [Tryd.f10, bodyOf, Option.getD_some, cl, cr, rOps, lights, light, rN, List.size_toArray, List.length_cons, List.length_nil, Nat.reduceAdd, Nat.zero_add, List.map_cons, List.map_nil, Option.map_none, Option.map_some, List.getElem?_toArray, List.getElem?_cons_zero, List.getElem?_cons_succ, Option.bind_some]
        simp (maxSteps := 300000) (disch := omega) only [go_sem, Nat.reduceAdd, Nat.reduceLeDiff, ↓reduceIte, eqb4, bself, hd]
        with_reducible refine hK _ ?_
        clear hK K
        refine nx_then ?_
        refine awp_retP rfl ?_
        simp (disch := omega) only [pureQ, resA, resAL, resA1, Tryd.f10, go_sem, ↓reduceIte]
  · cases hg
theorem ok10 : EntOK Tryd.prog GLh 10 (.pure true law7dG) := ⟨⟨_, Tryd.func10, rfl, rfl⟩, law7d_ok⟩
end Go.AX
