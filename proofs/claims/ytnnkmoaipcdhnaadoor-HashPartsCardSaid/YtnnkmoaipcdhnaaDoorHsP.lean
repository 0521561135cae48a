/-
  Hash, part P: the reference's parts and what it cuts and shortens.
-/
import Derived.Test.YtnnkmoaipcdhnaaDoorHsO
namespace Go.AX
open Go Go.Proofs

def partO (i n m : Nat) (q : List B8) (hp : H) (nx : Nat) : AO → Option (AV × H × Nat)
  | .cells xs mt => obind (un8 xs) fun b => guardO (mt = true ∧ n = b.length ∧ m = q.length ∧ n + q.length ≤ 1000000000 ∧ i < nx)
      (some (.os (nx + 1 + 3 + 15) 0 (n + 4 + q.length) 1 true, upd (del hp i) (nx + 1 + 3 + 15) (.cells (c8 (b ++ b4 q.length ++ q)) true), nx + 1 + 3 + 17))
noncomputable def partG : List AV → H → Nat → Option (AV × H × Nat)
  | [.os i 0 n 1 true, .sl m ys], hp, nx => obind (un8 ys) fun q => obind (hp i) (partO i n m q hp nx)
  | [.os i 0 n 1 true, .v (.slice none 0 0)], hp, nx => obind (hp i) (partO i n 0 [] hp nx)
  | _, _, _ => none
theorem partG_sl (i n m : Nat) (ys : List AV) (hp : H) (nx : Nat) : partG [.os i 0 n 1 true, .sl m ys] hp nx = obind (un8 ys) fun q => obind (hp i) (partO i n m q hp nx) := (rfl)
theorem partG_nil (i n : Nat) (hp : H) (nx : Nat) : partG [.os i 0 n 1 true, .v (.slice none 0 0)] hp nx = obind (hp i) (partO i n 0 [] hp nx) := (rfl)
theorem partO_c (i n m : Nat) (q : List B8) (hp : H) (nx : Nat) (xs : List AV) (mt : Bool) : partO i n m q hp nx (.cells xs mt) = obind (un8 xs) fun b => guardO (mt = true ∧ n = b.length ∧ m = q.length ∧ n + q.length ≤ 1000000000 ∧ i < nx)
      (some (.os (nx + 1 + 3 + 15) 0 (n + 4 + q.length) 1 true, upd (del hp i) (nx + 1 + 3 + 15) (.cells (c8 (b ++ b4 q.length ++ q)) true), nx + 1 + 3 + 17)) := (rfl)
theorem c8_nil : c8 [] = [] := (rfl)
theorem frzL_nil (hp : H) : frzL hp [] = some ([], hp) := (rfl)
attribute [go_sem] frzL_nil partG_sl partG_nil partO_c

set_option maxHeartbeats 4000000 in
theorem part_ok : HeapOK Tryd.prog GLh 26 partG := by
  refine heap_of_awp Tryd.func26 (bodyOf_some rfl) ?_
  intro args hp nx r hp' nx' hg
  unfold partG at hg
  split at hg
  · rename_i h2 n2 i n m ys
    replace hg := obind_inv hg; obtain ⟨q, hq, hg⟩ := hg
    replace hg := obind_inv hg; obtain ⟨o, ho, hg⟩ := hg
    obtain ⟨xs, mt⟩ := o
    rw [partO_c] at hg
    replace hg := obind_inv hg; obtain ⟨b, hb, hg⟩ := hg
    replace hg := guardO_inv hg; obtain ⟨⟨hmt, hn, hm, hbig, hid⟩, hg⟩ := hg
    simp only [Option.some.injEq, Prod.mk.injEq] at hg; obtain ⟨rfl, rfl, rfl⟩ := hg
    subst hmt
    have := un8_inv _ hb; subst this
    have := un8_inv _ hq; subst this
    subst hm; subst hn
    refine ⟨Nat.le_of_ble_eq_true rfl, by omega, fun hnone => ?_⟩
    refine awp_seqP rfl ?_
    refine awp_regP (Γ := noEnv) [0, 1] (noEnv_ok _ _) rfl rfl rfl (fun K hK => ?_)
    simp only [Tryd.f26, bodyOf, Option.getD_some, cl, rOps, lights, light, rN, List.size_toArray, List.length_cons, List.length_nil, Nat.zero_add, List.map_cons, List.map_nil, Option.map_none]
    simp (maxSteps := 300000) (disch := omega) only [go_sem, ↓reduceIte]
    with_reducible refine hK _ ?_
    clear hK K
    refine nx_then ?_
    refine awp_seqP rfl ?_
    refine awp_regP (Γ := noEnv) [0, 1, 5] (noEnv_ok _ _) rfl rfl rfl (fun K hK => ?_)
    simp only [Tryd.f26, bodyOf, Option.getD_some, cl, cr, rOps, lights, light, rN, List.size_toArray, List.length_cons, List.length_nil, Nat.reduceAdd, Nat.zero_add, List.map_cons, List.map_nil, Option.map_none]
    simp (maxSteps := 300000) (disch := omega) only [go_sem, Nat.reduceAdd, ↓reduceIte]
    with_reducible refine hK _ ?_
    clear hK K
    refine nx_then ?_
    refine awp_seqP rfl ?_
    refine awp_regP (Γ := noEnv) [4] (noEnv_ok _ _) rfl rfl rfl (fun K hK => ?_)
    simp only [Tryd.f26, bodyOf, Option.getD_some, cl, cr, rOps, lights, light, rN, List.size_toArray, List.length_cons, List.length_nil, Nat.reduceAdd, Nat.zero_add, List.map_cons, List.map_nil, Option.map_none]
    simp (maxSteps := 300000) (disch := omega) only [go_sem, Nat.reduceAdd, Nat.reduceLeDiff, Nat.reduceLT, Int.reduceLE, Int.reduceLT, BitVec.reduceOfInt, BitVec.reduceToNat, ↓reduceIte, ho]
    with_reducible refine hK _ ?_
    clear hK K
    refine nx_then ?_
    refine awp_retP rfl ?_
    refine ⟨rfl, fun j o h => ?_, Nat.le_refl _⟩
    simp only at h ⊢
    grind [upd_apply, del_apply]
  · rename_i h2 n2 i n
    replace hg := obind_inv hg; obtain ⟨o, ho, hg⟩ := hg
    obtain ⟨xs, mt⟩ := o
    rw [partO_c] at hg
    replace hg := obind_inv hg; obtain ⟨b, hb, hg⟩ := hg
    replace hg := guardO_inv hg; obtain ⟨⟨hmt, hn, hm, hbig, hid⟩, hg⟩ := hg
    simp only [Option.some.injEq, Prod.mk.injEq] at hg; obtain ⟨rfl, rfl, rfl⟩ := hg
    subst hmt
    have := un8_inv _ hb; subst this
    subst hn
    rw [List.length_nil] at hbig
    refine ⟨Nat.le_of_ble_eq_true rfl, by omega, fun hnone => ?_⟩
    refine awp_seqP rfl ?_
    refine awp_regP (Γ := noEnv) [0, 1] (noEnv_ok _ _) rfl rfl rfl (fun K hK => ?_)
    simp only [Tryd.f26, bodyOf, Option.getD_some, cl, rOps, lights, light, rN, List.size_toArray, List.length_cons, List.length_nil, Nat.zero_add, List.map_cons, List.map_nil, Option.map_none]
    simp (maxSteps := 300000) (disch := omega) only [go_sem, ↓reduceIte]
    with_reducible refine hK _ ?_
    clear hK K
    refine nx_then ?_
    refine awp_seqP rfl ?_
    refine awp_regP (Γ := noEnv) [0, 1, 5] (noEnv_ok _ _) rfl rfl rfl (fun K hK => ?_)
    simp only [Tryd.f26, bodyOf, Option.getD_some, cl, cr, rOps, lights, light, rN, List.size_toArray, List.length_cons, List.length_nil, Nat.reduceAdd, Nat.zero_add, List.map_cons, List.map_nil, Option.map_none]
    simp (maxSteps := 300000) (disch := omega) only [go_sem, Nat.reduceAdd, ↓reduceIte]
    with_reducible refine hK _ ?_
    clear hK K
    refine nx_then ?_
    obtain ⟨z, hz⟩ : ∃ z : Nat, z = 0 := ⟨0, rfl⟩
    rw [show (AV.i 0) = AV.i (z : Int) from by rw [hz]; rfl]
    refine awp_seqP rfl ?_
    refine awp_regP (Γ := noEnv) [4] (noEnv_ok _ _) rfl rfl rfl (fun K hK => ?_)
    simp only [Tryd.f26, bodyOf, Option.getD_some, cl, cr, rOps, lights, light, rN, List.size_toArray, List.length_cons, List.length_nil, Nat.reduceAdd, Nat.zero_add, List.map_cons, List.map_nil, Option.map_none]
    simp (maxSteps := 300000) (disch := omega) only [go_sem, Nat.reduceAdd, Nat.reduceLeDiff, Nat.reduceLT, Int.reduceLE, Int.reduceLT, BitVec.reduceOfInt, BitVec.reduceToNat, ↓reduceIte, ho]
    with_reducible refine hK _ ?_
    clear hK K
    refine nx_then ?_
    refine awp_retP rfl ?_
    subst hz
    refine ⟨rfl, fun j o h => ?_, Nat.le_refl _⟩
    simp only [List.append_nil, List.length_nil] at h ⊢
    grind [upd_apply, del_apply]
  · cases hg

def ref2G : List AV → Option AV
  | [.sl n xs] => obind (un8 xs) fun b => guardO (b.length = n ∧ n ≤ 1000000000) (some (.agg (c8 (sumL b))))
  | _ => none
theorem ref2G_eq (n : Nat) (xs : List AV) : ref2G [.sl n xs] = obind (un8 xs) fun b => guardO (b.length = n ∧ n ≤ 1000000000) (some (.agg (c8 (sumL b)))) := (rfl)
theorem refG_eq (n : Nat) (xs : List AV) : refG [.sl n xs] = obind (un8 xs) fun b => guardO (b.length = n ∧ n ≤ 1000000000) (some (.agg (c8 (refL b)))) := (rfl)
theorem ref2_ok : PureOK Tryd.prog GLh 23 ref2G := by
  intro σ I w nx args vals r h1 h2 h3 hs hr hg
  refine ref_ok σ I w nx args vals r h1 h2 h3 hs hr ?_
  unfold ref2G at hg
  split at hg
  · rename_i n xs
    replace hg := obind_inv hg; obtain ⟨b, hb, hg⟩ := hg
    replace hg := guardO_inv hg; obtain ⟨hn, hg⟩ := hg
    rw [refG_eq, hb, obind_some, guardO_true _ hn, refL_eq, hg]
  · cases hg
def cutG : List AV → Option AV
  | [.sl n xs] => obind (un8 xs) fun b => guardO (b.length = n ∧ n ≤ 1000000000) (some (.agg (c8 ((sumL b).take 8))))
  | _ => none
theorem cutG_eq (n : Nat) (xs : List AV) : cutG [.sl n xs] = obind (un8 xs) fun b => guardO (b.length = n ∧ n ≤ 1000000000) (some (.agg (c8 ((sumL b).take 8)))) := (rfl)
attribute [go_sem] ref2G_eq cutG_eq
theorem ok23 : EntOK Tryd.prog GLh 23 (.pure true ref2G) := ⟨⟨_, Tryd.func23, rfl, rfl⟩, ref2_ok⟩
theorem ok24 : EntOK Tryd.prog GLh 24 (.pure true shortG) := ⟨⟨_, Tryd.func24, rfl, rfl⟩, short_ok⟩
theorem ok26 : EntOK Tryd.prog GLh 26 (.heap partG) := ⟨⟨_, Tryd.func26, rfl, rfl⟩, part_ok⟩

set_option maxHeartbeats 4000000 in
theorem cut_ok : PureOK Tryd.prog GLh 27 cutG := by
  refine pure_of_awp Tryd.func27 (bodyOf_some rfl) ?_
  intro args r hg
  unfold cutG at hg
  split at hg
  · rename_i n xs
    replace hg := obind_inv hg; obtain ⟨b, hb, hg⟩ := hg
    replace hg := guardO_inv hg; obtain ⟨⟨hn, hbig⟩, hg⟩ := hg
    obtain rfl := Option.some.inj hg
    have := un8_inv _ hb; subst this
    subst hn
    refine ⟨Nat.le_of_ble_eq_true rfl, fun nx => ?_⟩
    have hs := sumL_len b
    have hl : ((sumL b).take 8).length = 8 := by rw [List.length_take]; omega
    refine awp_seqP rfl ?_
    refine awp_regP (Γ := noEnv) [0, 2] (noEnv_ok _ _) rfl rfl rfl (fun K hK => ?_)
    simp only [Tryd.f27, bodyOf, Option.getD_some, cl, rOps, lights, light, rN, List.size_toArray, List.length_cons, List.length_nil, Nat.zero_add, List.map_cons, List.map_nil, Option.map_none]
    simp (maxSteps := 300000) (disch := omega) only [go_sem, ↓reduceIte]
    with_reducible refine hK _ ?_
    clear hK K
    refine nx_then ?_
    refine awp_seqP rfl ?_
    refine awp_regP (Γ := envL [(23, .pure true ref2G)]) [2, 3] (envOK_cons ok23 envOK_nil) rfl rfl rfl (fun K hK => ?_)
    simp only [Tryd.f27, bodyOf, Option.getD_some, cl, cr, rOps, lights, light, rN, List.size_toArray, List.length_cons, List.length_nil, Nat.reduceAdd, Nat.zero_add, List.map_cons, List.map_nil, Option.map_none]
    simp (maxSteps := 300000) (disch := omega) only [go_sem, Nat.reduceAdd, Nat.reduceLeDiff, ↓reduceIte]
    with_reducible refine hK _ ?_
    clear hK K
    refine nx_then ?_
    refine awp_seqP rfl ?_
    refine awp_regP (Γ := noEnv) [2] (noEnv_ok _ _) rfl rfl rfl (fun K hK => ?_)
    simp only [Tryd.f27, bodyOf, Option.getD_some, cl, cr, rOps, lights, light, rN, List.size_toArray, List.length_cons, List.length_nil, Nat.reduceAdd, Nat.zero_add, List.map_cons, List.map_nil, Option.map_none]
    simp (maxSteps := 300000) (disch := omega) only [go_sem, Nat.reduceAdd, Nat.reduceSub, Nat.reduceLeDiff, Int.reduceLE, Int.reduceToNat, ↓reduceIte, hl]
    with_reducible refine hK _ ?_
    clear hK K
    refine nx_then ?_
    refine awp_retP rfl ?_
    simp (disch := omega) only [pureQ, resA, resAL, resA1, Tryd.f27, go_sem, Nat.reduceLeDiff, ↓reduceIte, ldV, imm_c8, hl]
  · cases hg
theorem ok27 : EntOK Tryd.prog GLh 27 (.pure true cutG) := ⟨⟨_, Tryd.func27, rfl, rfl⟩, cut_ok⟩

set_option maxHeartbeats 4000000 in
theorem rshort_ok : PureOK Tryd.prog GLh 25 shortG := by
  refine pure_of_awp Tryd.func25 (bodyOf_some rfl) ?_
  intro args r hg
  unfold shortG at hg
  split at hg
  · rename_i tag n xs
    replace hg := obind_inv hg; obtain ⟨ps, hps, hg⟩ := hg
    rw [shortK_eq] at hg
    replace hg := guardO_inv hg; obtain ⟨⟨hn, hbig⟩, hg⟩ := hg
    obtain rfl := Option.some.inj hg
    have := unP_inv hps; subst this
    subst hn
    clear hps hg
    refine ⟨Nat.le_of_ble_eq_true rfl, fun nx => ?_⟩
    refine awp_seqP rfl ?_
    refine awp_regP (Γ := noEnv) [0, 1, 4] (noEnv_ok _ _) rfl rfl rfl (fun K hK => ?_)
    simp only [Tryd.f25, bodyOf, Option.getD_some, cl, rOps, lights, light, rN, List.size_toArray, List.length_cons, List.length_nil, Nat.zero_add, List.map_cons, List.map_nil, Option.map_none]
    simp (maxSteps := 300000) (disch := omega) only [go_sem, ↓reduceIte]
    with_reducible refine hK _ ?_
    clear hK K
    refine nx_then ?_
    refine awp_seqP rfl ?_
    refine awp_regP (Γ := noEnv) [1, 4, 5] (noEnv_ok _ _) rfl rfl rfl (fun K hK => ?_)
    simp only [Tryd.f25, bodyOf, Option.getD_some, cl, cr, rOps, lights, light, rN, List.size_toArray, List.length_cons, List.length_nil, Nat.reduceAdd, Nat.zero_add, List.map_cons, List.map_nil, Option.map_none]
    simp (maxSteps := 300000) (disch := omega) only [go_sem, Nat.reduceAdd, Nat.reduceLeDiff, Nat.reduceLT, ↓reduceIte]
    with_reducible refine hK _ ?_
    clear hK K
    refine nx_then ?_
    refine awp_seqP rfl ?_
    refine awp_seqP rfl ?_
    refine awp_regP (Γ := noEnv) [1, 4, 5, 6] (noEnv_ok _ _) rfl rfl rfl (fun K hK => ?_)
    simp only [Tryd.f25, bodyOf, Option.getD_some, cl, cr, rOps, lights, light, rN, List.size_toArray, List.length_cons, List.length_nil, Nat.zero_add, List.map_cons, List.map_nil, Option.map_none]
    simp (maxSteps := 300000) (disch := omega) only [go_sem, ↓reduceIte]
    with_reducible refine hK _ ?_
    clear hK K
    refine nx_then ?_
    have h1 : c8 [tag] = c8 (cat [tag] (ps.take 0)) := by simp [cat]
    have hge := tot_ge ps
    refine awp_blockN 0 rfl rfl ?_
    refine awp_loopP (fun p : KIC => { fr := [(1, .sl ps.length (cP ps)), (4, .op nx 0), (5, .os p.id 0 (1 + tot (ps.take p.k)) 1 true), (6, .i p.k)], hp := upd (upd (fun _ => none) nx (.cells (c8 (List.replicate 8 0#8)) true)) p.id (.cells (c8 (cat [tag] (ps.take p.k))) true), nx := 0, cx := p.c }) (fun p => p.k ≤ ps.length ∧ nx < p.id ∧ p.id < p.c) (fun p => ps.length - p.k) rfl ⟨⟨0, nx + 1 + 1, _⟩, ⟨Nat.zero_le _, by simp only; omega, by simp only; omega⟩, sub_same rfl (by rw [← h1]; rfl) (Nat.le_refl _)⟩ ?_
    rintro ⟨k, id, c⟩ ⟨hk, hid, hc⟩ n0
    simp only at hk hid hc ⊢
    have ht := tot_take ps k
    have hl : (cat [tag] (ps.take k)).length = 1 + tot (ps.take k) := cat_len [tag] (ps.take k)
    refine awp_seqP rfl ?_
    refine awp_seqP rfl ?_
    refine awp_regP (Γ := noEnv) [12, 1, 4, 5, 6] (noEnv_ok _ _) rfl rfl rfl (fun K hK => ?_)
    simp only [Tryd.f25, bodyOf, Option.getD_some, cl, cr, rOps, lights, light, rN, List.size_toArray, List.length_cons, List.length_nil, Nat.reduceAdd, Nat.zero_add, List.map_cons, List.map_nil, Option.map_none]
    simp (maxSteps := 300000) (disch := omega) only [go_sem, Nat.reduceAdd, ↓reduceIte]
    with_reducible refine hK _ ?_
    clear hK K
    refine nx_then ?_
    refine awp_ifD (.tmp 12) rfl rfl rfl (fun h => ?_) (fun h => ?_)
    · skip
      refine awp_drop rfl ?_
      have hs := tot_step ps k (by omega)
      have hst := cat_step [tag] ps k (by omega)
      have htk := tot_take ps (k + 1)
      refine awp_skipP rfl ?_
      refine nx_then ?_
      refine awp_seqP rfl ?_
      refine awp_blockN 1 rfl rfl ?_
      refine awp_regP (Γ := envL [(26, .heap partG)]) [1, 4, 5, 6] (envOK_cons ok26 envOK_nil) rfl rfl rfl (fun K hK => ?_)
      simp only [Tryd.f25, bodyOf, Option.getD_some, cl, cr, rOps, lights, light, rN, List.size_toArray, List.length_cons, List.length_nil, Nat.reduceAdd, Nat.zero_add, List.map_cons, List.map_nil, Option.map_none]
      simp (maxSteps := 300000) (disch := omega) only [go_sem, Nat.reduceAdd, ↓reduceIte, hl]
      with_reducible refine hK _ ?_
      clear hK K
      refine nx_blk (nx_then ?_)
      generalize ps.getD k [] = q at hs hst ⊢
      refine awp_regP (Γ := noEnv) [1, 4, 5, 6] (noEnv_ok _ _) rfl rfl rfl (fun K hK => ?_)
      simp only [Tryd.f25, bodyOf, Option.getD_some, cl, cr, rOps, lights, light, rN, List.size_toArray, List.length_cons, List.length_nil, Nat.reduceAdd, Nat.zero_add, List.map_cons, List.map_nil, Option.map_none]
      simp (maxSteps := 300000) (disch := omega) only [go_sem, Nat.reduceAdd, ↓reduceIte]
      with_reducible refine hK _ ?_
      clear hK K
      refine nx_loop ?_
      have e5 : 1 + tot (ps.take (k + 1)) = 1 + tot (ps.take k) + 4 + q.length := by omega
      refine ⟨⟨k + 1, c + 4 + 7 + 1 + 3 + 15, _⟩, ⟨by simp only; omega, ?_, ?_⟩, by simp only; omega, ⟨fun _ => .inr ?_, fun j o h => ?_, Nat.le_refl _⟩⟩
      · simp only; omega
      · simp only; omega
      · simp only [e5, Int.natCast_add, Int.natCast_one]
      · simp only [hst] at h
        grind [upd_apply, del_apply]
    · skip
      refine awp_drop rfl ?_
      refine awp_exitN 0 rfl rfl ?_
      refine nx_ex_then (nx_ex_loop (nx_ex_blk ?_))
      refine nx_then ?_
      refine awp_seqP rfl ?_
      obtain rfl : k = ps.length := by omega
      rw [List.take_length] at hl ⊢
      have hsl := shortL_len tag ps
      have hs8 : (sumL (cat [tag] ps)).take 8 = shortL tag ps := rfl
      refine awp_regP (Γ := envL [(27, .pure true cutG)]) [4] (envOK_cons ok27 envOK_nil) rfl rfl rfl (fun K hK => ?_)
      simp only [Tryd.f25, bodyOf, Option.getD_some, cl, cr, rOps, lights, light, rN, List.size_toArray, List.length_cons, List.length_nil, Nat.reduceAdd, Nat.zero_add, List.map_cons, List.map_nil, Option.map_none]
      simp (maxSteps := 300000) (disch := omega) only [go_sem, Nat.reduceAdd, Nat.reduceLeDiff, ↓reduceIte, hl, hs8]
      with_reducible refine hK _ ?_
      clear hK K
      refine nx_then ?_
      refine awp_retP rfl ?_
      simp (disch := omega) only [pureQ, resA, resAL, resA1, Tryd.f25, go_sem, Nat.reduceLeDiff, ↓reduceIte, ldV, imm_c8]
  · cases hg
theorem ok25 : EntOK Tryd.prog GLh 25 (.pure true shortG) := ⟨⟨_, Tryd.func25, rfl, rfl⟩, rshort_ok⟩
end Go.AX
