/-
  Hash, part V: the other statements of layer 1, walked.
-/
import Derived.Test.YtnnkmoaipcdhnaaDoorHsS
namespace Go.AX
open Go Go.Proofs

def law1bG : List AV → Option AV
  | [.w8 _, .sl n xs] => obind (unP xs) fun ps => guardO (ps.length = n ∧ n ≤ 9223372036854775807) (some (.b true))
  | _ => none
theorem tot_all (ps : List (List B8)) (b : Nat) (h : ∀ k, k < ps.length → (ps.getD k []).length ≤ b) : tot ps ≤ (b + 4) * ps.length := by
  induction ps with
  | nil => simp [tot]
  | cons p ps ih =>
    rw [tot_cons, List.length_cons, Nat.mul_succ]
    have h0 := h 0 (by simp)
    have := ih (fun k hk => by have := h (k + 1) (by simpa using hk); simpa using this)
    simp at h0
    omega

set_option maxHeartbeats 4000000 in
theorem law1b_ok : PureOK Tryd.prog GLh 4 law1bG := by
  refine pure_of_awp Tryd.func4 (bodyOf_some rfl) ?_
  intro args r hg
  unfold law1bG at hg
  split at hg
  · rename_i tag n xs
    replace hg := obind_inv hg; obtain ⟨ps, hps, hg⟩ := hg
    replace hg := guardO_inv hg; obtain ⟨⟨hn, hbig⟩, hg⟩ := hg
    obtain rfl := Option.some.inj hg
    have := unP_inv hps; subst this
    subst hn
    clear hg hps
    refine ⟨Nat.le_of_ble_eq_true rfl, fun nx => ?_⟩
    refine awp_seqP rfl ?_
    refine awp_regP (Γ := noEnv) [0, 1] (noEnv_ok _ _) rfl rfl rfl (fun K hK => ?_)
    simp only [Tryd.f4, bodyOf, Option.getD_some, cl, rOps, lights, light, rN, List.size_toArray, List.length_cons, List.length_nil, Nat.zero_add, List.map_cons, List.map_nil, Option.map_none]
    simp (maxSteps := 300000) (disch := omega) only [go_sem, ↓reduceIte]
    with_reducible refine hK _ ?_
    clear hK K
    refine nx_then ?_
    refine awp_seqP rfl ?_
    refine awp_seqP rfl ?_
    refine awp_regP (Γ := envL [(21, .pure true known1G)]) [7, 0, 1] (envOK_cons ok21 envOK_nil) rfl rfl rfl (fun K hK => ?_)
    simp only [Tryd.f4, bodyOf, Option.getD_some, cl, cr, rOps, lights, light, rN, List.size_toArray, List.length_cons, List.length_nil, Nat.reduceAdd, Nat.zero_add, List.map_cons, List.map_nil, Option.map_none]
    simp (maxSteps := 300000) (disch := omega) only [go_sem, Nat.reduceAdd, ↓reduceIte]
    with_reducible refine hK _ ?_
    clear hK K
    refine nx_then ?_
    refine awp_ifB (.tmp 7) rfl rfl rfl (fun h => ?_) (fun h => ?_)
    · skip
      refine awp_drop rfl ?_
      cases h
    · skip
      refine awp_drop rfl ?_
      clear h
      refine awp_skipP rfl ?_
      refine nx_then ?_
      refine awp_seqP rfl ?_
      refine awp_seqP rfl ?_
      refine awp_regP (Γ := noEnv) [10, 0, 1] (noEnv_ok _ _) rfl rfl rfl (fun K hK => ?_)
      simp only [Tryd.f4, bodyOf, Option.getD_some, cl, cr, rOps, lights, light, rN, List.size_toArray, List.length_cons, List.length_nil, Nat.reduceAdd, Nat.zero_add, List.map_cons, List.map_nil, Option.map_none]
      simp (maxSteps := 300000) (disch := omega) only [go_sem, Nat.reduceAdd, ↓reduceIte]
      with_reducible refine hK _ ?_
      clear hK K
      refine nx_then ?_
      refine awp_ifD (.tmp 10) rfl rfl rfl (fun h => ?_) (fun h => ?_)
      · skip
        refine awp_drop rfl ?_
        refine awp_seqP rfl ?_
        refine awp_regP (Γ := noEnv) [4] (noEnv_ok _ _) rfl rfl rfl (fun K hK => ?_)
        simp only [Tryd.f4, bodyOf, Option.getD_some, cl, cr, rOps, lights, light, rN, List.size_toArray, List.length_cons, List.length_nil, Nat.zero_add, List.map_cons, List.map_nil, Option.map_none]
        simp (maxSteps := 300000) (disch := omega) only [go_sem, ↓reduceIte]
        with_reducible refine hK _ ?_
        clear hK K
        refine nx_then ?_
        refine awp_retP rfl ?_
        refine nx_ret_then ?_
        simp (disch := omega) only [pureQ, resA, resAL, resA1, Tryd.f4, go_sem, ↓reduceIte]
      · skip
        refine awp_drop rfl ?_
        refine awp_skipP rfl ?_
        refine nx_then ?_
        refine awp_seqP rfl ?_
        refine awp_seqP rfl ?_
        refine awp_regP (Γ := noEnv) [0, 1, 5] (noEnv_ok _ _) rfl rfl rfl (fun K hK => ?_)
        simp only [Tryd.f4, bodyOf, Option.getD_some, cl, cr, rOps, lights, light, rN, List.size_toArray, List.length_cons, List.length_nil, Nat.zero_add, List.map_cons, List.map_nil, Option.map_none]
        simp (maxSteps := 300000) (disch := omega) only [go_sem, ↓reduceIte]
        with_reducible refine hK _ ?_
        clear hK K
        refine nx_then ?_
        refine awp_blockN 0 rfl rfl ?_
        refine awp_loopP (fun p : KC => { fr := [(0, .w8 tag), (1, .sl ps.length (cP ps)), (5, .i p.k)], hp := fun _ => none, nx := 0, cx := p.c }) (fun p => p.k ≤ ps.length ∧ ∀ j, j < p.k → (ps.getD j []).length ≤ 300) (fun p => ps.length - p.k) rfl ⟨⟨0, _⟩, ⟨Nat.zero_le _, fun j hj => absurd hj (Nat.not_lt_zero j)⟩, sub_same rfl rfl (Nat.le_refl _)⟩ ?_
        rintro ⟨k, c⟩ ⟨hk, hall⟩ n0
        simp only at hk hall ⊢
        refine awp_seqP rfl ?_
        refine awp_seqP rfl ?_
        refine awp_regP (Γ := noEnv) [14, 0, 1, 5] (noEnv_ok _ _) rfl rfl rfl (fun K hK => ?_)
        simp only [Tryd.f4, bodyOf, Option.getD_some, cl, cr, rOps, lights, light, rN, List.size_toArray, List.length_cons, List.length_nil, Nat.reduceAdd, Nat.zero_add, List.map_cons, List.map_nil, Option.map_none]
        simp (maxSteps := 300000) (disch := omega) only [go_sem, Nat.reduceAdd, ↓reduceIte]
        with_reducible refine hK _ ?_
        clear hK K
        refine nx_then ?_
        refine awp_ifD (.tmp 14) rfl rfl rfl (fun h => ?_) (fun h => ?_)
        · skip
          refine awp_drop rfl ?_
          refine awp_skipP rfl ?_
          refine nx_then ?_
          refine awp_seqP rfl ?_
          refine awp_blockN 1 rfl rfl ?_
          refine awp_seqP rfl ?_
          refine awp_regP (Γ := noEnv) [22, 0, 1, 5] (noEnv_ok _ _) rfl rfl rfl (fun K hK => ?_)
          simp only [Tryd.f4, bodyOf, Option.getD_some, cl, cr, rOps, lights, light, rN, List.size_toArray, List.length_cons, List.length_nil, Nat.reduceAdd, Nat.zero_add, List.map_cons, List.map_nil, Option.map_none]
          simp (maxSteps := 300000) (disch := omega) only [go_sem, Nat.reduceAdd, ↓reduceIte]
          with_reducible refine hK _ ?_
          clear hK K
          refine nx_then ?_
          refine awp_ifD (.tmp 22) rfl rfl rfl (fun h => ?_) (fun h => ?_)
          · skip
            refine awp_drop rfl ?_
            refine awp_seqP rfl ?_
            refine awp_regP (Γ := noEnv) [4] (noEnv_ok _ _) rfl rfl rfl (fun K hK => ?_)
            simp only [Tryd.f4, bodyOf, Option.getD_some, cl, cr, rOps, lights, light, rN, List.size_toArray, List.length_cons, List.length_nil, Nat.zero_add, List.map_cons, List.map_nil, Option.map_none]
            simp (maxSteps := 300000) (disch := omega) only [go_sem, ↓reduceIte]
            with_reducible refine hK _ ?_
            clear hK K
            refine nx_then ?_
            refine awp_retP rfl ?_
            refine nx_ret_blk (nx_ret_then (nx_ret_loop (nx_ret_blk (nx_ret_then ?_))))
            simp (disch := omega) only [pureQ, resA, resAL, resA1, Tryd.f4, go_sem, ↓reduceIte]
          · skip
            refine awp_drop rfl ?_
            rename_i hlt h300
            trace_state
            refine awp_skipP rfl ?_
            refine nx_blk (nx_then ?_)
            refine awp_regP (Γ := noEnv) [0, 1, 5] (noEnv_ok _ _) rfl rfl rfl (fun K hK => ?_)
            simp only [Tryd.f4, bodyOf, Option.getD_some, cl, cr, rOps, lights, light, rN, List.size_toArray, List.length_cons, List.length_nil, Nat.reduceAdd, Nat.zero_add, List.map_cons, List.map_nil, Option.map_none]
            simp (maxSteps := 300000) (disch := omega) only [go_sem, Nat.reduceAdd, ↓reduceIte]
            with_reducible refine hK _ ?_
            clear hK K
            refine nx_loop ?_
            refine ⟨⟨k + 1, _⟩, ⟨by simp only; omega, fun j hj => ?_⟩, by simp only; omega, sub_same ?_ rfl (Nat.le_refl _)⟩
            · simp only at hj
              by_cases e : j = k
              · subst e; omega
              · exact hall j (by omega)
            · simp only [Int.natCast_add, Int.natCast_one]
        · skip
          refine awp_drop rfl ?_
          refine awp_exitN 0 rfl rfl ?_
          refine nx_ex_then (nx_ex_loop (nx_ex_blk ?_))
          refine nx_then ?_
          refine awp_seqP rfl ?_
          obtain rfl : k = ps.length := by omega
          have ht := tot_all ps 300 hall
          have hsl := shortL_len tag ps
          refine awp_regP (Γ := envL [(24, .pure true shortG), (25, .pure true shortG)]) [4] (envOK_cons ok24 (envOK_cons ok25 envOK_nil)) rfl rfl rfl (fun K hK => ?_)
          simp only [Tryd.f4, bodyOf, Option.getD_some, cl, cr, rOps, lights, light, rN, List.size_toArray, List.length_cons, List.length_nil, Nat.reduceAdd, Nat.zero_add, List.map_cons, List.map_nil, Option.map_none]
          simp (maxSteps := 300000) (disch := omega) only [go_sem, Nat.reduceAdd, ↓reduceIte]
          with_reducible refine hK _ ?_
          clear hK K
          refine nx_then ?_
          refine awp_retP rfl ?_
          simp (disch := omega) only [pureQ, resA, resAL, resA1, Tryd.f4, go_sem, ↓reduceIte]
  · cases hg
theorem ok4 : EntOK Tryd.prog GLh 4 (.pure true law1bG) := ⟨⟨_, Tryd.func4, rfl, rfl⟩, law1b_ok⟩

def law1dG : List AV → Option AV
  | [.w8 _, .w8 _] => some (.b true)
  | _ => none
def lens (x : B8) (m : Nat) : Nat → List B8
  | 0 => List.replicate m 0#8
  | k + 1 => (lens x m k).set k (x + BitVec.ofInt 8 (k : Int))
theorem lens_len (x : B8) (m k : Nat) : (lens x m k).length = m := by
  induction k with
  | zero => exact List.length_replicate
  | succ k ih => rw [lens, List.length_set, ih]

set_option maxHeartbeats 4000000 in
theorem law1d_ok : PureOK Tryd.prog GLh 6 law1dG := by
  refine pure_of_awp Tryd.func6 (bodyOf_some rfl) ?_
  intro args r hg
  unfold law1dG at hg
  split at hg
  · rename_i n x
    obtain rfl := Option.some.inj hg
    clear hg
    refine ⟨Nat.le_of_ble_eq_true rfl, fun nx => ?_⟩
    have hn := n.isLt
    refine awp_seqP rfl ?_
    refine awp_regP (Γ := noEnv) [0, 1] (noEnv_ok _ _) rfl rfl rfl (fun K hK => ?_)
    simp only [Tryd.f6, bodyOf, Option.getD_some, cl, rOps, lights, light, rN, List.size_toArray, List.length_cons, List.length_nil, Nat.zero_add, List.map_cons, List.map_nil, Option.map_none]
    simp (maxSteps := 300000) (disch := omega) only [go_sem, ↓reduceIte]
    with_reducible refine hK _ ?_
    clear hK K
    refine nx_then ?_
    refine awp_seqP rfl ?_
    refine awp_seqP rfl ?_
    refine awp_regP (Γ := envL [(21, .pure true known1G)]) [8, 0, 1] (envOK_cons ok21 envOK_nil) rfl rfl rfl (fun K hK => ?_)
    simp only [Tryd.f6, bodyOf, Option.getD_some, cl, cr, rOps, lights, light, rN, List.size_toArray, List.length_cons, List.length_nil, Nat.reduceAdd, Nat.zero_add, List.map_cons, List.map_nil, Option.map_none]
    simp (maxSteps := 300000) (disch := omega) only [go_sem, Nat.reduceAdd, ↓reduceIte]
    with_reducible refine hK _ ?_
    clear hK K
    refine nx_then ?_
    refine awp_ifB (.tmp 8) rfl rfl rfl (fun h => ?_) (fun h => ?_)
    · skip
      refine awp_drop rfl ?_
      cases h
    · skip
      refine awp_drop rfl ?_
      clear h
      obtain ⟨m, hm⟩ : ∃ m : Nat, m = n.toNat + 50 := ⟨_, rfl⟩
      have e1 : ((n.toNat : Int) + 50) = (m : Int) := by omega
      refine awp_skipP rfl ?_
      refine nx_then ?_
      refine awp_seqP rfl ?_
      refine awp_regP (Γ := noEnv) [1, 5] (noEnv_ok _ _) rfl rfl rfl (fun K hK => ?_)
      simp only [Tryd.f6, bodyOf, Option.getD_some, cl, cr, rOps, lights, light, rN, List.size_toArray, List.length_cons, List.length_nil, Nat.reduceAdd, Nat.zero_add, List.map_cons, List.map_nil, Option.map_none]
      simp (maxSteps := 300000) (disch := omega) only [go_sem, Nat.reduceAdd, Nat.reduceLT, ↓reduceIte, e1, rep8]
      with_reducible refine hK _ ?_
      clear hK K
      refine nx_then ?_
      refine awp_seqP rfl ?_
      refine awp_seqP rfl ?_
      refine awp_regP (Γ := noEnv) [1, 5, 6] (noEnv_ok _ _) rfl rfl rfl (fun K hK => ?_)
      simp only [Tryd.f6, bodyOf, Option.getD_some, cl, cr, rOps, lights, light, rN, List.size_toArray, List.length_cons, List.length_nil, Nat.zero_add, List.map_cons, List.map_nil, Option.map_none]
      simp (maxSteps := 300000) (disch := omega) only [go_sem, ↓reduceIte]
      with_reducible refine hK _ ?_
      clear hK K
      refine nx_then ?_
      refine awp_blockN 0 rfl rfl ?_
      refine awp_loopP (fun p : KC => { fr := [(1, .w8 x), (5, .os (nx + 1 + 2 + 3) 0 m 1 true), (6, .i p.k)], hp := upd (fun _ => none) (nx + 1 + 2 + 3) (.cells (c8 (lens x m p.k)) true), nx := 0, cx := p.c }) (fun p => p.k ≤ m ∧ nx + 1 + 2 + 5 ≤ p.c) (fun p => m - p.k) rfl ⟨⟨0, _⟩, ⟨Nat.zero_le _, by simp only; omega⟩, sub_same rfl rfl (Nat.le_refl _)⟩ ?_
      rintro ⟨k, c⟩ ⟨hk, hc⟩ n0
      simp only at hk hc ⊢
      have hl := lens_len x m k
      refine awp_seqP rfl ?_
      refine awp_seqP rfl ?_
      refine awp_regP (Γ := noEnv) [16, 1, 5, 6] (noEnv_ok _ _) rfl rfl rfl (fun K hK => ?_)
      simp only [Tryd.f6, bodyOf, Option.getD_some, cl, cr, rOps, lights, light, rN, List.size_toArray, List.length_cons, List.length_nil, Nat.reduceAdd, Nat.zero_add, List.map_cons, List.map_nil, Option.map_none]
      simp (maxSteps := 300000) (disch := omega) only [go_sem, Nat.reduceAdd, ↓reduceIte]
      with_reducible refine hK _ ?_
      clear hK K
      refine nx_then ?_
      refine awp_ifD (.tmp 16) rfl rfl rfl (fun h => ?_) (fun h => ?_)
      · skip
        refine awp_drop rfl ?_
        refine awp_skipP rfl ?_
        refine nx_then ?_
        refine awp_seqP rfl ?_
        refine awp_blockN 1 rfl rfl ?_
        refine awp_regP (Γ := noEnv) [1, 5, 6] (noEnv_ok _ _) rfl rfl rfl (fun K hK => ?_)
        simp only [Tryd.f6, bodyOf, Option.getD_some, cl, cr, rOps, lights, light, rN, List.size_toArray, List.length_cons, List.length_nil, Nat.reduceAdd, Nat.zero_add, List.map_cons, List.map_nil, Option.map_none]
        simp (maxSteps := 300000) (disch := omega) only [go_sem, Nat.reduceAdd, ↓reduceIte, hl]
        with_reducible refine hK _ ?_
        clear hK K
        refine nx_blk (nx_then ?_)
        refine awp_regP (Γ := noEnv) [1, 5, 6] (noEnv_ok _ _) rfl rfl rfl (fun K hK => ?_)
        simp only [Tryd.f6, bodyOf, Option.getD_some, cl, cr, rOps, lights, light, rN, List.size_toArray, List.length_cons, List.length_nil, Nat.reduceAdd, Nat.zero_add, List.map_cons, List.map_nil, Option.map_none]
        simp (maxSteps := 300000) (disch := omega) only [go_sem, Nat.reduceAdd, ↓reduceIte]
        with_reducible refine hK _ ?_
        clear hK K
        refine nx_loop ?_
        refine ⟨⟨k + 1, _⟩, ⟨by simp only; omega, by simp only; omega⟩, by simp only; omega, sub_same ?_ rfl (Nat.le_refl _)⟩
        simp only [Int.natCast_add, Int.natCast_one]
      · skip
        refine awp_drop rfl ?_
        refine awp_exitN 0 rfl rfl ?_
        refine nx_ex_then (nx_ex_loop (nx_ex_blk ?_))
        refine nx_then ?_
        refine awp_seqP rfl ?_
        have hsl := sumL_len (lens x m k)
        refine awp_regP (Γ := envL [(22, .pure true sumG), (23, .pure true ref2G)]) [4] (envOK_cons ok22 (envOK_cons ok23 envOK_nil)) rfl rfl rfl (fun K hK => ?_)
        simp only [Tryd.f6, bodyOf, Option.getD_some, cl, cr, rOps, lights, light, rN, List.size_toArray, List.length_cons, List.length_nil, Nat.reduceAdd, Nat.zero_add, List.map_cons, List.map_nil, Option.map_none]
        simp (maxSteps := 300000) (disch := omega) only [go_sem, Nat.reduceAdd, ↓reduceIte, hl]
        with_reducible refine hK _ ?_
        clear hK K
        refine nx_then ?_
        refine awp_retP rfl ?_
        simp (disch := omega) only [pureQ, resA, resAL, resA1, Tryd.f6, go_sem, ↓reduceIte]
  · cases hg
theorem ok6 : EntOK Tryd.prog GLh 6 (.pure true law1dG) := ⟨⟨_, Tryd.func6, rfl, rfl⟩, law1d_ok⟩
end Go.AX
