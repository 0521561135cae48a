/-
  Data, part V: the canonical form of data. Data, part W: known.
-/
import Derived.Test.YtndohkbppgmbjaaBI
namespace Go.AX
open Go Go.Proofs

theorem wirB_wl (n : Nm) : (wirB n).length + 1 = wl n := by
  induction n with
  | nil => rfl
  | cons l r ih => rw [wirB_len, wl_cons]; omega
theorem nmO_wl {b : List B8} {n : Nm} {s : Nat} (h : nmO b = some (n, s)) : wl n = s ∧ wl n ≤ 255 ∧ (∀ l ∈ n, labOk l) := by
  unfold nmO at h
  rcases ho : opN (b.length + 1) b with _ | ⟨m, q⟩
  · rw [ho] at h; cases h
  · rw [ho] at h
    simp only at h
    split at h
    · cases h
    · simp only [Option.some.injEq, Prod.mk.injEq] at h
      obtain ⟨rfl, rfl⟩ := h
      obtain ⟨a1, a2, _⟩ := opN_ok _ _ _ _ ho
      exact ⟨a2, by omega, a1⟩
theorem tgT_ne {t : BitVec 16} (h : tgT t) : ¬ t = 6#16 ∧ ¬ t = 48#16 ∧ ¬ t = 1#16 ∧ ¬ t = 28#16 ∧ ¬ t = 46#16 ∧ ¬ t = 50#16 := by
  rcases h with rfl | rfl | rfl <;> decide
theorem shp_tg {t : BitVec 16} (h : tgT t) (l : List B8) : shp t l = if ahd t ≤ l.length then nmE l (ahd t) else none := by
  rcases h with rfl | rfl | rfl <;> simp [shp, ahd]
/-- Data that ends with a name, and nothing is wrong with it. -/
theorem chk_tg {t : BitVec 16} {l : List B8} (h : tgT t) (h0 : chkE t l = 0) : ∃ n s, nmO (l.drop (ahd t)) = some (n, s) ∧ ahd t + s = l.length ∧ tgtT t l = .tup [.sl n.length (cS n), .i 0] := by
  obtain ⟨a1, a2, _⟩ := tgT_ne h
  unfold chkE at h0
  split at h0
  · cases h0
  rw [shp_tg h] at h0
  split at h0
  rotate_left
  · cases h0
  rename_i hle
  unfold nmE at h0
  rcases hn : nmO (l.drop (ahd t)) with _ | ⟨n, s⟩
  · rw [hn] at h0; cases h0
  · rw [hn] at h0
    have hp : ((ahd t + s : Nat) : Int) = (l.length : Int) := by
      by_cases hp : ((ahd t + s : Nat) : Int) = (l.length : Int)
      · exact hp
      · have : rdE l.length (chk1R l (some (ahd t + s))) = 50 := rdE_x _ _ hp
        simp only [Option.map_some] at h0
        rw [this] at h0; cases h0
    refine ⟨n, s, rfl, by omega, ?_⟩
    unfold tgtT
    rw [if_pos h]
    unfold tgtR
    rw [if_pos hle, nameR_s hn, rdT_y _ _ _ hp]
def nmN (t : BitVec 16) (l : List B8) : Nm := match nmO (l.drop (ahd t)) with
  | some (n, _) => n
  | none => []
def canL (t : BitVec 16) (l : List B8) : List B8 := if tgT t then l.take (ahd t) ++ wireL (lowS (nmN t l)) else l
def canT (t : BitVec 16) (l : List B8) : AV := if chkE t l = 0 then .tup [.sl (canL t l).length (c8 (canL t l)), .i 0] else .tup [.sl 0 [], .i (chkE t l)]
def canG : List AV → Option AV
  | [.w16 t, .sl n xs] => obind (unW8 xs) fun l => guardO (l.length = n ∧ n ≤ 100000 ∧ ¬ t = 46#16 ∧ ¬ t = 50#16 ∧ ¬ t = 6#16) (some (canT t l))
  | _ => none
theorem canG_eq (t : BitVec 16) (n : Nat) (xs : List AV) : canG [.w16 t, .sl n xs] = obind (unW8 xs) fun l => guardO (l.length = n ∧ n ≤ 100000 ∧ ¬ t = 46#16 ∧ ¬ t = 50#16 ∧ ¬ t = 6#16) (some (canT t l)) := (rfl)
attribute [go_sem] canG_eq
set_option maxHeartbeats 8000000 in
theorem can_ok : PureOK Try.prog GLh 10 canG := by
  refine pure_of_awp Try.func10 (bodyOf_some rfl) ?_
  intro args r hg
  unfold canG at hg
  split at hg
  · rename_i t n xs
    replace hg := obind_inv hg; obtain ⟨l, hl, hg⟩ := hg
    replace hg := guardO_inv hg; obtain ⟨⟨rfl, hn, h46, h50, h6⟩, hg⟩ := hg
    obtain rfl := Option.some.inj hg
    have := unW8_inv hl; subst this
    clear hg hl
    refine ⟨Nat.le_of_ble_eq_true rfl, fun nx => ?_⟩
    unfold canT
    have hct := fun h => chk_tg (t := t) (l := l) h
    have hlt : (l.take (ahd t)).length = min (ahd t) l.length := List.length_take
    unfold canL nmN
    obtain ⟨e, he⟩ : ∃ e, chkE t l = e := ⟨_, rfl⟩
    rw [he] at hct ⊢
    refine awp_seqP rfl ?_
    refine awp_regP (Γ := noEnv) [0, 1] (noEnv_ok _ _) rfl rfl rfl (fun K hK => ?_)
    simp only [Try.f10, bodyOf, Option.getD_some, cl, rOps, lights, light, rN, List.size_toArray, List.length_cons, List.length_nil, Nat.reduceAdd, Nat.zero_add, List.map_cons, List.map_nil, Option.map_none]
    simp (maxSteps := 300000) (disch := omega) only [go_sem, Nat.reduceAdd, ↓reduceIte]
    with_reducible refine hK _ ?_
    clear hK K
    refine nx_then ?_
    have hgd : ∀ x : Option AV, guardO (l.length ≤ 100000 ∧ ¬t = 46#16 ∧ ¬t = 50#16) x = x := fun x => guardO_true x ⟨hn, h46, h50⟩
    refine awp_seqP rfl ?_
    refine awp_seqP rfl ?_
    refine awp_regP (Γ := envL [(13, .pure true chkDG)]) [0, 1, 6] (envOK_cons ok13 envOK_nil) rfl rfl rfl (fun K hK => ?_)
    simp only [Try.f10, bodyOf, Option.getD_some, cl, cr, rOps, lights, light, rN, List.size_toArray, List.length_cons, List.length_nil, Nat.reduceAdd, Nat.zero_add, List.map_cons, List.map_nil, Option.map_none]
    simp (maxSteps := 300000) (disch := omega) only [go_sem, Nat.reduceAdd, ↓reduceIte, he, hgd]
    with_reducible refine hK _ ?_
    clear hK K
    refine nx_then ?_
    refine awp_seqP rfl ?_
    refine awp_regP (Γ := noEnv) [17, 0, 1, 6] (noEnv_ok _ _) rfl rfl rfl (fun K hK => ?_)
    simp only [Try.f10, bodyOf, Option.getD_some, cl, cr, rOps, lights, light, rN, List.size_toArray, List.length_cons, List.length_nil, Nat.reduceAdd, Nat.zero_add, List.map_cons, List.map_nil, Option.map_none]
    simp (maxSteps := 300000) (disch := omega) only [go_sem, Nat.reduceAdd, ↓reduceIte]
    with_reducible refine hK _ ?_
    clear hK K
    refine nx_then ?_
    by_cases h0 : e = 0
    · skip
      subst h0
      rw [if_pos rfl]
      refine awp_ifB (.tmp 17) rfl rfl rfl (fun h => ?_) (fun h => ?_)
      · skip
        refine awp_drop rfl ?_
        exact absurd h (by decide)
      · skip
        refine awp_drop rfl ?_
        clear h
        refine awp_skipP rfl ?_
        refine nx_then ?_
        refine awp_seqP rfl ?_
        refine awp_seqP rfl ?_
        refine awp_regP (Γ := noEnv) [0, 1, 19] (noEnv_ok _ _) rfl rfl rfl (fun K hK => ?_)
        simp only [Try.f10, bodyOf, Option.getD_some, cl, cr, rOps, lights, light, rN, List.size_toArray, List.length_cons, List.length_nil, Nat.zero_add, List.map_cons, List.map_nil, Option.map_none]
        simp (maxSteps := 300000) (disch := omega) only [go_sem, ↓reduceIte]
        with_reducible refine hK _ ?_
        clear hK K
        refine nx_then ?_
        refine awp_blockN 0 rfl rfl ?_
        refine awp_seqP rfl ?_
        refine awp_seqP rfl ?_
        refine awp_regP (Γ := noEnv) [0, 1, 19, 20] (noEnv_ok _ _) rfl rfl rfl (fun K hK => ?_)
        simp only [Try.f10, bodyOf, Option.getD_some, cl, cr, rOps, lights, light, rN, List.size_toArray, List.length_cons, List.length_nil, Nat.reduceAdd, Nat.zero_add, List.map_cons, List.map_nil, Option.map_none]
        simp (maxSteps := 300000) (disch := omega) only [go_sem, Nat.reduceAdd, Int.reduceLE, Int.reduceLT, BitVec.reduceOfInt, ↓reduceIte]
        with_reducible refine hK _ ?_
        clear hK K
        refine nx_then ?_
        refine awp_ifD (.tmp 20) rfl rfl rfl (fun h => ?_) (fun h => ?_)
        · skip
          have h2 := h
          refine awp_skipP rfl ?_
          refine nx_then ?_
          refine awp_ifD (.tmp 20) rfl rfl rfl (fun h => ?_) (fun h => ?_)
          · skip
            have htg : tgT t := .inl h2
            obtain ⟨n, s, q1, q2, q3⟩ := hct htg rfl
            obtain ⟨w1, w2, w3⟩ := nmO_wl q1
            have w4 := wirB_wl n
            have w5 := wirB_low n
            have ha := ahd_le t
            rw [if_pos htg, q1]
            have hta : (l.take (ahd t)).length = ahd t := by rw [hlt]; omega
            have hall : (wireL (lowS n)).length = (wirB (lowS n)).length + 1 := by simp [wireL]
            refine awp_seqP rfl ?_
            refine awp_regP (Γ := envL [(17, .pure false tgG)]) [0, 1, 7] (envOK_cons ok17 envOK_nil) rfl rfl rfl (fun K hK => ?_)
            simp only [Try.f10, bodyOf, Option.getD_some, cl, cr, rOps, lights, light, rN, List.size_toArray, List.length_cons, List.length_nil, Nat.reduceAdd, Nat.zero_add, List.map_cons, List.map_nil, Option.map_none]
            simp (maxSteps := 300000) (disch := omega) only [go_sem, Nat.reduceAdd, ↓reduceIte, q3]
            with_reducible refine hK _ ?_
            clear hK K
            refine nx_then ?_
            refine awp_seqP rfl ?_
            refine awp_regP (Γ := envL [(37, .pure true aheadG), (36, .fresh true cloneG), (39, .fresh true lowerG), (38, .fresh true wireG)]) [4, 5] (envOK_cons ok37 (envOK_cons ok36 (envOK_cons ok39 (envOK_cons ok38 envOK_nil)))) rfl rfl rfl (fun K hK => ?_)
            simp only [Try.f10, bodyOf, Option.getD_some, cl, cr, rOps, lights, light, rN, List.size_toArray, List.length_cons, List.length_nil, Nat.reduceAdd, Nat.zero_add, List.map_cons, List.map_nil, Option.map_none]
            simp (maxSteps := 300000) (disch := omega) only [go_sem, Nat.reduceAdd, Nat.reduceLeDiff, Nat.reduceLT, Int.reduceLE, Int.reduceToNat, ↓reduceIte, Int.toNat_natCast, Nat.sub_zero, hta, hall]
            with_reducible refine hK _ ?_
            clear hK K
            refine nx_then ?_
            refine awp_retP rfl ?_
            refine nx_ret_blk (nx_ret_then ?_)
            simp (disch := omega) only [pureQ, resA, resAL, resA1, Try.f10, go_sem, ↓reduceIte]
            rw [hta, hall, List.take_of_length_le (by rw [List.length_append, hta, hall]; exact Nat.le_refl _)]
          · skip
            exact absurd h2 h
        · skip
          have h2 := h
          refine awp_seqP rfl ?_
          refine awp_regP (Γ := noEnv) [0, 1, 19, 20] (noEnv_ok _ _) rfl rfl rfl (fun K hK => ?_)
          simp only [Try.f10, bodyOf, Option.getD_some, cl, cr, rOps, lights, light, rN, List.size_toArray, List.length_cons, List.length_nil, Nat.reduceAdd, Nat.zero_add, List.map_cons, List.map_nil, Option.map_none]
          simp (maxSteps := 300000) (disch := omega) only [go_sem, Nat.reduceAdd, Int.reduceLE, Int.reduceLT, BitVec.reduceOfInt, ↓reduceIte]
          with_reducible refine hK _ ?_
          clear hK K
          refine nx_then ?_
          refine awp_ifD (.tmp 20) rfl rfl rfl (fun h => ?_) (fun h => ?_)
          · skip
            have h5 := h
            refine awp_skipP rfl ?_
            refine nx_then ?_
            refine awp_ifD (.tmp 20) rfl rfl rfl (fun h => ?_) (fun h => ?_)
            · skip
              have htg : tgT t := .inr (.inl h5)
              obtain ⟨n, s, q1, q2, q3⟩ := hct htg rfl
              obtain ⟨w1, w2, w3⟩ := nmO_wl q1
              have w4 := wirB_wl n
              have w5 := wirB_low n
              have ha := ahd_le t
              rw [if_pos htg, q1]
              have hta : (l.take (ahd t)).length = ahd t := by rw [hlt]; omega
              have hall : (wireL (lowS n)).length = (wirB (lowS n)).length + 1 := by simp [wireL]
              refine awp_seqP rfl ?_
              refine awp_regP (Γ := envL [(17, .pure false tgG)]) [0, 1, 7] (envOK_cons ok17 envOK_nil) rfl rfl rfl (fun K hK => ?_)
              simp only [Try.f10, bodyOf, Option.getD_some, cl, cr, rOps, lights, light, rN, List.size_toArray, List.length_cons, List.length_nil, Nat.reduceAdd, Nat.zero_add, List.map_cons, List.map_nil, Option.map_none]
              simp (maxSteps := 300000) (disch := omega) only [go_sem, Nat.reduceAdd, ↓reduceIte, q3]
              with_reducible refine hK _ ?_
              clear hK K
              refine nx_then ?_
              refine awp_seqP rfl ?_
              refine awp_regP (Γ := envL [(37, .pure true aheadG), (36, .fresh true cloneG), (39, .fresh true lowerG), (38, .fresh true wireG)]) [4, 5] (envOK_cons ok37 (envOK_cons ok36 (envOK_cons ok39 (envOK_cons ok38 envOK_nil)))) rfl rfl rfl (fun K hK => ?_)
              simp only [Try.f10, bodyOf, Option.getD_some, cl, cr, rOps, lights, light, rN, List.size_toArray, List.length_cons, List.length_nil, Nat.reduceAdd, Nat.zero_add, List.map_cons, List.map_nil, Option.map_none]
              simp (maxSteps := 300000) (disch := omega) only [go_sem, Nat.reduceAdd, Nat.reduceLeDiff, Nat.reduceLT, Int.reduceLE, Int.reduceToNat, ↓reduceIte, Int.toNat_natCast, Nat.sub_zero, hta, hall]
              with_reducible refine hK _ ?_
              clear hK K
              refine nx_then ?_
              refine awp_retP rfl ?_
              refine nx_ret_blk (nx_ret_then ?_)
              simp (disch := omega) only [pureQ, resA, resAL, resA1, Try.f10, go_sem, ↓reduceIte]
              rw [hta, hall, List.take_of_length_le (by rw [List.length_append, hta, hall]; exact Nat.le_refl _)]
            · skip
              exact absurd h5 h
          · skip
            have h5 := h
            refine awp_regP (Γ := noEnv) [20, 0, 1, 19] (noEnv_ok _ _) rfl rfl rfl (fun K hK => ?_)
            simp only [Try.f10, bodyOf, Option.getD_some, cl, cr, rOps, lights, light, rN, List.size_toArray, List.length_cons, List.length_nil, Nat.reduceAdd, Nat.zero_add, List.map_cons, List.map_nil, Option.map_none]
            simp (maxSteps := 300000) (disch := omega) only [go_sem, Nat.reduceAdd, Int.reduceLE, Int.reduceLT, BitVec.reduceOfInt, ↓reduceIte]
            with_reducible refine hK _ ?_
            clear hK K
            refine nx_then ?_
            refine awp_ifD (.tmp 20) rfl rfl rfl (fun h => ?_) (fun h => ?_)
            · skip
              refine awp_drop rfl ?_
              have htg : tgT t := .inr (.inr h)
              obtain ⟨n, s, q1, q2, q3⟩ := hct htg rfl
              obtain ⟨w1, w2, w3⟩ := nmO_wl q1
              have w4 := wirB_wl n
              have w5 := wirB_low n
              have ha := ahd_le t
              rw [if_pos htg, q1]
              have hta : (l.take (ahd t)).length = ahd t := by rw [hlt]; omega
              have hall : (wireL (lowS n)).length = (wirB (lowS n)).length + 1 := by simp [wireL]
              refine awp_seqP rfl ?_
              refine awp_regP (Γ := envL [(17, .pure false tgG)]) [0, 1, 7] (envOK_cons ok17 envOK_nil) rfl rfl rfl (fun K hK => ?_)
              simp only [Try.f10, bodyOf, Option.getD_some, cl, cr, rOps, lights, light, rN, List.size_toArray, List.length_cons, List.length_nil, Nat.reduceAdd, Nat.zero_add, List.map_cons, List.map_nil, Option.map_none]
              simp (maxSteps := 300000) (disch := omega) only [go_sem, Nat.reduceAdd, ↓reduceIte, q3]
              with_reducible refine hK _ ?_
              clear hK K
              refine nx_then ?_
              refine awp_seqP rfl ?_
              refine awp_regP (Γ := envL [(37, .pure true aheadG), (36, .fresh true cloneG), (39, .fresh true lowerG), (38, .fresh true wireG)]) [4, 5] (envOK_cons ok37 (envOK_cons ok36 (envOK_cons ok39 (envOK_cons ok38 envOK_nil)))) rfl rfl rfl (fun K hK => ?_)
              simp only [Try.f10, bodyOf, Option.getD_some, cl, cr, rOps, lights, light, rN, List.size_toArray, List.length_cons, List.length_nil, Nat.reduceAdd, Nat.zero_add, List.map_cons, List.map_nil, Option.map_none]
              simp (maxSteps := 300000) (disch := omega) only [go_sem, Nat.reduceAdd, Nat.reduceLeDiff, Nat.reduceLT, Int.reduceLE, Int.reduceToNat, ↓reduceIte, Int.toNat_natCast, Nat.sub_zero, hta, hall]
              with_reducible refine hK _ ?_
              clear hK K
              refine nx_then ?_
              refine awp_retP rfl ?_
              refine nx_ret_blk (nx_ret_then ?_)
              simp (disch := omega) only [pureQ, resA, resAL, resA1, Try.f10, go_sem, ↓reduceIte]
              rw [hta, hall, List.take_of_length_le (by rw [List.length_append, hta, hall]; exact Nat.le_refl _)]
            · skip
              refine awp_drop rfl ?_
              rw [if_neg (show ¬ tgT t from fun q => q.elim h2 fun q => q.elim h5 h)]
              refine awp_seqP rfl ?_
              refine awp_regP (Γ := noEnv) [39, 1, 19] (noEnv_ok _ _) rfl rfl rfl (fun K hK => ?_)
              simp only [Try.f10, bodyOf, Option.getD_some, cl, cr, rOps, lights, light, rN, List.size_toArray, List.length_cons, List.length_nil, Nat.reduceAdd, Nat.zero_add, List.map_cons, List.map_nil, Option.map_none]
              simp (maxSteps := 300000) (disch := omega) only [go_sem, Nat.reduceAdd, Int.reduceLE, Int.reduceLT, BitVec.reduceOfInt, ↓reduceIte]
              with_reducible refine hK _ ?_
              clear hK K
              refine nx_then ?_
              refine awp_ifD (.tmp 39) rfl rfl rfl (fun h => ?_) (fun h => ?_)
              · skip
                refine awp_drop rfl ?_
                exact absurd h h6
              · skip
                refine awp_drop rfl ?_
                refine awp_seqP rfl ?_
                refine awp_regP (Γ := noEnv) [56, 1] (noEnv_ok _ _) rfl rfl rfl (fun K hK => ?_)
                simp only [Try.f10, bodyOf, Option.getD_some, cl, cr, rOps, lights, light, rN, List.size_toArray, List.length_cons, List.length_nil, Nat.reduceAdd, Nat.zero_add, List.map_cons, List.map_nil, Option.map_none]
                simp (maxSteps := 300000) (disch := omega) only [go_sem, Nat.reduceAdd, Int.reduceLE, Int.reduceLT, BitVec.reduceOfInt, ↓reduceIte]
                with_reducible refine hK _ ?_
                clear hK K
                refine nx_then ?_
                refine awp_ifD (.tmp 56) rfl rfl rfl (fun h => ?_) (fun h => ?_)
                · skip
                  refine awp_drop rfl ?_
                  exact absurd h h46
                · skip
                  refine awp_drop rfl ?_
                  refine awp_skipP rfl ?_
                  refine nx_blk (nx_then ?_)
                  refine awp_seqP rfl ?_
                  refine awp_regP (Γ := envL [(36, .fresh true cloneG)]) [4, 5] (envOK_cons ok36 envOK_nil) rfl rfl rfl (fun K hK => ?_)
                  simp only [Try.f10, bodyOf, Option.getD_some, cl, cr, rOps, lights, light, rN, List.size_toArray, List.length_cons, List.length_nil, Nat.reduceAdd, Nat.zero_add, List.map_cons, List.map_nil, Option.map_none]
                  simp (maxSteps := 300000) (disch := omega) only [go_sem, Nat.reduceAdd, ↓reduceIte]
                  with_reducible refine hK _ ?_
                  clear hK K
                  refine nx_then ?_
                  refine awp_retP rfl ?_
                  simp (disch := omega) only [pureQ, resA, resAL, resA1, Try.f10, go_sem, ↓reduceIte]
    · skip
      rw [if_neg h0]
      refine awp_ifE (.tmp 17) rfl rfl rfl (fun h => ?_) (fun h => ?_)
      · skip
        refine awp_seqP rfl ?_
        refine awp_regP (Γ := noEnv) [4, 5] (noEnv_ok _ _) rfl rfl rfl (fun K hK => ?_)
        simp only [Try.f10, bodyOf, Option.getD_some, cl, cr, rOps, lights, light, rN, List.size_toArray, List.length_cons, List.length_nil, Nat.reduceAdd, Nat.zero_add, List.map_cons, List.map_nil, Option.map_none]
        simp (maxSteps := 300000) (disch := omega) only [go_sem, Nat.reduceAdd, ↓reduceIte]
        with_reducible refine hK _ ?_
        clear hK K
        refine nx_then ?_
        refine awp_retP rfl ?_
        refine nx_ret_then ?_
        simp (disch := omega) only [pureQ, resA, resAL, resA1, Try.f10, go_sem, ↓reduceIte]
      · skip
        exact absurd h h0
  · cases hg
theorem ok10 : EntOK Try.prog GLh 10 (.pure false canG) := ⟨⟨_, Try.func10, rfl, rfl⟩, can_ok⟩
end Go.AX

namespace Go.AX
open Go Go.Proofs

theorem k_a : chkE 1#16 (List.replicate 4 0#8) = 0 := by kernel_rfl
theorem k_b : chkE 1#16 (List.replicate 3 0#8) = 50 := by kernel_rfl
theorem k_c : canT 2#16 [1#8, 65#8, 0#8] = .tup [.sl 3 (c8 [1#8, 97#8, 0#8]), .i 0] := by kernel_rfl
theorem k_d : tgtT 2#16 [1#8, 65#8, 0#8] = .tup [.sl 1 (cS [[65#8]]), .i 0] := by kernel_rfl
theorem k_e : keyT [1#8, 0#8, 3#8, 253#8, 9#8] = .tup [.agg [.w16 256#16, .w8 3#8, .w8 253#8, .sl 1 (c8 [9#8])], .i 0] := by kernel_rfl
theorem tr4 : (List.replicate 4 0#8).take 4 = List.replicate 4 0#8 := (rfl)
theorem tr3 : (List.replicate 3 0#8).take 3 = List.replicate 3 0#8 := (rfl)
theorem isb4 : isBoolT Try.prog 4 = true := by kernel_rfl
theorem nf : (¬ False) = True := by simp
theorem u1 (a : B8) : unW8 [.w8 a] = some [a] := (rfl)
theorem u3 (a b c : B8) : unW8 [.w8 a, .w8 b, .w8 c] = some [a, b, c] := (rfl)
theorem u5 (a b c d e : B8) : unW8 [.w8 a, .w8 b, .w8 c, .w8 d, .w8 e] = some [a, b, c, d, e] := (rfl)
attribute [go_sem] u3 u5
theorem cast1 : ((1 : Nat) : Int) = 1 := (rfl)
theorem cast5 : ((5 : Nat) : Int) = 5 := (rfl)
theorem kl5 : (keyB 256#16 3#8 253#8 [9#8]).length = 5 := (rfl)
theorem hd11 (x : List B8) (r : Nm) : (cS (x :: r)).head? = some (.s x) := (rfl)
theorem ofs65 : ofV (Value.string { data := #[65] }) = .s [65#8] := (rfl)
def knownG : List AV → Option AV
  | [] => some (.b true)
  | _ => none
theorem knownG_eq : knownG [] = some (.b true) := (rfl)
attribute [go_sem] knownG_eq
set_option maxHeartbeats 8000000 in
theorem known_ok : PureOK Try.prog GLh 9 knownG := by
  refine pure_of_awp Try.func9 (bodyOf_some rfl) ?_
  intro args r hg
  unfold knownG at hg
  split at hg
  · obtain rfl := Option.some.inj hg
    clear hg
    refine ⟨Nat.le_of_ble_eq_true rfl, fun nx => ?_⟩
    refine awp_seqP rfl ?_
    refine awp_regP (Γ := noEnv) [] (noEnv_ok _ _) rfl rfl rfl (fun K hK => ?_)
    simp only [Try.f9, bodyOf, Option.getD_some, cl, rOps, lights, light, rN, List.size_toArray, List.length_cons, List.length_nil, Nat.zero_add, List.map_cons, List.map_nil, Option.map_none]
    simp (maxSteps := 300000) (disch := omega) only [go_sem]
    with_reducible refine hK _ ?_
    clear hK K
    refine nx_then ?_
    refine awp_seqP rfl ?_
    refine awp_drwP (Γ := envL [(13, .pure true chkDG)]) (fun k => if k = 1 then 4 else if k = 3 then 0 else 2) [1, 2] mixed (envOK_cons ok13 envOK_nil) rfl rfl rfl (by kernel_rfl) (fun K hK => ?_)
    simp only [Try.f9, bodyOf, Option.getD_some, cl, cr, rOps, lights, light, rN, List.size_toArray, List.length_cons, List.length_nil, Nat.reduceAdd, Nat.zero_add, List.map_cons, List.map_nil, Option.map_none]
    simp (maxSteps := 300000) (disch := omega) only [go_sem, Nat.reduceAdd, Nat.reduceLeDiff, Nat.reduceLT, Int.reduceLE, Int.reduceLT, Int.reduceToNat, BitVec.reduceOfInt, ↓reduceIte, k_a, k_b, rep8d, tr4, tr3, BitVec.reduceEq, nf, and_true, List.length_replicate, hsel_V 4 0 (by decide) (by decide)]
    with_reducible refine hK _ ?_
    clear hK K
    refine nx_then ?_
    refine awp_seqP rfl ?_
    refine awp_regP (Γ := envL [(10, .pure false canG)]) [1, 2, 3, 4] (envOK_cons ok10 envOK_nil) rfl rfl rfl (fun K hK => ?_)
    simp only [Try.f9, bodyOf, Option.getD_some, cl, cr, rOps, lights, light, rN, List.size_toArray, List.length_cons, List.length_nil, Nat.reduceAdd, Nat.zero_add, List.map_cons, List.map_nil, Option.map_none]
    simp (maxSteps := 300000) (disch := omega) only [go_sem, Nat.reduceAdd, Nat.reduceLeDiff, Nat.reduceLT, Int.reduceLE, Int.reduceLT, BitVec.reduceOfInt, ↓reduceIte, k_c, BitVec.reduceEq, nf, and_true, List.length_cons, List.length_nil]
    with_reducible refine hK _ ?_
    clear hK K
    refine nx_then ?_
    refine awp_seqP rfl ?_
    refine awp_regP (Γ := envL [(17, .pure false tgG)]) [1, 2, 3, 4, 5, 6] (envOK_cons ok17 envOK_nil) rfl rfl rfl (fun K hK => ?_)
    simp only [Try.f9, bodyOf, Option.getD_some, cl, cr, rOps, lights, light, rN, List.size_toArray, List.length_cons, List.length_nil, Nat.reduceAdd, Nat.zero_add, List.map_cons, List.map_nil, Option.map_none]
    simp (maxSteps := 300000) (disch := omega) only [go_sem, Nat.reduceAdd, Nat.reduceLeDiff, Nat.reduceLT, Int.reduceLE, Int.reduceLT, BitVec.reduceOfInt, ↓reduceIte, k_d, List.length_cons, List.length_nil]
    with_reducible refine hK _ ?_
    clear hK K
    refine nx_then ?_
    refine awp_seqP rfl ?_
    refine awp_regP (Γ := envL [(31, .pure false keyG)]) [1, 2, 3, 4, 5, 6, 7, 8] (envOK_cons ok31 envOK_nil) rfl rfl rfl (fun K hK => ?_)
    simp only [Try.f9, bodyOf, Option.getD_some, cl, cr, rOps, lights, light, rN, List.size_toArray, List.length_cons, List.length_nil, Nat.reduceAdd, Nat.zero_add, List.map_cons, List.map_nil, Option.map_none]
    simp (maxSteps := 300000) (disch := omega) only [go_sem, Nat.reduceAdd, Nat.reduceLeDiff, Nat.reduceLT, Int.reduceLE, Int.reduceLT, BitVec.reduceOfInt, ↓reduceIte, k_e, List.length_cons, List.length_nil]
    with_reducible refine hK _ ?_
    clear hK K
    refine nx_then ?_
    refine awp_seqP rfl ?_
    refine awp_regP (Γ := envL [(11, .pure true beqG), (34, .fresh true keyBG)]) [0] (envOK_cons ok11 (envOK_cons ok34 envOK_nil)) rfl rfl rfl (fun K hK => ?_)
    simp only [Try.f9, bodyOf, Option.getD_some, cl, cr, rOps, lights, light, rN, List.size_toArray, List.length_cons, List.length_nil, Nat.reduceAdd, Nat.zero_add, List.map_cons, List.map_nil, Option.map_none, Option.map_some, List.getElem?_toArray, List.getElem?_cons_zero, List.getElem?_cons_succ, Option.bind_some]
    simp (maxSteps := 300000) (disch := omega) only [go_sem, Nat.reduceAdd, Nat.reduceLeDiff, Nat.reduceLT, Int.reduceLE, Int.reduceLT, Int.reduceToNat, Int.reduceAdd, BitVec.reduceOfInt, ↓reduceIte, cast1, cast5, kl5, hd11, ofs65]
    with_reducible refine hK _ ?_
    clear hK K
    refine nx_then ?_
    refine awp_retP rfl ?_
    simp (disch := omega) only [pureQ, resA, resAL, resA1, Try.f9, go_sem, ↓reduceIte]
  · cases hg
theorem ok9 : EntOK Try.prog GLh 9 (.pure true knownG) := ⟨⟨_, Try.func9, rfl, rfl⟩, known_ok⟩
end Go.AX
