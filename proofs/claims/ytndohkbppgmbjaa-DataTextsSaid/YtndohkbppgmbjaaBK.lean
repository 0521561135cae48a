/-
  Data, part X: the law DataGreat. Data, part Y: the law DataTexts.
-/
import Derived.Test.YtndohkbppgmbjaaBJ
namespace Go.AX
open Go Go.Proofs

theorem zchk {t : BitVec 16} (ht : t = 99#16 ∨ t = 43#16 ∨ t = 48#16) {k : Nat} (h1 : 8190 ≤ k) : chkE t (List.replicate k 0#8) = if k ≤ 8192 then 0 else 50 := by
  unfold chkE
  rw [List.length_replicate]
  by_cases hk : 8192 < k
  · rw [if_pos hk, if_neg (by omega)]
  · rw [if_neg hk, if_pos (by omega : k ≤ 8192)]
    rcases ht with rfl | rfl | rfl
    · rw [if_neg (by decide), if_neg (by decide)]
      have : shp 99#16 (List.replicate k 0#8) = some k := by simp [shp]
      rw [this]; unfold chk1R; exact rdE_y _ _ rfl
    · rw [if_neg (by decide), if_neg (by decide)]
      have : shp 43#16 (List.replicate k 0#8) = some k := by simp [shp]; omega
      rw [this]; unfold chk1R; exact rdE_y _ _ rfl
    · rw [if_neg (by decide), if_pos rfl]
      unfold key1R
      rw [if_pos (by rw [List.length_replicate]; omega)]
      exact rdE_y _ _ (by rw [List.length_replicate])
def greatG : List AV → Option AV
  | [.w16 _, .i _] => some (.b true)
  | _ => none
theorem nb_t : (!true) = false := rfl
theorem nb_f : (!false) = true := rfl
set_option maxHeartbeats 8000000 in
theorem great_go (t : BitVec 16) (n : Int) (nx : Nat) : Awp Try.prog GLh Try.f4.ntmps (bodyOf Try.f4) (initS [.w16 t, .i n] (fun _ => none) nx) (pureQ Try.prog Try.f4.results.toList (.b true)) := by
  have hm1 : 0 ≤ n % 5 := Int.emod_nonneg _ (by decide)
  have hm2 : n % 5 < 5 := Int.emod_lt_of_pos _ (by decide)
  obtain ⟨j, hj⟩ : ∃ j : Nat, n % 5 = (j : Int) := ⟨(n % 5).toNat, by omega⟩
  rw [hj] at hm1 hm2
  obtain ⟨k, hk⟩ : ∃ k : Nat, k = 8190 + j := ⟨_, rfl⟩
  have hk2 : (8190 : Int) + (j : Int) = (k : Int) := by omega
  have hk1 : 8190 ≤ k := by omega
  have hlr : (List.replicate k 0#8).length = k := List.length_replicate
  have htk : (List.replicate k 0#8).take k = List.replicate k 0#8 := List.take_of_length_le (by omega)
  have hfin : (decide ((if k ≤ 8192 then (0 : Int) else 50) = 0) == decide ((k : Int) ≤ 8192)) = true := by
    by_cases h : k ≤ 8192
    · rw [if_pos h, decide_eq_true (by omega : (k : Int) ≤ 8192)]; rfl
    · rw [if_neg h, decide_eq_false (by omega : ¬ (k : Int) ≤ 8192)]; rfl
  refine awp_seqP rfl ?_
  refine awp_regP (Γ := noEnv) [0, 1] (noEnv_ok _ _) rfl rfl rfl (fun K hK => ?_)
  simp only [Try.f4, bodyOf, Option.getD_some, cl, rOps, lights, light, rN, List.size_toArray, List.length_cons, List.length_nil, Nat.zero_add, List.map_cons, List.map_nil, Option.map_none]
  simp (maxSteps := 300000) (disch := omega) only [go_sem, ↓reduceIte]
  with_reducible refine hK _ ?_
  clear hK K
  refine nx_then ?_
  refine awp_seqP rfl ?_
  refine awp_seqP rfl ?_
  refine awp_regP (Γ := envL [(9, .pure true knownG)]) [7, 0, 1] (envOK_cons ok9 envOK_nil) rfl rfl rfl (fun K hK => ?_)
  simp only [Try.f4, bodyOf, Option.getD_some, cl, cr, rOps, lights, light, rN, List.size_toArray, List.length_cons, List.length_nil, Nat.reduceAdd, Nat.zero_add, List.map_cons, List.map_nil, Option.map_none]
  simp (maxSteps := 300000) (disch := omega) only [go_sem, Nat.reduceAdd, ↓reduceIte]
  with_reducible refine hK _ ?_
  clear hK K
  refine nx_then ?_
  refine awp_ifB (.tmp 7) rfl rfl rfl (fun h => ?_) (fun h => ?_)
  · skip
    refine awp_drop rfl ?_
    cases h
  · skip
    refine awp_drop rfl ?_
    clear h
    refine awp_skipP rfl ?_
    refine nx_then ?_
    refine awp_seqP rfl ?_
    refine awp_seqP rfl ?_
    by_cases h99 : t = 99#16
    · skip
      have d99 : decide (t = 99#16) = true := decide_eq_true h99
      have hz := zchk (t := t) (.inl h99) hk1
      have hgd : ∀ x : Option AV, guardO (k ≤ 100000 ∧ ¬t = 46#16 ∧ ¬t = 50#16) x = x := fun x => guardO_true x ⟨by omega, by rw [h99]; decide, by rw [h99]; decide⟩
      refine awp_regP (Γ := noEnv) [17, 0, 1] (noEnv_ok _ _) rfl rfl rfl (fun K hK => ?_)
      simp only [Try.f4, bodyOf, Option.getD_some, cl, cr, rOps, lights, light, rN, List.size_toArray, List.length_cons, List.length_nil, Nat.reduceAdd, Nat.zero_add, List.map_cons, List.map_nil, Option.map_none, Option.map_some, List.getElem?_toArray, List.getElem?_cons_zero, List.getElem?_cons_succ, Option.bind_some]
      simp (maxSteps := 300000) (disch := omega) only [go_sem, Nat.reduceAdd, Int.reduceLE, Int.reduceLT, BitVec.reduceOfInt, reduceCtorEq, ↓reduceIte, d99, nb_t]
      with_reducible refine hK _ ?_
      clear hK K
      refine nx_then ?_
      refine awp_ifB (.tmp 17) rfl rfl rfl (fun h => ?_) (fun h => ?_)
      · skip
        refine awp_drop rfl ?_
        cases h
      · skip
        refine awp_drop rfl ?_
        refine awp_skipP rfl ?_
        refine nx_then ?_
        refine awp_seqP rfl ?_
        refine awp_regP (Γ := envL [(12, .pure true placeG)]) [0, 5] (envOK_cons ok12 envOK_nil) rfl rfl rfl (fun K hK => ?_)
        simp only [Try.f4, bodyOf, Option.getD_some, cl, cr, rOps, lights, light, rN, List.size_toArray, List.length_cons, List.length_nil, Nat.reduceAdd, Nat.zero_add, List.map_cons, List.map_nil, Option.map_none]
        simp (maxSteps := 300000) (disch := omega) only [go_sem, Nat.reduceAdd, Int.reduceLE, Int.reduceLT, ↓reduceIte, hj, hk2]
        with_reducible refine hK _ ?_
        clear hK K
        refine nx_then ?_
        refine awp_seqP rfl ?_
        refine awp_regP (Γ := envL [(13, .pure true chkDG)]) [4] (envOK_cons ok13 envOK_nil) rfl rfl rfl (fun K hK => ?_)
        simp only [Try.f4, bodyOf, Option.getD_some, cl, cr, rOps, lights, light, rN, List.size_toArray, List.length_cons, List.length_nil, Nat.reduceAdd, Nat.zero_add, List.map_cons, List.map_nil, Option.map_none]
        simp (maxSteps := 300000) (disch := omega) only [go_sem, Nat.reduceAdd, Nat.reduceLT, ↓reduceIte, rep8d, htk, hlr, hz, hgd, isb4, hfin]
        with_reducible refine hK _ ?_
        clear hK K
        refine nx_then ?_
        refine awp_retP rfl ?_
        simp (disch := omega) only [pureQ, resA, resAL, resA1, Try.f4, go_sem, ↓reduceIte]
    · skip
      have d99 : decide (t = 99#16) = false := decide_eq_false h99
      by_cases h43 : t = 43#16
      · skip
        have d43 : decide (t = 43#16) = true := decide_eq_true h43
        have hz := zchk (t := t) (.inr (.inl h43)) hk1
        have hgd : ∀ x : Option AV, guardO (k ≤ 100000 ∧ ¬t = 46#16 ∧ ¬t = 50#16) x = x := fun x => guardO_true x ⟨by omega, by rw [h43]; decide, by rw [h43]; decide⟩
        refine awp_regP (Γ := noEnv) [17, 0, 1] (noEnv_ok _ _) rfl rfl rfl (fun K hK => ?_)
        simp only [Try.f4, bodyOf, Option.getD_some, cl, cr, rOps, lights, light, rN, List.size_toArray, List.length_cons, List.length_nil, Nat.reduceAdd, Nat.zero_add, List.map_cons, List.map_nil, Option.map_none, Option.map_some, List.getElem?_toArray, List.getElem?_cons_zero, List.getElem?_cons_succ, Option.bind_some]
        simp (maxSteps := 300000) (disch := omega) only [go_sem, Nat.reduceAdd, Int.reduceLE, Int.reduceLT, BitVec.reduceOfInt, reduceCtorEq, ↓reduceIte, d99, d43, nb_t, nb_f]
        with_reducible refine hK _ ?_
        clear hK K
        refine nx_then ?_
        refine awp_ifB (.tmp 17) rfl rfl rfl (fun h => ?_) (fun h => ?_)
        · skip
          refine awp_drop rfl ?_
          cases h
        · skip
          refine awp_drop rfl ?_
          refine awp_skipP rfl ?_
          refine nx_then ?_
          refine awp_seqP rfl ?_
          refine awp_regP (Γ := envL [(12, .pure true placeG)]) [0, 5] (envOK_cons ok12 envOK_nil) rfl rfl rfl (fun K hK => ?_)
          simp only [Try.f4, bodyOf, Option.getD_some, cl, cr, rOps, lights, light, rN, List.size_toArray, List.length_cons, List.length_nil, Nat.reduceAdd, Nat.zero_add, List.map_cons, List.map_nil, Option.map_none]
          simp (maxSteps := 300000) (disch := omega) only [go_sem, Nat.reduceAdd, Int.reduceLE, Int.reduceLT, ↓reduceIte, hj, hk2]
          with_reducible refine hK _ ?_
          clear hK K
          refine nx_then ?_
          refine awp_seqP rfl ?_
          refine awp_regP (Γ := envL [(13, .pure true chkDG)]) [4] (envOK_cons ok13 envOK_nil) rfl rfl rfl (fun K hK => ?_)
          simp only [Try.f4, bodyOf, Option.getD_some, cl, cr, rOps, lights, light, rN, List.size_toArray, List.length_cons, List.length_nil, Nat.reduceAdd, Nat.zero_add, List.map_cons, List.map_nil, Option.map_none]
          simp (maxSteps := 300000) (disch := omega) only [go_sem, Nat.reduceAdd, Nat.reduceLT, ↓reduceIte, rep8d, htk, hlr, hz, hgd, isb4, hfin]
          with_reducible refine hK _ ?_
          clear hK K
          refine nx_then ?_
          refine awp_retP rfl ?_
          simp (disch := omega) only [pureQ, resA, resAL, resA1, Try.f4, go_sem, ↓reduceIte]
      · skip
        have d43 : decide (t = 43#16) = false := decide_eq_false h43
        by_cases h48 : t = 48#16
        · skip
          have d48 : decide (t = 48#16) = true := decide_eq_true h48
          have hz := zchk (t := t) (.inr (.inr h48)) hk1
          have hgd : ∀ x : Option AV, guardO (k ≤ 100000 ∧ ¬t = 46#16 ∧ ¬t = 50#16) x = x := fun x => guardO_true x ⟨by omega, by rw [h48]; decide, by rw [h48]; decide⟩
          refine awp_regP (Γ := noEnv) [17, 0, 1] (noEnv_ok _ _) rfl rfl rfl (fun K hK => ?_)
          simp only [Try.f4, bodyOf, Option.getD_some, cl, cr, rOps, lights, light, rN, List.size_toArray, List.length_cons, List.length_nil, Nat.reduceAdd, Nat.zero_add, List.map_cons, List.map_nil, Option.map_none, Option.map_some, List.getElem?_toArray, List.getElem?_cons_zero, List.getElem?_cons_succ, Option.bind_some]
          simp (maxSteps := 300000) (disch := omega) only [go_sem, Nat.reduceAdd, Int.reduceLE, Int.reduceLT, BitVec.reduceOfInt, ↓reduceIte, d99, d43, d48, nb_t, nb_f]
          with_reducible refine hK _ ?_
          clear hK K
          refine nx_then ?_
          refine awp_ifB (.tmp 17) rfl rfl rfl (fun h => ?_) (fun h => ?_)
          · skip
            refine awp_drop rfl ?_
            cases h
          · skip
            refine awp_drop rfl ?_
            refine awp_skipP rfl ?_
            refine nx_then ?_
            refine awp_seqP rfl ?_
            refine awp_regP (Γ := envL [(12, .pure true placeG)]) [0, 5] (envOK_cons ok12 envOK_nil) rfl rfl rfl (fun K hK => ?_)
            simp only [Try.f4, bodyOf, Option.getD_some, cl, cr, rOps, lights, light, rN, List.size_toArray, List.length_cons, List.length_nil, Nat.reduceAdd, Nat.zero_add, List.map_cons, List.map_nil, Option.map_none]
            simp (maxSteps := 300000) (disch := omega) only [go_sem, Nat.reduceAdd, Int.reduceLE, Int.reduceLT, ↓reduceIte, hj, hk2]
            with_reducible refine hK _ ?_
            clear hK K
            refine nx_then ?_
            refine awp_seqP rfl ?_
            refine awp_regP (Γ := envL [(13, .pure true chkDG)]) [4] (envOK_cons ok13 envOK_nil) rfl rfl rfl (fun K hK => ?_)
            simp only [Try.f4, bodyOf, Option.getD_some, cl, cr, rOps, lights, light, rN, List.size_toArray, List.length_cons, List.length_nil, Nat.reduceAdd, Nat.zero_add, List.map_cons, List.map_nil, Option.map_none]
            simp (maxSteps := 300000) (disch := omega) only [go_sem, Nat.reduceAdd, Nat.reduceLT, ↓reduceIte, rep8d, htk, hlr, hz, hgd, isb4, hfin]
            with_reducible refine hK _ ?_
            clear hK K
            refine nx_then ?_
            refine awp_retP rfl ?_
            simp (disch := omega) only [pureQ, resA, resAL, resA1, Try.f4, go_sem, ↓reduceIte]
        · skip
          have d48 : decide (t = 48#16) = false := decide_eq_false h48
          have hz := zchk (t := 99#16) (.inl rfl) hk1
          have hgd : ∀ x : Option AV, guardO (k ≤ 100000 ∧ ¬99#16 = 46#16 ∧ ¬99#16 = 50#16) x = x := fun x => guardO_true x ⟨by omega, by decide, by decide⟩
          refine awp_regP (Γ := noEnv) [17, 0, 1] (noEnv_ok _ _) rfl rfl rfl (fun K hK => ?_)
          simp only [Try.f4, bodyOf, Option.getD_some, cl, cr, rOps, lights, light, rN, List.size_toArray, List.length_cons, List.length_nil, Nat.reduceAdd, Nat.zero_add, List.map_cons, List.map_nil, Option.map_none, Option.map_some, List.getElem?_toArray, List.getElem?_cons_zero, List.getElem?_cons_succ, Option.bind_some]
          simp (maxSteps := 300000) (disch := omega) only [go_sem, Nat.reduceAdd, Int.reduceLE, Int.reduceLT, BitVec.reduceOfInt, ↓reduceIte, d99, d43, d48, nb_f]
          with_reducible refine hK _ ?_
          clear hK K
          refine nx_then ?_
          refine awp_ifB (.tmp 17) rfl rfl rfl (fun h => ?_) (fun h => ?_)
          · skip
            refine awp_drop rfl ?_
            refine awp_regP (Γ := noEnv) [0, 1] (noEnv_ok _ _) rfl rfl rfl (fun K hK => ?_)
            simp only [Try.f4, bodyOf, Option.getD_some, cl, cr, rOps, lights, light, rN, List.size_toArray, List.length_cons, List.length_nil, Nat.zero_add, List.map_cons, List.map_nil, Option.map_none]
            simp (maxSteps := 300000) (disch := omega) only [go_sem, Int.reduceLE, Int.reduceLT, BitVec.reduceOfInt, ↓reduceIte]
            with_reducible refine hK _ ?_
            clear hK K
            refine nx_then ?_
            refine awp_seqP rfl ?_
            refine awp_regP (Γ := envL [(12, .pure true placeG)]) [0, 5] (envOK_cons ok12 envOK_nil) rfl rfl rfl (fun K hK => ?_)
            simp only [Try.f4, bodyOf, Option.getD_some, cl, cr, rOps, lights, light, rN, List.size_toArray, List.length_cons, List.length_nil, Nat.reduceAdd, Nat.zero_add, List.map_cons, List.map_nil, Option.map_none]
            simp (maxSteps := 300000) (disch := omega) only [go_sem, Nat.reduceAdd, Int.reduceLE, Int.reduceLT, ↓reduceIte, hj, hk2]
            with_reducible refine hK _ ?_
            clear hK K
            refine nx_then ?_
            refine awp_seqP rfl ?_
            refine awp_regP (Γ := envL [(13, .pure true chkDG)]) [4] (envOK_cons ok13 envOK_nil) rfl rfl rfl (fun K hK => ?_)
            simp only [Try.f4, bodyOf, Option.getD_some, cl, cr, rOps, lights, light, rN, List.size_toArray, List.length_cons, List.length_nil, Nat.reduceAdd, Nat.zero_add, List.map_cons, List.map_nil, Option.map_none]
            simp (maxSteps := 300000) (disch := omega) only [go_sem, Nat.reduceAdd, Nat.reduceLT, ↓reduceIte, rep8d, htk, hlr, hz, hgd, isb4, hfin]
            with_reducible refine hK _ ?_
            clear hK K
            refine nx_then ?_
            refine awp_retP rfl ?_
            simp (disch := omega) only [pureQ, resA, resAL, resA1, Try.f4, go_sem, ↓reduceIte]
          · skip
            refine awp_drop rfl ?_
            cases h
theorem great_ok : PureOK Try.prog GLh 4 greatG := by
  refine pure_of_awp Try.func4 (bodyOf_some rfl) ?_
  intro args r hg
  unfold greatG at hg
  split at hg
  · obtain rfl := Option.some.inj hg
    exact ⟨Nat.le_of_ble_eq_true rfl, fun nx => great_go _ _ nx⟩
  · cases hg
end Go.AX

namespace Go.AX
open Go Go.Proofs

/-- Texts of these lengths, one behind another. -/
def bufT (ls : List B8) : List B8 := ls.flatMap fun x => x :: List.replicate x.toNat 0#8
theorem bufT_nil : bufT [] = [] := rfl
theorem bufT_cons (x : B8) (r : List B8) : bufT (x :: r) = x :: List.replicate x.toNat 0#8 ++ bufT r := by simp [bufT]
theorem bufT_clen (x : B8) (r : List B8) : (bufT (x :: r)).length = 1 + x.toNat + (bufT r).length := by rw [bufT_cons]; simp; omega
theorem bufT_app (a b : List B8) : bufT (a ++ b) = bufT a ++ bufT b := by simp [bufT]
theorem bufT_snoc (a : List B8) (x : B8) : bufT (a ++ [x]) = bufT a ++ [x] ++ List.replicate x.toNat 0#8 := by rw [bufT_app, bufT_cons, bufT_nil]; simp
theorem bufT_le (ls : List B8) : (bufT ls).length ≤ 256 * ls.length := by
  induction ls with
  | nil => simp [bufT]
  | cons x r ih => rw [bufT_clen, List.length_cons]; have := x.isLt; omega
def atL : List B8 → Nat → Nat → Nat
  | [], a, _ => a
  | x :: r, a, k => if a < k then atL r (a + (1 + x.toNat)) k else a
theorem atL_ge (ls : List B8) {a k : Nat} (h : ¬ a < k) : atL ls a k = a := by
  cases ls with
  | nil => rfl
  | cons x r => exact if_neg h
theorem atL_go (x : B8) (r : List B8) {a k : Nat} (h : a < k) : atL (x :: r) a k = atL r (a + (1 + x.toNat)) k := if_pos h
theorem atL_all (ls : List B8) (a : Nat) : atL ls a (a + (bufT ls).length) = a + (bufT ls).length := by
  induction ls generalizing a with
  | nil => rfl
  | cons x r ih =>
    rw [bufT_clen, atL_go x r (by omega)]
    have := ih (a + (1 + x.toNat))
    rw [show a + (1 + x.toNat + (bufT r).length) = a + (1 + x.toNat) + (bufT r).length by omega]; exact this
theorem txF_at : ∀ (r pre : List B8) (k f : Nat), pre.length ≤ k → k ≤ pre.length + (bufT r).length → k < f + pre.length → txF f ((pre ++ bufT r).take k) pre.length = decide (atL r pre.length k = k)
  | [], pre, k, f, h1, h2, h3 => by
    rw [bufT_nil, List.length_nil] at h2
    obtain ⟨g, rfl⟩ : ∃ g, f = g + 1 := ⟨f - 1, by omega⟩
    have hk : pre.length = k := by omega
    rw [tx_end (by rw [List.length_take]; omega)]
    exact (decide_eq_true hk).symm
  | x :: r, pre, k, f, h1, h2, h3 => by
    obtain ⟨g, rfl⟩ : ∃ g, f = g + 1 := ⟨f - 1, by omega⟩
    rw [bufT_clen] at h2
    have hbl : ((pre ++ bufT (x :: r)).take k).length = k := by rw [List.length_take, List.length_append, bufT_clen]; omega
    by_cases ha : pre.length < k
    · have hx : ((pre ++ bufT (x :: r)).take k).getD pre.length 0#8 = x := by
        rw [List.getD_eq_getElem?_getD, List.getElem?_take, if_pos ha, List.getElem?_append_right (Nat.le_refl _), Nat.sub_self, bufT_cons]; rfl
      rw [atL_go x r ha]
      by_cases hf : x.toNat ≤ k - (pre.length + 1)
      · have he : txE ((pre ++ bufT (x :: r)).take k) pre.length = some (pre.length + 1 + x.toNat) := by
          unfold txE; rw [hx, hbl]; exact if_pos ⟨ha, hf⟩
        rw [tx_go (by rw [hbl]; exact ha) he]
        have hp : (pre ++ x :: List.replicate x.toNat 0#8).length = pre.length + (1 + x.toNat) := by simp; omega
        have := txF_at r (pre ++ x :: List.replicate x.toNat 0#8) k g (by rw [hp]; omega) (by rw [hp]; omega) (by rw [hp]; omega)
        rw [hp, List.append_assoc, ← bufT_cons] at this
        rw [show pre.length + 1 + x.toNat = pre.length + (1 + x.toNat) by omega]
        exact this
      · have he : txE ((pre ++ bufT (x :: r)).take k) pre.length = none := by
          unfold txE; rw [hx, hbl]; exact if_neg fun h => hf h.2
        rw [tx_no (by rw [hbl]; exact ha) he, atL_ge r (by omega)]
        exact (decide_eq_false (by omega)).symm
    · rw [tx_end (by rw [hbl]; exact ha), atL_ge _ ha]
      exact (decide_eq_true (by omega)).symm
theorem txs_at (ls : List B8) {k : Nat} (h : k ≤ (bufT ls).length) : txsB ((bufT ls).take k) 0 = decide (0 < k ∧ atL ls 0 k = k) := by
  have hl : ((bufT ls).take k).length = k := by rw [List.length_take]; omega
  by_cases hk : 0 < k
  · have := txF_at ls [] k (k + 2) (Nat.zero_le _) (by simpa using h) (by simp)
    rw [List.nil_append, List.length_nil, txF, hl, if_pos hk] at this
    unfold txsB
    rw [hl]
    have e : decide (0 < k ∧ atL ls 0 k = k) = decide (atL ls 0 k = k) := by simp [hk]
    rw [e, ← this]
  · have he : txE ((bufT ls).take k) 0 = none := by unfold txE; rw [hl]; exact if_neg fun q => hk q.1
    unfold txsB
    rw [he]
    exact (decide_eq_false fun q => hk q.1).symm
theorem chk_txt {l : List B8} (h : l.length ≤ 8192) : chkE 16#16 l = if txsB l 0 = true then 0 else 50 := by
  unfold chkE
  rw [if_neg (by omega), if_neg (by decide), if_neg (by decide)]
  have : shp 16#16 l = if txsB l 0 = true then some l.length else none := by simp [shp]
  rw [this]
  split
  · exact rdE_y _ _ rfl
  · rfl
theorem chk_txt2 (ls : List B8) (hn : ls.length ≤ 20) {k : Nat} (h : k ≤ (bufT ls).length) : chkE 16#16 ((bufT ls).take k) = if 0 < k ∧ atL ls 0 k = k then 0 else 50 := by
  have := bufT_le ls
  rw [chk_txt (by rw [List.length_take]; omega), txs_at ls h]
  by_cases hc : 0 < k ∧ atL ls 0 k = k
  · rw [if_pos hc, decide_eq_true hc]; rfl
  · rw [if_neg hc, decide_eq_false hc]; rfl
theorem chk_txt1 (ls : List B8) (hn : ls.length ≤ 20) : chkE 16#16 (bufT ls) = if 0 < ls.length then 0 else 50 := by
  have := chk_txt2 ls hn (k := (bufT ls).length) (Nat.le_refl _)
  rw [List.take_length] at this
  rw [this]
  have ha := atL_all ls 0
  rw [Nat.zero_add] at ha
  cases ls with
  | nil => rfl
  | cons x r => rw [if_pos ⟨by rw [bufT_clen]; omega, ha⟩, if_pos (by simp)]
def textsG : List AV → Option AV
  | [.sl n xs, .i _] => obind (unW8 xs) fun l => guardO (l.length = n ∧ n ≤ 9223372036854775807) (some (.b true))
  | _ => none
structure TXS where
  a : Nat
  k : Nat
  c : Nat
set_option maxHeartbeats 8000000 in
theorem texts_go (ls : List B8) (hbig : ls.length ≤ 9223372036854775807) (cut : Int) (nx : Nat) : Awp Try.prog GLh Try.f6.ntmps (bodyOf Try.f6) (initS [.sl ls.length (c8 ls), .i cut] (fun _ => none) nx) (pureQ Try.prog Try.f6.results.toList (.b true)) := by
  refine awp_seqP rfl ?_
  refine awp_regP (Γ := noEnv) [0, 1] (noEnv_ok _ _) rfl rfl rfl (fun K hK => ?_)
  simp only [Try.f6, bodyOf, Option.getD_some, cl, rOps, lights, light, rN, List.size_toArray, List.length_cons, List.length_nil, Nat.zero_add, List.map_cons, List.map_nil, Option.map_none]
  simp (maxSteps := 300000) (disch := omega) only [go_sem, ↓reduceIte]
  with_reducible refine hK _ ?_
  clear hK K
  refine nx_then ?_
  refine awp_seqP rfl ?_
  refine awp_seqP rfl ?_
  refine awp_regP (Γ := envL [(9, .pure true knownG)]) [11, 0, 1] (envOK_cons ok9 envOK_nil) rfl rfl rfl (fun K hK => ?_)
  simp only [Try.f6, bodyOf, Option.getD_some, cl, cr, rOps, lights, light, rN, List.size_toArray, List.length_cons, List.length_nil, Nat.reduceAdd, Nat.zero_add, List.map_cons, List.map_nil, Option.map_none]
  simp (maxSteps := 300000) (disch := omega) only [go_sem, Nat.reduceAdd, ↓reduceIte]
  with_reducible refine hK _ ?_
  clear hK K
  refine nx_then ?_
  refine awp_ifB (.tmp 11) rfl rfl rfl (fun h => ?_) (fun h => ?_)
  · skip
    refine awp_drop rfl ?_
    cases h
  · skip
    refine awp_drop rfl ?_
    clear h
    refine awp_skipP rfl ?_
    refine nx_then ?_
    refine awp_seqP rfl ?_
    refine awp_seqP rfl ?_
    refine awp_regP (Γ := noEnv) [14, 0, 1] (noEnv_ok _ _) rfl rfl rfl (fun K hK => ?_)
    simp only [Try.f6, bodyOf, Option.getD_some, cl, cr, rOps, lights, light, rN, List.size_toArray, List.length_cons, List.length_nil, Nat.reduceAdd, Nat.zero_add, List.map_cons, List.map_nil, Option.map_none]
    simp (maxSteps := 300000) (disch := omega) only [go_sem, Nat.reduceAdd, ↓reduceIte]
    with_reducible refine hK _ ?_
    clear hK K
    refine nx_then ?_
    refine awp_ifD (.tmp 14) rfl rfl rfl (fun h => ?_) (fun h => ?_)
    · skip
      refine awp_drop rfl ?_
      refine awp_seqP rfl ?_
      refine awp_regP (Γ := noEnv) [4] (noEnv_ok _ _) rfl rfl rfl (fun K hK => ?_)
      simp only [Try.f6, bodyOf, Option.getD_some, cl, cr, rOps, lights, light, rN, List.size_toArray, List.length_cons, List.length_nil, Nat.zero_add, List.map_cons, List.map_nil, Option.map_none]
      simp (maxSteps := 300000) (disch := omega) only [go_sem, ↓reduceIte]
      with_reducible refine hK _ ?_
      clear hK K
      refine nx_then ?_
      refine awp_retP rfl ?_
      refine nx_ret_then ?_
      simp (disch := omega) only [pureQ, resA, resAL, resA1, Try.f6, go_sem, ↓reduceIte]
    · skip
      refine awp_drop rfl ?_
      have hn : ls.length ≤ 20 := by omega
      have hbl := bufT_le ls
      refine awp_skipP rfl ?_
      refine nx_then ?_
      refine awp_seqP rfl ?_
      refine awp_regP (Γ := noEnv) [0, 1, 5] (noEnv_ok _ _) rfl rfl rfl (fun K hK => ?_)
      simp only [Try.f6, bodyOf, Option.getD_some, cl, cr, rOps, lights, light, rN, List.size_toArray, List.length_cons, List.length_nil, Nat.zero_add, List.map_cons, List.map_nil, Option.map_none]
      simp (maxSteps := 300000) (disch := omega) only [go_sem, ↓reduceIte]
      with_reducible refine hK _ ?_
      clear hK K
      refine nx_then ?_
      refine awp_seqP rfl ?_
      refine awp_seqP rfl ?_
      refine awp_regP (Γ := noEnv) [0, 1, 5, 6] (noEnv_ok _ _) rfl rfl rfl (fun K hK => ?_)
      simp only [Try.f6, bodyOf, Option.getD_some, cl, cr, rOps, lights, light, rN, List.size_toArray, List.length_cons, List.length_nil, Nat.zero_add, List.map_cons, List.map_nil, Option.map_none]
      simp (maxSteps := 300000) (disch := omega) only [go_sem, ↓reduceIte]
      with_reducible refine hK _ ?_
      clear hK K
      refine nx_then ?_
      refine awp_own 5 1 rfl ?_
      refine awp_keep [0, 1, 5, 6] ?_
      simp only [kf_nil, kf_cons, look_cons, ↓reduceIte, Nat.reduceEqDiff]
      refine awp_blockN 0 rfl rfl ?_
      refine awp_loopP (fun p : KIC => { fr := [(0, .sl ls.length (c8 ls)), (1, .i cut), (5, .os p.id 0 (bufT (ls.take p.k)).length 1 true), (6, .i p.k)], hp := upd (fun _ => none) p.id (.cells (c8 (bufT (ls.take p.k))) true), nx := 0, cx := p.c }) (fun p => p.k ≤ ls.length ∧ p.id < p.c) (fun p => ls.length - p.k) rfl ⟨⟨0, _, _⟩, ⟨Nat.zero_le _, by simp only; omega⟩, sub_same rfl rfl (Nat.le_refl _)⟩ ?_
      rintro ⟨k, id, c⟩ ⟨hk, hid⟩ n0
      simp only at hk hid ⊢
      refine awp_seqP rfl ?_
      refine awp_seqP rfl ?_
      refine awp_regP (Γ := noEnv) [18, 0, 1, 5, 6] (noEnv_ok _ _) rfl rfl rfl (fun K hK => ?_)
      simp only [Try.f6, bodyOf, Option.getD_some, cl, cr, rOps, lights, light, rN, List.size_toArray, List.length_cons, List.length_nil, Nat.reduceAdd, Nat.zero_add, List.map_cons, List.map_nil, Option.map_none]
      simp (maxSteps := 300000) (disch := omega) only [go_sem, Nat.reduceAdd, ↓reduceIte]
      with_reducible refine hK _ ?_
      clear hK K
      refine nx_then ?_
      refine awp_ifD (.tmp 18) rfl rfl rfl (fun h => ?_) (fun h => ?_)
      · skip
        refine awp_drop rfl ?_
        have hkl : k < ls.length := by omega
        have ht := bufT_le (ls.take k)
        have htl : (ls.take k).length = k := by rw [List.length_take]; omega
        obtain ⟨x, hx⟩ : ∃ x, ls.getD k 0#8 = x := ⟨_, rfl⟩
        have e0 : ls.take (k + 1) = ls.take k ++ [x] := by rw [List.take_succ_eq_append_getElem hkl, ← hx, List.getD_eq_getElem?_getD, List.getElem?_eq_getElem hkl]; rfl
        have e6 : bufT (ls.take (k + 1)) = bufT (ls.take k) ++ [x] ++ List.replicate x.toNat 0#8 := by rw [e0, bufT_snoc]
        have e7 : (bufT (ls.take (k + 1))).length = (bufT (ls.take k)).length + 1 + x.toNat := by rw [e6]; simp; omega
        have hxl := x.isLt
        refine awp_skipP rfl ?_
        refine nx_then ?_
        refine awp_seqP rfl ?_
        refine awp_blockN 1 rfl rfl ?_
        refine awp_drwP (Γ := noEnv) (fun k => if k = 4 then 1 else if k = 10 then 1 else if k = 11 then 1 else 2) [0, 1, 5, 6] mixed (noEnv_ok _ _) rfl rfl rfl (by kernel_rfl) (fun K hK => ?_)
        simp only [Try.f6, bodyOf, Option.getD_some, cl, cr, rOps, lights, light, rN, List.size_toArray, List.length_cons, List.length_nil, Nat.reduceAdd, Nat.zero_add, List.map_cons, List.map_nil, Option.map_none]
        simp (maxSteps := 300000) (disch := omega) only [go_sem, Nat.reduceAdd, Nat.reduceLeDiff, Nat.reduceLT, ↓reduceIte, hx, rep8d]
        with_reducible refine hK _ ?_
        clear hK K
        refine nx_blk (nx_then ?_)
        refine awp_regP (Γ := noEnv) [0, 1, 5, 6] (noEnv_ok _ _) rfl rfl rfl (fun K hK => ?_)
        simp only [Try.f6, bodyOf, Option.getD_some, cl, cr, rOps, lights, light, rN, List.size_toArray, List.length_cons, List.length_nil, Nat.reduceAdd, Nat.zero_add, List.map_cons, List.map_nil, Option.map_none]
        simp (maxSteps := 300000) (disch := omega) only [go_sem, Nat.reduceAdd, ↓reduceIte]
        with_reducible refine hK _ ?_
        clear hK K
        refine nx_loop ?_
        refine ⟨⟨k + 1, c + 4 + 12, _⟩, ⟨by simp only; omega, by simp only; omega⟩, by simp only; omega, ⟨fun _ => .inr ?_, fun j o h => ?_, Nat.le_refl _⟩⟩
        · simp only [e7, Int.natCast_add, Int.natCast_one]
        · simp only at h
          exact hsub_cons (by simp (disch := omega) only [up_app, ↓reduceIte, eq_self, e6]) (hsub_nil) j o h
      · skip
        refine awp_drop rfl ?_
        refine awp_exitN 0 rfl rfl ?_
        refine nx_ex_then (nx_ex_loop (nx_ex_blk ?_))
        refine nx_then ?_
        refine awp_seqP rfl ?_
        refine awp_seqP rfl ?_
        obtain rfl : k = ls.length := by omega
        have e8 : ls.take ls.length = ls := List.take_length
        have hc1 := chk_txt1 ls hn
        have htk : (bufT ls).take (bufT ls).length = bufT ls := List.take_length
        by_cases h0 : 0 < ls.length
        · skip
          rw [if_pos h0] at hc1
          have hd : decide ((0 : Int) < (ls.length : Int)) = true := decide_eq_true (by omega)
          refine awp_regP (Γ := envL [(13, .pure true chkDG)]) [40, 0, 1, 5] (envOK_cons ok13 envOK_nil) rfl rfl rfl (fun K hK => ?_)
          simp only [Try.f6, bodyOf, Option.getD_some, cl, cr, rOps, lights, light, rN, List.size_toArray, List.length_cons, List.length_nil, Nat.reduceAdd, Nat.zero_add, List.map_cons, List.map_nil, Option.map_none]
          simp (maxSteps := 300000) (disch := omega) only [go_sem, Nat.reduceAdd, Int.reduceLE, Int.reduceLT, BitVec.reduceOfInt, ↓reduceIte, e8, htk, hc1, hd, BitVec.reduceEq, nf, and_true, isb4]
          with_reducible refine hK _ ?_
          clear hK K
          refine nx_then ?_
          refine awp_ifB (.tmp 40) rfl rfl rfl (fun h => ?_) (fun h => ?_)
          · skip
            refine awp_drop rfl ?_
            exact absurd h (by decide)
          · skip
            refine awp_drop rfl ?_
            clear h
            refine awp_skipP rfl ?_
            refine nx_then ?_
            refine awp_seqP rfl ?_
            refine awp_seqP rfl ?_
            have hpos : 0 < (bufT ls).length := by
              cases ls with
              | nil => cases h0
              | cons x r => rw [bufT_clen]; omega
            have hp0 : decide (((bufT ls).length : Int) = 0) = false := decide_eq_false (by omega)
            refine awp_regP (Γ := noEnv) [43, 0, 1, 5] (noEnv_ok _ _) rfl rfl rfl (fun K hK => ?_)
            simp only [Try.f6, bodyOf, Option.getD_some, cl, cr, rOps, lights, light, rN, List.size_toArray, List.length_cons, List.length_nil, Nat.reduceAdd, Nat.zero_add, List.map_cons, List.map_nil, Option.map_none]
            simp (maxSteps := 300000) (disch := omega) only [go_sem, Nat.reduceAdd, ↓reduceIte, hp0]
            with_reducible refine hK _ ?_
            clear hK K
            refine nx_then ?_
            refine awp_ifB (.tmp 43) rfl rfl rfl (fun h => ?_) (fun h => ?_)
            · skip
              refine awp_drop rfl ?_
              cases h
            · skip
              refine awp_drop rfl ?_
              clear h
              refine awp_skipP rfl ?_
              refine nx_then ?_
              refine awp_seqP rfl ?_
              obtain ⟨N, hN⟩ : ∃ N, (bufT ls).length = N := ⟨_, rfl⟩
              have hm1 : 0 ≤ cut % (N : Int) := Int.emod_nonneg _ (by omega)
              have hm2 : cut % (N : Int) < (N : Int) := Int.emod_lt_of_pos _ (by omega)
              obtain ⟨q, hq⟩ : ∃ q : Nat, cut % (N : Int) = (q : Int) := ⟨(cut % (N : Int)).toNat, by omega⟩
              rw [hN] at hbl hpos
              rw [hq] at hm2
              have hqN : q < N := by omega
              have hc2 := chk_txt2 ls hn (k := q) (by omega)
              rw [hN]
              refine awp_regP (Γ := envL [(12, .pure true placeG)]) [0, 5, 7] (envOK_cons ok12 envOK_nil) rfl rfl rfl (fun K hK => ?_)
              simp only [Try.f6, bodyOf, Option.getD_some, cl, cr, rOps, lights, light, rN, List.size_toArray, List.length_cons, List.length_nil, Nat.reduceAdd, Nat.zero_add, List.map_cons, List.map_nil, Option.map_none]
              simp (maxSteps := 300000) (disch := omega) only [go_sem, Nat.reduceAdd, ↓reduceIte, hq]
              with_reducible refine hK _ ?_
              clear hK K
              refine nx_then ?_
              refine awp_seqP rfl ?_
              refine awp_regP (Γ := noEnv) [0, 5, 7, 8] (noEnv_ok _ _) rfl rfl rfl (fun K hK => ?_)
              simp only [Try.f6, bodyOf, Option.getD_some, cl, cr, rOps, lights, light, rN, List.size_toArray, List.length_cons, List.length_nil, Nat.zero_add, List.map_cons, List.map_nil, Option.map_none]
              simp (maxSteps := 300000) (disch := omega) only [go_sem, ↓reduceIte]
              with_reducible refine hK _ ?_
              clear hK K
              refine nx_then ?_
              refine awp_seqP rfl ?_
              refine awp_seqP rfl ?_
              refine awp_regP (Γ := noEnv) [0, 5, 7, 8, 9] (noEnv_ok _ _) rfl rfl rfl (fun K hK => ?_)
              simp only [Try.f6, bodyOf, Option.getD_some, cl, cr, rOps, lights, light, rN, List.size_toArray, List.length_cons, List.length_nil, Nat.zero_add, List.map_cons, List.map_nil, Option.map_none]
              simp (maxSteps := 300000) (disch := omega) only [go_sem, ↓reduceIte]
              with_reducible refine hK _ ?_
              clear hK K
              refine nx_then ?_
              refine awp_blockN 2 rfl rfl ?_
              refine awp_loopP (fun p : TXS => { fr := [(0, .sl ls.length (c8 ls)), (5, .os id 0 N 1 true), (7, .i (q : Int)), (8, .i (p.a : Int)), (9, .i (p.k : Int))], hp := upd (fun _ => none) id (.cells (c8 (bufT ls)) true), nx := 0, cx := p.c }) (fun p => p.k ≤ ls.length ∧ atL (ls.drop p.k) p.a q = atL ls 0 q ∧ p.a ≤ 256 * p.k ∧ id < p.c) (fun p => ls.length - p.k) rfl ⟨⟨0, 0, _⟩, ⟨Nat.zero_le _, by rw [List.drop_zero], Nat.zero_le _, by simp only; omega⟩, sub_same rfl rfl (Nat.le_refl _)⟩ ?_
              rintro ⟨a, k, c2⟩ ⟨hk2, hat, hab, hid2⟩ n0
              simp only at hk2 hat hab hid2 ⊢
              by_cases hkl : k < ls.length
              · skip
                obtain ⟨x, hx⟩ : ∃ x, ls.getD k 0#8 = x := ⟨_, rfl⟩
                have e0 : ls.drop k = x :: ls.drop (k + 1) := by rw [List.drop_eq_getElem_cons hkl, ← hx, List.getD_eq_getElem?_getD, List.getElem?_eq_getElem hkl]; rfl
                have hxl := x.isLt
                have d1 : decide ((k : Int) < (ls.length : Int)) = true := decide_eq_true (by omega)
                by_cases haq : a < q
                · skip
                  have d2 : decide ((a : Int) < (q : Int)) = true := decide_eq_true (by omega)
                  refine awp_seqP rfl ?_
                  refine awp_seqP rfl ?_
                  refine awp_regP (Γ := noEnv) [56, 0, 5, 7, 8, 9] (noEnv_ok _ _) rfl rfl rfl (fun K hK => ?_)
                  simp only [Try.f6, bodyOf, Option.getD_some, cl, cr, rOps, lights, light, rN, List.size_toArray, List.length_cons, List.length_nil, Nat.reduceAdd, Nat.zero_add, List.map_cons, List.map_nil, Option.map_none, Option.map_some, List.getElem?_toArray, List.getElem?_cons_zero, List.getElem?_cons_succ, Option.bind_some]
                  simp (maxSteps := 300000) (disch := omega) only [go_sem, Nat.reduceAdd, ↓reduceIte, d1, d2]
                  with_reducible refine hK _ ?_
                  clear hK K
                  refine nx_then ?_
                  refine awp_ifB (.tmp 56) rfl rfl rfl (fun h => ?_) (fun h => ?_)
                  · skip
                    refine awp_drop rfl ?_
                    refine awp_skipP rfl ?_
                    refine nx_then ?_
                    refine awp_seqP rfl ?_
                    refine awp_blockN 3 rfl rfl ?_
                    refine awp_regP (Γ := noEnv) [0, 5, 7, 8, 9] (noEnv_ok _ _) rfl rfl rfl (fun K hK => ?_)
                    simp only [Try.f6, bodyOf, Option.getD_some, cl, cr, rOps, lights, light, rN, List.size_toArray, List.length_cons, List.length_nil, Nat.reduceAdd, Nat.zero_add, List.map_cons, List.map_nil, Option.map_none]
                    simp (maxSteps := 300000) (disch := omega) only [go_sem, Nat.reduceAdd, ↓reduceIte, hx]
                    with_reducible refine hK _ ?_
                    clear hK K
                    refine nx_blk (nx_then ?_)
                    refine awp_regP (Γ := noEnv) [0, 5, 7, 8, 9] (noEnv_ok _ _) rfl rfl rfl (fun K hK => ?_)
                    simp only [Try.f6, bodyOf, Option.getD_some, cl, cr, rOps, lights, light, rN, List.size_toArray, List.length_cons, List.length_nil, Nat.reduceAdd, Nat.zero_add, List.map_cons, List.map_nil, Option.map_none]
                    simp (maxSteps := 300000) (disch := omega) only [go_sem, Nat.reduceAdd, ↓reduceIte]
                    with_reducible refine hK _ ?_
                    clear hK K
                    refine nx_loop ?_
                    refine ⟨⟨a + (1 + x.toNat), k + 1, _⟩, ⟨by simp only; omega, ?_, by simp only; omega, by simp only; omega⟩, by simp only; omega, sub_same ?_ rfl (Nat.le_refl _)⟩
                    · rw [← hat, e0, atL_go _ _ haq]
                    · simp only [Int.natCast_add, Int.natCast_one]
                  · skip
                    refine awp_drop rfl ?_
                    cases h
                · skip
                  have d2 : decide ((a : Int) < (q : Int)) = false := decide_eq_false (by omega)
                  rw [atL_ge _ haq] at hat
                  refine awp_seqP rfl ?_
                  refine awp_seqP rfl ?_
                  refine awp_regP (Γ := noEnv) [56, 0, 5, 7, 8, 9] (noEnv_ok _ _) rfl rfl rfl (fun K hK => ?_)
                  simp only [Try.f6, bodyOf, Option.getD_some, cl, cr, rOps, lights, light, rN, List.size_toArray, List.length_cons, List.length_nil, Nat.reduceAdd, Nat.zero_add, List.map_cons, List.map_nil, Option.map_none, Option.map_some, List.getElem?_toArray, List.getElem?_cons_zero, List.getElem?_cons_succ, Option.bind_some]
                  simp (maxSteps := 300000) (disch := omega) only [go_sem, Nat.reduceAdd, ↓reduceIte, d1, d2]
                  with_reducible refine hK _ ?_
                  clear hK K
                  refine nx_then ?_
                  refine awp_ifB (.tmp 56) rfl rfl rfl (fun h => ?_) (fun h => ?_)
                  · skip
                    refine awp_drop rfl ?_
                    cases h
                  · skip
                    refine awp_drop rfl ?_
                    refine awp_exitN 2 rfl rfl ?_
                    refine nx_ex_then (nx_ex_loop (nx_ex_blk ?_))
                    refine nx_then ?_
                    refine awp_seqP rfl ?_
                    rw [← hat] at hc2
                    have htq : ((bufT ls).take q).length = q := by rw [List.length_take]; omega
                    by_cases hfin : 0 < q ∧ a = q
                    · skip
                      rw [if_pos hfin] at hc2
                      have d3 : decide ((0 : Int) < (q : Int)) = true := decide_eq_true (by omega)
                      have d4 : decide ((a : Int) = (q : Int)) = true := decide_eq_true (by omega)
                      refine awp_regP (Γ := envL [(13, .pure true chkDG)]) [4] (envOK_cons ok13 envOK_nil) rfl rfl rfl (fun K hK => ?_)
                      simp only [Try.f6, bodyOf, Option.getD_some, cl, cr, rOps, lights, light, rN, List.size_toArray, List.length_cons, List.length_nil, Nat.reduceAdd, Nat.zero_add, List.map_cons, List.map_nil, Option.map_none, Option.map_some, List.getElem?_toArray, List.getElem?_cons_zero, List.getElem?_cons_succ, Option.bind_some]
                      simp (maxSteps := 300000) (disch := omega) only [go_sem, Nat.reduceAdd, Int.reduceLE, Int.reduceLT, Int.reduceToNat, BitVec.reduceOfInt, ↓reduceIte, Int.toNat_natCast, Nat.sub_zero, htq, hc2, d3, d4, BitVec.reduceEq, nf, and_true, isb4]
                      with_reducible refine hK _ ?_
                      clear hK K
                      refine nx_then ?_
                      refine awp_retP rfl ?_
                      simp (disch := omega) only [pureQ, resA, resAL, resA1, Try.f6, go_sem, ↓reduceIte]
                    · skip
                      rw [if_neg hfin] at hc2
                      by_cases hq0 : 0 < q
                      · skip
                        have d3 : decide ((0 : Int) < (q : Int)) = true := decide_eq_true (by omega)
                        have d4 : decide ((a : Int) = (q : Int)) = false := decide_eq_false (by omega)
                        refine awp_regP (Γ := envL [(13, .pure true chkDG)]) [4] (envOK_cons ok13 envOK_nil) rfl rfl rfl (fun K hK => ?_)
                        simp only [Try.f6, bodyOf, Option.getD_some, cl, cr, rOps, lights, light, rN, List.size_toArray, List.length_cons, List.length_nil, Nat.reduceAdd, Nat.zero_add, List.map_cons, List.map_nil, Option.map_none, Option.map_some, List.getElem?_toArray, List.getElem?_cons_zero, List.getElem?_cons_succ, Option.bind_some]
                        simp (maxSteps := 300000) (disch := omega) only [go_sem, Nat.reduceAdd, Int.reduceLE, Int.reduceLT, Int.reduceToNat, Int.reduceEq, BitVec.reduceOfInt, ↓reduceIte, Int.toNat_natCast, Nat.sub_zero, htq, hc2, d3, d4, BitVec.reduceEq, nf, and_true, isb4]
                        with_reducible refine hK _ ?_
                        clear hK K
                        refine nx_then ?_
                        refine awp_retP rfl ?_
                        simp (disch := omega) only [pureQ, resA, resAL, resA1, Try.f6, go_sem, ↓reduceIte]
                      · skip
                        have d3 : decide ((0 : Int) < (q : Int)) = false := decide_eq_false (by omega)
                        refine awp_regP (Γ := envL [(13, .pure true chkDG)]) [4] (envOK_cons ok13 envOK_nil) rfl rfl rfl (fun K hK => ?_)
                        simp only [Try.f6, bodyOf, Option.getD_some, cl, cr, rOps, lights, light, rN, List.size_toArray, List.length_cons, List.length_nil, Nat.reduceAdd, Nat.zero_add, List.map_cons, List.map_nil, Option.map_none, Option.map_some, List.getElem?_toArray, List.getElem?_cons_zero, List.getElem?_cons_succ, Option.bind_some]
                        simp (maxSteps := 300000) (disch := omega) only [go_sem, Nat.reduceAdd, Int.reduceLE, Int.reduceLT, Int.reduceToNat, Int.reduceEq, BitVec.reduceOfInt, reduceCtorEq, ↓reduceIte, Int.toNat_natCast, Nat.sub_zero, htq, hc2, d3, BitVec.reduceEq, nf, and_true, isb4]
                        with_reducible refine hK _ ?_
                        clear hK K
                        refine nx_then ?_
                        refine awp_retP rfl ?_
                        simp (disch := omega) only [pureQ, resA, resAL, resA1, Try.f6, go_sem, ↓reduceIte]
              · skip
                have d1 : decide ((k : Int) < (ls.length : Int)) = false := decide_eq_false (by omega)
                rw [List.drop_of_length_le (by omega)] at hat
                replace hat : a = atL ls 0 q := hat
                refine awp_seqP rfl ?_
                refine awp_seqP rfl ?_
                refine awp_regP (Γ := noEnv) [56, 0, 5, 7, 8, 9] (noEnv_ok _ _) rfl rfl rfl (fun K hK => ?_)
                simp only [Try.f6, bodyOf, Option.getD_some, cl, cr, rOps, lights, light, rN, List.size_toArray, List.length_cons, List.length_nil, Nat.reduceAdd, Nat.zero_add, List.map_cons, List.map_nil, Option.map_none, Option.map_some, List.getElem?_toArray, List.getElem?_cons_zero, List.getElem?_cons_succ, Option.bind_some]
                simp (maxSteps := 300000) (disch := omega) only [go_sem, Nat.reduceAdd, reduceCtorEq, ↓reduceIte, d1]
                with_reducible refine hK _ ?_
                clear hK K
                refine nx_then ?_
                refine awp_ifB (.tmp 56) rfl rfl rfl (fun h => ?_) (fun h => ?_)
                · skip
                  refine awp_drop rfl ?_
                  cases h
                · skip
                  refine awp_drop rfl ?_
                  refine awp_exitN 2 rfl rfl ?_
                  refine nx_ex_then (nx_ex_loop (nx_ex_blk ?_))
                  refine nx_then ?_
                  refine awp_seqP rfl ?_
                  rw [← hat] at hc2
                  have htq : ((bufT ls).take q).length = q := by rw [List.length_take]; omega
                  by_cases hfin : 0 < q ∧ a = q
                  · skip
                    rw [if_pos hfin] at hc2
                    have d3 : decide ((0 : Int) < (q : Int)) = true := decide_eq_true (by omega)
                    have d4 : decide ((a : Int) = (q : Int)) = true := decide_eq_true (by omega)
                    refine awp_regP (Γ := envL [(13, .pure true chkDG)]) [4] (envOK_cons ok13 envOK_nil) rfl rfl rfl (fun K hK => ?_)
                    simp only [Try.f6, bodyOf, Option.getD_some, cl, cr, rOps, lights, light, rN, List.size_toArray, List.length_cons, List.length_nil, Nat.reduceAdd, Nat.zero_add, List.map_cons, List.map_nil, Option.map_none, Option.map_some, List.getElem?_toArray, List.getElem?_cons_zero, List.getElem?_cons_succ, Option.bind_some]
                    simp (maxSteps := 300000) (disch := omega) only [go_sem, Nat.reduceAdd, Int.reduceLE, Int.reduceLT, Int.reduceToNat, BitVec.reduceOfInt, ↓reduceIte, Int.toNat_natCast, Nat.sub_zero, htq, hc2, d3, d4, BitVec.reduceEq, nf, and_true, isb4]
                    with_reducible refine hK _ ?_
                    clear hK K
                    refine nx_then ?_
                    refine awp_retP rfl ?_
                    simp (disch := omega) only [pureQ, resA, resAL, resA1, Try.f6, go_sem, ↓reduceIte]
                  · skip
                    rw [if_neg hfin] at hc2
                    by_cases hq0 : 0 < q
                    · skip
                      have d3 : decide ((0 : Int) < (q : Int)) = true := decide_eq_true (by omega)
                      have d4 : decide ((a : Int) = (q : Int)) = false := decide_eq_false (by omega)
                      refine awp_regP (Γ := envL [(13, .pure true chkDG)]) [4] (envOK_cons ok13 envOK_nil) rfl rfl rfl (fun K hK => ?_)
                      simp only [Try.f6, bodyOf, Option.getD_some, cl, cr, rOps, lights, light, rN, List.size_toArray, List.length_cons, List.length_nil, Nat.reduceAdd, Nat.zero_add, List.map_cons, List.map_nil, Option.map_none, Option.map_some, List.getElem?_toArray, List.getElem?_cons_zero, List.getElem?_cons_succ, Option.bind_some]
                      simp (maxSteps := 300000) (disch := omega) only [go_sem, Nat.reduceAdd, Int.reduceLE, Int.reduceLT, Int.reduceToNat, Int.reduceEq, BitVec.reduceOfInt, ↓reduceIte, Int.toNat_natCast, Nat.sub_zero, htq, hc2, d3, d4, BitVec.reduceEq, nf, and_true, isb4]
                      with_reducible refine hK _ ?_
                      clear hK K
                      refine nx_then ?_
                      refine awp_retP rfl ?_
                      simp (disch := omega) only [pureQ, resA, resAL, resA1, Try.f6, go_sem, ↓reduceIte]
                    · skip
                      have d3 : decide ((0 : Int) < (q : Int)) = false := decide_eq_false (by omega)
                      refine awp_regP (Γ := envL [(13, .pure true chkDG)]) [4] (envOK_cons ok13 envOK_nil) rfl rfl rfl (fun K hK => ?_)
                      simp only [Try.f6, bodyOf, Option.getD_some, cl, cr, rOps, lights, light, rN, List.size_toArray, List.length_cons, List.length_nil, Nat.reduceAdd, Nat.zero_add, List.map_cons, List.map_nil, Option.map_none, Option.map_some, List.getElem?_toArray, List.getElem?_cons_zero, List.getElem?_cons_succ, Option.bind_some]
                      simp (maxSteps := 300000) (disch := omega) only [go_sem, Nat.reduceAdd, Int.reduceLE, Int.reduceLT, Int.reduceToNat, Int.reduceEq, BitVec.reduceOfInt, reduceCtorEq, ↓reduceIte, Int.toNat_natCast, Nat.sub_zero, htq, hc2, d3, BitVec.reduceEq, nf, and_true, isb4]
                      with_reducible refine hK _ ?_
                      clear hK K
                      refine nx_then ?_
                      refine awp_retP rfl ?_
                      simp (disch := omega) only [pureQ, resA, resAL, resA1, Try.f6, go_sem, ↓reduceIte]
        · skip
          have hnil : ls = [] := List.eq_nil_of_length_eq_zero (by omega)
          rw [if_neg h0] at hc1
          have hd : decide ((0 : Int) < (ls.length : Int)) = false := decide_eq_false (by omega)
          refine awp_regP (Γ := envL [(13, .pure true chkDG)]) [40, 0, 1, 5] (envOK_cons ok13 envOK_nil) rfl rfl rfl (fun K hK => ?_)
          simp only [Try.f6, bodyOf, Option.getD_some, cl, cr, rOps, lights, light, rN, List.size_toArray, List.length_cons, List.length_nil, Nat.reduceAdd, Nat.zero_add, List.map_cons, List.map_nil, Option.map_none]
          simp (maxSteps := 300000) (disch := omega) only [go_sem, Nat.reduceAdd, Int.reduceLE, Int.reduceLT, Int.reduceEq, BitVec.reduceOfInt, ↓reduceIte, e8, htk, hc1, hd, BitVec.reduceEq, nf, and_true, isb4]
          with_reducible refine hK _ ?_
          clear hK K
          refine nx_then ?_
          refine awp_ifB (.tmp 40) rfl rfl rfl (fun h => ?_) (fun h => ?_)
          · skip
            refine awp_drop rfl ?_
            exact absurd h (by decide)
          · skip
            refine awp_drop rfl ?_
            clear h
            refine awp_skipP rfl ?_
            refine nx_then ?_
            refine awp_seqP rfl ?_
            refine awp_seqP rfl ?_
            have hp0 : decide (((bufT ls).length : Int) = 0) = true := by rw [hnil]; rfl
            refine awp_regP (Γ := noEnv) [43, 0, 1, 5] (noEnv_ok _ _) rfl rfl rfl (fun K hK => ?_)
            simp only [Try.f6, bodyOf, Option.getD_some, cl, cr, rOps, lights, light, rN, List.size_toArray, List.length_cons, List.length_nil, Nat.reduceAdd, Nat.zero_add, List.map_cons, List.map_nil, Option.map_none]
            simp (maxSteps := 300000) (disch := omega) only [go_sem, Nat.reduceAdd, ↓reduceIte, hp0]
            with_reducible refine hK _ ?_
            clear hK K
            refine nx_then ?_
            refine awp_ifB (.tmp 43) rfl rfl rfl (fun h => ?_) (fun h => ?_)
            · skip
              refine awp_drop rfl ?_
              refine awp_seqP rfl ?_
              refine awp_regP (Γ := noEnv) [4] (noEnv_ok _ _) rfl rfl rfl (fun K hK => ?_)
              simp only [Try.f6, bodyOf, Option.getD_some, cl, cr, rOps, lights, light, rN, List.size_toArray, List.length_cons, List.length_nil, Nat.zero_add, List.map_cons, List.map_nil, Option.map_none]
              simp (maxSteps := 300000) (disch := omega) only [go_sem, ↓reduceIte]
              with_reducible refine hK _ ?_
              clear hK K
              refine nx_then ?_
              refine awp_retP rfl ?_
              refine nx_ret_then ?_
              simp (disch := omega) only [pureQ, resA, resAL, resA1, Try.f6, go_sem, ↓reduceIte]
            · skip
              refine awp_drop rfl ?_
              cases h
theorem texts_ok : PureOK Try.prog GLh 6 textsG := by
  refine pure_of_awp Try.func6 (bodyOf_some rfl) ?_
  intro args r hg
  unfold textsG at hg
  split at hg
  · rename_i n xs cut
    replace hg := obind_inv hg; obtain ⟨l, hl, hg⟩ := hg
    replace hg := guardO_inv hg; obtain ⟨⟨rfl, hbig⟩, hg⟩ := hg
    obtain rfl := Option.some.inj hg
    have := unW8_inv hl; subst this
    exact ⟨Nat.le_of_ble_eq_true rfl, fun nx => texts_go l hbig cut nx⟩
  · cases hg
theorem textsG_y (l : List B8) (cut : Int) (h : l.length ≤ 9223372036854775807) : textsG [.sl l.length (c8 l), .i cut] = some (.b true) := by
  show obind (unW8 (c8 l)) _ = _
  rw [unW8_c8, obind_some, guardO_true _ ⟨rfl, h⟩]
end Go.AX
