/-
  Hash, part Y: the statement of cut parts, walked.
-/
import Derived.Test.YtnnkmoaipcdhnaaDoorHsV
namespace Go.AX
open Go Go.Proofs

def law1cG : List AV → Option AV
  | [.sl n xs, .i a] => obind (un8 xs) fun b => guardO (b.length = n ∧ n ≤ 9223372036854775807 ∧ -9223372036854775808 ≤ a ∧ a ≤ 9223372036854775807) (some (.b true))
  | _ => none

/-- A nil part is an empty part. -/
def nl : AV → AV
  | .v (.slice none 0 0) => .sl 0 []
  | x => x
theorem nl_rel {σ : Nat → Loc} {I : Nat → Prop} {w : World} {x : AV} {v : Value} (h : Rel σ I w x v) : Rel σ I w (nl x) v := by
  unfold nl; split
  · cases h; exact .slnil
  · exact h
theorem nl_cell {x : AV} (h : x.isCell = true) : (nl x).isCell = true := by
  unfold nl; split
  · rfl
  · exact h
theorem nls_rel {σ : Nat → Loc} {I : Nat → Prop} {w : World} {n : Nat} {xs : List AV} {v : Value} (h : Rel σ I w (.sl n xs) v) : Rel σ I w (.sl n (xs.map nl)) v := by
  cases h with
  | sl _ _ blk o cap f hb hn hc h2 h3 =>
    refine .sl n _ blk o cap f hb hn (fun i hi => hc i (by simpa using hi)) (fun i hi => ?_) (fun i hi => ?_)
    · rw [List.getElem_map]; exact nl_cell (h2 i (by simpa using hi))
    · rw [List.getElem_map]; exact nl_rel (h3 i (by simpa using hi))
  | slnil => exact .slnil
  | slzero a => exact .slzero a
def shortN : List AV → Option AV
  | [.w8 tag, .sl n xs] => shortG [.w8 tag, .sl n (xs.map nl)]
  | _ => none
theorem shortN_eq (tag : B8) (n : Nat) (xs : List AV) : shortN [.w8 tag, .sl n xs] = shortG [.w8 tag, .sl n (xs.map nl)] := (rfl)
theorem nl_sl (n : Nat) (xs : List AV) : nl (.sl n xs) = .sl n xs := (rfl)
theorem nl_nil : nl (.v (.slice none 0 0)) = .sl 0 (c8 []) := (rfl)
attribute [go_sem] shortN_eq nl_sl nl_nil List.map_cons List.map_nil
theorem short_okN : PureOK Tryd.prog GLh 24 shortN := by
  intro σ I w nx args vals r h1 h2 h3 h4 h5 hg
  unfold shortN at hg
  split at hg
  · rename_i tag n xs
    refine short_ok σ I w nx _ vals r h1 h2 h3 (by simpa using h4) (fun i hi => ?_) hg
    match i, hi with
    | 0, _ => exact h5 0 (by simp)
    | 1, _ => exact nls_rel (h5 1 (by simp))
  · cases hg
theorem bself (x : Bool) : (x == x) = true := by cases x <;> rfl
theorem eqb4 (a b : Bool) : binT Tryd.prog .eql 4 (.b a) (.b b) = some (.b (a == b)) := b_eql_b _ _ _ _ Tryd.underlying4
theorem cellsV_nil : cellsV (.v (.slice none 0 0)) = some [.v (.slice none 0 0)] := (rfl)
attribute [go_sem] cellsV_nil
namespace Nils
theorem ok24 : EntOK Tryd.prog GLh 24 (.pure true shortN) := ⟨⟨_, Tryd.func24, rfl, rfl⟩, short_okN⟩

set_option maxHeartbeats 4000000 in
theorem law1c_ok : PureOK Tryd.prog GLh 5 law1cG := by
  refine pure_of_awp Tryd.func5 (bodyOf_some rfl) ?_
  intro args r hg
  unfold law1cG at hg
  split at hg
  · rename_i n xs a
    replace hg := obind_inv hg; obtain ⟨b, hb, hg⟩ := hg
    replace hg := guardO_inv hg; obtain ⟨⟨hn, hbig, ha1, ha2⟩, hg⟩ := hg
    obtain rfl := Option.some.inj hg
    have := un8_inv _ hb; subst this
    subst hn
    clear hg hb
    refine ⟨Nat.le_of_ble_eq_true rfl, fun nx => ?_⟩
    refine awp_seqP rfl ?_
    refine awp_regP (Γ := noEnv) [0, 1] (noEnv_ok _ _) rfl rfl rfl (fun K hK => ?_)
    simp only [Tryd.f5, bodyOf, Option.getD_some, cl, rOps, lights, light, rN, List.size_toArray, List.length_cons, List.length_nil, Nat.zero_add, List.map_cons, List.map_nil, Option.map_none]
    simp (maxSteps := 300000) (disch := omega) only [go_sem, ↓reduceIte]
    with_reducible refine hK _ ?_
    clear hK K
    refine nx_then ?_
    refine awp_seqP rfl ?_
    refine awp_seqP rfl ?_
    refine awp_regP (Γ := envL [(21, .pure true known1G)]) [9, 0, 1] (envOK_cons ok21 envOK_nil) rfl rfl rfl (fun K hK => ?_)
    simp only [Tryd.f5, bodyOf, Option.getD_some, cl, cr, rOps, lights, light, rN, List.size_toArray, List.length_cons, List.length_nil, Nat.reduceAdd, Nat.zero_add, List.map_cons, List.map_nil, Option.map_none]
    simp (maxSteps := 300000) (disch := omega) only [go_sem, Nat.reduceAdd, ↓reduceIte]
    with_reducible refine hK _ ?_
    clear hK K
    refine nx_then ?_
    refine awp_ifB (.tmp 9) rfl rfl rfl (fun h => ?_) (fun h => ?_)
    · skip
      refine awp_drop rfl ?_
      cases h
    · skip
      refine awp_drop rfl ?_
      clear h
      refine awp_skipP rfl ?_
      refine nx_then ?_
      refine awp_seqP rfl ?_
      refine awp_seqP rfl ?_
      refine awp_regP (Γ := noEnv) [12, 0, 1] (noEnv_ok _ _) rfl rfl rfl (fun K hK => ?_)
      simp only [Tryd.f5, bodyOf, Option.getD_some, cl, cr, rOps, lights, light, rN, List.size_toArray, List.length_cons, List.length_nil, Nat.reduceAdd, Nat.zero_add, List.map_cons, List.map_nil, Option.map_none]
      simp (maxSteps := 300000) (disch := omega) only [go_sem, Nat.reduceAdd, ↓reduceIte]
      with_reducible refine hK _ ?_
      clear hK K
      refine nx_then ?_
      refine awp_ifD (.tmp 12) rfl rfl rfl (fun h => ?_) (fun h => ?_)
      · skip
        refine awp_drop rfl ?_
        refine awp_seqP rfl ?_
        refine awp_regP (Γ := noEnv) [4] (noEnv_ok _ _) rfl rfl rfl (fun K hK => ?_)
        simp only [Tryd.f5, bodyOf, Option.getD_some, cl, cr, rOps, lights, light, rN, List.size_toArray, List.length_cons, List.length_nil, Nat.zero_add, List.map_cons, List.map_nil, Option.map_none]
        simp (maxSteps := 300000) (disch := omega) only [go_sem, ↓reduceIte]
        with_reducible refine hK _ ?_
        clear hK K
        refine nx_then ?_
        refine awp_retP rfl ?_
        refine nx_ret_then ?_
        simp (disch := omega) only [pureQ, resA, resAL, resA1, Tryd.f5, go_sem, ↓reduceIte]
      · skip
        refine awp_drop rfl ?_
        have hne : ¬ ((b.length : Int) + 1 = 0) := by omega
        obtain ⟨r, hr⟩ : ∃ r : Int, a.tmod ((b.length : Int) + 1) = r := ⟨_, rfl⟩
        have hr1 : r.natAbs ≤ b.length := by rw [← hr, Int.natAbs_tmod]; have := Nat.mod_lt a.natAbs (show (((b.length : Int) + 1).natAbs) > 0 by omega); omega
        refine awp_skipP rfl ?_
        refine nx_then ?_
        refine awp_seqP rfl ?_
        refine awp_regP (Γ := noEnv) [0, 5] (noEnv_ok _ _) rfl rfl rfl (fun K hK => ?_)
        simp only [Tryd.f5, bodyOf, Option.getD_some, cl, cr, rOps, lights, light, rN, List.size_toArray, List.length_cons, List.length_nil, Nat.reduceAdd, Nat.zero_add, List.map_cons, List.map_nil, Option.map_none]
        simp (maxSteps := 300000) (disch := omega) only [go_sem, Nat.reduceAdd, ↓reduceIte, hr, if_neg hne]
        with_reducible refine hK _ ?_
        clear hK K
        refine nx_then ?_
        trace_state
        obtain ⟨k, hk, hkb⟩ : ∃ k : Nat, (r = k ∨ -r = k) ∧ k ≤ b.length := ⟨r.natAbs, by omega, by omega⟩
        have hpl : (b.take k).length = k := by rw [List.length_take]; omega
        have hql : (b.drop k).length = b.length - k := List.length_drop
        obtain ⟨tx, htx⟩ : ∃ tx : List B8, 9#8 :: (b4 k ++ b.take k ++ b4 (b.length - k) ++ b.drop k) = tx := ⟨_, rfl⟩
        have htl : tx.length = 5 + k + 4 + (b.length - k) := by rw [← htx]; simp [b4, hpl]; omega
        have htk : tx.take (5 + k + 4 + (b.length - k)) = tx := List.take_of_length_le (by omega)
        have hs1 : shortL 9#8 [b.take k, b.drop k] = (sumL tx).take 8 := by rw [← htx]; simp [shortL, cat, part1, hpl, hql]
        have hs2 : shortL 9#8 [b.take k, b.drop k, []] = (sumL (tx ++ b4 0)).take 8 := by rw [← htx]; simp [shortL, cat, part1, hpl, hql]
        obtain ⟨s9, h9, h9l⟩ : ∃ s, (sumL tx).take 8 = s ∧ s.length = 8 := ⟨_, rfl, by simp [sumL_len]⟩
        obtain ⟨s10, h10, h10l⟩ : ∃ s, (sumL (tx ++ b4 0)).take 8 = s ∧ s.length = 8 := ⟨_, rfl, by simp [sumL_len]⟩
        have ht5 : (tx ++ b4 0).length = 5 + k + 4 + (b.length - k) + 4 := by rw [List.length_append, htl]; rfl
        have ht4 : (tx ++ b4 0).take (5 + k + 4 + (b.length - k) + 4) = tx ++ b4 0 := List.take_of_length_le (by omega)
        have hs3 : (sumL tx).length = 32 := sumL_len tx
        refine awp_seqP rfl ?_
        refine awp_seqP rfl ?_
        refine awp_regP (Γ := noEnv) [19, 0, 5] (noEnv_ok _ _) rfl rfl rfl (fun K hK => ?_)
        simp only [Tryd.f5, bodyOf, Option.getD_some, cl, cr, rOps, lights, light, rN, List.size_toArray, List.length_cons, List.length_nil, Nat.reduceAdd, Nat.zero_add, List.map_cons, List.map_nil, Option.map_none]
        simp (maxSteps := 300000) (disch := omega) only [go_sem, Nat.reduceAdd, ↓reduceIte]
        with_reducible refine hK _ ?_
        clear hK K
        refine nx_then ?_
        refine awp_ifD (.tmp 19) rfl rfl rfl (fun h => ?_) (fun h => ?_)
        · skip
          refine awp_drop rfl ?_
          have hz : (0 : Int) - r = (k : Int) := by omega
          refine awp_regP (Γ := noEnv) [0, 5] (noEnv_ok _ _) rfl rfl rfl (fun K hK => ?_)
          simp only [Tryd.f5, bodyOf, Option.getD_some, cl, cr, rOps, lights, light, rN, List.size_toArray, List.length_cons, List.length_nil, Nat.reduceAdd, Nat.zero_add, List.map_cons, List.map_nil, Option.map_none]
          simp (maxSteps := 300000) (disch := omega) only [go_sem, Nat.reduceAdd, ↓reduceIte, hz]
          with_reducible refine hK _ ?_
          clear hK K
          refine nx_then ?_
          refine awp_seqP rfl ?_
          refine awp_drwP (Γ := envL [(26, .heap partG)]) (fun k => if k = 4 then 0 else if k = 8 then 0 else 2) [0, 5, 6] mixed (envOK_cons ok26 envOK_nil) rfl rfl rfl (by kernel_rfl) (fun K hK => ?_)
          simp only [Tryd.f5, bodyOf, Option.getD_some, cl, cr, rOps, lights, light, rN, List.size_toArray, List.length_cons, List.length_nil, Nat.reduceAdd, Nat.zero_add, List.map_cons, List.map_nil, Option.map_none]
          simp (maxSteps := 300000) (disch := omega) only [go_sem, Nat.reduceAdd, Nat.reduceLeDiff, Nat.reduceLT, Int.reduceLE, Int.reduceLT, Int.reduceToNat, BitVec.reduceOfInt, ↓reduceIte, Int.toNat_natCast, Nat.sub_zero, hpl, hql, htx]
          with_reducible refine hK _ ?_
          clear hK K
          refine nx_then ?_
          refine awp_seqP rfl ?_
          refine awp_regP (Γ := envL [(22, .pure true sumG)]) [0, 5, 6, 7] (envOK_cons ok22 envOK_nil) rfl rfl rfl (fun K hK => ?_)
          simp only [Tryd.f5, bodyOf, Option.getD_some, cl, cr, rOps, lights, light, rN, List.size_toArray, List.length_cons, List.length_nil, Nat.reduceAdd, Nat.zero_add, List.map_cons, List.map_nil, Option.map_none]
          simp (maxSteps := 300000) (disch := omega) only [go_sem, Nat.reduceAdd, Nat.reduceLeDiff, ↓reduceIte, htl, htk]
          with_reducible refine hK _ ?_
          clear hK K
          refine nx_then ?_
          refine awp_seqP rfl ?_
          refine awp_drwP (Γ := envL [(24, .pure true shortN), (26, .heap partG), (27, .pure true cutG)]) (fun k => if k = 7 then 130 else if k = 20 then 0 else if k = 22 then 0 else if k = 23 then 0 else 2) [4] mixed (envOK_cons ok24 (envOK_cons ok26 (envOK_cons ok27 envOK_nil))) rfl rfl rfl (by kernel_rfl) (fun K hK => ?_)
          simp only [Tryd.f5, bodyOf, Option.getD_some, cl, cr, rOps, lights, light, rN, List.size_toArray, List.length_cons, List.length_nil, Nat.reduceAdd, Nat.zero_add, List.map_cons, List.map_nil, Option.map_none, Option.map_some, List.getElem?_toArray, List.getElem?_cons_zero, List.getElem?_cons_succ, Option.bind_some]
          simp (maxSteps := 300000) (disch := omega) only [go_sem, Nat.reduceAdd, Nat.reduceLeDiff, Nat.reduceLT, Int.reduceLE, Int.reduceLT, Int.reduceToNat, BitVec.reduceOfInt, ↓reduceIte, Nat.sub_zero, hpl, hql, htl, hs1, hs2, h9, h10, hs3, List.append_nil, ht4, ht5, bself, hsel_V 130 6 (by decide) (by decide)]
          with_reducible refine hK _ ?_
          clear hK K
          refine nx_then ?_
          refine awp_retP rfl ?_
          simp (disch := omega) only [pureQ, resA, resAL, resA1, Tryd.f5, go_sem, ↓reduceIte]
        · skip
          refine awp_drop rfl ?_
          refine awp_skipP rfl ?_
          refine nx_then ?_
          refine awp_seqP rfl ?_
          have hz : r = (k : Int) := by omega
          refine awp_drwP (Γ := envL [(26, .heap partG)]) (fun k => if k = 4 then 0 else if k = 8 then 0 else 2) [0, 5, 6] mixed (envOK_cons ok26 envOK_nil) rfl rfl rfl (by kernel_rfl) (fun K hK => ?_)
          simp only [Tryd.f5, bodyOf, Option.getD_some, cl, cr, rOps, lights, light, rN, List.size_toArray, List.length_cons, List.length_nil, Nat.reduceAdd, Nat.zero_add, List.map_cons, List.map_nil, Option.map_none]
          simp (maxSteps := 300000) (disch := omega) only [go_sem, Nat.reduceAdd, Nat.reduceLeDiff, Nat.reduceLT, Int.reduceLE, Int.reduceLT, Int.reduceToNat, BitVec.reduceOfInt, ↓reduceIte, hz, Int.toNat_natCast, Nat.sub_zero, hpl, hql, htx]
          with_reducible refine hK _ ?_
          clear hK K
          refine nx_then ?_
          refine awp_seqP rfl ?_
          refine awp_regP (Γ := envL [(22, .pure true sumG)]) [0, 5, 6, 7] (envOK_cons ok22 envOK_nil) rfl rfl rfl (fun K hK => ?_)
          simp only [Tryd.f5, bodyOf, Option.getD_some, cl, cr, rOps, lights, light, rN, List.size_toArray, List.length_cons, List.length_nil, Nat.reduceAdd, Nat.zero_add, List.map_cons, List.map_nil, Option.map_none]
          simp (maxSteps := 300000) (disch := omega) only [go_sem, Nat.reduceAdd, Nat.reduceLeDiff, ↓reduceIte, htl, htk]
          with_reducible refine hK _ ?_
          clear hK K
          refine nx_then ?_
          refine awp_seqP rfl ?_
          refine awp_drwP (Γ := envL [(24, .pure true shortN), (26, .heap partG), (27, .pure true cutG)]) (fun k => if k = 7 then 130 else if k = 20 then 0 else if k = 22 then 0 else if k = 23 then 0 else 2) [4] mixed (envOK_cons ok24 (envOK_cons ok26 (envOK_cons ok27 envOK_nil))) rfl rfl rfl (by kernel_rfl) (fun K hK => ?_)
          simp only [Tryd.f5, bodyOf, Option.getD_some, cl, cr, rOps, lights, light, rN, List.size_toArray, List.length_cons, List.length_nil, Nat.reduceAdd, Nat.zero_add, List.map_cons, List.map_nil, Option.map_none, Option.map_some, List.getElem?_toArray, List.getElem?_cons_zero, List.getElem?_cons_succ, Option.bind_some]
          simp (maxSteps := 300000) (disch := omega) only [go_sem, Nat.reduceAdd, Nat.reduceLeDiff, Nat.reduceLT, Int.reduceLE, Int.reduceLT, Int.reduceToNat, BitVec.reduceOfInt, ↓reduceIte, Nat.sub_zero, hpl, hql, htl, hs1, hs2, h9, h10, hs3, List.append_nil, ht4, ht5, bself, hsel_V 130 6 (by decide) (by decide)]
          with_reducible refine hK _ ?_
          clear hK K
          refine nx_then ?_
          refine awp_retP rfl ?_
          simp (disch := omega) only [pureQ, resA, resAL, resA1, Tryd.f5, go_sem, ↓reduceIte]
  · cases hg
end Nils
theorem ok5 : EntOK Tryd.prog GLh 5 (.pure true law1cG) := ⟨⟨_, Tryd.func5, rfl, rfl⟩, Nils.law1c_ok⟩
end Go.AX
