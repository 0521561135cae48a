/-
  Types, part V: what the statements of layer 4 ask ahead of all; texts, walked. Types, part W: bitmaps, and bytes that are read as bitmaps: two statements of layer 4, walked. Types, part X: a bitmap of one type: the last statement of layer 4, walked.
-/
import Derived.Test.YtlibdmfebcnkjaaDoorBK
import Derived.Test.YtlibdmfebcnkjaaDoorBJ
namespace Go.AX
open Go Go.Proofs

theorem ib4t : isBoolT Tryd.prog 4 = true := by kernel_rfl
attribute [go_sem] ib4t

def k4L : List T16 := [1#16, 15#16, 46#16, 47#16]
theorem k4_inc : Inc k4L := by unfold Inc k4L; decide
theorem k4_clean : cleanL [47#16, 1#16, 46#16, 15#16] = k4L := by
  refine inc_ext (cleanL_inc _) k4_inc fun t => ?_
  rw [cleanL_mem]
  simp only [k4L, List.mem_cons, List.not_mem_nil, or_false]
  constructor <;> (intro h; rcases h with h | h | h | h <;> simp [h])
theorem k4_bm : bmL k4L = [0#8, 6#8, 64#8, 1#8, 0#8, 0#8, 0#8, 3#8] := by
  have h : bmL k4L = recL (win 1#16) (grp 1#16 [15#16, 46#16, 47#16]) ++ bmL (rst 1#16 [15#16, 46#16, 47#16]) := by unfold k4L; rw [bmL]
  rw [h, show rst 1#16 [15#16, 46#16, 47#16] = [] from by decide, show bmL [] = [] from by rw [bmL]]
  decide
theorem opR_bm0 (c : List T16) (h : Inc c) : opR ((bmL c).length + 1) (-1) (bmL c) = some c := opR_bm _ c (-1) h (fun t _ => by have := win_lt t; omega) (by omega)
theorem k4_op : opR 9 (-1) [0#8, 6#8, 64#8, 1#8, 0#8, 0#8, 0#8, 3#8] = some k4L := by
  have := opR_bm0 k4L k4_inc
  rw [k4_bm] at this; exact this
theorem k4_no : opR 2 (-1) [0#8] = none := rfl
theorem k4_par : parseL [84#8, 89#8, 80#8, 69#8, 49#8] = some 1#16 := by decide
theorem k4_txt : textL 1#16 = [65#8] := rfl

theorem k4_a : [AV.w16 47#16, AV.w16 1#16, AV.w16 46#16, AV.w16 15#16] = c16 [47#16, 1#16, 46#16, 15#16] := (rfl)
theorem k4_b : [AV.w8 0#8] = c8 [0#8] := (rfl)
theorem k4_c : [AV.w8 0#8, .w8 6#8, .w8 64#8, .w8 1#8, .w8 0#8, .w8 0#8, .w8 0#8, .w8 3#8] = c8 [0#8, 6#8, 64#8, 1#8, 0#8, 0#8, 0#8, 3#8] := (rfl)
theorem k4_d : [AV.w16 1#16, AV.w16 15#16, AV.w16 46#16, AV.w16 47#16] = c16 k4L := (rfl)
theorem k4_len : [47#16, 1#16, 46#16, 15#16].length = 4 := (rfl)
theorem k4_len2 : k4L.length = 4 := (rfl)
theorem k4_t1 : List.take 4 [47#16, 1#16, 46#16, 15#16] = [47#16, 1#16, 46#16, 15#16] := (rfl)
theorem k4_t2 : List.take 4 k4L = k4L := (rfl)
theorem k4_t3 : List.take 8 [0#8, 6#8, 64#8, 1#8, 0#8, 0#8, 0#8, 3#8] = [0#8, 6#8, 64#8, 1#8, 0#8, 0#8, 0#8, 3#8] := (rfl)
theorem k4_t4 : List.take 1 [0#8] = [0#8] := (rfl)
theorem sk841 : ofV (Value.string { data := #[84, 89, 80, 69, 49] }) = .s [84#8, 89#8, 80#8, 69#8, 49#8] := (rfl)
theorem rep8a (a : AV) : rep 8 [a] = [a, a, a, a, a, a, a, a] := (rfl)
def known4G : List AV → Option AV
  | [] => some (.b true)
  | _ => none
theorem known4G_eq : known4G [] = some (.b true) := (rfl)
attribute [go_sem] known4G_eq
set_option maxHeartbeats 4000000 in
theorem known4_ok : PureOK Tryd.prog GLh 7 known4G := by
  refine pure_of_awp Tryd.func7 (bodyOf_some rfl) ?_
  intro args r hg
  unfold known4G at hg
  split at hg
  · obtain rfl := Option.some.inj hg
    refine ⟨Nat.le_of_ble_eq_true rfl, fun nx => ?_⟩
    refine awp_seqP rfl ?_
    refine awp_regP (Γ := noEnv) [] (noEnv_ok _ _) rfl rfl rfl (fun K hK => ?_)
    simp only [Tryd.f7, bodyOf, Option.getD_some, cl, rOps, lights, light, rN, List.size_toArray, List.length_cons, List.length_nil, Nat.zero_add, List.map_cons, List.map_nil, Option.map_none]
    simp (maxSteps := 300000) (disch := omega) only [go_sem]
    with_reducible refine hK _ ?_
    clear hK K
    refine nx_then ?_
    refine awp_seqP rfl ?_
    refine awp_regP (Γ := envL [(12, .fresh true bmG)]) [1] (envOK_cons ok12 envOK_nil) rfl rfl rfl (fun K hK => ?_)
    simp only [Tryd.f7, bodyOf, Option.getD_some, cl, cr, rOps, lights, light, rN, List.size_toArray, List.length_cons, List.length_nil, Nat.reduceAdd, Nat.zero_add, List.map_cons, List.map_nil, Option.map_none]
    simp (maxSteps := 300000) (disch := omega) only [go_sem, Nat.reduceAdd, Nat.reduceLeDiff, Nat.reduceLT, Int.reduceLE, Int.reduceLT, BitVec.reduceOfInt, ↓reduceIte, k4_a, k4_t1, k4_clean, k4_bm, List.length_cons, List.length_nil]
    with_reducible refine hK _ ?_
    clear hK K
    refine nx_then ?_
    refine awp_seqP rfl ?_
    refine awp_regP (Γ := envL [(13, .pure false opnG)]) [1, 2, 3] (envOK_cons ok13 envOK_nil) rfl rfl rfl (fun K hK => ?_)
    simp only [Tryd.f7, bodyOf, Option.getD_some, cl, cr, rOps, lights, light, rN, List.size_toArray, List.length_cons, List.length_nil, Nat.reduceAdd, Nat.zero_add, List.map_cons, List.map_nil, Option.map_none]
    simp (maxSteps := 300000) (disch := omega) only [go_sem, Nat.reduceAdd, Nat.reduceLeDiff, Int.reduceNeg, ↓reduceIte, k4_t3, k4_op, k4_len2, List.length_cons, List.length_nil]
    with_reducible refine hK _ ?_
    clear hK K
    refine nx_then ?_
    refine awp_seqP rfl ?_
    refine awp_regP (Γ := envL [(13, .pure false opnG)]) [1, 2, 3, 5] (envOK_cons ok13 envOK_nil) rfl rfl rfl (fun K hK => ?_)
    simp only [Tryd.f7, bodyOf, Option.getD_some, cl, cr, rOps, lights, light, rN, List.size_toArray, List.length_cons, List.length_nil, Nat.reduceAdd, Nat.zero_add, List.map_cons, List.map_nil, Option.map_none]
    simp (maxSteps := 300000) (disch := omega) only [go_sem, Nat.reduceAdd, Nat.reduceLeDiff, Nat.reduceLT, Int.reduceLE, Int.reduceLT, Int.reduceNeg, BitVec.reduceOfInt, ↓reduceIte, k4_t4, k4_b, k4_no, List.length_cons, List.length_nil]
    with_reducible refine hK _ ?_
    clear hK K
    refine nx_then ?_
    refine awp_seqP rfl ?_
    refine awp_regP (Γ := envL [(9, .pure true parG)]) [1, 2, 3, 5, 6, 7] (envOK_cons ok9 envOK_nil) rfl rfl rfl (fun K hK => ?_)
    simp only [Tryd.f7, bodyOf, Option.getD_some, cl, cr, rOps, lights, light, rN, List.size_toArray, List.length_cons, List.length_nil, Nat.reduceAdd, Nat.zero_add, List.map_cons, List.map_nil, Option.map_none]
    simp (maxSteps := 300000) (disch := omega) only [go_sem, Nat.reduceAdd, Nat.reduceLeDiff, ↓reduceIte, sk841, k4_par, List.length_cons, List.length_nil]
    with_reducible refine hK _ ?_
    clear hK K
    refine nx_then ?_
    refine awp_seqP rfl ?_
    refine awp_regP (Γ := envL [(15, .pure true beqG), (17, .pure true typG), (8, .pure true txtG)]) [0] (envOK_cons ok15 (envOK_cons ok17 (envOK_cons ok8 envOK_nil))) rfl rfl rfl (fun K hK => ?_)
    simp only [Tryd.f7, bodyOf, Option.getD_some, cl, cr, rOps, lights, light, rN, List.size_toArray, List.length_cons, List.length_nil, Nat.reduceAdd, Nat.zero_add, List.map_cons, List.map_nil, Option.map_none, Option.map_some, List.getElem?_toArray, List.getElem?_cons_zero, List.getElem?_cons_succ, Option.bind_some]
    simp (maxSteps := 300000) (disch := omega) only [go_sem, Nat.reduceAdd, Nat.reduceLeDiff, Nat.reduceLT, Int.reduceLE, Int.reduceLT, BitVec.reduceOfInt, ↓reduceIte, rep8a, sp_z, sp_s, k4_t2, k4_t3, k4_c, k4_d, decide_true, k4_txt, k4_len2, List.length_cons, List.length_nil]
    with_reducible refine hK _ ?_
    clear hK K
    refine nx_then ?_
    refine awp_retP rfl ?_
    simp (disch := omega) only [pureQ, resA, resAL, resA1, Tryd.f7, go_sem, ↓reduceIte]
  · cases hg
theorem ok7 : EntOK Tryd.prog GLh 7 (.pure true known4G) := ⟨⟨_, Tryd.func7, rfl, rfl⟩, known4_ok⟩

theorem textL_len (t : T16) : (textL t).length ≤ 10 := by
  unfold textL
  cases h : tabL.find? fun p => decide (p.1 = t) with
  | some p =>
    have h1 := List.mem_of_find?_eq_some h
    have : ∀ q ∈ tabL, q.2.length ≤ 10 := by decide
    exact this p h1
  | none =>
    have := (decD_len t.toNat 5 (by have := t.isLt; omega) (by omega)).2
    simp only [List.length_append, typeW_len]; omega
def law4tG : List AV → Option AV
  | [.w16 _, .s s] => guardO (s.length ≤ 9223372036854775807) (some (.b true))
  | _ => none
set_option maxHeartbeats 4000000 in
theorem law4t_ok : PureOK Tryd.prog GLh 3 law4tG := by
  refine pure_of_awp Tryd.func3 (bodyOf_some rfl) ?_
  intro args r hg
  unfold law4tG at hg
  split at hg
  · rename_i t s
    replace hg := guardO_inv hg; obtain ⟨hs, hg⟩ := hg
    obtain rfl := Option.some.inj hg
    refine ⟨Nat.le_of_ble_eq_true rfl, fun nx => ?_⟩
    have hb := back t
    have htl := textL_len t
    refine awp_seqP rfl ?_
    refine awp_regP (Γ := noEnv) [0, 1] (noEnv_ok _ _) rfl rfl rfl (fun K hK => ?_)
    simp only [Tryd.f3, bodyOf, Option.getD_some, cl, rOps, lights, light, rN, List.size_toArray, List.length_cons, List.length_nil, Nat.zero_add, List.map_cons, List.map_nil, Option.map_none]
    simp (maxSteps := 300000) (disch := omega) only [go_sem, ↓reduceIte]
    with_reducible refine hK _ ?_
    clear hK K
    refine nx_then ?_
    refine awp_seqP rfl ?_
    refine awp_seqP rfl ?_
    refine awp_regP (Γ := envL [(7, .pure true known4G)]) [13, 0, 1] (envOK_cons ok7 envOK_nil) rfl rfl rfl (fun K hK => ?_)
    simp only [Tryd.f3, bodyOf, Option.getD_some, cl, cr, rOps, lights, light, rN, List.size_toArray, List.length_cons, List.length_nil, Nat.reduceAdd, Nat.zero_add, List.map_cons, List.map_nil, Option.map_none]
    simp (maxSteps := 300000) (disch := omega) only [go_sem, Nat.reduceAdd, ↓reduceIte]
    with_reducible refine hK _ ?_
    clear hK K
    refine nx_then ?_
    refine awp_ifB (.tmp 13) rfl rfl rfl (fun h => ?_) (fun h => ?_)
    · skip
      refine awp_drop rfl ?_
      cases h
    · skip
      refine awp_drop rfl ?_
      clear h
      refine awp_skipP rfl ?_
      refine nx_then ?_
      refine awp_seqP rfl ?_
      refine awp_seqP rfl ?_
      refine awp_regP (Γ := noEnv) [16, 0, 1] (noEnv_ok _ _) rfl rfl rfl (fun K hK => ?_)
      simp only [Tryd.f3, bodyOf, Option.getD_some, cl, cr, rOps, lights, light, rN, List.size_toArray, List.length_cons, List.length_nil, Nat.reduceAdd, Nat.zero_add, List.map_cons, List.map_nil, Option.map_none]
      simp (maxSteps := 300000) (disch := omega) only [go_sem, Nat.reduceAdd, ↓reduceIte]
      with_reducible refine hK _ ?_
      clear hK K
      refine nx_then ?_
      refine awp_ifD (.tmp 16) rfl rfl rfl (fun h => ?_) (fun h => ?_)
      · skip
        refine awp_drop rfl ?_
        refine awp_seqP rfl ?_
        refine awp_regP (Γ := noEnv) [4] (noEnv_ok _ _) rfl rfl rfl (fun K hK => ?_)
        simp only [Tryd.f3, bodyOf, Option.getD_some, cl, cr, rOps, lights, light, rN, List.size_toArray, List.length_cons, List.length_nil, Nat.zero_add, List.map_cons, List.map_nil, Option.map_none]
        simp (maxSteps := 300000) (disch := omega) only [go_sem, ↓reduceIte]
        with_reducible refine hK _ ?_
        clear hK K
        refine nx_then ?_
        refine awp_retP rfl ?_
        refine nx_ret_then ?_
        simp (disch := omega) only [pureQ, resA, resAL, resA1, Tryd.f3, go_sem, ↓reduceIte]
      · skip
        refine awp_drop rfl ?_
        refine awp_skipP rfl ?_
        refine nx_then ?_
        refine awp_seqP rfl ?_
        refine awp_regP (Γ := envL [(8, .pure true txtG)]) [0, 1, 5] (envOK_cons ok8 envOK_nil) rfl rfl rfl (fun K hK => ?_)
        simp only [Tryd.f3, bodyOf, Option.getD_some, cl, cr, rOps, lights, light, rN, List.size_toArray, List.length_cons, List.length_nil, Nat.reduceAdd, Nat.zero_add, List.map_cons, List.map_nil, Option.map_none]
        simp (maxSteps := 300000) (disch := omega) only [go_sem, Nat.reduceAdd, ↓reduceIte]
        with_reducible refine hK _ ?_
        clear hK K
        refine nx_then ?_
        refine awp_seqP rfl ?_
        refine awp_regP (Γ := envL [(9, .pure true parG)]) [0, 1, 5, 6, 7] (envOK_cons ok9 envOK_nil) rfl rfl rfl (fun K hK => ?_)
        simp only [Tryd.f3, bodyOf, Option.getD_some, cl, cr, rOps, lights, light, rN, List.size_toArray, List.length_cons, List.length_nil, Nat.reduceAdd, Nat.zero_add, List.map_cons, List.map_nil, Option.map_none]
        simp (maxSteps := 300000) (disch := omega) only [go_sem, Nat.reduceAdd, ↓reduceIte, hb]
        with_reducible refine hK _ ?_
        clear hK K
        refine nx_then ?_
        cases e : parseL s with | none => ?_ | some u => ?_
        · skip
          refine awp_seqP rfl ?_
          refine awp_regP (Γ := envL [(9, .pure true parG)]) [0, 1, 5, 6, 7, 8, 9] (envOK_cons ok9 envOK_nil) rfl rfl rfl (fun K hK => ?_)
          simp only [Tryd.f3, bodyOf, Option.getD_some, cl, cr, rOps, lights, light, rN, List.size_toArray, List.length_cons, List.length_nil, Nat.reduceAdd, Nat.zero_add, List.map_cons, List.map_nil, Option.map_none]
          simp (maxSteps := 300000) (disch := omega) only [go_sem, Nat.reduceAdd, ↓reduceIte, e]
          with_reducible refine hK _ ?_
          clear hK K
          refine nx_then ?_
          refine awp_seqP rfl ?_
          refine awp_regP (Γ := envL [(10, .pure true parG)]) [0, 5, 6, 7, 8, 9, 10, 11] (envOK_cons ok10 envOK_nil) rfl rfl rfl (fun K hK => ?_)
          simp only [Tryd.f3, bodyOf, Option.getD_some, cl, cr, rOps, lights, light, rN, List.size_toArray, List.length_cons, List.length_nil, Nat.reduceAdd, Nat.zero_add, List.map_cons, List.map_nil, Option.map_none]
          simp (maxSteps := 300000) (disch := omega) only [go_sem, Nat.reduceAdd, ↓reduceIte, e]
          with_reducible refine hK _ ?_
          clear hK K
          refine nx_then ?_
          refine awp_seqP rfl ?_
          refine awp_regP (Γ := envL [(11, .pure true txtG)]) [4] (envOK_cons ok11 envOK_nil) rfl rfl rfl (fun K hK => ?_)
          simp only [Tryd.f3, bodyOf, Option.getD_some, cl, cr, rOps, lights, light, rN, List.size_toArray, List.length_cons, List.length_nil, Nat.reduceAdd, Nat.zero_add, List.map_cons, List.map_nil, Option.map_none, Option.map_some, List.getElem?_toArray, List.getElem?_cons_zero, List.getElem?_cons_succ, Option.bind_some]
          simp (maxSteps := 300000) (disch := omega) only [go_sem, Nat.reduceAdd, ↓reduceIte, decide_true]
          with_reducible refine hK _ ?_
          clear hK K
          refine nx_then ?_
          refine awp_retP rfl ?_
          simp (disch := omega) only [pureQ, resA, resAL, resA1, Tryd.f3, go_sem, ↓reduceIte]
        · skip
          refine awp_seqP rfl ?_
          refine awp_regP (Γ := envL [(9, .pure true parG)]) [0, 1, 5, 6, 7, 8, 9] (envOK_cons ok9 envOK_nil) rfl rfl rfl (fun K hK => ?_)
          simp only [Tryd.f3, bodyOf, Option.getD_some, cl, cr, rOps, lights, light, rN, List.size_toArray, List.length_cons, List.length_nil, Nat.reduceAdd, Nat.zero_add, List.map_cons, List.map_nil, Option.map_none]
          simp (maxSteps := 300000) (disch := omega) only [go_sem, Nat.reduceAdd, ↓reduceIte, e]
          with_reducible refine hK _ ?_
          clear hK K
          refine nx_then ?_
          refine awp_seqP rfl ?_
          refine awp_regP (Γ := envL [(10, .pure true parG)]) [0, 5, 6, 7, 8, 9, 10, 11] (envOK_cons ok10 envOK_nil) rfl rfl rfl (fun K hK => ?_)
          simp only [Tryd.f3, bodyOf, Option.getD_some, cl, cr, rOps, lights, light, rN, List.size_toArray, List.length_cons, List.length_nil, Nat.reduceAdd, Nat.zero_add, List.map_cons, List.map_nil, Option.map_none]
          simp (maxSteps := 300000) (disch := omega) only [go_sem, Nat.reduceAdd, ↓reduceIte, e]
          with_reducible refine hK _ ?_
          clear hK K
          refine nx_then ?_
          refine awp_seqP rfl ?_
          refine awp_regP (Γ := envL [(11, .pure true txtG)]) [4] (envOK_cons ok11 envOK_nil) rfl rfl rfl (fun K hK => ?_)
          simp only [Tryd.f3, bodyOf, Option.getD_some, cl, cr, rOps, lights, light, rN, List.size_toArray, List.length_cons, List.length_nil, Nat.reduceAdd, Nat.zero_add, List.map_cons, List.map_nil, Option.map_none, Option.map_some, List.getElem?_toArray, List.getElem?_cons_zero, List.getElem?_cons_succ, Option.bind_some]
          simp (maxSteps := 300000) (disch := omega) only [go_sem, Nat.reduceAdd, ↓reduceIte, decide_true]
          with_reducible refine hK _ ?_
          clear hK K
          refine nx_then ?_
          refine awp_retP rfl ?_
          simp (disch := omega) only [pureQ, resA, resAL, resA1, Tryd.f3, go_sem, ↓reduceIte]
  · cases hg
theorem ok3 : EntOK Tryd.prog GLh 3 (.pure true law4tG) := ⟨⟨_, Tryd.func3, rfl, rfl⟩, law4t_ok⟩
end Go.AX

namespace Go.AX
open Go Go.Proofs

theorem bmL_len : ∀ (n : Nat) (c : List T16), c.length ≤ n → (bmL c).length ≤ 34 * c.length
  | _, [], _ => by rw [bmL]; exact Nat.zero_le _
  | 0, _ :: _, h => by simp at h
  | n + 1, t :: r, h => by
    have h1 := rst_len t r
    have h2 := bmL_len n (rst t r) (by simp only [List.length_cons] at h; omega)
    have h3 := recL_len (win t) (grp t r)
    have h4 := szL_le (grp t r)
    rw [bmL, List.length_append, List.length_cons]; omega
theorem inc_le : ∀ (p : List T16) (lo : Nat), lo ≤ 65536 → Inc p → (∀ x ∈ p, lo ≤ x.toNat) → p.length + lo ≤ 65536
  | [], _, h, _, _ => by simpa using h
  | a :: r, lo, _, hi, hl => by
    have ha := a.isLt
    have h1 := hl a (by simp)
    have hi2 := List.pairwise_cons.1 hi
    have := inc_le r (a.toNat + 1) (by omega) hi2.2 fun x hx => hi2.1 x hx
    simp only [List.length_cons]; omega
def law4bG : List AV → Option AV
  | [.sl n xs] => obind (unA xs) fun l => guardO (l.length = n ∧ n ≤ 9223372036854775807) (some (.b true))
  | _ => none
set_option maxHeartbeats 4000000 in
theorem law4b_ok : PureOK Tryd.prog GLh 4 law4bG := by
  refine pure_of_awp Tryd.func4 (bodyOf_some rfl) ?_
  intro args r hg
  unfold law4bG at hg
  split at hg
  · rename_i n xs
    replace hg := obind_inv hg; obtain ⟨l, hl, hg⟩ := hg
    replace hg := guardO_inv hg; obtain ⟨⟨hn, hbig⟩, hg⟩ := hg
    obtain rfl := Option.some.inj hg
    have := unA_inv16 hl; subst this
    refine ⟨Nat.le_of_ble_eq_true rfl, fun nx => ?_⟩
    clear hl hg
    subst hn
    obtain ⟨c, hc⟩ : ∃ c, cleanL l = c := ⟨_, rfl⟩
    have hcl := cleanL_len l
    have hci := cleanL_inc l
    rw [hc] at hcl hci
    have hop := opR_bm0 c hci
    have hbl := bmL_len _ c (Nat.le_refl _)
    refine awp_seqP rfl ?_
    refine awp_regP (Γ := noEnv) [0] (noEnv_ok _ _) rfl rfl rfl (fun K hK => ?_)
    simp only [Tryd.f4, bodyOf, Option.getD_some, cl, rOps, lights, light, rN, List.size_toArray, List.length_cons, List.length_nil, Nat.zero_add, List.map_cons, List.map_nil, Option.map_none]
    simp (maxSteps := 300000) (disch := omega) only [go_sem, ↓reduceIte]
    with_reducible refine hK _ ?_
    clear hK K
    refine nx_then ?_
    refine awp_seqP rfl ?_
    refine awp_seqP rfl ?_
    refine awp_regP (Γ := envL [(7, .pure true known4G)]) [8, 0] (envOK_cons ok7 envOK_nil) rfl rfl rfl (fun K hK => ?_)
    simp only [Tryd.f4, bodyOf, Option.getD_some, cl, cr, rOps, lights, light, rN, List.size_toArray, List.length_cons, List.length_nil, Nat.reduceAdd, Nat.zero_add, List.map_cons, List.map_nil, Option.map_none]
    simp (maxSteps := 300000) (disch := omega) only [go_sem, Nat.reduceAdd, ↓reduceIte]
    with_reducible refine hK _ ?_
    clear hK K
    refine nx_then ?_
    refine awp_ifB (.tmp 8) rfl rfl rfl (fun h => ?_) (fun h => ?_)
    · skip
      refine awp_drop rfl ?_
      cases h
    · skip
      refine awp_drop rfl ?_
      clear h
      refine awp_skipP rfl ?_
      refine nx_then ?_
      refine awp_seqP rfl ?_
      refine awp_seqP rfl ?_
      refine awp_regP (Γ := noEnv) [11, 0] (noEnv_ok _ _) rfl rfl rfl (fun K hK => ?_)
      simp only [Tryd.f4, bodyOf, Option.getD_some, cl, cr, rOps, lights, light, rN, List.size_toArray, List.length_cons, List.length_nil, Nat.reduceAdd, Nat.zero_add, List.map_cons, List.map_nil, Option.map_none]
      simp (maxSteps := 300000) (disch := omega) only [go_sem, Nat.reduceAdd, ↓reduceIte]
      with_reducible refine hK _ ?_
      clear hK K
      refine nx_then ?_
      refine awp_ifD (.tmp 11) rfl rfl rfl (fun h => ?_) (fun h => ?_)
      · skip
        refine awp_drop rfl ?_
        refine awp_seqP rfl ?_
        refine awp_regP (Γ := noEnv) [2] (noEnv_ok _ _) rfl rfl rfl (fun K hK => ?_)
        simp only [Tryd.f4, bodyOf, Option.getD_some, cl, cr, rOps, lights, light, rN, List.size_toArray, List.length_cons, List.length_nil, Nat.zero_add, List.map_cons, List.map_nil, Option.map_none]
        simp (maxSteps := 300000) (disch := omega) only [go_sem, ↓reduceIte]
        with_reducible refine hK _ ?_
        clear hK K
        refine nx_then ?_
        refine awp_retP rfl ?_
        refine nx_ret_then ?_
        simp (disch := omega) only [pureQ, resA, resAL, resA1, Tryd.f4, go_sem, ↓reduceIte]
      · skip
        refine awp_drop rfl ?_
        refine awp_skipP rfl ?_
        refine nx_then ?_
        refine awp_seqP rfl ?_
        refine awp_regP (Γ := envL [(12, .fresh true bmG)]) [0, 3] (envOK_cons ok12 envOK_nil) rfl rfl rfl (fun K hK => ?_)
        simp only [Tryd.f4, bodyOf, Option.getD_some, cl, cr, rOps, lights, light, rN, List.size_toArray, List.length_cons, List.length_nil, Nat.reduceAdd, Nat.zero_add, List.map_cons, List.map_nil, Option.map_none]
        simp (maxSteps := 300000) (disch := omega) only [go_sem, Nat.reduceAdd, ↓reduceIte, hc]
        with_reducible refine hK _ ?_
        clear hK K
        refine nx_then ?_
        refine awp_seqP rfl ?_
        refine awp_regP (Γ := envL [(13, .pure false opnG)]) [0, 3, 4, 5] (envOK_cons ok13 envOK_nil) rfl rfl rfl (fun K hK => ?_)
        simp only [Tryd.f4, bodyOf, Option.getD_some, cl, cr, rOps, lights, light, rN, List.size_toArray, List.length_cons, List.length_nil, Nat.reduceAdd, Nat.zero_add, List.map_cons, List.map_nil, Option.map_none]
        simp (maxSteps := 300000) (disch := omega) only [go_sem, Nat.reduceAdd, Int.reduceNeg, ↓reduceIte, hop]
        with_reducible refine hK _ ?_
        clear hK K
        refine nx_then ?_
        refine awp_seqP rfl ?_
        refine awp_regP (Γ := envL [(14, .fresh true clnG)]) [0, 3, 4, 5, 6] (envOK_cons ok14 envOK_nil) rfl rfl rfl (fun K hK => ?_)
        simp only [Tryd.f4, bodyOf, Option.getD_some, cl, cr, rOps, lights, light, rN, List.size_toArray, List.length_cons, List.length_nil, Nat.reduceAdd, Nat.zero_add, List.map_cons, List.map_nil, Option.map_none]
        simp (maxSteps := 300000) (disch := omega) only [go_sem, Nat.reduceAdd, ↓reduceIte, hc]
        with_reducible refine hK _ ?_
        clear hK K
        refine nx_then ?_
        refine awp_seqP rfl ?_
        refine awp_regP (Γ := envL [(16, .fresh true bmG), (15, .pure true beqG), (17, .pure true typG), (18, .fresh true clnG)]) [2] (envOK_cons ok16 (envOK_cons ok15 (envOK_cons ok17 (envOK_cons ok18 envOK_nil)))) rfl rfl rfl (fun K hK => ?_)
        simp only [Tryd.f4, bodyOf, Option.getD_some, cl, cr, rOps, lights, light, rN, List.size_toArray, List.length_cons, List.length_nil, Nat.reduceAdd, Nat.zero_add, List.map_cons, List.map_nil, Option.map_none, Option.map_some, List.getElem?_toArray, List.getElem?_cons_zero, List.getElem?_cons_succ, Option.bind_some]
        simp (maxSteps := 300000) (disch := omega) only [go_sem, Nat.reduceAdd, ↓reduceIte, hc, decide_true, eq_self]
        with_reducible refine hK _ ?_
        clear hK K
        refine nx_then ?_
        refine awp_retP rfl ?_
        simp (disch := omega) only [pureQ, resA, resAL, resA1, Tryd.f4, go_sem, ↓reduceIte]
  · cases hg
theorem ok4 : EntOK Tryd.prog GLh 4 (.pure true law4bG) := ⟨⟨_, Tryd.func4, rfl, rfl⟩, law4b_ok⟩

theorem unA0 : unA [] = some [] := (rfl)
def law4oG : List AV → Option AV
  | [.sl n xs] => obind (un8 xs) fun l => guardO (l.length = n ∧ n ≤ 9223372036854775807) (some (.b true))
  | _ => none
set_option maxHeartbeats 4000000 in
theorem law4o_ok : PureOK Tryd.prog GLh 5 law4oG := by
  refine pure_of_awp Tryd.func5 (bodyOf_some rfl) ?_
  intro args r hg
  unfold law4oG at hg
  split at hg
  · rename_i n xs
    replace hg := obind_inv hg; obtain ⟨b, hb, hg⟩ := hg
    replace hg := guardO_inv hg; obtain ⟨⟨hn, hbig⟩, hg⟩ := hg
    obtain rfl := Option.some.inj hg
    have := un8_inv _ hb; subst this
    refine ⟨Nat.le_of_ble_eq_true rfl, fun nx => ?_⟩
    clear hb hg
    subst hn
    refine awp_seqP rfl ?_
    refine awp_regP (Γ := noEnv) [0] (noEnv_ok _ _) rfl rfl rfl (fun K hK => ?_)
    simp only [Tryd.f5, bodyOf, Option.getD_some, cl, rOps, lights, light, rN, List.size_toArray, List.length_cons, List.length_nil, Nat.zero_add, List.map_cons, List.map_nil, Option.map_none]
    simp (maxSteps := 300000) (disch := omega) only [go_sem, ↓reduceIte]
    with_reducible refine hK _ ?_
    clear hK K
    refine nx_then ?_
    refine awp_seqP rfl ?_
    refine awp_seqP rfl ?_
    refine awp_regP (Γ := envL [(7, .pure true known4G)]) [8, 0] (envOK_cons ok7 envOK_nil) rfl rfl rfl (fun K hK => ?_)
    simp only [Tryd.f5, bodyOf, Option.getD_some, cl, cr, rOps, lights, light, rN, List.size_toArray, List.length_cons, List.length_nil, Nat.reduceAdd, Nat.zero_add, List.map_cons, List.map_nil, Option.map_none]
    simp (maxSteps := 300000) (disch := omega) only [go_sem, Nat.reduceAdd, ↓reduceIte]
    with_reducible refine hK _ ?_
    clear hK K
    refine nx_then ?_
    refine awp_ifB (.tmp 8) rfl rfl rfl (fun h => ?_) (fun h => ?_)
    · skip
      refine awp_drop rfl ?_
      cases h
    · skip
      refine awp_drop rfl ?_
      clear h
      refine awp_skipP rfl ?_
      refine nx_then ?_
      refine awp_seqP rfl ?_
      refine awp_seqP rfl ?_
      refine awp_regP (Γ := noEnv) [11, 0] (noEnv_ok _ _) rfl rfl rfl (fun K hK => ?_)
      simp only [Tryd.f5, bodyOf, Option.getD_some, cl, cr, rOps, lights, light, rN, List.size_toArray, List.length_cons, List.length_nil, Nat.reduceAdd, Nat.zero_add, List.map_cons, List.map_nil, Option.map_none]
      simp (maxSteps := 300000) (disch := omega) only [go_sem, Nat.reduceAdd, ↓reduceIte]
      with_reducible refine hK _ ?_
      clear hK K
      refine nx_then ?_
      refine awp_ifD (.tmp 11) rfl rfl rfl (fun h => ?_) (fun h => ?_)
      · skip
        refine awp_drop rfl ?_
        refine awp_seqP rfl ?_
        refine awp_regP (Γ := noEnv) [2] (noEnv_ok _ _) rfl rfl rfl (fun K hK => ?_)
        simp only [Tryd.f5, bodyOf, Option.getD_some, cl, cr, rOps, lights, light, rN, List.size_toArray, List.length_cons, List.length_nil, Nat.zero_add, List.map_cons, List.map_nil, Option.map_none]
        simp (maxSteps := 300000) (disch := omega) only [go_sem, ↓reduceIte]
        with_reducible refine hK _ ?_
        clear hK K
        refine nx_then ?_
        refine awp_retP rfl ?_
        refine nx_ret_then ?_
        simp (disch := omega) only [pureQ, resA, resAL, resA1, Tryd.f5, go_sem, ↓reduceIte]
      · skip
        refine awp_drop rfl ?_
        refine awp_skipP rfl ?_
        refine nx_then ?_
        refine awp_seqP rfl ?_
        cases e : opR (b.length + 1) (-1) b with | none => ?_ | some l => ?_
        · skip
          refine awp_regP (Γ := envL [(13, .pure false opnG)]) [0, 3, 4] (envOK_cons ok13 envOK_nil) rfl rfl rfl (fun K hK => ?_)
          simp only [Tryd.f5, bodyOf, Option.getD_some, cl, cr, rOps, lights, light, rN, List.size_toArray, List.length_cons, List.length_nil, Nat.reduceAdd, Nat.zero_add, List.map_cons, List.map_nil, Option.map_none]
          simp (maxSteps := 300000) (disch := omega) only [go_sem, Nat.reduceAdd, Int.reduceNeg, ↓reduceIte, e]
          with_reducible refine hK _ ?_
          clear hK K
          refine nx_then ?_
          refine awp_seqP rfl ?_
          refine awp_regP (Γ := envL [(19, .pure false opnG)]) [0, 3, 4, 5, 6] (envOK_cons ok19 envOK_nil) rfl rfl rfl (fun K hK => ?_)
          simp only [Tryd.f5, bodyOf, Option.getD_some, cl, cr, rOps, lights, light, rN, List.size_toArray, List.length_cons, List.length_nil, Nat.reduceAdd, Nat.zero_add, List.map_cons, List.map_nil, Option.map_none]
          simp (maxSteps := 300000) (disch := omega) only [go_sem, Nat.reduceAdd, Int.reduceNeg, ↓reduceIte, e]
          with_reducible refine hK _ ?_
          clear hK K
          refine nx_then ?_
          refine awp_seqP rfl ?_
          refine awp_regP (Γ := envL [(17, .pure true typG), (12, .fresh true bmG), (15, .pure true beqG)]) [2] (envOK_cons ok17 (envOK_cons ok12 (envOK_cons ok15 envOK_nil))) rfl rfl rfl (fun K hK => ?_)
          simp only [Tryd.f5, bodyOf, Option.getD_some, cl, cr, rOps, lights, light, rN, List.size_toArray, List.length_cons, List.length_nil, Nat.reduceAdd, Nat.zero_add, List.map_cons, List.map_nil, Option.map_none, Option.map_some, List.getElem?_toArray, List.getElem?_cons_zero, List.getElem?_cons_succ, Option.bind_some]
          simp (maxSteps := 300000) (disch := omega) only [go_sem, Nat.reduceAdd, Nat.reduceLeDiff, Int.reduceEq, ↓reduceIte, unA0, List.length_nil, decide_true, eq_self]
          with_reducible refine hK _ ?_
          clear hK K
          refine nx_then ?_
          refine awp_retP rfl ?_
          simp (disch := omega) only [pureQ, resA, resAL, resA1, Tryd.f5, go_sem, ↓reduceIte]
        · skip
          obtain ⟨hi, _, hbm, _⟩ := opR_inv _ _ _ _ e
          have hll := inc_le l 0 (by omega) hi (fun _ _ => Nat.zero_le _)
          have hcl := cleanL_id hi
          refine awp_regP (Γ := envL [(13, .pure false opnG)]) [0, 3, 4] (envOK_cons ok13 envOK_nil) rfl rfl rfl (fun K hK => ?_)
          simp only [Tryd.f5, bodyOf, Option.getD_some, cl, cr, rOps, lights, light, rN, List.size_toArray, List.length_cons, List.length_nil, Nat.reduceAdd, Nat.zero_add, List.map_cons, List.map_nil, Option.map_none]
          simp (maxSteps := 300000) (disch := omega) only [go_sem, Nat.reduceAdd, Int.reduceNeg, ↓reduceIte, e]
          with_reducible refine hK _ ?_
          clear hK K
          refine nx_then ?_
          refine awp_seqP rfl ?_
          refine awp_regP (Γ := envL [(19, .pure false opnG)]) [0, 3, 4, 5, 6] (envOK_cons ok19 envOK_nil) rfl rfl rfl (fun K hK => ?_)
          simp only [Tryd.f5, bodyOf, Option.getD_some, cl, cr, rOps, lights, light, rN, List.size_toArray, List.length_cons, List.length_nil, Nat.reduceAdd, Nat.zero_add, List.map_cons, List.map_nil, Option.map_none]
          simp (maxSteps := 300000) (disch := omega) only [go_sem, Nat.reduceAdd, Int.reduceNeg, ↓reduceIte, e]
          with_reducible refine hK _ ?_
          clear hK K
          refine nx_then ?_
          refine awp_seqP rfl ?_
          refine awp_regP (Γ := envL [(17, .pure true typG), (12, .fresh true bmG), (15, .pure true beqG)]) [2] (envOK_cons ok17 (envOK_cons ok12 (envOK_cons ok15 envOK_nil))) rfl rfl rfl (fun K hK => ?_)
          simp only [Tryd.f5, bodyOf, Option.getD_some, cl, cr, rOps, lights, light, rN, List.size_toArray, List.length_cons, List.length_nil, Nat.reduceAdd, Nat.zero_add, List.map_cons, List.map_nil, Option.map_none, Option.map_some, List.getElem?_toArray, List.getElem?_cons_zero, List.getElem?_cons_succ, Option.bind_some]
          simp (maxSteps := 300000) (disch := omega) only [go_sem, Nat.reduceAdd, reduceCtorEq, ↓reduceIte, hcl, hbm, decide_true, eq_self]
          with_reducible refine hK _ ?_
          clear hK K
          refine nx_then ?_
          refine awp_retP rfl ?_
          simp (disch := omega) only [pureQ, resA, resAL, resA1, Tryd.f5, go_sem, ↓reduceIte]
  · cases hg
theorem ok5 : EntOK Tryd.prog GLh 5 (.pure true law4oG) := ⟨⟨_, Tryd.func5, rfl, rfl⟩, law4o_ok⟩
end Go.AX

namespace Go.AX
open Go Go.Proofs

/-- A bitmap's bytes of one type. -/
def oneB (t : T16) : List B8 := (bitsL [t]).take (pos t / 8 + 1)
theorem oneB_len (t : T16) : (oneB t).length = pos t / 8 + 1 := by
  have := pos_lt t
  unfold oneB; rw [List.length_take, bitsL_len]; omega
theorem one_inc (t : T16) : Inc [t] := List.pairwise_singleton ..
theorem one_clean (t : T16) : cleanL [t] = [t] := cleanL_id (one_inc t)
theorem one_sz (t : T16) : szL [t] = pos t / 8 + 1 := szL_snoc [] t
theorem one_bm (t : T16) : bmL [t] = BitVec.ofNat 8 (win t) :: BitVec.ofNat 8 (pos t / 8 + 1) :: oneB t := by
  rw [bmL, show grp t [] = [t] from rfl, show rst t [] = [] from rfl, show bmL [] = [] from by rw [bmL], List.append_nil, recL, one_sz]; rfl
theorem one_last (t : T16) : (oneB t).getD (pos t / 8) 0#8 = bit8 (pos t % 8) := by
  have hp := pos_lt t
  have h : bitsL [t] = (List.replicate 32 0#8).set (pos t / 8) (bit8 (pos t % 8)) := by
    show stpB (List.replicate 32 0#8) t = _
    unfold stpB
    congr 1
    rw [List.getD_eq_getElem?_getD, List.getElem?_replicate]
    split <;> simp
  unfold oneB
  rw [List.getD_eq_getElem?_getD, List.getElem?_take, if_pos (by omega), h, List.getElem?_set_self (by rw [List.length_replicate]; omega)]; rfl
theorem one_n (t : T16) : (BitVec.ofNat 8 (pos t / 8 + 1)).toNat = pos t / 8 + 1 := by
  have := pos_lt t
  rw [BitVec.toNat_ofNat]; omega
theorem opR_app (f : Nat) (last : Int) (w n x : B8) (bs : List B8) (h : bs.length = n.toNat) : opR (f + 2) last (w :: n :: (bs ++ [x])) = none := by
  rw [opR]
  split
  · rw [← h, List.drop_left]
    rfl
  · rfl
theorem opR_cut (f : Nat) (last : Int) (w n : B8) (bs : List B8) (h : bs.length < n.toNat) : opR (f + 1) last (w :: n :: bs) = none := by
  rw [opR, if_neg (by omega)]
theorem one_app (t : T16) (x : B8) : opR ((bmL [t] ++ [x]).length + 1) (-1) (bmL [t] ++ [x]) = none := by
  rw [one_bm]
  have hl : (BitVec.ofNat 8 (win t) :: BitVec.ofNat 8 (pos t / 8 + 1) :: oneB t ++ [x]).length + 1 = (oneB t).length + 2 + 2 := by simp
  rw [hl]
  exact opR_app _ _ _ _ _ _ (by rw [one_n, oneB_len])
theorem one_cut (t : T16) : opR (((bmL [t]).take (pos t / 8 + 2)).length + 1) (-1) ((bmL [t]).take (pos t / 8 + 2)) = none := by
  rw [one_bm, List.take_succ_cons, List.take_succ_cons]
  exact opR_cut _ _ _ _ _ (by rw [one_n, List.length_take, oneB_len]; omega)
theorem one_len (t : T16) : (bmL [t]).length = pos t / 8 + 3 := by rw [one_bm, List.length_cons, List.length_cons, oneB_len]
theorem one_h0 (t : T16) : (bmL [t]).getD 0 0#8 = BitVec.ofNat 8 (win t) := by rw [one_bm]; rfl
theorem one_h1 (t : T16) : (bmL [t]).getD 1 0#8 = BitVec.ofNat 8 (pos t / 8 + 1) := by rw [one_bm]; rfl
theorem one_hl (t : T16) : (bmL [t]).getD (pos t / 8 + 2) 0#8 = bit8 (pos t % 8) := by rw [one_bm]; exact one_last t
theorem low_pos (t : T16) : (t &&& 255#16).toNat = pos t := by
  rw [BitVec.toNat_and]
  exact Nat.and_two_pow_sub_one_eq_mod t.toNat 8
theorem win_shr (t : T16) : (t >>> 8).setWidth 8 = BitVec.ofNat 8 (win t) := by
  apply BitVec.eq_of_toNat_eq
  rw [BitVec.toNat_setWidth, BitVec.toNat_ushiftRight, Nat.shiftRight_eq_div_pow, BitVec.toNat_ofNat]; rfl
def law4nG : List AV → Option AV
  | [.w16 _, .w8 _] => some (.b true)
  | _ => none
set_option maxHeartbeats 4000000 in
theorem law4n_ok : PureOK Tryd.prog GLh 6 law4nG := by
  refine pure_of_awp Tryd.func6 (bodyOf_some rfl) ?_
  intro args r hg
  unfold law4nG at hg
  split at hg
  · rename_i t x
    obtain rfl := Option.some.inj hg
    refine ⟨Nat.le_of_ble_eq_true rfl, fun nx => ?_⟩
    clear hg
    have hone : [AV.w16 t] = c16 [t] := rfl
    have hx : [AV.w8 x] = c8 [x] := rfl
    have hsp : splice [AV.w16 0#16] 0 (c16 [t]) = c16 [t] := rfl
    have hsx : splice [AV.w8 0#8] 0 (c8 [x]) = c8 [x] := rfl
    have htk : List.take 1 [t] = [t] := rfl
    have hcl := one_clean t
    have hlen := one_len t
    have h0 := one_h0 t
    have h1 := one_h1 t
    have h2 := one_hl t
    have happ := one_app t x
    have hcut := one_cut t
    have hop := opR_bm0 [t] (one_inc t)
    have hpl := pos_lt t
    have hlow := low_pos t
    have hwin := win_shr t
    obtain ⟨B, hB⟩ : ∃ B, bmL [t] = B := ⟨_, rfl⟩
    rw [hB] at hlen h0 h1 h2 happ hcut hop
    refine awp_seqP rfl ?_
    refine awp_regP (Γ := noEnv) [0, 1] (noEnv_ok _ _) rfl rfl rfl (fun K hK => ?_)
    simp only [Tryd.f6, bodyOf, Option.getD_some, cl, rOps, lights, light, rN, List.size_toArray, List.length_cons, List.length_nil, Nat.zero_add, List.map_cons, List.map_nil, Option.map_none]
    simp (maxSteps := 300000) (disch := omega) only [go_sem, ↓reduceIte]
    with_reducible refine hK _ ?_
    clear hK K
    refine nx_then ?_
    refine awp_seqP rfl ?_
    refine awp_seqP rfl ?_
    refine awp_regP (Γ := envL [(7, .pure true known4G)]) [14, 0, 1] (envOK_cons ok7 envOK_nil) rfl rfl rfl (fun K hK => ?_)
    simp only [Tryd.f6, bodyOf, Option.getD_some, cl, cr, rOps, lights, light, rN, List.size_toArray, List.length_cons, List.length_nil, Nat.reduceAdd, Nat.zero_add, List.map_cons, List.map_nil, Option.map_none]
    simp (maxSteps := 300000) (disch := omega) only [go_sem, Nat.reduceAdd, ↓reduceIte]
    with_reducible refine hK _ ?_
    clear hK K
    refine nx_then ?_
    refine awp_ifB (.tmp 14) rfl rfl rfl (fun h => ?_) (fun h => ?_)
    · skip
      refine awp_drop rfl ?_
      cases h
    · skip
      refine awp_drop rfl ?_
      clear h
      refine awp_skipP rfl ?_
      refine nx_then ?_
      refine awp_seqP rfl ?_
      refine awp_regP (Γ := envL [(12, .fresh true bmG)]) [0, 1, 5] (envOK_cons ok12 envOK_nil) rfl rfl rfl (fun K hK => ?_)
      simp only [Tryd.f6, bodyOf, Option.getD_some, cl, cr, rOps, lights, light, rN, List.size_toArray, List.length_cons, List.length_nil, Nat.reduceAdd, Nat.zero_add, List.map_cons, List.map_nil, Option.map_none]
      simp (maxSteps := 300000) (disch := omega) only [go_sem, Nat.reduceAdd, Nat.reduceLeDiff, Nat.reduceLT, ↓reduceIte, hone, hsp, htk, hcl, hB, List.length_cons, List.length_nil]
      with_reducible refine hK _ ?_
      clear hK K
      refine nx_then ?_
      refine awp_seqP rfl ?_
      refine awp_regP (Γ := noEnv) [0, 1, 5, 6] (noEnv_ok _ _) rfl rfl rfl (fun K hK => ?_)
      simp only [Tryd.f6, bodyOf, Option.getD_some, cl, cr, rOps, lights, light, rN, List.size_toArray, List.length_cons, List.length_nil, Nat.reduceAdd, Nat.zero_add, List.map_cons, List.map_nil, Option.map_none]
      simp (maxSteps := 300000) (disch := omega) only [go_sem, Nat.reduceAdd, Int.reduceLE, Int.reduceLT, BitVec.reduceOfInt, ↓reduceIte, hlow]
      with_reducible refine hK _ ?_
      clear hK K
      refine nx_then ?_
      have d1 : decide (((pos t / 8 + 3 : Nat) : Int) = 3 + ((pos t / 8 : Nat) : Int)) = true := decide_eq_true (by omega)
      have d2 : decide (((pos t / 8 + 1 : Nat) : Int) = 1 + ((pos t / 8 : Nat) : Int)) = true := decide_eq_true (by omega)
      have e3 : ((pos t / 8 + 3 : Nat) : Int) - 1 = ((pos t / 8 + 2 : Nat) : Int) := by omega
      have on := one_n t
      refine awp_seqP rfl ?_
      refine awp_seqP rfl ?_
      refine awp_drwP (Γ := noEnv) (fun k => if k = 18 then 0 else if k = 19 then 0 else if k = 31 then 0 else 2) [57, 0, 1, 5] mixed (noEnv_ok _ _) rfl rfl rfl (by kernel_rfl) (fun K hK => ?_)
      simp only [Tryd.f6, bodyOf, Option.getD_some, cl, cr, rOps, lights, light, rN, List.size_toArray, List.length_cons, List.length_nil, Nat.reduceAdd, Nat.zero_add, List.map_cons, List.map_nil, Option.map_none, Option.map_some, List.getElem?_toArray, List.getElem?_cons_zero, List.getElem?_cons_succ, Option.bind_some]
      simp (maxSteps := 300000) (disch := omega) only [go_sem, Nat.reduceAdd, Int.reduceLE, Int.reduceLT, Int.reduceToNat, BitVec.reduceOfInt, BitVec.reduceToNat, reduceCtorEq, ↓reduceIte, hlen, i8z, tdiv8, tmod8, d1, h0, hwin, h1, on, d2, e3, h2, bit8_eq, Int.toNat_natCast, eq_self, decide_true, Bool.not_true]
      with_reducible refine hK _ ?_
      clear hK K
      refine nx_then ?_
      refine awp_ifB (.tmp 57) rfl rfl rfl (fun h => ?_) (fun h => ?_)
      · skip
        refine awp_drop rfl ?_
        cases h
      · skip
        refine awp_drop rfl ?_
        clear h
        refine awp_skipP rfl ?_
        refine nx_then ?_
        refine awp_seqP rfl ?_
        have hxt : List.take 1 [x] = [x] := rfl
        have hta : (B ++ [x]).take (pos t / 8 + 3 + 1) = B ++ [x] := List.take_of_length_le (by rw [List.length_append, hlen]; simp)
        rw [List.length_append, hlen] at happ
        simp only [List.length_cons, List.length_nil] at happ
        refine awp_regP (Γ := envL [(13, .pure false opnG)]) [0, 5, 8] (envOK_cons ok13 envOK_nil) rfl rfl rfl (fun K hK => ?_)
        simp only [Tryd.f6, bodyOf, Option.getD_some, cl, cr, rOps, lights, light, rN, List.size_toArray, List.length_cons, List.length_nil, Nat.reduceAdd, Nat.zero_add, List.map_cons, List.map_nil, Option.map_none]
        simp (maxSteps := 300000) (disch := omega) only [go_sem, Nat.reduceAdd, Nat.reduceLeDiff, Nat.reduceLT, Int.reduceNeg, ↓reduceIte, hlen, hx, hsx, hxt, hta, happ, List.length_append, List.length_cons, List.length_nil]
        with_reducible refine hK _ ?_
        clear hK K
        refine nx_then ?_
        have htl : (B.take (pos t / 8 + 2)).length = pos t / 8 + 2 := by rw [List.length_take, hlen]; omega
        rw [htl] at hcut
        rw [hlen] at hop
        refine awp_seqP rfl ?_
        refine awp_regP (Γ := envL [(13, .pure false opnG)]) [0, 5, 8, 10] (envOK_cons ok13 envOK_nil) rfl rfl rfl (fun K hK => ?_)
        simp only [Tryd.f6, bodyOf, Option.getD_some, cl, cr, rOps, lights, light, rN, List.size_toArray, List.length_cons, List.length_nil, Nat.reduceAdd, Nat.zero_add, List.map_cons, List.map_nil, Option.map_none]
        simp (maxSteps := 300000) (disch := omega) only [go_sem, Nat.reduceAdd, Nat.reduceLeDiff, Int.reduceLE, Int.reduceNeg, Int.reduceToNat, ↓reduceIte, hlen, e3, Int.toNat_natCast, Nat.sub_zero, htl, hcut]
        with_reducible refine hK _ ?_
        clear hK K
        refine nx_then ?_
        refine awp_seqP rfl ?_
        refine awp_regP (Γ := envL [(13, .pure false opnG)]) [0, 8, 10, 11, 12] (envOK_cons ok13 envOK_nil) rfl rfl rfl (fun K hK => ?_)
        simp only [Tryd.f6, bodyOf, Option.getD_some, cl, cr, rOps, lights, light, rN, List.size_toArray, List.length_cons, List.length_nil, Nat.reduceAdd, Nat.zero_add, List.map_cons, List.map_nil, Option.map_none]
        simp (maxSteps := 300000) (disch := omega) only [go_sem, Nat.reduceAdd, Nat.reduceLeDiff, Int.reduceNeg, ↓reduceIte, hlen, hop]
        with_reducible refine hK _ ?_
        clear hK K
        refine nx_then ?_
        refine awp_seqP rfl ?_
        refine awp_regP (Γ := envL [(17, .pure true typG)]) [4] (envOK_cons ok17 envOK_nil) rfl rfl rfl (fun K hK => ?_)
        simp only [Tryd.f6, bodyOf, Option.getD_some, cl, cr, rOps, lights, light, rN, List.size_toArray, List.length_cons, List.length_nil, Nat.reduceAdd, Nat.zero_add, List.map_cons, List.map_nil, Option.map_none, Option.map_some, List.getElem?_toArray, List.getElem?_cons_zero, List.getElem?_cons_succ, Option.bind_some]
        simp (maxSteps := 300000) (disch := omega) only [go_sem, Nat.reduceAdd, Nat.reduceLeDiff, Nat.reduceLT, ↓reduceIte, hone, hsp, htk, List.length_cons, List.length_nil, eq_self, decide_true]
        with_reducible refine hK _ ?_
        clear hK K
        refine nx_then ?_
        refine awp_retP rfl ?_
        simp (disch := omega) only [pureQ, resA, resAL, resA1, Tryd.f6, go_sem, ↓reduceIte]
  · cases hg
theorem ok6 : EntOK Tryd.prog GLh 6 (.pure true law4nG) := ⟨⟨_, Tryd.func6, rfl, rfl⟩, law4n_ok⟩
end Go.AX
