/-
  Data, part S: names' bytes and small letters. Data, part T: numbers put, bytes held against each other, places. Data, part U: a DNSKEY's bytes.
-/
import Derived.Test.YtndohkbppgmbjaaBH
import Derived.Test.YtndohkbppgmbjaaBE
namespace Go.AX
open Go Go.Proofs

/-- A name's bytes, without the end. -/
def labL (l : List B8) : List B8 := BitVec.ofInt 8 (l.length : Int) :: l
def wirB (ps : List (List B8)) : List B8 := ps.flatMap labL
def wireL (ps : List (List B8)) : List B8 := wirB ps ++ [0#8]
theorem wirB_nil : wirB [] = [] := rfl
theorem wirB_cons (p : List B8) (ps : List (List B8)) : wirB (p :: ps) = labL p ++ wirB ps := by simp [wirB]
theorem wirB_len (p : List B8) (ps : List (List B8)) : (wirB (p :: ps)).length = p.length + 1 + (wirB ps).length := by rw [wirB_cons]; simp [labL]; omega
theorem wirB_take (ps : List (List B8)) (k : Nat) (h : k < ps.length) : wirB (ps.take (k + 1)) = wirB (ps.take k) ++ labL (ps.getD k []) := by
  have e : ps.take (k + 1) = ps.take k ++ [ps.getD k []] := by rw [List.take_succ_eq_append_getElem h]; simp [List.getD, List.getElem?_eq_getElem h, -List.take_append_getElem]
  rw [e]; unfold wirB; rw [List.flatMap_append]; simp only [List.flatMap_cons, List.flatMap_nil, List.append_nil]
theorem wirB_ge (ps : List (List B8)) : ps.length ≤ (wirB ps).length := by
  induction ps with
  | nil => simp
  | cons p ps ih => rw [wirB_len, List.length_cons]; omega
theorem wirB_mem (ps : List (List B8)) (k : Nat) : (ps.getD k []).length ≤ (wirB ps).length := by
  induction ps generalizing k with
  | nil => simp
  | cons p ps ih =>
    rw [wirB_len]
    cases k with
    | zero => simp; omega
    | succ k => have := ih k; simp at this ⊢; omega
theorem wirB_tk (ps : List (List B8)) (k : Nat) : (wirB (ps.take k)).length ≤ (wirB ps).length := by
  induction ps generalizing k with
  | nil => simp
  | cons p ps ih =>
    cases k with
    | zero => simp [wirB]
    | succ k => rw [List.take_succ_cons, wirB_len, wirB_len]; have := ih k; omega
def wireG : List AV → Option (Nat × Nat × List AV)
  | [.sl n xs] => obind (unS xs) fun ps => guardO (ps.length = n ∧ (wirB ps).length ≤ 1000000) (some ((wireL ps).length, 1, c8 (wireL ps)))
  | _ => none
theorem wireG_eq (n : Nat) (xs : List AV) : wireG [.sl n xs] = obind (unS xs) fun ps => guardO (ps.length = n ∧ (wirB ps).length ≤ 1000000) (some ((wireL ps).length, 1, c8 (wireL ps))) := (rfl)
attribute [go_sem] wireG_eq

set_option maxHeartbeats 1000000 in
theorem wire_ok : FreshOK Try.prog GLh 38 wireG := by
  refine fresh_of_awp Try.func38 (bodyOf_some rfl) ?_
  intro args r hg
  unfold wireG at hg
  split at hg
  · rename_i n xs
    replace hg := obind_inv hg; obtain ⟨ps, hb, hg⟩ := hg
    replace hg := guardO_inv hg; obtain ⟨⟨hn, hbig⟩, hg⟩ := hg
    obtain rfl := Option.some.inj hg
    have := unS_inv hb; subst this
    subst hn
    clear hg hb
    refine ⟨Nat.le_of_ble_eq_true rfl, fun nx => ?_⟩
    have hpn := wirB_ge ps
    refine awp_seqP rfl ?_
    refine awp_regP (Γ := noEnv) [0] (noEnv_ok _ _) rfl rfl rfl (fun K hK => ?_)
    simp only [Try.f38, bodyOf, Option.getD_some, cl, rOps, lights, light, rN, List.size_toArray, List.length_cons, List.length_nil, Nat.zero_add, List.map_cons, List.map_nil, Option.map_none]
    simp (maxSteps := 300000) (disch := omega) only [go_sem, ↓reduceIte]
    with_reducible refine hK _ ?_
    clear hK K
    refine nx_then ?_
    refine awp_seqP rfl ?_
    refine awp_regP (Γ := noEnv) [0, 3] (noEnv_ok _ _) rfl rfl rfl (fun K hK => ?_)
    simp only [Try.f38, bodyOf, Option.getD_some, cl, cr, rOps, lights, light, rN, List.size_toArray, List.length_cons, List.length_nil, Nat.zero_add, List.map_cons, List.map_nil, Option.map_none]
    simp (maxSteps := 300000) (disch := omega) only [go_sem, ↓reduceIte]
    with_reducible refine hK _ ?_
    clear hK K
    refine nx_then ?_
    refine awp_seqP rfl ?_
    refine awp_seqP rfl ?_
    refine awp_regP (Γ := noEnv) [3, 6, 7, 8] (noEnv_ok _ _) rfl rfl rfl (fun K hK => ?_)
    simp only [Try.f38, bodyOf, Option.getD_some, cl, cr, rOps, lights, light, rN, List.size_toArray, List.length_cons, List.length_nil, Nat.reduceAdd, Nat.zero_add, List.map_cons, List.map_nil, Option.map_none]
    simp (maxSteps := 300000) (disch := omega) only [go_sem, Nat.reduceAdd, ↓reduceIte]
    with_reducible refine hK _ ?_
    clear hK K
    refine nx_then ?_
    refine awp_own 3 1 rfl ?_
    refine awp_keep [3, 6, 7, 8] ?_
    simp only [kf_nil, kf_cons, look_cons, ↓reduceIte, Nat.reduceEqDiff]
    refine awp_blockN 0 rfl rfl ?_
    refine awp_loopP (fun p : KIC => { fr := [(3, .os p.id 0 (wirB (ps.take p.k)).length 1 true), (6, .sl ps.length (cS ps)), (7, .i ps.length), (8, .i p.k)], hp := upd (fun _ => none) p.id (.cells (c8 (wirB (ps.take p.k))) true), nx := 0, cx := p.c }) (fun p => p.k ≤ ps.length ∧ p.id < p.c) (fun p => ps.length - p.k) rfl ⟨⟨0, _, _⟩, ⟨Nat.zero_le _, by simp only; omega⟩, sub_same rfl rfl (Nat.le_refl _)⟩ ?_
    rintro ⟨k, id, c⟩ ⟨hk, hid⟩ n0
    simp only at hk hid ⊢
    refine awp_seqP rfl ?_
    refine awp_regP (Γ := noEnv) [9, 3, 6, 7, 8] (noEnv_ok _ _) rfl rfl rfl (fun K hK => ?_)
    simp only [Try.f38, bodyOf, Option.getD_some, cl, cr, rOps, lights, light, rN, List.size_toArray, List.length_cons, List.length_nil, Nat.zero_add, List.map_cons, List.map_nil, Option.map_none]
    simp (maxSteps := 300000) (disch := omega) only [go_sem, ↓reduceIte]
    with_reducible refine hK _ ?_
    clear hK K
    refine nx_then ?_
    refine awp_seqP rfl ?_
    refine awp_ifD (.tmp 9) rfl rfl rfl (fun h => ?_) (fun h => ?_)
    · skip
      refine awp_drop rfl ?_
      have hkl : k < ps.length := by omega
      have ht := wirB_tk ps k
      have hm := wirB_mem ps k
      refine awp_skipP rfl ?_
      refine nx_then ?_
      refine awp_seqP rfl ?_
      refine awp_blockN 1 rfl rfl ?_
      refine awp_seqP rfl ?_
      refine awp_regP (Γ := noEnv) [3, 5, 6, 7, 8] (noEnv_ok _ _) rfl rfl rfl (fun K hK => ?_)
      simp only [Try.f38, bodyOf, Option.getD_some, cl, cr, rOps, lights, light, rN, List.size_toArray, List.length_cons, List.length_nil, Nat.reduceAdd, Nat.zero_add, List.map_cons, List.map_nil, Option.map_none]
      simp (maxSteps := 300000) (disch := omega) only [go_sem, Nat.reduceAdd, ↓reduceIte]
      with_reducible refine hK _ ?_
      clear hK K
      refine nx_then ?_
      generalize hl : ps.getD k [] = l at hm
      refine awp_regP (Γ := noEnv) [3, 6, 7, 8] (noEnv_ok _ _) rfl rfl rfl (fun K hK => ?_)
      simp only [Try.f38, bodyOf, Option.getD_some, cl, cr, rOps, lights, light, rN, List.size_toArray, List.length_cons, List.length_nil, Nat.reduceAdd, Nat.zero_add, List.map_cons, List.map_nil, Option.map_none]
      simp (maxSteps := 300000) (disch := omega) only [go_sem, Nat.reduceAdd, Nat.reduceLeDiff, Nat.reduceLT, ↓reduceIte]
      with_reducible refine hK _ ?_
      clear hK K
      refine nx_blk (nx_then ?_)
      have e6 : wirB (ps.take (k + 1)) = wirB (ps.take k) ++ [BitVec.ofInt 8 (l.length : Int)] ++ l := by rw [wirB_take ps k hkl, hl]; simp [labL]
      have e7 : (wirB (ps.take (k + 1))).length = (wirB (ps.take k)).length + 1 + l.length := by rw [e6]; simp; omega
      refine awp_regP (Γ := noEnv) [3, 6, 7, 8] (noEnv_ok _ _) rfl rfl rfl (fun K hK => ?_)
      simp only [Try.f38, bodyOf, Option.getD_some, cl, cr, rOps, lights, light, rN, List.size_toArray, List.length_cons, List.length_nil, Nat.reduceAdd, Nat.zero_add, List.map_cons, List.map_nil, Option.map_none]
      simp (maxSteps := 300000) (disch := omega) only [go_sem, Nat.reduceAdd, ↓reduceIte]
      with_reducible refine hK _ ?_
      clear hK K
      refine nx_loop ?_
      refine ⟨⟨k + 1, c + 1 + 3 + 7, _⟩, ⟨by simp only; omega, by simp only; omega⟩, by simp only; omega, ⟨fun _ => .inr ?_, fun j o h => ?_, Nat.le_refl _⟩⟩
      · simp only [e7, Int.natCast_add, Int.natCast_one]
      · simp only at h
        exact hsub_cons (by simp (disch := omega) only [up_app, ↓reduceIte, eq_self, e6]) (hsub_nil) j o h
    · skip
      refine awp_drop rfl ?_
      refine awp_exitN 0 rfl rfl ?_
      refine nx_ex_then (nx_ex_loop (nx_ex_blk ?_))
      refine nx_then ?_
      refine awp_seqP rfl ?_
      obtain rfl : k = ps.length := by omega
      have e8 : ps.take ps.length = ps := List.take_length
      have e9 : (wireL ps).length = (wirB ps).length + 1 := by simp [wireL]
      have ew : wirB ps ++ [0#8] = wireL ps := rfl
      refine awp_regP (Γ := noEnv) [2] (noEnv_ok _ _) rfl rfl rfl (fun K hK => ?_)
      simp only [Try.f38, bodyOf, Option.getD_some, cl, cr, rOps, lights, light, rN, List.size_toArray, List.length_cons, List.length_nil, Nat.reduceAdd, Nat.zero_add, List.map_cons, List.map_nil, Option.map_none]
      simp (maxSteps := 300000) (disch := omega) only [go_sem, Nat.reduceAdd, Nat.reduceLeDiff, Nat.reduceLT, Int.reduceLE, Int.reduceLT, BitVec.reduceOfInt, ↓reduceIte, e8, ew]
      with_reducible refine hK _ ?_
      clear hK K
      refine nx_then ?_
      refine awp_retP rfl ?_
      simp (disch := omega) only [freshQ, freshR, resA, resAL, resA1, Try.f38, go_sem, ↓reduceIte, c8_noOwn, e9]
  · cases hg
theorem ok38 : EntOK Try.prog GLh 38 (.fresh true wireG) := ⟨⟨_, Try.func38, rfl, rfl⟩, wire_ok⟩

set_option maxHeartbeats 1000000 in
theorem rwire_ok : FreshOK Try.prog GLh 15 wireG := by
  refine fresh_of_awp Try.func15 (bodyOf_some rfl) ?_
  intro args r hg
  unfold wireG at hg
  split at hg
  · rename_i n xs
    replace hg := obind_inv hg; obtain ⟨ps, hb, hg⟩ := hg
    replace hg := guardO_inv hg; obtain ⟨⟨hn, hbig⟩, hg⟩ := hg
    obtain rfl := Option.some.inj hg
    have := unS_inv hb; subst this
    subst hn
    clear hg hb
    refine ⟨Nat.le_of_ble_eq_true rfl, fun nx => ?_⟩
    have hpn := wirB_ge ps
    refine awp_seqP rfl ?_
    refine awp_regP (Γ := noEnv) [0] (noEnv_ok _ _) rfl rfl rfl (fun K hK => ?_)
    simp only [Try.f15, bodyOf, Option.getD_some, cl, rOps, lights, light, rN, List.size_toArray, List.length_cons, List.length_nil, Nat.zero_add, List.map_cons, List.map_nil, Option.map_none]
    simp (maxSteps := 300000) (disch := omega) only [go_sem, ↓reduceIte]
    with_reducible refine hK _ ?_
    clear hK K
    refine nx_then ?_
    refine awp_seqP rfl ?_
    refine awp_regP (Γ := noEnv) [0, 3] (noEnv_ok _ _) rfl rfl rfl (fun K hK => ?_)
    simp only [Try.f15, bodyOf, Option.getD_some, cl, cr, rOps, lights, light, rN, List.size_toArray, List.length_cons, List.length_nil, Nat.zero_add, List.map_cons, List.map_nil, Option.map_none]
    simp (maxSteps := 300000) (disch := omega) only [go_sem, ↓reduceIte]
    with_reducible refine hK _ ?_
    clear hK K
    refine nx_then ?_
    refine awp_seqP rfl ?_
    refine awp_seqP rfl ?_
    refine awp_regP (Γ := noEnv) [0, 3, 4] (noEnv_ok _ _) rfl rfl rfl (fun K hK => ?_)
    simp only [Try.f15, bodyOf, Option.getD_some, cl, cr, rOps, lights, light, rN, List.size_toArray, List.length_cons, List.length_nil, Nat.zero_add, List.map_cons, List.map_nil, Option.map_none]
    simp (maxSteps := 300000) (disch := omega) only [go_sem, ↓reduceIte]
    with_reducible refine hK _ ?_
    clear hK K
    refine nx_then ?_
    refine awp_own 3 1 rfl ?_
    refine awp_keep [0, 3, 4] ?_
    simp only [kf_nil, kf_cons, look_cons, ↓reduceIte, Nat.reduceEqDiff]
    refine awp_blockN 0 rfl rfl ?_
    refine awp_loopP (fun p : KIC => { fr := [(0, .sl ps.length (cS ps)), (3, .os p.id 0 (wirB (ps.take p.k)).length 1 true), (4, .i p.k)], hp := upd (fun _ => none) p.id (.cells (c8 (wirB (ps.take p.k))) true), nx := 0, cx := p.c }) (fun p => p.k ≤ ps.length ∧ p.id < p.c) (fun p => ps.length - p.k) rfl ⟨⟨0, _, _⟩, ⟨Nat.zero_le _, by simp only; omega⟩, sub_same rfl rfl (Nat.le_refl _)⟩ ?_
    rintro ⟨k, id, c⟩ ⟨hk, hid⟩ n0
    simp only at hk hid ⊢
    refine awp_seqP rfl ?_
    refine awp_seqP rfl ?_
    refine awp_regP (Γ := noEnv) [8, 0, 3, 4] (noEnv_ok _ _) rfl rfl rfl (fun K hK => ?_)
    simp only [Try.f15, bodyOf, Option.getD_some, cl, cr, rOps, lights, light, rN, List.size_toArray, List.length_cons, List.length_nil, Nat.reduceAdd, Nat.zero_add, List.map_cons, List.map_nil, Option.map_none]
    simp (maxSteps := 300000) (disch := omega) only [go_sem, Nat.reduceAdd, ↓reduceIte]
    with_reducible refine hK _ ?_
    clear hK K
    refine nx_then ?_
    refine awp_ifD (.tmp 8) rfl rfl rfl (fun h => ?_) (fun h => ?_)
    · skip
      refine awp_drop rfl ?_
      have hkl : k < ps.length := by omega
      have ht := wirB_tk ps k
      have hm := wirB_mem ps k
      obtain ⟨l, hl⟩ : ∃ l, ps.getD k [] = l := ⟨_, rfl⟩
      rw [hl] at hm
      have e6 : wirB (ps.take (k + 1)) = wirB (ps.take k) ++ [BitVec.ofInt 8 (l.length : Int)] ++ l := by rw [wirB_take ps k hkl, hl]; simp [labL]
      have e7 : (wirB (ps.take (k + 1))).length = (wirB (ps.take k)).length + 1 + l.length := by rw [e6]; simp; omega
      refine awp_skipP rfl ?_
      refine nx_then ?_
      refine awp_seqP rfl ?_
      refine awp_blockN 1 rfl rfl ?_
      refine awp_drwP (Γ := noEnv) (fun k => if k = 4 then 1 else if k = 12 then 1 else if k = 6 then 1 else 0) [0, 3, 4] mixed (noEnv_ok _ _) rfl rfl rfl (by kernel_rfl) (fun K hK => ?_)
      simp only [Try.f15, bodyOf, Option.getD_some, cl, cr, rOps, lights, light, rN, List.size_toArray, List.length_cons, List.length_nil, Nat.reduceAdd, Nat.zero_add, List.map_cons, List.map_nil, Option.map_none]
      simp (maxSteps := 300000) (disch := omega) only [go_sem, Nat.reduceAdd, Nat.reduceLeDiff, Nat.reduceLT, ↓reduceIte, hl]
      with_reducible refine hK _ ?_
      clear hK K
      refine nx_blk (nx_then ?_)
      refine awp_regP (Γ := noEnv) [0, 3, 4] (noEnv_ok _ _) rfl rfl rfl (fun K hK => ?_)
      simp only [Try.f15, bodyOf, Option.getD_some, cl, cr, rOps, lights, light, rN, List.size_toArray, List.length_cons, List.length_nil, Nat.reduceAdd, Nat.zero_add, List.map_cons, List.map_nil, Option.map_none]
      simp (maxSteps := 300000) (disch := omega) only [go_sem, Nat.reduceAdd, ↓reduceIte]
      with_reducible refine hK _ ?_
      clear hK K
      refine nx_loop ?_
      refine ⟨⟨k + 1, c + 4 + 13, _⟩, ⟨by simp only; omega, by simp only; omega⟩, by simp only; omega, ⟨fun _ => .inr ?_, fun j o h => ?_, Nat.le_refl _⟩⟩
      · simp only [e7, Int.natCast_add, Int.natCast_one]
      · simp only at h
        exact hsub_cons (by simp (disch := omega) only [up_app, ↓reduceIte, eq_self, e6]) (hsub_nil) j o h
    · skip
      refine awp_drop rfl ?_
      refine awp_exitN 0 rfl rfl ?_
      refine nx_ex_then (nx_ex_loop (nx_ex_blk ?_))
      refine nx_then ?_
      refine awp_seqP rfl ?_
      obtain rfl : k = ps.length := by omega
      have e8 : ps.take ps.length = ps := List.take_length
      have e9 : (wireL ps).length = (wirB ps).length + 1 := by simp [wireL]
      have ew : wirB ps ++ [0#8] = wireL ps := rfl
      refine awp_regP (Γ := noEnv) [2] (noEnv_ok _ _) rfl rfl rfl (fun K hK => ?_)
      simp only [Try.f15, bodyOf, Option.getD_some, cl, cr, rOps, lights, light, rN, List.size_toArray, List.length_cons, List.length_nil, Nat.reduceAdd, Nat.zero_add, List.map_cons, List.map_nil, Option.map_none]
      simp (maxSteps := 300000) (disch := omega) only [go_sem, Nat.reduceAdd, Nat.reduceLeDiff, Nat.reduceLT, Int.reduceLE, Int.reduceLT, BitVec.reduceOfInt, ↓reduceIte, e8, ew]
      with_reducible refine hK _ ?_
      clear hK K
      refine nx_then ?_
      refine awp_retP rfl ?_
      simp (disch := omega) only [freshQ, freshR, resA, resAL, resA1, Try.f15, go_sem, ↓reduceIte, c8_noOwn, e9]
  · cases hg
theorem ok15 : EntOK Try.prog GLh 15 (.fresh true wireG) := ⟨⟨_, Try.func15, rfl, rfl⟩, rwire_ok⟩


def low8 (c : B8) : B8 := if 65#8 ≤ c ∧ c ≤ 90#8 then c + 32#8 else c
def lowK (l : List B8) (k : Nat) : List B8 := (l.take k).map low8 ++ l.drop k
theorem lowK_len (l : List B8) (k : Nat) : (lowK l k).length = l.length := by simp [lowK]; omega
theorem lowK_get (l : List B8) (k : Nat) (h : k < l.length) : (lowK l k).getD k 0#8 = l.getD k 0#8 := by
  unfold lowK
  rw [List.getD_eq_getElem?_getD, List.getElem?_append_right (by simp; omega)]
  simp [List.length_take, Nat.min_eq_left (Nat.le_of_lt h)]
theorem lowK_set (l : List B8) (k : Nat) (h : k < l.length) : (lowK l k).set k (low8 (l.getD k 0#8)) = lowK l (k + 1) := by
  unfold lowK
  rw [List.set_append_right _ _ (by simp; omega), List.length_map, List.length_take, Nat.min_eq_left (Nat.le_of_lt h), Nat.sub_self, List.drop_eq_getElem_cons h, List.set_cons_zero, List.take_succ_eq_append_getElem h]
  simp [List.getElem?_eq_getElem h, -List.take_append_getElem]
theorem lowK_same (l : List B8) (k : Nat) (h : k < l.length) (hs : low8 (l.getD k 0#8) = l.getD k 0#8) : lowK l k = lowK l (k + 1) := by
  rw [← lowK_set l k h, hs, ← lowK_get l k h]
  apply List.ext_getElem?
  intro i
  rw [List.getElem?_set]
  split
  · rename_i e; subst e
    rw [lowK_len, if_pos h, List.getD_eq_getElem?_getD]
    have : k < (lowK l k).length := by rw [lowK_len]; exact h
    simp [List.getElem?_eq_getElem this]
  · rfl
theorem lowK_zero (l : List B8) : lowK l 0 = l := by simp [lowK]
theorem lowK_all (l : List B8) : lowK l l.length = l.map low8 := by simp [lowK]
def smallG : List AV → Option AV
  | [.s l] => guardO (l.length ≤ 1000000) (some (.s (l.map low8)))
  | _ => none
theorem smallG_eq (l : List B8) : smallG [.s l] = guardO (l.length ≤ 1000000) (some (.s (l.map low8))) := (rfl)
attribute [go_sem] smallG_eq

set_option maxHeartbeats 1000000 in
theorem small_ok : PureOK Try.prog GLh 67 smallG := by
  refine pure_of_awp Try.func67 (bodyOf_some rfl) ?_
  intro args r hg
  unfold smallG at hg
  split at hg
  · rename_i l
    replace hg := guardO_inv hg; obtain ⟨hbig, hg⟩ := hg
    obtain rfl := Option.some.inj hg
    clear hg
    refine ⟨Nat.le_of_ble_eq_true rfl, fun nx => ?_⟩
    refine awp_seqP rfl ?_
    refine awp_regP (Γ := noEnv) [0] (noEnv_ok _ _) rfl rfl rfl (fun K hK => ?_)
    simp only [Try.f67, bodyOf, Option.getD_some, cl, rOps, lights, light, rN, List.size_toArray, List.length_cons, List.length_nil, Nat.zero_add, List.map_cons, List.map_nil, Option.map_none]
    simp (maxSteps := 300000) (disch := omega) only [go_sem, ↓reduceIte]
    with_reducible refine hK _ ?_
    clear hK K
    refine nx_then ?_
    refine awp_seqP rfl ?_
    refine awp_regP (Γ := noEnv) [3] (noEnv_ok _ _) rfl rfl rfl (fun K hK => ?_)
    simp only [Try.f67, bodyOf, Option.getD_some, cl, cr, rOps, lights, light, rN, List.size_toArray, List.length_cons, List.length_nil, Nat.reduceAdd, Nat.zero_add, List.map_cons, List.map_nil, Option.map_none]
    simp (maxSteps := 300000) (disch := omega) only [go_sem, Nat.reduceAdd, ↓reduceIte]
    with_reducible refine hK _ ?_
    clear hK K
    refine nx_then ?_
    refine awp_seqP rfl ?_
    refine awp_seqP rfl ?_
    refine awp_regP (Γ := noEnv) [3, 8, 9, 10] (noEnv_ok _ _) rfl rfl rfl (fun K hK => ?_)
    simp only [Try.f67, bodyOf, Option.getD_some, cl, cr, rOps, lights, light, rN, List.size_toArray, List.length_cons, List.length_nil, Nat.reduceAdd, Nat.zero_add, List.map_cons, List.map_nil, Option.map_none]
    simp (maxSteps := 300000) (disch := omega) only [go_sem, Nat.reduceAdd, ↓reduceIte]
    with_reducible refine hK _ ?_
    clear hK K
    refine nx_then ?_
    refine awp_blockN 0 rfl rfl ?_
    refine awp_loopP (fun p : KC => { fr := [(3, .os (nx + 1 + 1) 0 l.length 1 true), (8, .os (nx + 1 + 1) 0 l.length 1 true), (9, .i l.length), (10, .i p.k)], hp := upd (fun _ => none) (nx + 1 + 1) (.cells (c8 (lowK l p.k)) true), nx := 0, cx := p.c }) (fun p => p.k ≤ l.length ∧ nx + 1 + 1 < p.c) (fun p => l.length - p.k) rfl ⟨⟨0, _⟩, ⟨Nat.zero_le _, by simp only; omega⟩, sub_same rfl (by simp only [lowK_zero]) (Nat.le_refl _)⟩ ?_
    rintro ⟨k, c⟩ ⟨hk, hid⟩ n0
    simp only at hk hid ⊢
    refine awp_seqP rfl ?_
    refine awp_regP (Γ := noEnv) [11, 3, 8, 9, 10] (noEnv_ok _ _) rfl rfl rfl (fun K hK => ?_)
    simp only [Try.f67, bodyOf, Option.getD_some, cl, cr, rOps, lights, light, rN, List.size_toArray, List.length_cons, List.length_nil, Nat.zero_add, List.map_cons, List.map_nil, Option.map_none]
    simp (maxSteps := 300000) (disch := omega) only [go_sem, ↓reduceIte]
    with_reducible refine hK _ ?_
    clear hK K
    refine nx_then ?_
    refine awp_seqP rfl ?_
    refine awp_ifD (.tmp 11) rfl rfl rfl (fun h => ?_) (fun h => ?_)
    · skip
      refine awp_drop rfl ?_
      have hkl : k < l.length := by omega
      have hll := lowK_len l k
      have hgt := lowK_get l k hkl
      refine awp_skipP rfl ?_
      refine nx_then ?_
      refine awp_seqP rfl ?_
      refine awp_blockN 1 rfl rfl ?_
      refine awp_seqP rfl ?_
      refine awp_regP (Γ := noEnv) [3, 4, 5, 8, 9, 10] (noEnv_ok _ _) rfl rfl rfl (fun K hK => ?_)
      simp only [Try.f67, bodyOf, Option.getD_some, cl, cr, rOps, lights, light, rN, List.size_toArray, List.length_cons, List.length_nil, Nat.reduceAdd, Nat.zero_add, List.map_cons, List.map_nil, Option.map_none]
      simp (maxSteps := 300000) (disch := omega) only [go_sem, Nat.reduceAdd, ↓reduceIte, hgt]
      with_reducible refine hK _ ?_
      clear hK K
      refine nx_then ?_
      obtain ⟨x, hx⟩ : ∃ x, l.getD k 0#8 = x := ⟨_, rfl⟩
      rw [hx]
      by_cases ha : 65#8 ≤ x
      · skip
        by_cases hb : x ≤ 90#8
        · skip
          refine awp_seqP rfl ?_
          refine awp_regP (Γ := noEnv) [20, 3, 4, 5, 8, 9, 10] (noEnv_ok _ _) rfl rfl rfl (fun K hK => ?_)
          simp only [Try.f67, bodyOf, Option.getD_some, cl, cr, rOps, lights, light, rN, List.size_toArray, List.length_cons, List.length_nil, Nat.reduceAdd, Nat.zero_add, List.map_cons, List.map_nil, Option.map_none, Option.map_some, List.getElem?_toArray, List.getElem?_cons_zero, List.getElem?_cons_succ, Option.bind_some]
          simp (maxSteps := 300000) (disch := omega) only [go_sem, Nat.reduceAdd, Int.reduceLE, Int.reduceLT, BitVec.reduceOfInt, ↓reduceIte, decide_eq_true ha, decide_eq_true hb]
          with_reducible refine hK _ ?_
          clear hK K
          refine nx_then ?_
          refine awp_ifB (.tmp 20) rfl rfl rfl (fun h => ?_) (fun h => ?_)
          · skip
            refine awp_drop rfl ?_
            clear h
            have e1 : x + 97#8 - 65#8 = low8 x := by unfold low8; rw [if_pos ⟨ha, hb⟩]; bv_omega
            refine awp_regP (Γ := noEnv) [3, 8, 9, 10] (noEnv_ok _ _) rfl rfl rfl (fun K hK => ?_)
            simp only [Try.f67, bodyOf, Option.getD_some, cl, cr, rOps, lights, light, rN, List.size_toArray, List.length_cons, List.length_nil, Nat.reduceAdd, Nat.zero_add, List.map_cons, List.map_nil, Option.map_none]
            simp (maxSteps := 300000) (disch := omega) only [go_sem, Nat.reduceAdd, Int.reduceLE, Int.reduceLT, BitVec.reduceOfInt, ↓reduceIte, e1, c8_set]
            with_reducible refine hK _ ?_
            clear hK K
            refine nx_blk (nx_then ?_)
            have e2 := lowK_set l k hkl
            rw [hx] at e2
            refine awp_regP (Γ := noEnv) [3, 8, 9, 10] (noEnv_ok _ _) rfl rfl rfl (fun K hK => ?_)
            simp only [Try.f67, bodyOf, Option.getD_some, cl, cr, rOps, lights, light, rN, List.size_toArray, List.length_cons, List.length_nil, Nat.reduceAdd, Nat.zero_add, List.map_cons, List.map_nil, Option.map_none]
            simp (maxSteps := 300000) (disch := omega) only [go_sem, Nat.reduceAdd, ↓reduceIte]
            with_reducible refine hK _ ?_
            clear hK K
            refine nx_loop ?_
            refine ⟨⟨k + 1, _⟩, ⟨by simp only; omega, by simp only; omega⟩, by simp only; omega, sub_same ?_ ?_ (Nat.le_refl _)⟩
            · simp only [Int.natCast_add, Int.natCast_one]
            · simp only [e2]
          · skip
            refine awp_drop rfl ?_
            cases h
        · skip
          refine awp_seqP rfl ?_
          refine awp_regP (Γ := noEnv) [20, 3, 4, 5, 8, 9, 10] (noEnv_ok _ _) rfl rfl rfl (fun K hK => ?_)
          simp only [Try.f67, bodyOf, Option.getD_some, cl, cr, rOps, lights, light, rN, List.size_toArray, List.length_cons, List.length_nil, Nat.reduceAdd, Nat.zero_add, List.map_cons, List.map_nil, Option.map_none, Option.map_some, List.getElem?_toArray, List.getElem?_cons_zero, List.getElem?_cons_succ, Option.bind_some]
          simp (maxSteps := 300000) (disch := omega) only [go_sem, Nat.reduceAdd, Int.reduceLE, Int.reduceLT, BitVec.reduceOfInt, ↓reduceIte, decide_eq_true ha, decide_eq_false hb]
          with_reducible refine hK _ ?_
          clear hK K
          refine nx_then ?_
          refine awp_ifB (.tmp 20) rfl rfl rfl (fun h => ?_) (fun h => ?_)
          · skip
            refine awp_drop rfl ?_
            cases h
          · skip
            refine awp_drop rfl ?_
            clear h
            have e1 : low8 x = x := by unfold low8; rw [if_neg (fun h => by first | exact hb h.2 | exact ha h.1)]
            have e2 := lowK_same l k hkl (by rw [hx, e1])
            refine awp_skipP rfl ?_
            refine nx_blk (nx_then ?_)
            refine awp_regP (Γ := noEnv) [3, 8, 9, 10] (noEnv_ok _ _) rfl rfl rfl (fun K hK => ?_)
            simp only [Try.f67, bodyOf, Option.getD_some, cl, cr, rOps, lights, light, rN, List.size_toArray, List.length_cons, List.length_nil, Nat.reduceAdd, Nat.zero_add, List.map_cons, List.map_nil, Option.map_none]
            simp (maxSteps := 300000) (disch := omega) only [go_sem, Nat.reduceAdd, ↓reduceIte]
            with_reducible refine hK _ ?_
            clear hK K
            refine nx_loop ?_
            refine ⟨⟨k + 1, _⟩, ⟨by simp only; omega, by simp only; omega⟩, by simp only; omega, sub_same ?_ ?_ (Nat.le_refl _)⟩
            · simp only [Int.natCast_add, Int.natCast_one]
            · simp only [← e2]
      · skip
        refine awp_seqP rfl ?_
        refine awp_regP (Γ := noEnv) [20, 3, 4, 5, 8, 9, 10] (noEnv_ok _ _) rfl rfl rfl (fun K hK => ?_)
        simp only [Try.f67, bodyOf, Option.getD_some, cl, cr, rOps, lights, light, rN, List.size_toArray, List.length_cons, List.length_nil, Nat.reduceAdd, Nat.zero_add, List.map_cons, List.map_nil, Option.map_none, Option.map_some, List.getElem?_toArray, List.getElem?_cons_zero, List.getElem?_cons_succ, Option.bind_some]
        simp (maxSteps := 300000) (disch := omega) only [go_sem, Nat.reduceAdd, Int.reduceLE, Int.reduceLT, BitVec.reduceOfInt, reduceCtorEq, ↓reduceIte, decide_eq_false ha]
        with_reducible refine hK _ ?_
        clear hK K
        refine nx_then ?_
        refine awp_ifB (.tmp 20) rfl rfl rfl (fun h => ?_) (fun h => ?_)
        · skip
          refine awp_drop rfl ?_
          cases h
        · skip
          refine awp_drop rfl ?_
          clear h
          have e1 : low8 x = x := by unfold low8; rw [if_neg (fun h => by first | exact hb h.2 | exact ha h.1)]
          have e2 := lowK_same l k hkl (by rw [hx, e1])
          refine awp_skipP rfl ?_
          refine nx_blk (nx_then ?_)
          refine awp_regP (Γ := noEnv) [3, 8, 9, 10] (noEnv_ok _ _) rfl rfl rfl (fun K hK => ?_)
          simp only [Try.f67, bodyOf, Option.getD_some, cl, cr, rOps, lights, light, rN, List.size_toArray, List.length_cons, List.length_nil, Nat.reduceAdd, Nat.zero_add, List.map_cons, List.map_nil, Option.map_none]
          simp (maxSteps := 300000) (disch := omega) only [go_sem, Nat.reduceAdd, ↓reduceIte]
          with_reducible refine hK _ ?_
          clear hK K
          refine nx_loop ?_
          refine ⟨⟨k + 1, _⟩, ⟨by simp only; omega, by simp only; omega⟩, by simp only; omega, sub_same ?_ ?_ (Nat.le_refl _)⟩
          · simp only [Int.natCast_add, Int.natCast_one]
          · simp only [← e2]
    · skip
      refine awp_drop rfl ?_
      refine awp_exitN 0 rfl rfl ?_
      refine nx_ex_then (nx_ex_loop (nx_ex_blk ?_))
      refine nx_then ?_
      refine awp_seqP rfl ?_
      obtain rfl : k = l.length := by omega
      have hml : (l.map low8).length = l.length := List.length_map ..
      have htk : (l.map low8).take l.length = l.map low8 := List.take_of_length_le (by omega)
      refine awp_regP (Γ := noEnv) [2] (noEnv_ok _ _) rfl rfl rfl (fun K hK => ?_)
      simp only [Try.f67, bodyOf, Option.getD_some, cl, cr, rOps, lights, light, rN, List.size_toArray, List.length_cons, List.length_nil, Nat.reduceAdd, Nat.zero_add, List.map_cons, List.map_nil, Option.map_none]
      simp (maxSteps := 300000) (disch := omega) only [go_sem, Nat.reduceAdd, ↓reduceIte, lowK_all, hml, htk, unW8_c8]
      with_reducible refine hK _ ?_
      clear hK K
      refine nx_then ?_
      refine awp_retP rfl ?_
      simp (disch := omega) only [pureQ, resA, resAL, resA1, Try.f67, go_sem, ↓reduceIte]
  · cases hg
theorem ok67 : EntOK Try.prog GLh 67 (.pure true smallG) := ⟨⟨_, Try.func67, rfl, rfl⟩, small_ok⟩

def lowS (ps : List (List B8)) : List (List B8) := ps.map fun l => l.map low8
theorem lowS_len (ps : List (List B8)) : (lowS ps).length = ps.length := List.length_map ..
theorem lowS_take (ps : List (List B8)) (k : Nat) (h : k < ps.length) : lowS (ps.take (k + 1)) = lowS (ps.take k) ++ [(ps.getD k []).map low8] := by
  have e : ps.take (k + 1) = ps.take k ++ [ps.getD k []] := by rw [List.take_succ_eq_append_getElem h]; simp [List.getD, List.getElem?_eq_getElem h, -List.take_append_getElem]
  rw [e]; unfold lowS; rw [List.map_append, List.map_cons, List.map_nil]
theorem wirB_low (ps : List (List B8)) : (wirB (lowS ps)).length = (wirB ps).length := by
  induction ps with
  | nil => rfl
  | cons p ps ih => rw [show lowS (p :: ps) = p.map low8 :: lowS ps from rfl, wirB_len, wirB_len, ih, List.length_map]
def lowerG : List AV → Option (Nat × Nat × List AV)
  | [.sl n xs] => obind (unS xs) fun ps => guardO (ps.length = n ∧ (wirB ps).length ≤ 1000000) (some ((lowS ps).length, 1, cS (lowS ps)))
  | _ => none
theorem lowerG_eq (n : Nat) (xs : List AV) : lowerG [.sl n xs] = obind (unS xs) fun ps => guardO (ps.length = n ∧ (wirB ps).length ≤ 1000000) (some ((lowS ps).length, 1, cS (lowS ps))) := (rfl)
attribute [go_sem] lowerG_eq

theorem cS_snoc (l : List (List B8)) (y : List B8) : cS l ++ [.s y] = cS (l ++ [y]) := by simp [cS]

set_option maxHeartbeats 1000000 in
theorem lower_ok : FreshOK Try.prog GLh 39 lowerG := by
  refine fresh_of_awp Try.func39 (bodyOf_some rfl) ?_
  intro args r hg
  unfold lowerG at hg
  split at hg
  · rename_i n xs
    replace hg := obind_inv hg; obtain ⟨ps, hb, hg⟩ := hg
    replace hg := guardO_inv hg; obtain ⟨⟨hn, hbig⟩, hg⟩ := hg
    obtain rfl := Option.some.inj hg
    have := unS_inv hb; subst this
    subst hn
    clear hg hb
    refine ⟨Nat.le_of_ble_eq_true rfl, fun nx => ?_⟩
    have hpn := wirB_ge ps
    refine awp_seqP rfl ?_
    refine awp_regP (Γ := noEnv) [0] (noEnv_ok _ _) rfl rfl rfl (fun K hK => ?_)
    simp only [Try.f39, bodyOf, Option.getD_some, cl, rOps, lights, light, rN, List.size_toArray, List.length_cons, List.length_nil, Nat.zero_add, List.map_cons, List.map_nil, Option.map_none]
    simp (maxSteps := 300000) (disch := omega) only [go_sem, ↓reduceIte]
    with_reducible refine hK _ ?_
    clear hK K
    refine nx_then ?_
    refine awp_seqP rfl ?_
    refine awp_regP (Γ := noEnv) [0, 3] (noEnv_ok _ _) rfl rfl rfl (fun K hK => ?_)
    simp only [Try.f39, bodyOf, Option.getD_some, cl, cr, rOps, lights, light, rN, List.size_toArray, List.length_cons, List.length_nil, Nat.zero_add, List.map_cons, List.map_nil, Option.map_none]
    simp (maxSteps := 300000) (disch := omega) only [go_sem, ↓reduceIte]
    with_reducible refine hK _ ?_
    clear hK K
    refine nx_then ?_
    refine awp_seqP rfl ?_
    refine awp_seqP rfl ?_
    refine awp_regP (Γ := noEnv) [3, 6, 7, 8] (noEnv_ok _ _) rfl rfl rfl (fun K hK => ?_)
    simp only [Try.f39, bodyOf, Option.getD_some, cl, cr, rOps, lights, light, rN, List.size_toArray, List.length_cons, List.length_nil, Nat.reduceAdd, Nat.zero_add, List.map_cons, List.map_nil, Option.map_none]
    simp (maxSteps := 300000) (disch := omega) only [go_sem, Nat.reduceAdd, ↓reduceIte]
    with_reducible refine hK _ ?_
    clear hK K
    refine nx_then ?_
    refine awp_own 3 1 rfl ?_
    refine awp_keep [3, 6, 7, 8] ?_
    simp only [kf_nil, kf_cons, look_cons, ↓reduceIte, Nat.reduceEqDiff]
    refine awp_blockN 0 rfl rfl ?_
    refine awp_loopP (fun p : KIC => { fr := [(3, .os p.id 0 (lowS (ps.take p.k)).length 1 true), (6, .sl ps.length (cS ps)), (7, .i ps.length), (8, .i p.k)], hp := upd (fun _ => none) p.id (.cells (cS (lowS (ps.take p.k))) true), nx := 0, cx := p.c }) (fun p => p.k ≤ ps.length ∧ p.id < p.c) (fun p => ps.length - p.k) rfl ⟨⟨0, _, _⟩, ⟨Nat.zero_le _, by simp only; omega⟩, sub_same rfl rfl (Nat.le_refl _)⟩ ?_
    rintro ⟨k, id, c⟩ ⟨hk, hid⟩ n0
    simp only at hk hid ⊢
    refine awp_seqP rfl ?_
    refine awp_regP (Γ := noEnv) [9, 3, 6, 7, 8] (noEnv_ok _ _) rfl rfl rfl (fun K hK => ?_)
    simp only [Try.f39, bodyOf, Option.getD_some, cl, cr, rOps, lights, light, rN, List.size_toArray, List.length_cons, List.length_nil, Nat.zero_add, List.map_cons, List.map_nil, Option.map_none]
    simp (maxSteps := 300000) (disch := omega) only [go_sem, ↓reduceIte]
    with_reducible refine hK _ ?_
    clear hK K
    refine nx_then ?_
    refine awp_seqP rfl ?_
    refine awp_ifD (.tmp 9) rfl rfl rfl (fun h => ?_) (fun h => ?_)
    · skip
      refine awp_drop rfl ?_
      have hkl : k < ps.length := by omega
      have ht : (lowS (ps.take k)).length = k := by rw [lowS_len, List.length_take]; omega
      have hm := wirB_mem ps k
      have e6 := lowS_take ps k hkl
      have e7 : (lowS (ps.take (k + 1))).length = (lowS (ps.take k)).length + 1 := by rw [e6]; simp
      obtain ⟨l, hl⟩ : ∃ l, ps.getD k [] = l := ⟨_, rfl⟩
      rw [hl] at hm e6
      refine awp_skipP rfl ?_
      refine nx_then ?_
      refine awp_seqP rfl ?_
      refine awp_blockN 1 rfl rfl ?_
      refine awp_seqP rfl ?_
      refine awp_regP (Γ := noEnv) [3, 5, 6, 7, 8] (noEnv_ok _ _) rfl rfl rfl (fun K hK => ?_)
      simp only [Try.f39, bodyOf, Option.getD_some, cl, cr, rOps, lights, light, rN, List.size_toArray, List.length_cons, List.length_nil, Nat.reduceAdd, Nat.zero_add, List.map_cons, List.map_nil, Option.map_none]
      simp (maxSteps := 300000) (disch := omega) only [go_sem, Nat.reduceAdd, ↓reduceIte, hl]
      with_reducible refine hK _ ?_
      clear hK K
      refine nx_then ?_
      refine awp_regP (Γ := envL [(67, .pure true smallG)]) [3, 6, 7, 8] (envOK_cons ok67 envOK_nil) rfl rfl rfl (fun K hK => ?_)
      simp only [Try.f39, bodyOf, Option.getD_some, cl, cr, rOps, lights, light, rN, List.size_toArray, List.length_cons, List.length_nil, Nat.reduceAdd, Nat.zero_add, List.map_cons, List.map_nil, Option.map_none]
      simp (maxSteps := 300000) (disch := omega) only [go_sem, Nat.reduceAdd, Nat.reduceLeDiff, Nat.reduceLT, ↓reduceIte, cS_snoc]
      with_reducible refine hK _ ?_
      clear hK K
      refine nx_blk (nx_then ?_)
      refine awp_regP (Γ := noEnv) [3, 6, 7, 8] (noEnv_ok _ _) rfl rfl rfl (fun K hK => ?_)
      simp only [Try.f39, bodyOf, Option.getD_some, cl, cr, rOps, lights, light, rN, List.size_toArray, List.length_cons, List.length_nil, Nat.reduceAdd, Nat.zero_add, List.map_cons, List.map_nil, Option.map_none]
      simp (maxSteps := 300000) (disch := omega) only [go_sem, Nat.reduceAdd, ↓reduceIte]
      with_reducible refine hK _ ?_
      clear hK K
      refine nx_loop ?_
      refine ⟨⟨k + 1, c + 1 + 3 + 4, _⟩, ⟨by simp only; omega, by simp only; omega⟩, by simp only; omega, ⟨fun _ => .inr ?_, fun j o h => ?_, Nat.le_refl _⟩⟩
      · simp only [e7, Int.natCast_add, Int.natCast_one]
      · simp only at h
        exact hsub_cons (by simp (disch := omega) only [up_app, ↓reduceIte, eq_self, e6]) (hsub_nil) j o h
    · skip
      refine awp_drop rfl ?_
      refine awp_exitN 0 rfl rfl ?_
      refine nx_ex_then (nx_ex_loop (nx_ex_blk ?_))
      refine nx_then ?_
      refine awp_seqP rfl ?_
      obtain rfl : k = ps.length := by omega
      have e8 : ps.take ps.length = ps := List.take_length
      refine awp_regP (Γ := noEnv) [2] (noEnv_ok _ _) rfl rfl rfl (fun K hK => ?_)
      simp only [Try.f39, bodyOf, Option.getD_some, cl, cr, rOps, lights, light, rN, List.size_toArray, List.length_cons, List.length_nil, Nat.reduceAdd, Nat.zero_add, List.map_cons, List.map_nil, Option.map_none]
      simp (maxSteps := 300000) (disch := omega) only [go_sem, Nat.reduceAdd, ↓reduceIte, e8]
      with_reducible refine hK _ ?_
      clear hK K
      refine nx_then ?_
      refine awp_retP rfl ?_
      simp (disch := omega) only [freshQ, freshR, resA, resAL, resA1, Try.f39, go_sem, ↓reduceIte, cS_noOwn]
  · cases hg
theorem ok39 : EntOK Try.prog GLh 39 (.fresh true lowerG) := ⟨⟨_, Try.func39, rfl, rfl⟩, lower_ok⟩


end Go.AX

namespace Go.AX
open Go Go.Proofs

def putF : List AV → Option (Nat × Nat × List AV)
  | [.v (.slice none 0 0), .w32 n, .i k] => guardO (0 ≤ k ∧ k ≤ 8) (some (k.toNat, 1, c8 (beL n k.toNat k.toNat)))
  | _ => none
theorem putF_eq (n : W32) (k : Int) : putF [.v (.slice none 0 0), .w32 n, .i k] = guardO (0 ≤ k ∧ k ≤ 8) (some (k.toNat, 1, c8 (beL n k.toNat k.toNat))) := (rfl)
attribute [go_sem] putF_eq

set_option maxHeartbeats 4000000 in
theorem put_okF : FreshOK Try.prog GLh 53 putF := by
  refine fresh_of_awp Try.func53 (bodyOf_some rfl) ?_
  intro args r hg
  unfold putF at hg
  split at hg
  · rename_i n k0
    replace hg := guardO_inv hg; obtain ⟨⟨hk1, hk8⟩, hg⟩ := hg
    obtain rfl := Option.some.inj hg
    obtain ⟨k, rfl⟩ := Int.eq_ofNat_of_zero_le (show 0 ≤ k0 by omega)
    simp only [Int.toNat_natCast] at *
    clear hg
    refine ⟨Nat.le_of_ble_eq_true rfl, fun nx => ?_⟩
    refine awp_seqP rfl ?_
    refine awp_regP (Γ := noEnv) [0, 1, 2] (noEnv_ok _ _) rfl rfl rfl (fun K hK => ?_)
    simp only [Try.f53, bodyOf, Option.getD_some, cl, rOps, lights, light, rN, List.size_toArray, List.length_cons, List.length_nil, Nat.zero_add, List.map_cons, List.map_nil, Option.map_none]
    simp (maxSteps := 300000) (disch := omega) only [go_sem, Nat.reduceAdd, ↓reduceIte]
    with_reducible refine hK _ ?_
    clear hK K
    refine nx_then ?_
    refine awp_seqP rfl ?_
    refine awp_seqP rfl ?_
    refine awp_regP (Γ := noEnv) [0, 1, 7] (noEnv_ok _ _) rfl rfl rfl (fun K hK => ?_)
    simp only [Try.f53, bodyOf, Option.getD_some, cl, cr, rOps, lights, light, rN, List.size_toArray, List.length_cons, List.length_nil, Nat.reduceAdd, Nat.zero_add, List.map_cons, List.map_nil, Option.map_none]
    simp (maxSteps := 300000) (disch := omega) only [go_sem, Nat.reduceAdd, ↓reduceIte]
    with_reducible refine hK _ ?_
    clear hK K
    refine nx_then ?_
    refine awp_own 0 1 rfl ?_
    refine awp_keep [0, 1, 7] ?_
    simp only [kf_nil, kf_cons, look_cons, ↓reduceIte, Nat.reduceEqDiff]
    refine awp_blockN 0 rfl rfl ?_
    refine awp_loopP (fun p : KIC => { fr := [(0, .os p.id 0 p.k 1 true), (1, .w32 n), (7, .i ((k : Int) - 1 - (p.k : Int)))], hp := upd (fun _ => none) p.id (.cells (c8 (beL n k p.k)) true), nx := 0, cx := p.c }) (fun p => p.k ≤ k ∧ p.id < p.c) (fun p => k - p.k) rfl ⟨⟨0, _, _⟩, ⟨Nat.zero_le _, by simp only; omega⟩, sub_same (by simp only [Int.natCast_zero, Int.sub_zero]) rfl (Nat.le_refl _)⟩ ?_
    rintro ⟨j, id, c⟩ ⟨hj, hid⟩ n0
    simp only at hj hid ⊢
    refine awp_seqP rfl ?_
    refine awp_seqP rfl ?_
    refine awp_regP (Γ := noEnv) [11, 0, 1, 7] (noEnv_ok _ _) rfl rfl rfl (fun K hK => ?_)
    simp only [Try.f53, bodyOf, Option.getD_some, cl, cr, rOps, lights, light, rN, List.size_toArray, List.length_cons, List.length_nil, Nat.reduceAdd, Nat.zero_add, List.map_cons, List.map_nil, Option.map_none]
    simp (maxSteps := 300000) (disch := omega) only [go_sem, Nat.reduceAdd, ↓reduceIte]
    with_reducible refine hK _ ?_
    clear hK K
    refine nx_then ?_
    refine awp_ifD (.tmp 11) rfl rfl rfl (fun h => ?_) (fun h => ?_)
    · skip
      refine awp_drop rfl ?_
      have e1 : (BitVec.ofInt 64 (8 * ((k : Int) - 1 - (j : Int)))).toNat = 8 * (k - 1 - j) := by rw [BitVec.toNat_ofInt]; omega
      have hl := beL_len n k j
      refine awp_skipP rfl ?_
      refine nx_then ?_
      refine awp_seqP rfl ?_
      refine awp_blockN 1 rfl rfl ?_
      refine awp_regP (Γ := noEnv) [0, 1, 7] (noEnv_ok _ _) rfl rfl rfl (fun K hK => ?_)
      simp only [Try.f53, bodyOf, Option.getD_some, cl, cr, rOps, lights, light, rN, List.size_toArray, List.length_cons, List.length_nil, Nat.reduceAdd, Nat.zero_add, List.map_cons, List.map_nil, Option.map_none]
      simp (maxSteps := 300000) (disch := omega) only [go_sem, Nat.reduceAdd, Nat.reduceLeDiff, Nat.reduceLT, ↓reduceIte, e1, hl]
      with_reducible refine hK _ ?_
      clear hK K
      refine nx_blk (nx_then ?_)
      refine awp_regP (Γ := noEnv) [0, 1, 7] (noEnv_ok _ _) rfl rfl rfl (fun K hK => ?_)
      simp only [Try.f53, bodyOf, Option.getD_some, cl, cr, rOps, lights, light, rN, List.size_toArray, List.length_cons, List.length_nil, Nat.reduceAdd, Nat.zero_add, List.map_cons, List.map_nil, Option.map_none]
      simp (maxSteps := 300000) (disch := omega) only [go_sem, Nat.reduceAdd, ↓reduceIte]
      with_reducible refine hK _ ?_
      clear hK K
      refine nx_loop ?_
      have e2 : (k : Int) - 1 - ((j : Int) + 1) = (k : Int) - 1 - (j : Int) - 1 := by omega
      have e4 : beL n k (j + 1) = beL n k j ++ [(n >>> (8 * (k - 1 - j))).setWidth 8] := rfl
      refine ⟨⟨j + 1, c + 2 + 8, _⟩, ⟨by simp only; omega, by simp only; omega⟩, by simp only; omega, ⟨fun _ => .inr ?_, fun j o h => ?_, Nat.le_refl _⟩⟩
      · simp only [Int.natCast_add, Int.natCast_one, e2]
      · simp only at h
        exact hsub_cons (by simp (disch := omega) only [up_app, ↓reduceIte, eq_self, e4]) (hsub_nil) j o h
    · skip
      refine awp_drop rfl ?_
      refine awp_exitN 0 rfl rfl ?_
      refine nx_ex_then (nx_ex_loop (nx_ex_blk ?_))
      refine nx_then ?_
      refine awp_seqP rfl ?_
      obtain rfl : j = k := by omega
      have hl := beL_len n j j
      refine awp_regP (Γ := noEnv) [6] (noEnv_ok _ _) rfl rfl rfl (fun K hK => ?_)
      simp only [Try.f53, bodyOf, Option.getD_some, cl, cr, rOps, lights, light, rN, List.size_toArray, List.length_cons, List.length_nil, Nat.reduceAdd, Nat.zero_add, List.map_cons, List.map_nil, Option.map_none]
      simp (maxSteps := 300000) (disch := omega) only [go_sem, Nat.reduceAdd, ↓reduceIte]
      with_reducible refine hK _ ?_
      clear hK K
      refine nx_then ?_
      refine awp_retP rfl ?_
      simp (disch := omega) only [freshQ, freshR, resA, resAL, resA1, Try.f53, go_sem, ↓reduceIte, c8_noOwn, hl]
  · cases hg
theorem ok53 : EntOK Try.prog GLh 53 (.fresh false putF) := ⟨⟨_, Try.func53, rfl, rfl⟩, put_okF⟩
set_option maxHeartbeats 4000000 in
theorem rput_okF : FreshOK Try.prog GLh 16 putF := by
  refine fresh_of_awp Try.func16 (bodyOf_some rfl) ?_
  intro args r hg
  unfold putF at hg
  split at hg
  · rename_i n k0
    replace hg := guardO_inv hg; obtain ⟨⟨hk1, hk8⟩, hg⟩ := hg
    obtain rfl := Option.some.inj hg
    obtain ⟨k, rfl⟩ := Int.eq_ofNat_of_zero_le (show 0 ≤ k0 by omega)
    simp only [Int.toNat_natCast] at *
    clear hg
    refine ⟨Nat.le_of_ble_eq_true rfl, fun nx => ?_⟩
    refine awp_seqP rfl ?_
    refine awp_regP (Γ := noEnv) [0, 1, 2] (noEnv_ok _ _) rfl rfl rfl (fun K hK => ?_)
    simp only [Try.f16, bodyOf, Option.getD_some, cl, rOps, lights, light, rN, List.size_toArray, List.length_cons, List.length_nil, Nat.zero_add, List.map_cons, List.map_nil, Option.map_none]
    simp (maxSteps := 300000) (disch := omega) only [go_sem, Nat.reduceAdd, ↓reduceIte]
    with_reducible refine hK _ ?_
    clear hK K
    refine nx_then ?_
    refine awp_seqP rfl ?_
    refine awp_seqP rfl ?_
    refine awp_regP (Γ := noEnv) [0, 1, 7] (noEnv_ok _ _) rfl rfl rfl (fun K hK => ?_)
    simp only [Try.f16, bodyOf, Option.getD_some, cl, cr, rOps, lights, light, rN, List.size_toArray, List.length_cons, List.length_nil, Nat.reduceAdd, Nat.zero_add, List.map_cons, List.map_nil, Option.map_none]
    simp (maxSteps := 300000) (disch := omega) only [go_sem, Nat.reduceAdd, ↓reduceIte]
    with_reducible refine hK _ ?_
    clear hK K
    refine nx_then ?_
    refine awp_own 0 1 rfl ?_
    refine awp_keep [0, 1, 7] ?_
    simp only [kf_nil, kf_cons, look_cons, ↓reduceIte, Nat.reduceEqDiff]
    refine awp_blockN 0 rfl rfl ?_
    refine awp_loopP (fun p : KIC => { fr := [(0, .os p.id 0 p.k 1 true), (1, .w32 n), (7, .i ((k : Int) - 1 - (p.k : Int)))], hp := upd (fun _ => none) p.id (.cells (c8 (beL n k p.k)) true), nx := 0, cx := p.c }) (fun p => p.k ≤ k ∧ p.id < p.c) (fun p => k - p.k) rfl ⟨⟨0, _, _⟩, ⟨Nat.zero_le _, by simp only; omega⟩, sub_same (by simp only [Int.natCast_zero, Int.sub_zero]) rfl (Nat.le_refl _)⟩ ?_
    rintro ⟨j, id, c⟩ ⟨hj, hid⟩ n0
    simp only at hj hid ⊢
    refine awp_seqP rfl ?_
    refine awp_seqP rfl ?_
    refine awp_regP (Γ := noEnv) [11, 0, 1, 7] (noEnv_ok _ _) rfl rfl rfl (fun K hK => ?_)
    simp only [Try.f16, bodyOf, Option.getD_some, cl, cr, rOps, lights, light, rN, List.size_toArray, List.length_cons, List.length_nil, Nat.reduceAdd, Nat.zero_add, List.map_cons, List.map_nil, Option.map_none]
    simp (maxSteps := 300000) (disch := omega) only [go_sem, Nat.reduceAdd, ↓reduceIte]
    with_reducible refine hK _ ?_
    clear hK K
    refine nx_then ?_
    refine awp_ifD (.tmp 11) rfl rfl rfl (fun h => ?_) (fun h => ?_)
    · skip
      refine awp_drop rfl ?_
      have e1 : (8 * ((k : Int) - 1 - (j : Int))).toNat = 8 * (k - 1 - j) := by omega
      have hl := beL_len n k j
      refine awp_skipP rfl ?_
      refine nx_then ?_
      refine awp_seqP rfl ?_
      refine awp_blockN 1 rfl rfl ?_
      refine awp_regP (Γ := noEnv) [0, 1, 7] (noEnv_ok _ _) rfl rfl rfl (fun K hK => ?_)
      simp only [Try.f16, bodyOf, Option.getD_some, cl, cr, rOps, lights, light, rN, List.size_toArray, List.length_cons, List.length_nil, Nat.reduceAdd, Nat.zero_add, List.map_cons, List.map_nil, Option.map_none]
      simp (maxSteps := 300000) (disch := omega) only [go_sem, Nat.reduceAdd, Nat.reduceLeDiff, Nat.reduceLT, ↓reduceIte, e1, hl]
      with_reducible refine hK _ ?_
      clear hK K
      refine nx_blk (nx_then ?_)
      refine awp_regP (Γ := noEnv) [0, 1, 7] (noEnv_ok _ _) rfl rfl rfl (fun K hK => ?_)
      simp only [Try.f16, bodyOf, Option.getD_some, cl, cr, rOps, lights, light, rN, List.size_toArray, List.length_cons, List.length_nil, Nat.reduceAdd, Nat.zero_add, List.map_cons, List.map_nil, Option.map_none]
      simp (maxSteps := 300000) (disch := omega) only [go_sem, Nat.reduceAdd, ↓reduceIte]
      with_reducible refine hK _ ?_
      clear hK K
      refine nx_loop ?_
      have e2 : (k : Int) - 1 - ((j : Int) + 1) = (k : Int) - 1 - (j : Int) - 1 := by omega
      have e4 : beL n k (j + 1) = beL n k j ++ [(n >>> (8 * (k - 1 - j))).setWidth 8] := rfl
      refine ⟨⟨j + 1, c + 2 + 7, _⟩, ⟨by simp only; omega, by simp only; omega⟩, by simp only; omega, ⟨fun _ => .inr ?_, fun j o h => ?_, Nat.le_refl _⟩⟩
      · simp only [Int.natCast_add, Int.natCast_one, e2]
      · simp only at h
        exact hsub_cons (by simp (disch := omega) only [up_app, ↓reduceIte, eq_self, e4]) (hsub_nil) j o h
    · skip
      refine awp_drop rfl ?_
      refine awp_exitN 0 rfl rfl ?_
      refine nx_ex_then (nx_ex_loop (nx_ex_blk ?_))
      refine nx_then ?_
      refine awp_seqP rfl ?_
      obtain rfl : j = k := by omega
      have hl := beL_len n j j
      refine awp_regP (Γ := noEnv) [6] (noEnv_ok _ _) rfl rfl rfl (fun K hK => ?_)
      simp only [Try.f16, bodyOf, Option.getD_some, cl, cr, rOps, lights, light, rN, List.size_toArray, List.length_cons, List.length_nil, Nat.reduceAdd, Nat.zero_add, List.map_cons, List.map_nil, Option.map_none]
      simp (maxSteps := 300000) (disch := omega) only [go_sem, Nat.reduceAdd, ↓reduceIte]
      with_reducible refine hK _ ?_
      clear hK K
      refine nx_then ?_
      refine awp_retP rfl ?_
      simp (disch := omega) only [freshQ, freshR, resA, resAL, resA1, Try.f16, go_sem, ↓reduceIte, c8_noOwn, hl]
  · cases hg
theorem ok16 : EntOK Try.prog GLh 16 (.fresh false putF) := ⟨⟨_, Try.func16, rfl, rfl⟩, rput_okF⟩
theorem place_eq (k n : Int) (h : 0 < n) : (if k.tmod n < 0 then k.tmod n + n else k.tmod n) = k % n := by
  have e : k.tmod n % n = k % n := by
    conv => rhs; rw [← Int.tmod_add_mul_tdiv k n]
    rw [Int.add_mul_emod_self_left]
  have hb : (k.tmod n).natAbs < n.natAbs := by rw [Int.natAbs_tmod]; exact Nat.mod_lt _ (by omega)
  split
  · rw [← e, ← Int.add_emod_right, Int.emod_eq_of_lt (by omega) (by omega)]
  · rw [← e, Int.emod_eq_of_lt (by omega) (by omega)]
def placeG : List AV → Option AV
  | [.i k, .i n] => guardO (0 < n ∧ n ≤ 1000000000) (some (.i (k % n)))
  | _ => none
theorem placeG_eq (k n : Int) : placeG [.i k, .i n] = guardO (0 < n ∧ n ≤ 1000000000) (some (.i (k % n))) := (rfl)
attribute [go_sem] placeG_eq

set_option maxHeartbeats 1000000 in
theorem place_ok : PureOK Try.prog GLh 12 placeG := by
  refine pure_of_awp Try.func12 (bodyOf_some rfl) ?_
  intro args r hg
  unfold placeG at hg
  split at hg
  · rename_i k n
    replace hg := guardO_inv hg; obtain ⟨⟨h0, hbig⟩, hg⟩ := hg
    obtain rfl := Option.some.inj hg
    clear hg
    refine ⟨Nat.le_of_ble_eq_true rfl, fun nx => ?_⟩
    have hp := place_eq k n h0
    have hb : (k.tmod n).natAbs < n.natAbs := by rw [Int.natAbs_tmod]; exact Nat.mod_lt _ (by omega)
    have hne : ¬ n = 0 := by omega
    refine awp_seqP rfl ?_
    refine awp_regP (Γ := noEnv) [0, 1] (noEnv_ok _ _) rfl rfl rfl (fun K hK => ?_)
    simp only [Try.f12, bodyOf, Option.getD_some, cl, rOps, lights, light, rN, List.size_toArray, List.length_cons, List.length_nil, Nat.zero_add, List.map_cons, List.map_nil, Option.map_none]
    simp (maxSteps := 300000) (disch := omega) only [go_sem, ↓reduceIte]
    with_reducible refine hK _ ?_
    clear hK K
    refine nx_then ?_
    refine awp_seqP rfl ?_
    refine awp_regP (Γ := noEnv) [0, 1] (noEnv_ok _ _) rfl rfl rfl (fun K hK => ?_)
    simp only [Try.f12, bodyOf, Option.getD_some, cl, cr, rOps, lights, light, rN, List.size_toArray, List.length_cons, List.length_nil, Nat.reduceAdd, Nat.zero_add, List.map_cons, List.map_nil, Option.map_none]
    simp (maxSteps := 300000) (disch := omega) only [go_sem, Nat.reduceAdd, ↓reduceIte, if_neg hne]
    with_reducible refine hK _ ?_
    clear hK K
    refine nx_then ?_
    refine awp_seqP rfl ?_
    refine awp_seqP rfl ?_
    refine awp_regP (Γ := noEnv) [9, 0, 1] (noEnv_ok _ _) rfl rfl rfl (fun K hK => ?_)
    simp only [Try.f12, bodyOf, Option.getD_some, cl, cr, rOps, lights, light, rN, List.size_toArray, List.length_cons, List.length_nil, Nat.reduceAdd, Nat.zero_add, List.map_cons, List.map_nil, Option.map_none]
    simp (maxSteps := 300000) (disch := omega) only [go_sem, Nat.reduceAdd, ↓reduceIte]
    with_reducible refine hK _ ?_
    clear hK K
    refine nx_then ?_
    refine awp_ifD (.tmp 9) rfl rfl rfl (fun h => ?_) (fun h => ?_)
    · skip
      refine awp_drop rfl ?_
      rw [if_pos (by assumption)] at hp
      refine awp_regP (Γ := noEnv) [0] (noEnv_ok _ _) rfl rfl rfl (fun K hK => ?_)
      simp only [Try.f12, bodyOf, Option.getD_some, cl, cr, rOps, lights, light, rN, List.size_toArray, List.length_cons, List.length_nil, Nat.reduceAdd, Nat.zero_add, List.map_cons, List.map_nil, Option.map_none]
      simp (maxSteps := 300000) (disch := omega) only [go_sem, Nat.reduceAdd, ↓reduceIte, hp]
      with_reducible refine hK _ ?_
      clear hK K
      refine nx_then ?_
      refine awp_seqP rfl ?_
      refine awp_regP (Γ := noEnv) [4] (noEnv_ok _ _) rfl rfl rfl (fun K hK => ?_)
      simp only [Try.f12, bodyOf, Option.getD_some, cl, cr, rOps, lights, light, rN, List.size_toArray, List.length_cons, List.length_nil, Nat.reduceAdd, Nat.zero_add, List.map_cons, List.map_nil, Option.map_none]
      simp (maxSteps := 300000) (disch := omega) only [go_sem, Nat.reduceAdd, ↓reduceIte]
      with_reducible refine hK _ ?_
      clear hK K
      refine nx_then ?_
      refine awp_retP rfl ?_
      simp (disch := omega) only [pureQ, resA, resAL, resA1, Try.f12, go_sem, ↓reduceIte]
    · skip
      refine awp_drop rfl ?_
      refine awp_skipP rfl ?_
      refine nx_then ?_
      refine awp_seqP rfl ?_
      rw [if_neg (by assumption)] at hp
      refine awp_regP (Γ := noEnv) [4] (noEnv_ok _ _) rfl rfl rfl (fun K hK => ?_)
      simp only [Try.f12, bodyOf, Option.getD_some, cl, cr, rOps, lights, light, rN, List.size_toArray, List.length_cons, List.length_nil, Nat.reduceAdd, Nat.zero_add, List.map_cons, List.map_nil, Option.map_none]
      simp (maxSteps := 300000) (disch := omega) only [go_sem, Nat.reduceAdd, ↓reduceIte, hp]
      with_reducible refine hK _ ?_
      clear hK K
      refine nx_then ?_
      refine awp_retP rfl ?_
      simp (disch := omega) only [pureQ, resA, resAL, resA1, Try.f12, go_sem, ↓reduceIte]
  · cases hg
theorem ok12 : EntOK Try.prog GLh 12 (.pure true placeG) := ⟨⟨_, Try.func12, rfl, rfl⟩, place_ok⟩
def beqG : List AV → Option AV
  | [.sl n xs, .sl m ys] => obind (unW8 xs) fun a => obind (unW8 ys) fun b => guardO (a.length = n ∧ b.length = m) (some (.b (decide (a = b))))
  | _ => none
theorem beqG_eq (n m : Nat) (xs ys : List AV) : beqG [.sl n xs, .sl m ys] = obind (unW8 xs) fun a => obind (unW8 ys) fun b => guardO (a.length = n ∧ b.length = m) (some (.b (decide (a = b)))) := (rfl)
attribute [go_sem] beqG_eq
set_option maxHeartbeats 2000000 in
theorem hbytes_ok : PureOK Try.prog GLh 11 beqG := by
  refine pure_of_awp Try.func11 (bodyOf_some rfl) ?_
  intro args r hg
  unfold beqG at hg
  split at hg
  · rename_i n xs m ys
    replace hg := obind_inv hg; obtain ⟨a, ha, hg⟩ := hg
    replace hg := obind_inv hg; obtain ⟨b, hb, hg⟩ := hg
    replace hg := guardO_inv hg; obtain ⟨⟨hn, hm⟩, hg⟩ := hg
    obtain rfl := Option.some.inj hg
    have := unW8_inv ha; subst this
    have := unW8_inv hb; subst this
    subst hn; subst hm
    refine ⟨Nat.le_of_ble_eq_true rfl, fun nx => ?_⟩
    clear hg ha hb
    refine awp_seqP rfl ?_
    refine awp_regP (Γ := noEnv) [0, 1] (noEnv_ok _ _) rfl rfl rfl (fun K hK => ?_)
    simp only [Try.f11, bodyOf, Option.getD_some, cl, rOps, lights, light, rN, List.size_toArray, List.length_cons, List.length_nil, Nat.zero_add, List.map_cons, List.map_nil, Option.map_none]
    simp (maxSteps := 300000) (disch := omega) only [go_sem, ↓reduceIte]
    with_reducible refine hK _ ?_
    clear hK K
    refine nx_then ?_
    refine awp_seqP rfl ?_
    refine awp_regP (Γ := noEnv) [4] (noEnv_ok _ _) rfl rfl rfl (fun K hK => ?_)
    simp only [Try.f11, bodyOf, Option.getD_some, cl, cr, rOps, lights, light, rN, List.size_toArray, List.length_cons, List.length_nil, Nat.reduceAdd, Nat.zero_add, List.map_cons, List.map_nil, Option.map_none]
    simp (maxSteps := 300000) (disch := omega) only [go_sem, Nat.reduceAdd, ↓reduceIte, unW8_c8]
    with_reducible refine hK _ ?_
    clear hK K
    refine nx_then ?_
    refine awp_retP rfl ?_
    simp (disch := omega) only [pureQ, resA, resAL, resA1, Try.f11, go_sem, ↓reduceIte]
  · cases hg
theorem ok11 : EntOK Try.prog GLh 11 (.pure true beqG) := ⟨⟨_, Try.func11, rfl, rfl⟩, hbytes_ok⟩
end Go.AX

namespace Go.AX
open Go Go.Proofs

theorem tag2 (t : BitVec 16) : beL (t.setWidth 32) 2 2 = [(t >>> 8).setWidth 8, t.setWidth 8] := by
  have e : (t.setWidth 32 >>> 8).setWidth 8 = (t >>> 8).setWidth 8 := by
    apply BitVec.eq_of_toNat_eq
    have := t.isLt
    simp only [BitVec.toNat_setWidth, BitVec.toNat_ushiftRight, Nat.shiftRight_eq_div_pow]; omega
  have e2 : (t.setWidth 32 >>> 0).setWidth 8 = t.setWidth 8 := by
    apply BitVec.eq_of_toNat_eq
    have := t.isLt
    simp only [BitVec.toNat_setWidth, BitVec.toNat_ushiftRight, Nat.shiftRight_eq_div_pow]; omega
  simp only [beL, List.nil_append, List.cons_append, Nat.reduceSub, Nat.reduceMul, e, e2]

theorem callS_g2 (f : FuncId) (args : List AV) (nx n : Nat) (hp : H) (id cx : Nat) (g : List AV → Option (Nat × Nat × List AV)) : callS f args 2 nx n hp id cx (some (.fresh false g)) = obind (borrowL (fun _ => none) args) fun as_ => obind (g as_) fun r => some (.os id 0 r.1 r.2.1 true, upd hp id (.cells r.2.2 true), cx) := (rfl)
theorem dr_s (x : AV) (l : List AV) (k : Nat) : List.drop (k + 1) (x :: l) = List.drop k l := (rfl)
attribute [go_sem] callS_g2 dr_s
/-- A DNSKEY's bytes. -/
def keyB (f : BitVec 16) (p a : B8) (k : List B8) : List B8 := [(f >>> 8).setWidth 8, f.setWidth 8] ++ [p, a] ++ k
def keyBG : List AV → Option (Nat × Nat × List AV)
  | [.agg [.w16 f, .w8 p, .w8 a, .sl n xs]] => obind (unW8 xs) fun k => guardO (k.length = n ∧ n ≤ 100000) (some ((keyB f p a k).length, 1, c8 (keyB f p a k)))
  | _ => none
theorem keyBG_eq (f : BitVec 16) (p a : B8) (n : Nat) (xs : List AV) : keyBG [.agg [.w16 f, .w8 p, .w8 a, .sl n xs]] = obind (unW8 xs) fun k => guardO (k.length = n ∧ n ≤ 100000) (some ((keyB f p a k).length, 1, c8 (keyB f p a k))) := (rfl)
attribute [go_sem] keyBG_eq
set_option maxHeartbeats 4000000 in
theorem keyB_ok : FreshOK Try.prog GLh 34 keyBG := by
  refine fresh_of_awp Try.func34 (bodyOf_some rfl) ?_
  intro args r hg
  unfold keyBG at hg
  split at hg
  · rename_i f p a n xs
    replace hg := obind_inv hg; obtain ⟨k, hk, hg⟩ := hg
    replace hg := guardO_inv hg; obtain ⟨⟨rfl, hn⟩, hg⟩ := hg
    obtain rfl := Option.some.inj hg
    have := unW8_inv hk; subst this
    clear hg hk
    refine ⟨Nat.le_of_ble_eq_true rfl, fun nx => ?_⟩
    have e2 := tag2 f
    have ekb : [(f >>> 8).setWidth 8, f.setWidth 8] ++ [p, a] ++ k = keyB f p a k := rfl
    have ekl : (keyB f p a k).length = 4 + k.length := by rw [← ekb]; simp; omega
    refine awp_seqP rfl ?_
    refine awp_regP (Γ := noEnv) [1] (noEnv_ok _ _) rfl rfl rfl (fun K hK => ?_)
    simp only [Try.f34, bodyOf, Option.getD_some, cl, rOps, lights, light, rN, List.size_toArray, List.length_cons, List.length_nil, Nat.reduceAdd, Nat.zero_add, List.map_cons, List.map_nil, Option.map_none]
    simp (maxSteps := 300000) (disch := omega) only [go_sem, Nat.reduceAdd, ↓reduceIte]
    with_reducible refine hK _ ?_
    clear hK K
    refine nx_then ?_
    refine awp_rp 1 nx 0 rfl (by simp only [up_app, if_true]; rfl) ?_
    refine awp_seqP rfl ?_
    refine awp_drwP (Γ := envL [(53, .fresh false putF)]) (fun k => if k = 1 then 1 else if k = 5 then 1 else if k = 7 then 1 else if k = 11 then 1 else 2) [2] mixed (envOK_cons ok53 envOK_nil) rfl rfl rfl (by kernel_rfl) (fun K hK => ?_)
    simp only [Try.f34, bodyOf, Option.getD_some, cl, cr, rOps, lights, light, rN, List.size_toArray, List.length_cons, List.length_nil, Nat.reduceAdd, Nat.zero_add, List.map_cons, List.map_nil, Option.map_none]
    simp (maxSteps := 300000) (disch := omega) only [go_sem, Nat.reduceAdd, Nat.reduceLeDiff, Nat.reduceLT, Int.reduceLE, Int.reduceToNat, ↓reduceIte, e2]
    with_reducible refine hK _ ?_
    clear hK K
    refine nx_then ?_
    refine awp_retP rfl ?_
    simp (disch := omega) only [freshQ, freshR, resA, resAL, resA1, Try.f34, go_sem, ↓reduceIte, ekl]
    rfl
  · cases hg
theorem ok34 : EntOK Try.prog GLh 34 (.fresh true keyBG) := ⟨⟨_, Try.func34, rfl, rfl⟩, keyB_ok⟩
end Go.AX
