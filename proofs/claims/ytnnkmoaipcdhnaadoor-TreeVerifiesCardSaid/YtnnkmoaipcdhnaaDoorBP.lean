/-
  Tree, part K: a tree signs into a slice of the caller's own; signatures that are spoilt, walked.
-/
import Derived.Test.YtnnkmoaipcdhnaaDoorBN
namespace Go.AX
open Go Go.Proofs

theorem hsub_base {s t : H} {nx i : Nat} {a : AO} (h1 : t i = some a) (h2 : ∀ j, j < nx → t j = s j) (hn : ∀ j, nx ≤ j → s j = none) : ∀ j o, upd s i a j = some o → t j = some o := by
  intro j o h
  rw [upd_apply] at h
  split at h
  · rename_i e; subst e; rw [h1]; exact h
  · by_cases hj : j < nx
    · rw [h2 j hj]; exact h
    · rw [hn j (by omega)] at h; cases h
def idS (nx k : Nat) : Nat := if k = 0 then nx + 25 else nx + 33 + 17 * k
theorem idS_0 (nx : Nat) : idS nx 0 = nx + 25 := rfl
theorem idS_s (nx k : Nat) : idS nx (k + 1) = nx + 40 + 17 * k + 1 + 3 + 6 := by unfold idS; rw [if_neg (by omega)]; omega
theorem idS_lt (nx k : Nat) : nx ≤ idS nx k ∧ idS nx k < nx + 40 + 17 * k := by unfold idS; split <;> omega
noncomputable def tsignH : List AV → H → Nat → Option (AV × H × Nat)
  | [.rp ts, .w32 leaf, .sl n ys], hp, nx => obind (unT ts) fun p => obind (un8 ys) fun m => guardO (m.length = n ∧ n ≤ 900000000 ∧ leaf.toNat < 2 ^ p.2) (some (.tup [.os (idS nx p.2) 0 (516 + 8 * p.2) 1 true, .i 0], upd hp (idS nx p.2) (.cells (c8 (tsignL p.1 p.2 leaf m)) true), nx + 17 * p.2 + 44))
  | _, _, _ => none
theorem tsignH_eq (ts ys : List AV) (leaf : W32) (n : Nat) (hp : H) (nx : Nat) : tsignH [.rp ts, .w32 leaf, .sl n ys] hp nx = obind (unT ts) fun p => obind (un8 ys) fun m => guardO (m.length = n ∧ n ≤ 900000000 ∧ leaf.toNat < 2 ^ p.2) (some (.tup [.os (idS nx p.2) 0 (516 + 8 * p.2) 1 true, .i 0], upd hp (idS nx p.2) (.cells (c8 (tsignL p.1 p.2 leaf m)) true), nx + 17 * p.2 + 44)) := (rfl)
attribute [go_sem] tsignH_eq

set_option maxHeartbeats 4000000 in
theorem tsign_okH : HeapOK Tryd.prog GLh 55 tsignH := by
  refine heap_of_awp Tryd.func55 (bodyOf_some rfl) ?_
  intro args hp nx r hp' nx' hg
  unfold tsignH at hg
  split at hg
  · rename_i hp0 nx0 ts leaf n ys
    replace hg := obind_inv hg; obtain ⟨⟨seed, ht⟩, hb, hg⟩ := hg
    replace hg := obind_inv hg; obtain ⟨m, hb2, hg⟩ := hg
    replace hg := guardO_inv hg; obtain ⟨⟨hm, hbig, hl⟩, hg⟩ := hg
    simp only [Option.some.injEq, Prod.mk.injEq] at hg; obtain ⟨rfl, rfl, rfl⟩ := hg
    obtain ⟨hs, hh, rfl⟩ := unT_inv hb
    simp only at hs hh hl
    have := un8_inv _ hb2; subst this
    subst hm
    clear hb hb2
    refine ⟨Nat.le_of_ble_eq_true rfl, by omega, fun hnone => ?_⟩
    have hpw := pow_le ht hh
    have hge := leaf_ge leaf ht hh
    refine awp_seqP rfl ?_
    refine awp_regP (Γ := noEnv) [0, 1, 2] (noEnv_ok _ _) rfl rfl rfl (fun K hK => ?_)
    simp only [Tryd.f55, bodyOf, Option.getD_some, cl, rOps, lights, light, rN, List.size_toArray, List.length_cons, List.length_nil, Nat.reduceAdd, Nat.zero_add, List.map_cons, List.map_nil, Option.map_none]
    simp (maxSteps := 300000) (disch := omega) only [go_sem, Nat.reduceAdd, ↓reduceIte]
    with_reducible refine hK _ ?_
    clear hK K
    refine nx_then ?_
    refine awp_seqP rfl ?_
    refine awp_seqP rfl ?_
    refine awp_regP (Γ := envL [(54, .pure true leavesG)]) [14, 0, 1, 2] (envOK_cons ok54 envOK_nil) rfl rfl rfl (fun K hK => ?_)
    simp only [Tryd.f55, bodyOf, Option.getD_some, cl, cr, rOps, lights, light, rN, List.size_toArray, List.length_cons, List.length_nil, Nat.reduceAdd, Nat.zero_add, List.map_cons, List.map_nil, Option.map_none]
    simp (maxSteps := 300000) (disch := omega) only [go_sem, Nat.reduceAdd, ↓reduceIte, hge]
    with_reducible refine hK _ ?_
    clear hK K
    refine nx_then ?_
    refine awp_ifD (.tmp 14) rfl rfl rfl (fun h => ?_) (fun h => ?_)
    · skip
      refine awp_drop rfl ?_
      exact absurd hl h
    · skip
      refine awp_drop rfl ?_
      refine awp_skipP rfl ?_
      refine nx_then ?_
      refine awp_seqP rfl ?_
      have htt := trC_take seed ht hs
      have htl := trC_len seed ht hs
      have hsg := signL_len seed leaf (digL m)
      have hww := w4_sign leaf (signL seed leaf (digL m))
      have hwl : (w4 leaf ++ signL seed leaf (digL m)).length = 516 := by rw [List.length_append, hsg]; rfl
      refine awp_regP (Γ := envL [(29, .fresh true signG)]) [0, 1, 8] (envOK_cons ok29 envOK_nil) rfl rfl rfl (fun K hK => ?_)
      simp only [Tryd.f55, bodyOf, Option.getD_some, cl, cr, rOps, lights, light, rN, List.size_toArray, List.length_cons, List.length_nil, Nat.reduceAdd, Nat.zero_add, List.map_cons, List.map_nil, Option.map_none]
      simp (maxSteps := 300000) (disch := omega) only [go_sem, Nat.reduceAdd, Nat.reduceLeDiff, Nat.reduceLT, Int.reduceLE, Int.reduceLT, BitVec.reduceOfInt, BitVec.reduceToNat, ↓reduceIte, htt, htl, hs, hww]
      with_reducible refine hK _ ?_
      clear hK K
      refine nx_then ?_
      have e1 : (((ht + 1 : Nat) : Int) - 1).toNat = ht := by omega
      have hlt := lvS_take seed ht ht
      refine awp_seqP rfl ?_
      refine awp_seqP rfl ?_
      refine awp_drwP (Γ := noEnv) (fun _ => 2) [1, 8, 45, 46, 47] mixed (noEnv_ok _ _) rfl rfl rfl (by kernel_rfl) (fun K hK => ?_)
      simp only [Tryd.f55, bodyOf, Option.getD_some, cl, cr, rOps, lights, light, rN, List.size_toArray, List.length_cons, List.length_nil, Nat.reduceAdd, Nat.zero_add, List.map_cons, List.map_nil, Option.map_none]
      simp (maxSteps := 300000) (disch := omega) only [go_sem, Nat.reduceAdd, Nat.reduceLT, Int.reduceLE, Int.reduceToNat, ↓reduceIte, e1, List.head?_cons, Nat.sub_zero, hlt]
      with_reducible refine hK _ ?_
      clear hK K
      refine nx_then ?_
      obtain ⟨A, hA⟩ : ∃ A, w4 leaf ++ signL seed leaf (digL m) = A := ⟨_, rfl⟩
      rw [hA] at hwl ⊢
      have hvl := lvS_len seed ht ht
      refine awp_blockN 0 rfl rfl ?_
      refine awp_loopP (fun k : Nat => { fr := [(1, .w32 (leaf >>> k)), (8, .os (idS nx k) 0 (516 + 8 * k) 1 true), (45, .sl ht (lvS seed ht ht)), (46, .i ht), (47, .i k)], hp := upd hp (idS nx k) (.cells (c8 (A ++ fl (sisL seed leaf.toNat) k)) true), nx := 0, cx := nx + 40 + 17 * k }) (fun k => k ≤ ht) (fun k => ht - k) rfl ⟨0, Nat.zero_le _, ⟨fun _ => .inr (by simp only [BitVec.ushiftRight_zero, idS_0, Nat.add_assoc, Nat.reduceAdd]; rfl), hsub_base (nx := nx) (by simp (disch := omega) only [idS_0, up_app, ↓reduceIte, eq_self, fl, List.append_nil, Nat.add_assoc, Nat.reduceAdd]) (fun j hj => by simp (disch := omega) only [up_app, de_app, nat_ne, if_false]) hnone, by simp only; omega⟩⟩ ?_
      rintro k hk n0
      obtain ⟨hi1, hi2⟩ := idS_lt nx k
      obtain ⟨id, hid⟩ : ∃ id, idS nx k = id := ⟨_, rfl⟩
      obtain ⟨c, hc⟩ : ∃ c, nx + 40 + 17 * k = c := ⟨_, rfl⟩
      rw [hid] at hi1 hi2 ⊢
      rw [hc] at hi2 ⊢
      refine awp_seqP rfl ?_
      refine awp_regP (Γ := noEnv) [48, 1, 8, 45, 46, 47] (noEnv_ok _ _) rfl rfl rfl (fun K hK => ?_)
      simp only [Tryd.f55, bodyOf, Option.getD_some, cl, cr, rOps, lights, light, rN, List.size_toArray, List.length_cons, List.length_nil, Nat.zero_add, List.map_cons, List.map_nil, Option.map_none]
      simp (maxSteps := 300000) (disch := omega) only [go_sem, ↓reduceIte]
      with_reducible refine hK _ ?_
      clear hK K
      refine nx_then ?_
      refine awp_seqP rfl ?_
      refine awp_ifD (.tmp 48) rfl rfl rfl (fun h => ?_) (fun h => ?_)
      · skip
        refine awp_drop rfl ?_
        have hkh : k < ht := by omega
        have hsb := sib_lt leaf.toNat ht k hl hkh
        have hsw := sib_w leaf k
        have hat := lev_at seed ht k (sib leaf.toNat k) hsb
        have hll := levL_len seed ht k
        have hfl := fl_len (sisL seed leaf.toNat) 8 (fun j => nodeL_len seed j _) k
        have hsu := shr_suc leaf k
        have hfs : fl (sisL seed leaf.toNat) (k + 1) = fl (sisL seed leaf.toNat) k ++ nodeL seed k (sib leaf.toNat k) := rfl
        have hnl := nodeL_len seed k (sib leaf.toNat k)
        obtain ⟨N, hN⟩ : ∃ N, 2 ^ (ht - k) = N := ⟨_, rfl⟩
        obtain ⟨I, hI⟩ : ∃ I, sib leaf.toNat k = I := ⟨_, rfl⟩
        rw [hN] at hsb hll
        rw [hI] at hsw hat hnl hsb hfs
        refine awp_skipP rfl ?_
        refine nx_then ?_
        refine awp_seqP rfl ?_
        refine awp_blockN 1 rfl rfl ?_
        refine awp_seqP rfl ?_
        refine awp_regP (Γ := noEnv) [1, 8, 10, 45, 46, 47] (noEnv_ok _ _) rfl rfl rfl (fun K hK => ?_)
        simp only [Tryd.f55, bodyOf, Option.getD_some, cl, cr, rOps, lights, light, rN, List.size_toArray, List.length_cons, List.length_nil, Nat.reduceAdd, Nat.zero_add, List.map_cons, List.map_nil, Option.map_none]
        simp (maxSteps := 300000) (disch := omega) only [go_sem, Nat.reduceAdd, ↓reduceIte, hN]
        with_reducible refine hK _ ?_
        clear hK K
        refine nx_then ?_
        refine awp_seqP rfl ?_
        refine awp_regP (Γ := noEnv) [1, 8, 45, 46, 47] (noEnv_ok _ _) rfl rfl rfl (fun K hK => ?_)
        simp only [Tryd.f55, bodyOf, Option.getD_some, cl, cr, rOps, lights, light, rN, List.size_toArray, List.length_cons, List.length_nil, Nat.reduceAdd, Nat.zero_add, List.map_cons, List.map_nil, Option.map_none]
        simp (maxSteps := 300000) (disch := omega) only [go_sem, Nat.reduceAdd, Nat.reduceSub, Nat.reduceLeDiff, Nat.reduceLT, Int.reduceLE, Int.reduceLT, Int.reduceToNat, BitVec.reduceOfInt, ↓reduceIte, hsw, hat, hnl, List.length_append, hwl, hfl]
        with_reducible refine hK _ ?_
        clear hK K
        refine nx_then ?_
        refine awp_regP (Γ := noEnv) [1, 8, 45, 46, 47] (noEnv_ok _ _) rfl rfl rfl (fun K hK => ?_)
        simp only [Tryd.f55, bodyOf, Option.getD_some, cl, cr, rOps, lights, light, rN, List.size_toArray, List.length_cons, List.length_nil, Nat.reduceAdd, Nat.zero_add, List.map_cons, List.map_nil, Option.map_none]
        simp (maxSteps := 300000) (disch := omega) only [go_sem, Nat.reduceAdd, Int.reduceLE, Int.reduceLT, BitVec.reduceOfInt, BitVec.reduceToNat, ↓reduceIte, hsu]
        with_reducible refine hK _ ?_
        clear hK K
        refine nx_blk (nx_then ?_)
        refine awp_regP (Γ := noEnv) [1, 8, 45, 46, 47] (noEnv_ok _ _) rfl rfl rfl (fun K hK => ?_)
        simp only [Tryd.f55, bodyOf, Option.getD_some, cl, cr, rOps, lights, light, rN, List.size_toArray, List.length_cons, List.length_nil, Nat.reduceAdd, Nat.zero_add, List.map_cons, List.map_nil, Option.map_none]
        simp (maxSteps := 300000) (disch := omega) only [go_sem, Nat.reduceAdd, ↓reduceIte]
        with_reducible refine hK _ ?_
        clear hK K
        refine nx_loop ?_
        have hi3 := idS_s nx k
        rw [hc] at hi3
        refine ⟨k + 1, by omega, by omega, ⟨fun _ => .inr ?_, ?_, by simp only; omega⟩⟩
        · simp only [Int.natCast_add, Int.natCast_one, hi3, show 516 + 8 * (k + 1) = 516 + 8 * k + 8 by omega]
        · simp only [hi3]
          exact hsub_base (nx := nx) (by simp (disch := omega) only [up_app, ↓reduceIte, eq_self, hfs, List.append_assoc]) (fun j hj => by simp (disch := omega) only [up_app, de_app, nat_ne, if_false]) hnone
      · skip
        refine awp_drop rfl ?_
        refine awp_exitN 0 rfl rfl ?_
        refine nx_ex_then (nx_ex_loop (nx_ex_blk ?_))
        refine nx_then ?_
        refine awp_seqP rfl ?_
        obtain rfl : k = ht := by omega
        have htl : A ++ fl (sisL seed leaf.toNat) k = tsignL seed k leaf m := by rw [← hA]; rfl
        rw [htl]
        refine awp_regP (Γ := noEnv) [6, 7] (noEnv_ok _ _) rfl rfl rfl (fun K hK => ?_)
        simp only [Tryd.f55, bodyOf, Option.getD_some, cl, cr, rOps, lights, light, rN, List.size_toArray, List.length_cons, List.length_nil, Nat.reduceAdd, Nat.zero_add, List.map_cons, List.map_nil, Option.map_none]
        simp (maxSteps := 300000) (disch := omega) only [go_sem, Nat.reduceAdd, ↓reduceIte]
        with_reducible refine hK _ ?_
        clear hK K
        refine nx_then ?_
        refine awp_retP rfl ?_
        refine ⟨?_, fun j o h => ?_, by simp only; omega⟩
        · simp only [hid]; rfl
        · simp only [hid] at h; exact h
  · cases hg
namespace Hp
theorem ok55 : EntOK Tryd.prog GLh 55 (.heap tsignH) := ⟨⟨_, Tryd.func55, rfl, rfl⟩, tsign_okH⟩

theorem leaf_take (C : List B8) (z : Nat) (h : 4 ≤ z) : leafL (List.take z C) = (C.getD 0 0#8).setWidth 32 <<< 24 ||| (C.getD 1 0#8).setWidth 32 <<< 16 ||| (C.getD 2 0#8).setWidth 32 <<< 8 ||| (C.getD 3 0#8).setWidth 32 := by
  have hg : ∀ j, j < 4 → (List.take z C).getD j 0#8 = C.getD j 0#8 := fun j hj => by
    rw [List.getD_eq_getElem?_getD, List.getElem?_take_of_lt (by omega), List.getD_eq_getElem?_getD]
  rw [leafL, hg 0 (by omega), hg 1 (by omega), hg 2 (by omega), hg 3 (by omega)]
def law8cG : List AV → Option AV
  | [.agg xs, .i _, .w32 _, .sl n ys, .sl q zs, .i _, .w8 _, .w16 _] => obind (un8 xs) fun s => obind (un8 ys) fun m => obind (un8 zs) fun r => guardO (s.length = 8 ∧ m.length = n ∧ n ≤ 9223372036854775807 ∧ r.length = q ∧ q ≤ 9223372036854775807) (some (.b true))
  | _ => none

set_option maxHeartbeats 8000000 in
theorem law8c_ok : PureOK Tryd.prog GLh 17 law8cG := by
  refine pure_of_awp Tryd.func17 (bodyOf_some rfl) ?_
  intro args r hg
  unfold law8cG at hg
  split at hg
  · rename_i xs h0 leaf n ys q zs at0 x cut
    replace hg := obind_inv hg; obtain ⟨seed, hb, hg⟩ := hg
    replace hg := obind_inv hg; obtain ⟨m, hb2, hg⟩ := hg
    replace hg := obind_inv hg; obtain ⟨root, hb3, hg⟩ := hg
    replace hg := guardO_inv hg; obtain ⟨⟨hs, hm, hbig, hq, hbig2⟩, hg⟩ := hg
    obtain rfl := Option.some.inj hg
    have := un8_inv _ hb; subst this
    have := un8_inv _ hb2; subst this
    have := un8_inv _ hb3; subst this
    subst hm; subst hq
    clear hg hb hb2 hb3
    refine ⟨Nat.le_of_ble_eq_true rfl, fun nx => ?_⟩
    refine awp_seqP rfl ?_
    refine awp_regP (Γ := noEnv) [1, 2, 3, 4, 5, 6, 7, 8] (noEnv_ok _ _) rfl rfl rfl (fun K hK => ?_)
    simp only [Tryd.f17, bodyOf, Option.getD_some, cl, rOps, lights, light, rN, List.size_toArray, List.length_cons, List.length_nil, Nat.reduceAdd, Nat.zero_add, List.map_cons, List.map_nil, Option.map_none]
    simp (maxSteps := 300000) (disch := omega) only [go_sem, Nat.reduceAdd, ↓reduceIte]
    with_reducible refine hK _ ?_
    clear hK K
    refine nx_then ?_
    refine awp_seqP rfl ?_
    refine awp_seqP rfl ?_
    refine awp_regP (Γ := envL [(50, .pure true known8G)]) [25, 1, 2, 3, 4, 5, 6, 7, 8] (envOK_cons ok50 envOK_nil) rfl rfl rfl (fun K hK => ?_)
    simp only [Tryd.f17, bodyOf, Option.getD_some, cl, cr, rOps, lights, light, rN, List.size_toArray, List.length_cons, List.length_nil, Nat.reduceAdd, Nat.zero_add, List.map_cons, List.map_nil, Option.map_none]
    simp (maxSteps := 300000) (disch := omega) only [go_sem, Nat.reduceAdd, ↓reduceIte]
    with_reducible refine hK _ ?_
    clear hK K
    refine nx_then ?_
    refine awp_ifB (.tmp 25) rfl rfl rfl (fun h => ?_) (fun h => ?_)
    · skip
      refine awp_drop rfl ?_
      cases h
    · skip
      refine awp_drop rfl ?_
      clear h
      by_cases hm3 : 300 < m.length
      · skip
        have hd1 : decide (300 < (m.length : Int)) = true := decide_eq_true (by omega)
        refine awp_skipP rfl ?_
        refine nx_then ?_
        refine awp_seqP rfl ?_
        refine awp_seqP rfl ?_
        refine awp_regP (Γ := noEnv) [33, 1, 2, 3, 4, 5, 6, 7, 8] (noEnv_ok _ _) rfl rfl rfl (fun K hK => ?_)
        simp only [Tryd.f17, bodyOf, Option.getD_some, cl, cr, rOps, lights, light, rN, List.size_toArray, List.length_cons, List.length_nil, Nat.reduceAdd, Nat.zero_add, List.map_cons, List.map_nil, Option.map_none, Option.map_some, List.getElem?_toArray, List.getElem?_cons_zero, List.getElem?_cons_succ, Option.bind_some]
        simp (maxSteps := 300000) (disch := omega) only [go_sem, Nat.reduceAdd, ↓reduceIte, hd1]
        with_reducible refine hK _ ?_
        clear hK K
        refine nx_then ?_
        refine awp_ifB (.tmp 33) rfl rfl rfl (fun h => ?_) (fun h => ?_)
        · skip
          refine awp_drop rfl ?_
          refine awp_seqP rfl ?_
          refine awp_regP (Γ := noEnv) [16] (noEnv_ok _ _) rfl rfl rfl (fun K hK => ?_)
          simp only [Tryd.f17, bodyOf, Option.getD_some, cl, cr, rOps, lights, light, rN, List.size_toArray, List.length_cons, List.length_nil, Nat.zero_add, List.map_cons, List.map_nil, Option.map_none]
          simp (maxSteps := 300000) (disch := omega) only [go_sem, ↓reduceIte]
          with_reducible refine hK _ ?_
          clear hK K
          refine nx_then ?_
          refine awp_retP rfl ?_
          refine nx_ret_then ?_
          simp (disch := omega) only [pureQ, resA, resAL, resA1, Tryd.f17, go_sem, ↓reduceIte]
        · skip
          refine awp_drop rfl ?_
          cases h
      · skip
        have hd1 : decide (300 < (m.length : Int)) = false := decide_eq_false (by omega)
        by_cases hr2 : 20 < root.length
        · skip
          have hd2 : decide (20 < (root.length : Int)) = true := decide_eq_true (by omega)
          refine awp_skipP rfl ?_
          refine nx_then ?_
          refine awp_seqP rfl ?_
          refine awp_seqP rfl ?_
          refine awp_regP (Γ := noEnv) [33, 1, 2, 3, 4, 5, 6, 7, 8] (noEnv_ok _ _) rfl rfl rfl (fun K hK => ?_)
          simp only [Tryd.f17, bodyOf, Option.getD_some, cl, cr, rOps, lights, light, rN, List.size_toArray, List.length_cons, List.length_nil, Nat.reduceAdd, Nat.zero_add, List.map_cons, List.map_nil, Option.map_none, Option.map_some, List.getElem?_toArray, List.getElem?_cons_zero, List.getElem?_cons_succ, Option.bind_some]
          simp (maxSteps := 300000) (disch := omega) only [go_sem, Nat.reduceAdd, reduceCtorEq, ↓reduceIte, hd1, hd2]
          with_reducible refine hK _ ?_
          clear hK K
          refine nx_then ?_
          refine awp_ifB (.tmp 33) rfl rfl rfl (fun h => ?_) (fun h => ?_)
          · skip
            refine awp_drop rfl ?_
            refine awp_seqP rfl ?_
            refine awp_regP (Γ := noEnv) [16] (noEnv_ok _ _) rfl rfl rfl (fun K hK => ?_)
            simp only [Tryd.f17, bodyOf, Option.getD_some, cl, cr, rOps, lights, light, rN, List.size_toArray, List.length_cons, List.length_nil, Nat.zero_add, List.map_cons, List.map_nil, Option.map_none]
            simp (maxSteps := 300000) (disch := omega) only [go_sem, ↓reduceIte]
            with_reducible refine hK _ ?_
            clear hK K
            refine nx_then ?_
            refine awp_retP rfl ?_
            refine nx_ret_then ?_
            simp (disch := omega) only [pureQ, resA, resAL, resA1, Tryd.f17, go_sem, ↓reduceIte]
          · skip
            refine awp_drop rfl ?_
            cases h
        · skip
          have hd2 : decide (20 < (root.length : Int)) = false := decide_eq_false (by omega)
          refine awp_skipP rfl ?_
          refine nx_then ?_
          refine awp_seqP rfl ?_
          refine awp_seqP rfl ?_
          refine awp_regP (Γ := noEnv) [33, 1, 2, 3, 4, 5, 6, 7, 8] (noEnv_ok _ _) rfl rfl rfl (fun K hK => ?_)
          simp only [Tryd.f17, bodyOf, Option.getD_some, cl, cr, rOps, lights, light, rN, List.size_toArray, List.length_cons, List.length_nil, Nat.reduceAdd, Nat.zero_add, List.map_cons, List.map_nil, Option.map_none, Option.map_some, List.getElem?_toArray, List.getElem?_cons_zero, List.getElem?_cons_succ, Option.bind_some]
          simp (maxSteps := 300000) (disch := omega) only [go_sem, Nat.reduceAdd, reduceCtorEq, ↓reduceIte, hd1, hd2]
          with_reducible refine hK _ ?_
          clear hK K
          refine nx_then ?_
          refine awp_ifB (.tmp 33) rfl rfl rfl (fun h => ?_) (fun h => ?_)
          · skip
            refine awp_drop rfl ?_
            cases h
          · skip
            refine awp_drop rfl ?_
            clear h hd1 hd2
            obtain ⟨ht, hht, hlt⟩ := emod_nat h0 4 (by omega)
            simp only [Int.cast_ofNat_Int] at hht
            have hh : ht ≤ 10 := by omega
            have hp := pow_le ht hh
            have hr := newR_y seed ht hh
            have hun := unT_trC seed ht hs hh
            have hnl := nodeL_len seed ht 0
            have hsh := one_shl2 ht
            have hsh2 := shl_rem ht hh
            refine awp_skipP rfl ?_
            refine nx_then ?_
            refine awp_seqP rfl ?_
            refine awp_regP (Γ := envL [(44, .pure true placeG)]) [1, 2, 3, 4, 5, 6, 7, 8] (envOK_cons ok44 envOK_nil) rfl rfl rfl (fun K hK => ?_)
            simp only [Tryd.f17, bodyOf, Option.getD_some, cl, cr, rOps, lights, light, rN, List.size_toArray, List.length_cons, List.length_nil, Nat.reduceAdd, Nat.zero_add, List.map_cons, List.map_nil, Option.map_none]
            simp (maxSteps := 300000) (disch := omega) only [go_sem, Nat.reduceAdd, Int.reduceLE, Int.reduceLT, ↓reduceIte, hht]
            with_reducible refine hK _ ?_
            clear hK K
            refine nx_then ?_
            refine awp_seqP rfl ?_
            refine awp_regP (Γ := envL [(51, .pure false newG)]) [1, 2, 3, 4, 5, 6, 7, 17] (envOK_cons ok51 envOK_nil) rfl rfl rfl (fun K hK => ?_)
            simp only [Tryd.f17, bodyOf, Option.getD_some, cl, cr, rOps, lights, light, rN, List.size_toArray, List.length_cons, List.length_nil, Nat.reduceAdd, Nat.zero_add, List.map_cons, List.map_nil, Option.map_none]
            simp (maxSteps := 300000) (disch := omega) only [go_sem, Nat.reduceAdd, Nat.reduceLeDiff, ↓reduceIte, hs, hr]
            with_reducible refine hK _ ?_
            clear hK K
            refine nx_then ?_
            refine awp_seqP rfl ?_
            refine awp_seqP rfl ?_
            refine awp_regP (Γ := noEnv) [43, 1, 2, 3, 4, 5, 6, 7, 17] (noEnv_ok _ _) rfl rfl rfl (fun K hK => ?_)
            simp only [Tryd.f17, bodyOf, Option.getD_some, cl, cr, rOps, lights, light, rN, List.size_toArray, List.length_cons, List.length_nil, Nat.reduceAdd, Nat.zero_add, List.map_cons, List.map_nil, Option.map_none]
            simp (maxSteps := 300000) (disch := omega) only [go_sem, Nat.reduceAdd, ↓reduceIte]
            with_reducible refine hK _ ?_
            clear hK K
            refine nx_then ?_
            refine awp_ifB (.tmp 43) rfl rfl rfl (fun h => ?_) (fun h => ?_)
            · skip
              refine awp_drop rfl ?_
              cases h
            · skip
              refine awp_drop rfl ?_
              clear h
              obtain ⟨L, hL⟩ : ∃ L, leaf % BitVec.ofNat 32 (2 ^ ht) = L := ⟨_, rfl⟩
              have hLl := rem_lt leaf ht hh
              rw [hL] at hLl
              have hgl := tsignL_len seed ht L m
              obtain ⟨G, hG⟩ : ∃ G, tsignL seed ht L m = G := ⟨_, rfl⟩
              rw [hG] at hgl
              refine awp_skipP rfl ?_
              refine nx_then ?_
              refine awp_seqP rfl ?_
              refine awp_regP (Γ := envL [(55, .heap tsignH)]) [1, 3, 4, 5, 6, 7, 17, 19, 20] (envOK_cons ok55 envOK_nil) rfl rfl rfl (fun K hK => ?_)
              simp only [Tryd.f17, bodyOf, Option.getD_some, cl, cr, rOps, lights, light, rN, List.size_toArray, List.length_cons, List.length_nil, Nat.reduceAdd, Nat.zero_add, List.map_cons, List.map_nil, Option.map_none]
              simp (maxSteps := 300000) (disch := omega) only [go_sem, Nat.reduceAdd, Int.reduceLE, Int.reduceLT, BitVec.reduceOfInt, ↓reduceIte, hsh, hsh2, hL, hun, hG, Int.toNat_natCast]
              with_reducible refine hK _ ?_
              clear hK K
              refine nx_then ?_
              obtain ⟨hi1, hi2⟩ := idS_lt (nx + 2 + 2 + 8 + 3 + 8 + 2 + 12) ht
              obtain ⟨I, hI⟩ : ∃ I, idS (nx + 2 + 2 + 8 + 3 + 8 + 2 + 12) ht = I := ⟨_, rfl⟩
              rw [hI] at hi1 hi2 ⊢
              have hn0 : decide ((516 + 8 * ht : Nat) = (0 : Int)) = false := decide_eq_false (by omega)
              refine awp_seqP rfl ?_
              refine awp_seqP rfl ?_
              refine awp_regP (Γ := noEnv) [60, 1, 3, 4, 5, 6, 7, 17, 19] (noEnv_ok _ _) rfl rfl rfl (fun K hK => ?_)
              simp only [Tryd.f17, bodyOf, Option.getD_some, cl, cr, rOps, lights, light, rN, List.size_toArray, List.length_cons, List.length_nil, Nat.reduceAdd, Nat.zero_add, List.map_cons, List.map_nil, Option.map_none, Option.map_some, List.getElem?_toArray, List.getElem?_cons_zero, List.getElem?_cons_succ, Option.bind_some]
              simp (maxSteps := 300000) (disch := omega) only [go_sem, Nat.reduceAdd, reduceCtorEq, ↓reduceIte, hn0, decide_true, Bool.not_true]
              with_reducible refine hK _ ?_
              clear hK K
              refine nx_then ?_
              refine awp_ifB (.tmp 60) rfl rfl rfl (fun h => ?_) (fun h => ?_)
              · skip
                refine awp_drop rfl ?_
                cases h
              · skip
                refine awp_drop rfl ?_
                clear h
                refine awp_skipP rfl ?_
                refine nx_then ?_
                refine awp_seqP rfl ?_
                refine awp_regP (Γ := envL [(52, .pure true rootG)]) [1, 3, 4, 5, 6, 7, 19, 21] (envOK_cons ok52 envOK_nil) rfl rfl rfl (fun K hK => ?_)
                simp only [Tryd.f17, bodyOf, Option.getD_some, cl, cr, rOps, lights, light, rN, List.size_toArray, List.length_cons, List.length_nil, Nat.reduceAdd, Nat.zero_add, List.map_cons, List.map_nil, Option.map_none]
                simp (maxSteps := 300000) (disch := omega) only [go_sem, Nat.reduceAdd, Nat.reduceLeDiff, ↓reduceIte, hun, hnl]
                with_reducible refine hK _ ?_
                clear hK K
                refine nx_then ?_
                obtain ⟨p, hpl, hpn⟩ := emod_nat at0 (516 + 8 * ht) (by omega)
                obtain ⟨C, hC⟩ : ∃ C, G.set p (G.getD p 0#8 ^^^ x) = C := ⟨_, rfl⟩
                have hCl : C.length = 516 + 8 * ht := by rw [← hC, List.length_set]; exact hgl
                refine awp_seqP rfl ?_
                refine awp_regP (Γ := envL [(44, .pure true placeG)]) [1, 3, 4, 6, 7, 19, 21] (envOK_cons ok44 envOK_nil) rfl rfl rfl (fun K hK => ?_)
                simp only [Tryd.f17, bodyOf, Option.getD_some, cl, cr, rOps, lights, light, rN, List.size_toArray, List.length_cons, List.length_nil, Nat.reduceAdd, Nat.zero_add, List.map_cons, List.map_nil, Option.map_none]
                simp (maxSteps := 300000) (disch := omega) only [go_sem, Nat.reduceAdd, ↓reduceIte, hpl, hgl, hC, Int.toNat_natCast]
                with_reducible refine hK _ ?_
                clear hK K
                refine nx_then ?_
                have e416 : ((4#16 : BitVec 16) = 0#16) = False := eq_false (by decide)
                refine awp_seqP rfl ?_
                refine awp_seqP rfl ?_
                refine awp_regP (Γ := noEnv) [75, 1, 3, 4, 6, 7, 19, 21] (noEnv_ok _ _) rfl rfl rfl (fun K hK => ?_)
                simp only [Tryd.f17, bodyOf, Option.getD_some, cl, cr, rOps, lights, light, rN, List.size_toArray, List.length_cons, List.length_nil, Nat.reduceAdd, Nat.zero_add, List.map_cons, List.map_nil, Option.map_none]
                simp (maxSteps := 300000) (disch := omega) only [go_sem, Nat.reduceAdd, Int.reduceLE, Int.reduceLT, BitVec.reduceOfInt, ↓reduceIte, e416]
                with_reducible refine hK _ ?_
                clear hK K
                refine nx_then ?_
                refine awp_ifD (.tmp 75) rfl rfl rfl (fun h => ?_) (fun h => ?_)
                · skip
                  refine awp_drop rfl ?_
                  have hc4 : decide (cut % 4#16 = 0#16) = true := decide_eq_true h
                  obtain ⟨z, hz⟩ : ∃ z, cut.toNat % (516 + 8 * ht + 1) = z := ⟨_, rfl⟩
                  have hzl : z < 516 + 8 * ht + 1 := by rw [← hz]; exact Nat.mod_lt _ (by omega)
                  have hzt : ((cut.toNat : Nat) : Int).tmod (((516 + 8 * ht : Nat) : Int) + 1) = (z : Int) := by
                    rw [← hz, Int.tmod_eq_emod_of_nonneg (by omega), show ((516 + 8 * ht : Nat) : Int) + 1 = ((516 + 8 * ht + 1 : Nat) : Int) from rfl, ← Int.natCast_emod]
                  have hz0 : (((516 + 8 * ht : Nat) : Int) + 1 = 0) = False := eq_false (by omega)
                  clear h
                  refine awp_regP (Γ := noEnv) [1, 3, 4, 6, 7, 19, 21] (noEnv_ok _ _) rfl rfl rfl (fun K hK => ?_)
                  simp only [Tryd.f17, bodyOf, Option.getD_some, cl, cr, rOps, lights, light, rN, List.size_toArray, List.length_cons, List.length_nil, Nat.reduceAdd, Nat.zero_add, List.map_cons, List.map_nil, Option.map_none]
                  simp (maxSteps := 300000) (disch := omega) only [go_sem, Nat.reduceAdd, Int.reduceLE, Int.reduceToNat, ↓reduceIte, hzt, hz0, Int.toNat_natCast, Nat.sub_zero]
                  with_reducible refine hK _ ?_
                  clear hK K
                  refine nx_then ?_
                  have hzn : z ≤ C.length := by omega
                  obtain ⟨D, hD⟩ : ∃ D, List.take z C = D := ⟨_, rfl⟩
                  have hDl : D.length = z := by rw [← hD, List.length_take]; omega
                  have hDt : List.take z C = D := hD
                  obtain ⟨v, hv⟩ : ∃ v, verB (nodeL seed ht 0) (ht : Int) m D = v := ⟨_, rfl⟩
                  obtain ⟨v2, hv2⟩ : ∃ v, verB root (ht : Int) m D = v := ⟨_, rfl⟩
                  refine awp_seqP rfl ?_
                  refine awp_seqP rfl ?_
                  refine awp_drwP (Γ := envL [(57, .pure true verG), (58, .pure true verG)]) (fun k => if k = 4 then 0 else if k = 9 then 0 else if k = 16 then 0 else if k = 21 then 0 else 2) [107, 1, 3, 6, 7, 19, 21] mixed (envOK_cons ok57 (envOK_cons ok58 envOK_nil)) rfl rfl rfl (by kernel_rfl) (fun K hK => ?_)
                  simp only [Tryd.f17, bodyOf, Option.getD_some, cl, cr, rOps, lights, light, rN, List.size_toArray, List.length_cons, List.length_nil, Nat.reduceAdd, Nat.zero_add, List.map_cons, List.map_nil, Option.map_none, Option.map_some, List.getElem?_toArray, List.getElem?_cons_zero, List.getElem?_cons_succ, Option.bind_some]
                  simp (maxSteps := 300000) (disch := omega) only [go_sem, Nat.reduceAdd, Nat.reduceSub, Nat.reduceLeDiff, Int.reduceLE, Int.reduceToNat, reduceCtorEq, ↓reduceIte, hnl, hDt, hDl, hv, hv2, beq_self_eq_true, Bool.not_true]
                  with_reducible refine hK _ ?_
                  clear hK K
                  refine nx_then ?_
                  refine awp_ifB (.tmp 107) rfl rfl rfl (fun h => ?_) (fun h => ?_)
                  · skip
                    refine awp_drop rfl ?_
                    cases h
                  · skip
                    refine awp_drop rfl ?_
                    clear h
                    by_cases hx0 : x = 0#8
                    · skip
                      have hdx : decide (x = 0#8) = true := decide_eq_true hx0
                      refine awp_skipP rfl ?_
                      refine nx_then ?_
                      refine awp_seqP rfl ?_
                      refine awp_seqP rfl ?_
                      refine awp_regP (Γ := envL [(57, .pure true verG)]) [121, 1, 3, 19, 21] (envOK_cons ok57 envOK_nil) rfl rfl rfl (fun K hK => ?_)
                      simp only [Tryd.f17, bodyOf, Option.getD_some, cl, cr, rOps, lights, light, rN, List.size_toArray, List.length_cons, List.length_nil, Nat.reduceAdd, Nat.zero_add, List.map_cons, List.map_nil, Option.map_none, Option.map_some, List.getElem?_toArray, List.getElem?_cons_zero, List.getElem?_cons_succ, Option.bind_some]
                      simp (maxSteps := 300000) (disch := omega) only [go_sem, Nat.reduceAdd, Int.reduceLE, Int.reduceLT, BitVec.reduceOfInt, reduceCtorEq, ↓reduceIte, hdx, Bool.not_true]
                      with_reducible refine hK _ ?_
                      clear hK K
                      refine nx_then ?_
                      refine awp_ifB (.tmp 121) rfl rfl rfl (fun h => ?_) (fun h => ?_)
                      · skip
                        refine awp_drop rfl ?_
                        cases h
                      · skip
                        refine awp_drop rfl ?_
                        clear h
                        refine awp_skipP rfl ?_
                        refine nx_then ?_
                        refine awp_seqP rfl ?_
                        by_cases h4 : 4 ≤ z
                        · skip
                          have hlf := leafR_y D (by omega)
                          have hd4 : decide ((4 : Int) ≤ (z : Int)) = true := decide_eq_true (by omega)
                          have hll := leaf_take C z h4
                          rw [hD] at hll
                          have hl0 : (z : Nat) ≤ C.length := by omega
                          have g0 : (0 : Nat) < C.length := by omega
                          have g1 : (1 : Nat) < C.length := by omega
                          have g2 : (2 : Nat) < C.length := by omega
                          have g3 : (3 : Nat) < C.length := by omega
                          refine awp_regP (Γ := envL [(56, .pure true leafG)]) [19, 22, 23] (envOK_cons ok56 envOK_nil) rfl rfl rfl (fun K hK => ?_)
                          simp only [Tryd.f17, bodyOf, Option.getD_some, cl, cr, rOps, lights, light, rN, List.size_toArray, List.length_cons, List.length_nil, Nat.reduceAdd, Nat.zero_add, List.map_cons, List.map_nil, Option.map_none]
                          simp (maxSteps := 300000) (disch := omega) only [go_sem, Nat.reduceAdd, ↓reduceIte, hDt, hDl, hlf]
                          with_reducible refine hK _ ?_
                          clear hK K
                          refine nx_then ?_
                          refine awp_seqP rfl ?_
                          refine awp_drwP (Γ := noEnv) (fun _ => 2) [16] mixed (noEnv_ok _ _) rfl rfl rfl (by kernel_rfl) (fun K hK => ?_)
                          simp only [Tryd.f17, bodyOf, Option.getD_some, cl, cr, rOps, lights, light, rN, List.size_toArray, List.length_cons, List.length_nil, Nat.reduceAdd, Nat.zero_add, List.map_cons, List.map_nil, Option.map_none, Option.map_some, List.getElem?_toArray, List.getElem?_cons_zero, List.getElem?_cons_succ, Option.bind_some]
                          simp (maxSteps := 300000) (disch := omega) only [go_sem, Nat.reduceAdd, Int.reduceLE, Int.reduceLT, Int.reduceToNat, BitVec.reduceOfInt, BitVec.reduceToNat, reduceCtorEq, ↓reduceIte, hd4, hll, decide_true, beq_self_eq_true, Bool.not_true]
                          with_reducible refine hK _ ?_
                          clear hK K
                          refine nx_then ?_
                          refine awp_retP rfl ?_
                          simp (disch := omega) only [pureQ, resA, resAL, resA1, Tryd.f17, go_sem, ↓reduceIte]
                        · skip
                          have hlf := leafR_n D (by omega)
                          have hd4 : decide ((4 : Int) ≤ (z : Int)) = false := decide_eq_false (by omega)
                          refine awp_regP (Γ := envL [(56, .pure true leafG)]) [19, 22, 23] (envOK_cons ok56 envOK_nil) rfl rfl rfl (fun K hK => ?_)
                          simp only [Tryd.f17, bodyOf, Option.getD_some, cl, cr, rOps, lights, light, rN, List.size_toArray, List.length_cons, List.length_nil, Nat.reduceAdd, Nat.zero_add, List.map_cons, List.map_nil, Option.map_none]
                          simp (maxSteps := 300000) (disch := omega) only [go_sem, Nat.reduceAdd, ↓reduceIte, hDt, hDl, hlf]
                          with_reducible refine hK _ ?_
                          clear hK K
                          refine nx_then ?_
                          refine awp_seqP rfl ?_
                          refine awp_drwP (Γ := noEnv) (fun _ => 2) [16] mixed (noEnv_ok _ _) rfl rfl rfl (by kernel_rfl) (fun K hK => ?_)
                          simp only [Tryd.f17, bodyOf, Option.getD_some, cl, cr, rOps, lights, light, rN, List.size_toArray, List.length_cons, List.length_nil, Nat.reduceAdd, Nat.zero_add, List.map_cons, List.map_nil, Option.map_none, Option.map_some, List.getElem?_toArray, List.getElem?_cons_zero, List.getElem?_cons_succ, Option.bind_some]
                          simp (maxSteps := 300000) (disch := omega) only [go_sem, Nat.reduceAdd, ↓reduceIte, hd4, beq_self_eq_true, Bool.not_false]
                          with_reducible refine hK _ ?_
                          clear hK K
                          refine nx_then ?_
                          refine awp_retP rfl ?_
                          simp (disch := omega) only [pureQ, resA, resAL, resA1, Tryd.f17, go_sem, ↓reduceIte]
                    · skip
                      have hdx : decide (x = 0#8) = false := decide_eq_false hx0
                      refine awp_skipP rfl ?_
                      refine nx_then ?_
                      refine awp_seqP rfl ?_
                      refine awp_seqP rfl ?_
                      refine awp_regP (Γ := envL [(57, .pure true verG)]) [121, 1, 3, 19, 21] (envOK_cons ok57 envOK_nil) rfl rfl rfl (fun K hK => ?_)
                      simp only [Tryd.f17, bodyOf, Option.getD_some, cl, cr, rOps, lights, light, rN, List.size_toArray, List.length_cons, List.length_nil, Nat.reduceAdd, Nat.zero_add, List.map_cons, List.map_nil, Option.map_none, Option.map_some, List.getElem?_toArray, List.getElem?_cons_zero, List.getElem?_cons_succ, Option.bind_some]
                      simp (maxSteps := 300000) (disch := omega) only [go_sem, Nat.reduceAdd, Int.reduceLE, Int.reduceLT, BitVec.reduceOfInt, reduceCtorEq, ↓reduceIte, hdx, hc4, Bool.not_true, Bool.not_false, e416]
                      with_reducible refine hK _ ?_
                      clear hK K
                      refine nx_then ?_
                      refine awp_ifB (.tmp 121) rfl rfl rfl (fun h => ?_) (fun h => ?_)
                      · skip
                        refine awp_drop rfl ?_
                        cases h
                      · skip
                        refine awp_drop rfl ?_
                        clear h
                        refine awp_skipP rfl ?_
                        refine nx_then ?_
                        refine awp_seqP rfl ?_
                        by_cases h4 : 4 ≤ z
                        · skip
                          have hlf := leafR_y D (by omega)
                          have hd4 : decide ((4 : Int) ≤ (z : Int)) = true := decide_eq_true (by omega)
                          have hll := leaf_take C z h4
                          rw [hD] at hll
                          have hl0 : (z : Nat) ≤ C.length := by omega
                          have g0 : (0 : Nat) < C.length := by omega
                          have g1 : (1 : Nat) < C.length := by omega
                          have g2 : (2 : Nat) < C.length := by omega
                          have g3 : (3 : Nat) < C.length := by omega
                          refine awp_regP (Γ := envL [(56, .pure true leafG)]) [19, 22, 23] (envOK_cons ok56 envOK_nil) rfl rfl rfl (fun K hK => ?_)
                          simp only [Tryd.f17, bodyOf, Option.getD_some, cl, cr, rOps, lights, light, rN, List.size_toArray, List.length_cons, List.length_nil, Nat.reduceAdd, Nat.zero_add, List.map_cons, List.map_nil, Option.map_none]
                          simp (maxSteps := 300000) (disch := omega) only [go_sem, Nat.reduceAdd, ↓reduceIte, hDt, hDl, hlf]
                          with_reducible refine hK _ ?_
                          clear hK K
                          refine nx_then ?_
                          refine awp_seqP rfl ?_
                          refine awp_drwP (Γ := noEnv) (fun _ => 2) [16] mixed (noEnv_ok _ _) rfl rfl rfl (by kernel_rfl) (fun K hK => ?_)
                          simp only [Tryd.f17, bodyOf, Option.getD_some, cl, cr, rOps, lights, light, rN, List.size_toArray, List.length_cons, List.length_nil, Nat.reduceAdd, Nat.zero_add, List.map_cons, List.map_nil, Option.map_none, Option.map_some, List.getElem?_toArray, List.getElem?_cons_zero, List.getElem?_cons_succ, Option.bind_some]
                          simp (maxSteps := 300000) (disch := omega) only [go_sem, Nat.reduceAdd, Int.reduceLE, Int.reduceLT, Int.reduceToNat, BitVec.reduceOfInt, BitVec.reduceToNat, reduceCtorEq, ↓reduceIte, hd4, hll, decide_true, beq_self_eq_true, Bool.not_true]
                          with_reducible refine hK _ ?_
                          clear hK K
                          refine nx_then ?_
                          refine awp_retP rfl ?_
                          simp (disch := omega) only [pureQ, resA, resAL, resA1, Tryd.f17, go_sem, ↓reduceIte]
                        · skip
                          have hlf := leafR_n D (by omega)
                          have hd4 : decide ((4 : Int) ≤ (z : Int)) = false := decide_eq_false (by omega)
                          refine awp_regP (Γ := envL [(56, .pure true leafG)]) [19, 22, 23] (envOK_cons ok56 envOK_nil) rfl rfl rfl (fun K hK => ?_)
                          simp only [Tryd.f17, bodyOf, Option.getD_some, cl, cr, rOps, lights, light, rN, List.size_toArray, List.length_cons, List.length_nil, Nat.reduceAdd, Nat.zero_add, List.map_cons, List.map_nil, Option.map_none]
                          simp (maxSteps := 300000) (disch := omega) only [go_sem, Nat.reduceAdd, ↓reduceIte, hDt, hDl, hlf]
                          with_reducible refine hK _ ?_
                          clear hK K
                          refine nx_then ?_
                          refine awp_seqP rfl ?_
                          refine awp_drwP (Γ := noEnv) (fun _ => 2) [16] mixed (noEnv_ok _ _) rfl rfl rfl (by kernel_rfl) (fun K hK => ?_)
                          simp only [Tryd.f17, bodyOf, Option.getD_some, cl, cr, rOps, lights, light, rN, List.size_toArray, List.length_cons, List.length_nil, Nat.reduceAdd, Nat.zero_add, List.map_cons, List.map_nil, Option.map_none, Option.map_some, List.getElem?_toArray, List.getElem?_cons_zero, List.getElem?_cons_succ, Option.bind_some]
                          simp (maxSteps := 300000) (disch := omega) only [go_sem, Nat.reduceAdd, ↓reduceIte, hd4, beq_self_eq_true, Bool.not_false]
                          with_reducible refine hK _ ?_
                          clear hK K
                          refine nx_then ?_
                          refine awp_retP rfl ?_
                          simp (disch := omega) only [pureQ, resA, resAL, resA1, Tryd.f17, go_sem, ↓reduceIte]
                · skip
                  refine awp_drop rfl ?_
                  have hc4 : decide (cut % 4#16 = 0#16) = false := decide_eq_false h
                  clear h
                  obtain ⟨z, hz⟩ : ∃ z, 516 + 8 * ht = z := ⟨_, rfl⟩
                  rw [hz] at hCl ⊢
                  refine awp_skipP rfl ?_
                  refine nx_then ?_
                  refine awp_seqP rfl ?_
                  refine awp_seqP rfl ?_
                  have hzn : z ≤ C.length := by omega
                  have hD : List.take z C = C := List.take_of_length_le (by omega)
                  have hDl : C.length = z := by omega
                  have hDt : List.take z C = C := hD
                  obtain ⟨v, hv⟩ : ∃ v, verB (nodeL seed ht 0) (ht : Int) m C = v := ⟨_, rfl⟩
                  obtain ⟨v2, hv2⟩ : ∃ v, verB root (ht : Int) m C = v := ⟨_, rfl⟩
                  refine awp_drwP (Γ := envL [(57, .pure true verG), (58, .pure true verG)]) (fun k => if k = 4 then 0 else if k = 9 then 0 else if k = 16 then 0 else if k = 21 then 0 else 2) [107, 1, 3, 6, 7, 19, 21] mixed (envOK_cons ok57 (envOK_cons ok58 envOK_nil)) rfl rfl rfl (by kernel_rfl) (fun K hK => ?_)
                  simp only [Tryd.f17, bodyOf, Option.getD_some, cl, cr, rOps, lights, light, rN, List.size_toArray, List.length_cons, List.length_nil, Nat.reduceAdd, Nat.zero_add, List.map_cons, List.map_nil, Option.map_none, Option.map_some, List.getElem?_toArray, List.getElem?_cons_zero, List.getElem?_cons_succ, Option.bind_some]
                  simp (maxSteps := 300000) (disch := omega) only [go_sem, Nat.reduceAdd, Nat.reduceSub, Nat.reduceLeDiff, Int.reduceLE, Int.reduceToNat, reduceCtorEq, ↓reduceIte, hnl, hDt, hDl, hv, hv2, beq_self_eq_true, Bool.not_true]
                  with_reducible refine hK _ ?_
                  clear hK K
                  refine nx_then ?_
                  refine awp_ifB (.tmp 107) rfl rfl rfl (fun h => ?_) (fun h => ?_)
                  · skip
                    refine awp_drop rfl ?_
                    cases h
                  · skip
                    refine awp_drop rfl ?_
                    clear h
                    by_cases hx0 : x = 0#8
                    · skip
                      have hdx : decide (x = 0#8) = true := decide_eq_true hx0
                      refine awp_skipP rfl ?_
                      refine nx_then ?_
                      refine awp_seqP rfl ?_
                      refine awp_seqP rfl ?_
                      refine awp_regP (Γ := envL [(57, .pure true verG)]) [121, 1, 3, 19, 21] (envOK_cons ok57 envOK_nil) rfl rfl rfl (fun K hK => ?_)
                      simp only [Tryd.f17, bodyOf, Option.getD_some, cl, cr, rOps, lights, light, rN, List.size_toArray, List.length_cons, List.length_nil, Nat.reduceAdd, Nat.zero_add, List.map_cons, List.map_nil, Option.map_none, Option.map_some, List.getElem?_toArray, List.getElem?_cons_zero, List.getElem?_cons_succ, Option.bind_some]
                      simp (maxSteps := 300000) (disch := omega) only [go_sem, Nat.reduceAdd, Int.reduceLE, Int.reduceLT, BitVec.reduceOfInt, reduceCtorEq, ↓reduceIte, hdx, Bool.not_true]
                      with_reducible refine hK _ ?_
                      clear hK K
                      refine nx_then ?_
                      refine awp_ifB (.tmp 121) rfl rfl rfl (fun h => ?_) (fun h => ?_)
                      · skip
                        refine awp_drop rfl ?_
                        cases h
                      · skip
                        refine awp_drop rfl ?_
                        clear h
                        refine awp_skipP rfl ?_
                        refine nx_then ?_
                        refine awp_seqP rfl ?_
                        by_cases h4 : 4 ≤ z
                        · skip
                          have hlf := leafR_y C (by omega)
                          have hd4 : decide ((4 : Int) ≤ (z : Int)) = true := decide_eq_true (by omega)
                          have hll := leaf_take C z h4
                          rw [hD] at hll
                          have hl0 : (z : Nat) ≤ C.length := by omega
                          have g0 : (0 : Nat) < C.length := by omega
                          have g1 : (1 : Nat) < C.length := by omega
                          have g2 : (2 : Nat) < C.length := by omega
                          have g3 : (3 : Nat) < C.length := by omega
                          refine awp_regP (Γ := envL [(56, .pure true leafG)]) [19, 22, 23] (envOK_cons ok56 envOK_nil) rfl rfl rfl (fun K hK => ?_)
                          simp only [Tryd.f17, bodyOf, Option.getD_some, cl, cr, rOps, lights, light, rN, List.size_toArray, List.length_cons, List.length_nil, Nat.reduceAdd, Nat.zero_add, List.map_cons, List.map_nil, Option.map_none]
                          simp (maxSteps := 300000) (disch := omega) only [go_sem, Nat.reduceAdd, ↓reduceIte, hDt, hDl, hlf]
                          with_reducible refine hK _ ?_
                          clear hK K
                          refine nx_then ?_
                          refine awp_seqP rfl ?_
                          refine awp_drwP (Γ := noEnv) (fun _ => 2) [16] mixed (noEnv_ok _ _) rfl rfl rfl (by kernel_rfl) (fun K hK => ?_)
                          simp only [Tryd.f17, bodyOf, Option.getD_some, cl, cr, rOps, lights, light, rN, List.size_toArray, List.length_cons, List.length_nil, Nat.reduceAdd, Nat.zero_add, List.map_cons, List.map_nil, Option.map_none, Option.map_some, List.getElem?_toArray, List.getElem?_cons_zero, List.getElem?_cons_succ, Option.bind_some]
                          simp (maxSteps := 300000) (disch := omega) only [go_sem, Nat.reduceAdd, Int.reduceLE, Int.reduceLT, Int.reduceToNat, BitVec.reduceOfInt, BitVec.reduceToNat, reduceCtorEq, ↓reduceIte, hd4, hll, decide_true, beq_self_eq_true, Bool.not_true]
                          with_reducible refine hK _ ?_
                          clear hK K
                          refine nx_then ?_
                          refine awp_retP rfl ?_
                          simp (disch := omega) only [pureQ, resA, resAL, resA1, Tryd.f17, go_sem, ↓reduceIte]
                        · skip
                          exact absurd (show 4 ≤ z by omega) h4
                    · skip
                      have hdx : decide (x = 0#8) = false := decide_eq_false hx0
                      cases v
                      · skip
                        refine awp_skipP rfl ?_
                        refine nx_then ?_
                        refine awp_seqP rfl ?_
                        refine awp_seqP rfl ?_
                        refine awp_regP (Γ := envL [(57, .pure true verG)]) [121, 1, 3, 19, 21] (envOK_cons ok57 envOK_nil) rfl rfl rfl (fun K hK => ?_)
                        simp only [Tryd.f17, bodyOf, Option.getD_some, cl, cr, rOps, lights, light, rN, List.size_toArray, List.length_cons, List.length_nil, Nat.reduceAdd, Nat.zero_add, List.map_cons, List.map_nil, Option.map_none, Option.map_some, List.getElem?_toArray, List.getElem?_cons_zero, List.getElem?_cons_succ, Option.bind_some]
                        simp (maxSteps := 300000) (disch := omega) only [go_sem, Nat.reduceAdd, Nat.reduceSub, Nat.reduceLeDiff, Int.reduceLE, Int.reduceLT, Int.reduceToNat, BitVec.reduceOfInt, ↓reduceIte, hdx, hc4, Bool.not_false, e416, hnl, hDt, hDl, hv]
                        with_reducible refine hK _ ?_
                        clear hK K
                        refine nx_then ?_
                        refine awp_ifB (.tmp 121) rfl rfl rfl (fun h => ?_) (fun h => ?_)
                        · skip
                          refine awp_drop rfl ?_
                          cases h
                        · skip
                          refine awp_drop rfl ?_
                          clear h
                          refine awp_skipP rfl ?_
                          refine nx_then ?_
                          refine awp_seqP rfl ?_
                          by_cases h4 : 4 ≤ z
                          · skip
                            have hlf := leafR_y C (by omega)
                            have hd4 : decide ((4 : Int) ≤ (z : Int)) = true := decide_eq_true (by omega)
                            have hll := leaf_take C z h4
                            rw [hD] at hll
                            have hl0 : (z : Nat) ≤ C.length := by omega
                            have g0 : (0 : Nat) < C.length := by omega
                            have g1 : (1 : Nat) < C.length := by omega
                            have g2 : (2 : Nat) < C.length := by omega
                            have g3 : (3 : Nat) < C.length := by omega
                            refine awp_regP (Γ := envL [(56, .pure true leafG)]) [19, 22, 23] (envOK_cons ok56 envOK_nil) rfl rfl rfl (fun K hK => ?_)
                            simp only [Tryd.f17, bodyOf, Option.getD_some, cl, cr, rOps, lights, light, rN, List.size_toArray, List.length_cons, List.length_nil, Nat.reduceAdd, Nat.zero_add, List.map_cons, List.map_nil, Option.map_none]
                            simp (maxSteps := 300000) (disch := omega) only [go_sem, Nat.reduceAdd, ↓reduceIte, hDt, hDl, hlf]
                            with_reducible refine hK _ ?_
                            clear hK K
                            refine nx_then ?_
                            refine awp_seqP rfl ?_
                            refine awp_drwP (Γ := noEnv) (fun _ => 2) [16] mixed (noEnv_ok _ _) rfl rfl rfl (by kernel_rfl) (fun K hK => ?_)
                            simp only [Tryd.f17, bodyOf, Option.getD_some, cl, cr, rOps, lights, light, rN, List.size_toArray, List.length_cons, List.length_nil, Nat.reduceAdd, Nat.zero_add, List.map_cons, List.map_nil, Option.map_none, Option.map_some, List.getElem?_toArray, List.getElem?_cons_zero, List.getElem?_cons_succ, Option.bind_some]
                            simp (maxSteps := 300000) (disch := omega) only [go_sem, Nat.reduceAdd, Int.reduceLE, Int.reduceLT, Int.reduceToNat, BitVec.reduceOfInt, BitVec.reduceToNat, reduceCtorEq, ↓reduceIte, hd4, hll, decide_true, beq_self_eq_true, Bool.not_true]
                            with_reducible refine hK _ ?_
                            clear hK K
                            refine nx_then ?_
                            refine awp_retP rfl ?_
                            simp (disch := omega) only [pureQ, resA, resAL, resA1, Tryd.f17, go_sem, ↓reduceIte]
                          · skip
                            exact absurd (show 4 ≤ z by omega) h4
                      · skip
                        refine awp_skipP rfl ?_
                        refine nx_then ?_
                        refine awp_seqP rfl ?_
                        refine awp_seqP rfl ?_
                        refine awp_regP (Γ := envL [(57, .pure true verG)]) [121, 1, 3, 19, 21] (envOK_cons ok57 envOK_nil) rfl rfl rfl (fun K hK => ?_)
                        simp only [Tryd.f17, bodyOf, Option.getD_some, cl, cr, rOps, lights, light, rN, List.size_toArray, List.length_cons, List.length_nil, Nat.reduceAdd, Nat.zero_add, List.map_cons, List.map_nil, Option.map_none, Option.map_some, List.getElem?_toArray, List.getElem?_cons_zero, List.getElem?_cons_succ, Option.bind_some]
                        simp (maxSteps := 300000) (disch := omega) only [go_sem, Nat.reduceAdd, Nat.reduceSub, Nat.reduceLeDiff, Int.reduceLE, Int.reduceLT, Int.reduceToNat, BitVec.reduceOfInt, ↓reduceIte, hdx, hc4, Bool.not_false, e416, hnl, hDt, hDl, hv]
                        with_reducible refine hK _ ?_
                        clear hK K
                        refine nx_then ?_
                        refine awp_ifB (.tmp 121) rfl rfl rfl (fun h => ?_) (fun h => ?_)
                        · skip
                          refine awp_drop rfl ?_
                          refine awp_seqP rfl ?_
                          refine awp_regP (Γ := envL [(58, .pure true verG)]) [16] (envOK_cons ok58 envOK_nil) rfl rfl rfl (fun K hK => ?_)
                          simp only [Tryd.f17, bodyOf, Option.getD_some, cl, cr, rOps, lights, light, rN, List.size_toArray, List.length_cons, List.length_nil, Nat.reduceAdd, Nat.zero_add, List.map_cons, List.map_nil, Option.map_none]
                          simp (maxSteps := 300000) (disch := omega) only [go_sem, Nat.reduceAdd, Nat.reduceSub, Nat.reduceLeDiff, Int.reduceLE, Int.reduceToNat, ↓reduceIte, hnl, hDt, hDl, hv]
                          with_reducible refine hK _ ?_
                          clear hK K
                          refine nx_then ?_
                          refine awp_retP rfl ?_
                          refine nx_ret_then ?_
                          simp (disch := omega) only [pureQ, resA, resAL, resA1, Tryd.f17, go_sem, ↓reduceIte]
                        · skip
                          refine awp_drop rfl ?_
                          cases h
  · cases hg
theorem ok17 : EntOK Tryd.prog GLh 17 (.pure true law8cG) := ⟨⟨_, Tryd.func17, rfl, rfl⟩, law8c_ok⟩
end Hp
end Go.AX
