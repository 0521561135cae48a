/-
  Once, part F: signatures.
-/
import Derived.Test.YtnnkmoaipcdhnaaDoorHoE
namespace Go.AX
open Go Go.Proofs

theorem hsub_nil {t : H} : ∀ j o, (fun _ => none : H) j = some o → t j = some o := fun _ _ h => by cases h
theorem hsub_cons {s t : H} {i : Nat} {a : AO} (h1 : t i = some a) (h2 : ∀ j o, s j = some o → t j = some o) : ∀ j o, upd s i a j = some o → t j = some o := by
  intro j o h
  rw [upd_apply] at h
  split at h
  · rename_i e; subst e; rw [h1]; exact h
  · exact h2 j o h
theorem cvb5 (hp hp2 : H) (cx id : Nat) (x : AV) (sd : Bool) : cvF hp hp2 cx id x Tryd.prog.underlying sd (some (.slice 5)) (some .string) = obind (slCells hp2 1 x) fun nl => obind (unW8 nl.2) fun l => some (.s l, hp, cx) := cvF_b2s _ _ _ _ _ _ _ _ Tryd.underlying5
theorem cvs5 (hp hp2 : H) (cx id : Nat) (l : List B8) (sd : Bool) : cvF hp hp2 cx id (.s l) Tryd.prog.underlying sd (some .string) (some (.slice 5)) = guardO (l.length ≤ 140737488355328) (some (.os id 0 l.length 1 true, upd hp id (.cells (l.map .w8) true), cx)) := cvF_s2b _ _ _ _ _ _ _ _ Tryd.underlying5
attribute [go_sem] cvb5 cvs5
def sg1 (seed : List B8) (leaf : W32) (d : W32) (i : Nat) : List B8 := secretL seed leaf (BitVec.ofInt 8 (i : Int)) (bitL d i) ++ lkv seed leaf i (1#8 - bitL d i)
def signL (seed : List B8) (leaf : W32) (d : W32) : List B8 := fl (sg1 seed leaf d) 32
theorem sg1_len (seed : List B8) (leaf d : W32) (i : Nat) : (sg1 seed leaf d i).length = 16 := by simp [sg1, secretL_len, lkv_len]
theorem signL_len (seed : List B8) (leaf d : W32) : (signL seed leaf d).length = 512 := fl_len _ 16 (sg1_len seed leaf d) 32
def signG : List AV → Option (Nat × Nat × List AV)
  | [.agg xs, .w32 leaf, .sl n ys] => obind (un8 xs) fun b => obind (un8 ys) fun m => guardO (b.length = 8 ∧ m.length = n ∧ n ≤ 900000000) (some (512, 1, c8 (signL b leaf (digL m))))
  | _ => none
theorem signG_eq (xs ys : List AV) (leaf : W32) (n : Nat) : signG [.agg xs, .w32 leaf, .sl n ys] = obind (un8 xs) fun b => obind (un8 ys) fun m => guardO (b.length = 8 ∧ m.length = n ∧ n ≤ 900000000) (some (512, 1, c8 (signL b leaf (digL m)))) := (rfl)
attribute [go_sem] signG_eq signL_len

set_option maxHeartbeats 1000000 in
theorem sign_ok : FreshOK Tryd.prog GLh 29 signG := by
  refine fresh_of_awp Tryd.func29 (bodyOf_some rfl) ?_
  intro args r hg
  unfold signG at hg
  split at hg
  · rename_i xs leaf n ys
    replace hg := obind_inv hg; obtain ⟨seed, hb, hg⟩ := hg
    replace hg := obind_inv hg; obtain ⟨msg, hb2, hg⟩ := hg
    replace hg := guardO_inv hg; obtain ⟨⟨hn, hm, hbig⟩, hg⟩ := hg
    obtain rfl := Option.some.inj hg
    have := un8_inv _ hb; subst this
    have := un8_inv _ hb2; subst this
    subst hm
    clear hg hb hb2
    refine ⟨Nat.le_of_ble_eq_true rfl, fun nx => ?_⟩
    refine awp_seqP rfl ?_
    refine awp_regP (Γ := noEnv) [1, 2, 3] (noEnv_ok _ _) rfl rfl rfl (fun K hK => ?_)
    simp only [Tryd.f29, bodyOf, Option.getD_some, cl, rOps, lights, light, rN, List.size_toArray, List.length_cons, List.length_nil, Nat.reduceAdd, Nat.zero_add, List.map_cons, List.map_nil, Option.map_none]
    simp (maxSteps := 300000) (disch := omega) only [go_sem, Nat.reduceAdd, ↓reduceIte]
    with_reducible refine hK _ ?_
    clear hK K
    refine nx_then ?_
    refine awp_seqP rfl ?_
    refine awp_regP (Γ := noEnv) [1, 2, 3, 7] (noEnv_ok _ _) rfl rfl rfl (fun K hK => ?_)
    simp only [Tryd.f29, bodyOf, Option.getD_some, cl, cr, rOps, lights, light, rN, List.size_toArray, List.length_cons, List.length_nil, Nat.zero_add, List.map_cons, List.map_nil, Option.map_none]
    simp (maxSteps := 300000) (disch := omega) only [go_sem, ↓reduceIte]
    with_reducible refine hK _ ?_
    clear hK K
    refine nx_then ?_
    refine awp_seqP rfl ?_
    refine awp_regP (Γ := envL [(35, .pure true digG)]) [1, 3, 7, 8] (envOK_cons ok35 envOK_nil) rfl rfl rfl (fun K hK => ?_)
    simp only [Tryd.f29, bodyOf, Option.getD_some, cl, cr, rOps, lights, light, rN, List.size_toArray, List.length_cons, List.length_nil, Nat.reduceAdd, Nat.zero_add, List.map_cons, List.map_nil, Option.map_none]
    simp (maxSteps := 300000) (disch := omega) only [go_sem, Nat.reduceAdd, ↓reduceIte]
    with_reducible refine hK _ ?_
    clear hK K
    refine nx_then ?_
    generalize digL msg = d
    refine awp_seqP rfl ?_
    refine awp_seqP rfl ?_
    refine awp_regP (Γ := noEnv) [1, 3, 7, 8, 16] (noEnv_ok _ _) rfl rfl rfl (fun K hK => ?_)
    simp only [Tryd.f29, bodyOf, Option.getD_some, cl, cr, rOps, lights, light, rN, List.size_toArray, List.length_cons, List.length_nil, Nat.zero_add, List.map_cons, List.map_nil, Option.map_none]
    simp (maxSteps := 300000) (disch := omega) only [go_sem, ↓reduceIte]
    with_reducible refine hK _ ?_
    clear hK K
    refine nx_then ?_
    refine awp_blockN 0 rfl rfl ?_
    refine awp_own 7 1 rfl ?_
    refine awp_keep [1, 3, 7, 8, 16] ?_
    simp only [kf_nil, kf_cons, look_cons, ↓reduceIte, Nat.reduceEqDiff]
    refine awp_loopP (fun p : KIC => { fr := [(1, .w32 leaf), (3, .op nx 0), (7, .os p.id 0 (16 * p.k) 1 true), (8, .w32 d), (16, .i p.k)], hp := upd (upd (fun _ => none) nx (.cells (c8 seed) true)) p.id (.cells (c8 (fl (sg1 seed leaf d) p.k)) true), nx := 0, cx := p.c }) (fun p => p.k ≤ 32 ∧ nx < p.id ∧ p.id < p.c) (fun p => 32 - p.k) rfl ⟨⟨0, _, _⟩, ⟨Nat.zero_le _, by simp only; omega, by simp only; omega⟩, sub_same rfl rfl (Nat.le_refl _)⟩ ?_
    rintro ⟨k, id, c⟩ ⟨hk, hid, hc⟩ n0
    simp only at hk hid hc ⊢
    have hl := fl_len _ 16 (sg1_len seed leaf d) k
    refine awp_seqP rfl ?_
    refine awp_regP (Γ := noEnv) [17, 1, 3, 7, 8, 16] (noEnv_ok _ _) rfl rfl rfl (fun K hK => ?_)
    simp only [Tryd.f29, bodyOf, Option.getD_some, cl, cr, rOps, lights, light, rN, List.size_toArray, List.length_cons, List.length_nil, Nat.zero_add, List.map_cons, List.map_nil, Option.map_none]
    simp (maxSteps := 300000) (disch := omega) only [go_sem, ↓reduceIte]
    with_reducible refine hK _ ?_
    clear hK K
    refine nx_then ?_
    refine awp_seqP rfl ?_
    refine awp_ifD (.tmp 17) rfl rfl rfl (fun h => ?_) (fun h => ?_)
    · skip
      refine awp_drop rfl ?_
      refine awp_skipP rfl ?_
      refine nx_then ?_
      refine awp_seqP rfl ?_
      refine awp_blockN 1 rfl rfl ?_
      refine awp_seqP rfl ?_
      refine awp_regP (Γ := noEnv) [1, 3, 7, 8, 9, 16] (noEnv_ok _ _) rfl rfl rfl (fun K hK => ?_)
      simp only [Tryd.f29, bodyOf, Option.getD_some, cl, cr, rOps, lights, light, rN, List.size_toArray, List.length_cons, List.length_nil, Nat.reduceAdd, Nat.zero_add, List.map_cons, List.map_nil, Option.map_none]
      simp (maxSteps := 300000) (disch := omega) only [go_sem, Nat.reduceAdd, ↓reduceIte]
      with_reducible refine hK _ ?_
      clear hK K
      refine nx_then ?_
      refine awp_seqP rfl ?_
      refine awp_regP (Γ := envL [(64, .pure true bitG)]) [1, 3, 7, 8, 9, 10, 16] (envOK_cons ok64 envOK_nil) rfl rfl rfl (fun K hK => ?_)
      simp only [Tryd.f29, bodyOf, Option.getD_some, cl, cr, rOps, lights, light, rN, List.size_toArray, List.length_cons, List.length_nil, Nat.reduceAdd, Nat.zero_add, List.map_cons, List.map_nil, Option.map_none]
      simp (maxSteps := 300000) (disch := omega) only [go_sem, Nat.reduceAdd, ↓reduceIte]
      with_reducible refine hK _ ?_
      clear hK K
      refine nx_then ?_
      have hs1 := secretL_len seed leaf (BitVec.ofInt 8 (k : Int)) (bitL d k)
      have hs2 := secretL_len seed leaf (BitVec.ofInt 8 (k : Int)) (1#8 - bitL d k)
      have hll : lockL (secretL seed leaf (BitVec.ofInt 8 (k : Int)) (1#8 - bitL d k)) = lkv seed leaf k (1#8 - bitL d k) := rfl
      have hkl := lkv_len seed leaf k (1#8 - bitL d k)
      refine awp_seqP rfl ?_
      refine awp_drwP (Γ := envL [(65, .pure true secretG)]) (fun k => if k = 10 then 34 else 2) [1, 3, 7, 8, 11, 12, 16] mixed (envOK_cons ok65 envOK_nil) rfl rfl rfl (by kernel_rfl) (fun K hK => ?_)
      simp only [Tryd.f29, bodyOf, Option.getD_some, cl, cr, rOps, lights, light, rN, List.size_toArray, List.length_cons, List.length_nil, Nat.reduceAdd, Nat.zero_add, List.map_cons, List.map_nil, Option.map_none]
      simp (maxSteps := 300000) (disch := first | omega | decide) only [go_sem, Nat.reduceAdd, Nat.reduceLeDiff, Int.reduceLE, Int.reduceLT, BitVec.reduceOfInt, ↓reduceIte, hn]
      with_reducible refine hK _ ?_
      clear hK K
      refine nx_then ?_
      refine awp_seqP rfl ?_
      refine awp_regP (Γ := envL [(66, .pure true lockG)]) [1, 3, 7, 8, 11, 13, 16] (envOK_cons ok66 envOK_nil) rfl rfl rfl (fun K hK => ?_)
      simp only [Tryd.f29, bodyOf, Option.getD_some, cl, cr, rOps, lights, light, rN, List.size_toArray, List.length_cons, List.length_nil, Nat.reduceAdd, Nat.zero_add, List.map_cons, List.map_nil, Option.map_none]
      simp (maxSteps := 300000) (disch := omega) only [go_sem, Nat.reduceAdd, Nat.reduceSub, Nat.reduceLeDiff, Int.reduceLE, Int.reduceToNat, ↓reduceIte, hll]
      with_reducible refine hK _ ?_
      clear hK K
      refine nx_then ?_
      refine awp_drwP (Γ := noEnv) (fun k => if k = 4 then 10 else 2) [1, 3, 7, 8, 16] mixed (noEnv_ok _ _) rfl rfl rfl (by kernel_rfl) (fun K hK => ?_)
      simp only [Tryd.f29, bodyOf, Option.getD_some, cl, cr, rOps, lights, light, rN, List.size_toArray, List.length_cons, List.length_nil, Nat.reduceAdd, Nat.zero_add, List.map_cons, List.map_nil, Option.map_none]
      simp (maxSteps := 300000) (disch := first | omega | decide) only [go_sem, Nat.reduceAdd, Nat.reduceSub, Nat.reduceLeDiff, Nat.reduceLT, Int.reduceLE, Int.reduceToNat, ↓reduceIte, hl]
      with_reducible refine hK _ ?_
      clear hK K
      refine nx_blk (nx_then ?_)
      refine awp_regP (Γ := noEnv) [1, 3, 7, 8, 16] (noEnv_ok _ _) rfl rfl rfl (fun K hK => ?_)
      simp only [Tryd.f29, bodyOf, Option.getD_some, cl, cr, rOps, lights, light, rN, List.size_toArray, List.length_cons, List.length_nil, Nat.reduceAdd, Nat.zero_add, List.map_cons, List.map_nil, Option.map_none]
      simp (maxSteps := 300000) (disch := omega) only [go_sem, Nat.reduceAdd, ↓reduceIte]
      with_reducible refine hK _ ?_
      clear hK K
      refine nx_loop ?_
      have e5 : 16 * (k + 1) = 16 * k + 8 + 8 := by omega
      have e6 : fl (sg1 seed leaf d) (k + 1) = fl (sg1 seed leaf d) k ++ secretL seed leaf (BitVec.ofInt 8 (k : Int)) (bitL d k) ++ lkv seed leaf k (1#8 - bitL d k) := by rw [fl, sg1, List.append_assoc]
      refine ⟨⟨k + 1, c + 1 + 2 + 4 + 15 + 4 + 4, _⟩, ⟨by simp only; omega, by simp only; omega, by simp only; omega⟩, by simp only; omega, ⟨fun _ => .inr ?_, fun j o h => ?_, Nat.le_refl _⟩⟩
      · simp only [e5, Int.natCast_add, Int.natCast_one]
      · simp only at h
        exact hsub_cons (by simp (disch := omega) only [up_app, ↓reduceIte, eq_self, e6]) (hsub_cons (by simp (disch := omega) only [up_app, de_app, nat_ne, ↓reduceIte, eq_self]) (hsub_nil)) j o h
    · skip
      refine awp_drop rfl ?_
      refine awp_exitN 0 rfl rfl ?_
      refine nx_ex_then (nx_ex_loop (nx_ex_blk ?_))
      refine nx_then ?_
      refine awp_seqP rfl ?_
      obtain rfl : k = 32 := by omega
      have hq : fl (sg1 seed leaf d) 32 = signL seed leaf d := rfl
      rw [hq] at hl ⊢
      refine awp_regP (Γ := noEnv) [6] (noEnv_ok _ _) rfl rfl rfl (fun K hK => ?_)
      simp only [Tryd.f29, bodyOf, Option.getD_some, cl, cr, rOps, lights, light, rN, List.size_toArray, List.length_cons, List.length_nil, Nat.reduceAdd, Nat.zero_add, List.map_cons, List.map_nil, Option.map_none]
      simp (maxSteps := 300000) (disch := omega) only [go_sem, Nat.reduceAdd, Nat.reduceMul, ↓reduceIte]
      with_reducible refine hK _ ?_
      clear hK K
      refine nx_then ?_
      refine awp_retP rfl ?_
      simp (disch := omega) only [freshQ, freshR, resA, resAL, resA1, Tryd.f29, go_sem, ↓reduceIte, c8_noOwn]
  · cases hg
theorem ok29 : EntOK Tryd.prog GLh 29 (.fresh true signG) := ⟨⟨_, Tryd.func29, rfl, rfl⟩, sign_ok⟩
set_option maxHeartbeats 1000000 in
theorem rsign_ok : FreshOK Tryd.prog GLh 32 signG := by
  refine fresh_of_awp Tryd.func32 (bodyOf_some rfl) ?_
  intro args r hg
  unfold signG at hg
  split at hg
  · rename_i xs leaf n ys
    replace hg := obind_inv hg; obtain ⟨seed, hb, hg⟩ := hg
    replace hg := obind_inv hg; obtain ⟨msg, hb2, hg⟩ := hg
    replace hg := guardO_inv hg; obtain ⟨⟨hn, hm, hbig⟩, hg⟩ := hg
    obtain rfl := Option.some.inj hg
    have := un8_inv _ hb; subst this
    have := un8_inv _ hb2; subst this
    subst hm
    clear hg hb hb2
    refine ⟨Nat.le_of_ble_eq_true rfl, fun nx => ?_⟩
    refine awp_seqP rfl ?_
    refine awp_regP (Γ := noEnv) [1, 2, 3] (noEnv_ok _ _) rfl rfl rfl (fun K hK => ?_)
    simp only [Tryd.f32, bodyOf, Option.getD_some, cl, rOps, lights, light, rN, List.size_toArray, List.length_cons, List.length_nil, Nat.reduceAdd, Nat.zero_add, List.map_cons, List.map_nil, Option.map_none]
    simp (maxSteps := 300000) (disch := omega) only [go_sem, Nat.reduceAdd, ↓reduceIte]
    with_reducible refine hK _ ?_
    clear hK K
    refine nx_then ?_
    refine awp_seqP rfl ?_
    refine awp_regP (Γ := envL [(36, .pure true digG)]) [1, 3, 7] (envOK_cons ok36 envOK_nil) rfl rfl rfl (fun K hK => ?_)
    simp only [Tryd.f32, bodyOf, Option.getD_some, cl, cr, rOps, lights, light, rN, List.size_toArray, List.length_cons, List.length_nil, Nat.reduceAdd, Nat.zero_add, List.map_cons, List.map_nil, Option.map_none]
    simp (maxSteps := 300000) (disch := omega) only [go_sem, Nat.reduceAdd, ↓reduceIte]
    with_reducible refine hK _ ?_
    clear hK K
    refine nx_then ?_
    generalize digL msg = d
    refine awp_seqP rfl ?_
    refine awp_regP (Γ := noEnv) [1, 3, 7, 8] (noEnv_ok _ _) rfl rfl rfl (fun K hK => ?_)
    simp only [Tryd.f32, bodyOf, Option.getD_some, cl, cr, rOps, lights, light, rN, List.size_toArray, List.length_cons, List.length_nil, Nat.zero_add, List.map_cons, List.map_nil, Option.map_none]
    simp (maxSteps := 300000) (disch := omega) only [go_sem, ↓reduceIte]
    with_reducible refine hK _ ?_
    clear hK K
    refine nx_then ?_
    refine awp_seqP rfl ?_
    refine awp_seqP rfl ?_
    refine awp_regP (Γ := noEnv) [1, 3, 7, 8, 9] (noEnv_ok _ _) rfl rfl rfl (fun K hK => ?_)
    simp only [Tryd.f32, bodyOf, Option.getD_some, cl, cr, rOps, lights, light, rN, List.size_toArray, List.length_cons, List.length_nil, Nat.zero_add, List.map_cons, List.map_nil, Option.map_none]
    simp (maxSteps := 300000) (disch := omega) only [go_sem, ↓reduceIte]
    with_reducible refine hK _ ?_
    clear hK K
    refine nx_then ?_
    refine awp_blockN 0 rfl rfl ?_
    refine awp_own 8 1 rfl ?_
    refine awp_keep [1, 3, 7, 8, 9] ?_
    simp only [kf_nil, kf_cons, look_cons, ↓reduceIte, Nat.reduceEqDiff]
    refine awp_loopP (fun p : KIC => { fr := [(1, .w32 leaf), (3, .op nx 0), (7, .w32 d), (8, .os p.id 0 (16 * p.k) 1 true), (9, .i p.k)], hp := upd (upd (fun _ => none) nx (.cells (c8 seed) true)) p.id (.cells (c8 (fl (sg1 seed leaf d) p.k)) true), nx := 0, cx := p.c }) (fun p => p.k ≤ 32 ∧ nx < p.id ∧ p.id < p.c) (fun p => 32 - p.k) rfl ⟨⟨0, _, _⟩, ⟨Nat.zero_le _, by simp only; omega, by simp only; omega⟩, sub_same rfl rfl (Nat.le_refl _)⟩ ?_
    rintro ⟨k, id, c⟩ ⟨hk, hid, hc⟩ n0
    simp only at hk hid hc ⊢
    have hl := fl_len _ 16 (sg1_len seed leaf d) k
    refine awp_seqP rfl ?_
    refine awp_seqP rfl ?_
    refine awp_regP (Γ := noEnv) [17, 1, 3, 7, 8, 9] (noEnv_ok _ _) rfl rfl rfl (fun K hK => ?_)
    simp only [Tryd.f32, bodyOf, Option.getD_some, cl, cr, rOps, lights, light, rN, List.size_toArray, List.length_cons, List.length_nil, Nat.reduceAdd, Nat.zero_add, List.map_cons, List.map_nil, Option.map_none]
    simp (maxSteps := 300000) (disch := omega) only [go_sem, Nat.reduceAdd, ↓reduceIte]
    with_reducible refine hK _ ?_
    clear hK K
    refine nx_then ?_
    refine awp_ifD (.tmp 17) rfl rfl rfl (fun h => ?_) (fun h => ?_)
    · skip
      refine awp_drop rfl ?_
      have e31 : ((31 : Int) - (k : Int)).toNat = 31 - k := by omega
      have hbt : ((d >>> (31 - k)) &&& 1#32).setWidth 8 = bitL d k := rfl
      refine awp_skipP rfl ?_
      refine nx_then ?_
      refine awp_seqP rfl ?_
      refine awp_blockN 1 rfl rfl ?_
      refine awp_seqP rfl ?_
      refine awp_regP (Γ := noEnv) [1, 3, 7, 8, 9, 10] (noEnv_ok _ _) rfl rfl rfl (fun K hK => ?_)
      simp only [Tryd.f32, bodyOf, Option.getD_some, cl, cr, rOps, lights, light, rN, List.size_toArray, List.length_cons, List.length_nil, Nat.reduceAdd, Nat.zero_add, List.map_cons, List.map_nil, Option.map_none]
      simp (maxSteps := 300000) (disch := omega) only [go_sem, Nat.reduceAdd, Int.reduceLE, Int.reduceLT, BitVec.reduceOfInt, ↓reduceIte, e31, hbt]
      with_reducible refine hK _ ?_
      clear hK K
      refine nx_then ?_
      have hs1 := secretL_len seed leaf (BitVec.ofInt 8 (k : Int)) (bitL d k)
      have hs2 := secretL_len seed leaf (BitVec.ofInt 8 (k : Int)) (1#8 - bitL d k)
      have hll : lockL (secretL seed leaf (BitVec.ofInt 8 (k : Int)) (1#8 - bitL d k)) = lkv seed leaf k (1#8 - bitL d k) := rfl
      have hkl := lkv_len seed leaf k (1#8 - bitL d k)
      refine awp_seqP rfl ?_
      refine awp_regP (Γ := envL [(68, .pure true rsecretG)]) [1, 3, 7, 8, 9, 10, 11] (envOK_cons ok68 envOK_nil) rfl rfl rfl (fun K hK => ?_)
      simp only [Tryd.f32, bodyOf, Option.getD_some, cl, cr, rOps, lights, light, rN, List.size_toArray, List.length_cons, List.length_nil, Nat.reduceAdd, Nat.zero_add, List.map_cons, List.map_nil, Option.map_none]
      simp (maxSteps := 300000) (disch := omega) only [go_sem, Nat.reduceAdd, Nat.reduceLeDiff, ↓reduceIte, hn]
      with_reducible refine hK _ ?_
      clear hK K
      refine nx_then ?_
      refine awp_seqP rfl ?_
      refine awp_regP (Γ := envL [(68, .pure true rsecretG)]) [1, 3, 7, 8, 9, 11, 12] (envOK_cons ok68 envOK_nil) rfl rfl rfl (fun K hK => ?_)
      simp only [Tryd.f32, bodyOf, Option.getD_some, cl, cr, rOps, lights, light, rN, List.size_toArray, List.length_cons, List.length_nil, Nat.reduceAdd, Nat.zero_add, List.map_cons, List.map_nil, Option.map_none]
      simp (maxSteps := 300000) (disch := omega) only [go_sem, Nat.reduceAdd, Nat.reduceLeDiff, Int.reduceLE, Int.reduceLT, BitVec.reduceOfInt, ↓reduceIte, hn]
      with_reducible refine hK _ ?_
      clear hK K
      refine nx_then ?_
      refine awp_seqP rfl ?_
      refine awp_regP (Γ := envL [(69, .pure true lockG)]) [1, 3, 7, 8, 9, 11, 13] (envOK_cons ok69 envOK_nil) rfl rfl rfl (fun K hK => ?_)
      simp only [Tryd.f32, bodyOf, Option.getD_some, cl, cr, rOps, lights, light, rN, List.size_toArray, List.length_cons, List.length_nil, Nat.reduceAdd, Nat.zero_add, List.map_cons, List.map_nil, Option.map_none]
      simp (maxSteps := 300000) (disch := omega) only [go_sem, Nat.reduceAdd, Nat.reduceSub, Nat.reduceLeDiff, Int.reduceLE, Int.reduceToNat, ↓reduceIte, hll]
      with_reducible refine hK _ ?_
      clear hK K
      refine nx_then ?_
      refine awp_drwP (Γ := noEnv) (fun k => if k = 4 then 10 else 2) [1, 3, 7, 8, 9] mixed (noEnv_ok _ _) rfl rfl rfl (by kernel_rfl) (fun K hK => ?_)
      simp only [Tryd.f32, bodyOf, Option.getD_some, cl, cr, rOps, lights, light, rN, List.size_toArray, List.length_cons, List.length_nil, Nat.reduceAdd, Nat.zero_add, List.map_cons, List.map_nil, Option.map_none]
      simp (maxSteps := 300000) (disch := first | omega | decide) only [go_sem, Nat.reduceAdd, Nat.reduceSub, Nat.reduceLeDiff, Nat.reduceLT, Int.reduceLE, Int.reduceToNat, ↓reduceIte, hl]
      with_reducible refine hK _ ?_
      clear hK K
      refine nx_blk (nx_then ?_)
      refine awp_regP (Γ := noEnv) [1, 3, 7, 8, 9] (noEnv_ok _ _) rfl rfl rfl (fun K hK => ?_)
      simp only [Tryd.f32, bodyOf, Option.getD_some, cl, cr, rOps, lights, light, rN, List.size_toArray, List.length_cons, List.length_nil, Nat.reduceAdd, Nat.zero_add, List.map_cons, List.map_nil, Option.map_none]
      simp (maxSteps := 300000) (disch := omega) only [go_sem, Nat.reduceAdd, ↓reduceIte]
      with_reducible refine hK _ ?_
      clear hK K
      refine nx_loop ?_
      have e5 : 16 * (k + 1) = 16 * k + 8 + 8 := by omega
      have e6 : fl (sg1 seed leaf d) (k + 1) = fl (sg1 seed leaf d) k ++ secretL seed leaf (BitVec.ofInt 8 (k : Int)) (bitL d k) ++ lkv seed leaf k (1#8 - bitL d k) := by rw [fl, sg1, List.append_assoc]
      refine ⟨⟨k + 1, c + 2 + 7 + 8 + 9 + 4 + 4, _⟩, ⟨by simp only; omega, by simp only; omega, by simp only; omega⟩, by simp only; omega, ⟨fun _ => .inr ?_, fun j o h => ?_, Nat.le_refl _⟩⟩
      · simp only [e5, Int.natCast_add, Int.natCast_one]
      · simp only at h
        exact hsub_cons (by simp (disch := omega) only [up_app, ↓reduceIte, eq_self, e6]) (hsub_cons (by simp (disch := omega) only [up_app, de_app, nat_ne, ↓reduceIte, eq_self]) (hsub_nil)) j o h
    · skip
      refine awp_drop rfl ?_
      refine awp_exitN 0 rfl rfl ?_
      refine nx_ex_then (nx_ex_loop (nx_ex_blk ?_))
      refine nx_then ?_
      refine awp_seqP rfl ?_
      obtain rfl : k = 32 := by omega
      have hq : fl (sg1 seed leaf d) 32 = signL seed leaf d := rfl
      rw [hq] at hl ⊢
      refine awp_regP (Γ := noEnv) [6] (noEnv_ok _ _) rfl rfl rfl (fun K hK => ?_)
      simp only [Tryd.f32, bodyOf, Option.getD_some, cl, cr, rOps, lights, light, rN, List.size_toArray, List.length_cons, List.length_nil, Nat.reduceAdd, Nat.zero_add, List.map_cons, List.map_nil, Option.map_none]
      simp (maxSteps := 300000) (disch := omega) only [go_sem, Nat.reduceAdd, Nat.reduceMul, ↓reduceIte]
      with_reducible refine hK _ ?_
      clear hK K
      refine nx_then ?_
      refine awp_retP rfl ?_
      simp (disch := omega) only [freshQ, freshR, resA, resAL, resA1, Tryd.f32, go_sem, ↓reduceIte, c8_noOwn]
  · cases hg
theorem ok32 : EntOK Tryd.prog GLh 32 (.fresh true signG) := ⟨⟨_, Tryd.func32, rfl, rfl⟩, rsign_ok⟩

def bytG : List AV → Option AV
  | [.sl n xs, .sl m ys] => obind (un8 xs) fun a => obind (un8 ys) fun b => guardO (a.length = n ∧ b.length = m) (some (.b (decide (a = b))))
  | _ => none
theorem bytG_eq (n m : Nat) (xs ys : List AV) : bytG [.sl n xs, .sl m ys] = obind (un8 xs) fun a => obind (un8 ys) fun b => guardO (a.length = n ∧ b.length = m) (some (.b (decide (a = b)))) := (rfl)
theorem unW8_c8 (l : List B8) : unW8 (c8 l) = some l := by
  induction l with
  | nil => rfl
  | cons x r ih => show obind (unW8 (c8 r)) _ = _; rw [ih]; rfl
attribute [go_sem] bytG_eq unW8_c8

set_option maxHeartbeats 1000000 in
theorem byt_ok : PureOK Tryd.prog GLh 31 bytG := by
  refine pure_of_awp Tryd.func31 (bodyOf_some rfl) ?_
  intro args r hg
  unfold bytG at hg
  split at hg
  · rename_i n m xs ys
    replace hg := obind_inv hg; obtain ⟨a, ha, hg⟩ := hg
    replace hg := obind_inv hg; obtain ⟨b, hb, hg⟩ := hg
    replace hg := guardO_inv hg; obtain ⟨⟨hn, hm⟩, hg⟩ := hg
    obtain rfl := Option.some.inj hg
    have := un8_inv _ ha; subst this
    have := un8_inv _ hb; subst this
    subst hn; subst hm
    refine ⟨Nat.le_of_ble_eq_true rfl, fun nx => ?_⟩
    refine awp_seqP rfl ?_
    refine awp_regP (Γ := noEnv) [0, 1] (noEnv_ok _ _) rfl rfl rfl (fun K hK => ?_)
    simp only [Tryd.f31, bodyOf, Option.getD_some, cl, rOps, lights, light, rN, List.size_toArray, List.length_cons, List.length_nil, Nat.zero_add, List.map_cons, List.map_nil, Option.map_none]
    simp (maxSteps := 300000) (disch := omega) only [go_sem, ↓reduceIte]
    with_reducible refine hK _ ?_
    clear hK K
    refine nx_then ?_
    refine awp_seqP rfl ?_
    refine awp_regP (Γ := noEnv) [4] (noEnv_ok _ _) rfl rfl rfl (fun K hK => ?_)
    simp only [Tryd.f31, bodyOf, Option.getD_some, cl, cr, rOps, lights, light, rN, List.size_toArray, List.length_cons, List.length_nil, Nat.reduceAdd, Nat.zero_add, List.map_cons, List.map_nil, Option.map_none]
    simp (maxSteps := 300000) (disch := omega) only [go_sem, Nat.reduceAdd, ↓reduceIte]
    with_reducible refine hK _ ?_
    clear hK K
    refine nx_then ?_
    refine awp_retP rfl ?_
    simp (disch := omega) only [pureQ, resA, resAL, resA1, Tryd.f31, go_sem, ↓reduceIte]
  · cases hg
theorem ok31 : EntOK Tryd.prog GLh 31 (.pure true bytG) := ⟨⟨_, Tryd.func31, rfl, rfl⟩, byt_ok⟩
end Go.AX
