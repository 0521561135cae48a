/-
  Once, part C: a nil slice as an own one; digests; the reference's secrets.
-/
import Derived.Test.YtnnkmoaipcdhnaaDoorHoB
namespace Go.AX
open Go Go.Proofs

/-- A nil slice is an own, empty one. -/
theorem awp_own {P : Program} {GL : Nat → Option (List AV)} {nt : Nat} {code : Code} {Q : Exit → S → Prop} {fr : List (Nat × AV)} {hp : H} {nx cx : Nat} (t e : Nat) (hn : look fr t = .v (.slice none 0 0))
    (h : Awp P GL nt code { fr := (t, .os cx 0 0 e true) :: fr, hp := upd hp cx (.cells [] true), nx := nx, cx := cx + 1 } Q) : Awp P GL nt code { fr := fr, hp := hp, nx := nx, cx := cx } Q := by
  intro c h1 h2 σ0 I0 w0 a w hR
  refine h c h1 h2 σ0 I0 w0 a w ?_
  obtain ⟨⟨σ, I, a1, a2, a3⟩, b, d, e1, e0⟩ := hR
  have hu : cx ≤ cx ∨ (∃ k, False ∧ cx = nx + k) ∨ c.u0 cx := .inl (Nat.le_refl _)
  have hun := a1.un cx hu
  have hσ := setLoc_ext (l := .nil) hun
  refine ⟨⟨setLoc σ cx .nil, I, (a1.newNil hu).mono_un fun id hid => ?_, a2.trans ⟨hσ, fun _ h => h, fun _ _ => rfl⟩, fun k => ?_⟩, b, d, fun k hk => hk.elim, fun id hid => ⟨(e0 id hid).1, Nat.lt_succ_of_lt (e0 id hid).2⟩⟩
  · rcases hid with hid | ⟨k, hk, _⟩ | hid
    · exact ⟨.inl (Nat.le_of_succ_le hid), Nat.ne_of_gt hid⟩
    · exact hk.elim
    · exact ⟨.inr (.inr hid), Nat.ne_of_lt (e0 id hid).2⟩
  · show Rel _ I w (if t = k then .os cx 0 0 e true else look fr k) _
    have h3 := a3 k
    by_cases hk : t = k
    · subst hk
      rw [if_pos rfl]
      have h4 : look fr t = .v (.slice none 0 0) := hn
      rw [h4] at h3
      generalize hv : a.tmps.getD t undef = v at h3
      cases h3
      exact .osnil _ _ _ (by simp [setLoc])
    · rw [if_neg hk]
      exact h3.mono hσ (fun _ h => h) (fun _ _ => rfl)

def digL (msg : List B8) : W32 :=
  let s := sumL msg
  (s.getD 0 0#8).setWidth 32 <<< 24 ||| (s.getD 1 0#8).setWidth 32 <<< 16 ||| (s.getD 2 0#8).setWidth 32 <<< 8 ||| (s.getD 3 0#8).setWidth 32
def digG : List AV → Option AV
  | [.sl n xs] => obind (un8 xs) fun b => guardO (b.length = n ∧ n ≤ 900000000) (some (.w32 (digL b)))
  | _ => none
theorem digG_eq (n : Nat) (xs : List AV) : digG [.sl n xs] = obind (un8 xs) fun b => guardO (b.length = n ∧ n ≤ 900000000) (some (.w32 (digL b))) := (rfl)
attribute [go_sem] digG_eq
theorem getL4 (l : List B8) (h : 4 ≤ l.length) : getL (l.take 4) = (l.getD 0 0#8).setWidth 32 <<< 24 ||| (l.getD 1 0#8).setWidth 32 <<< 16 ||| (l.getD 2 0#8).setWidth 32 <<< 8 ||| (l.getD 3 0#8).setWidth 32 := by
  match l, h with
  | a :: b :: c :: d :: r, _ =>
    simp only [List.take_succ_cons, List.take_zero, getL, List.foldl_cons, List.foldl_nil, List.getD_cons_zero, List.getD_cons_succ, BitVec.shiftLeft_or_distrib, ← BitVec.shiftLeft_add, BitVec.zero_shiftLeft, BitVec.zero_or, Nat.reduceAdd]

set_option maxHeartbeats 4000000 in
theorem dig_ok : PureOK Tryd.prog GLh 35 digG := by
  refine pure_of_awp Tryd.func35 (bodyOf_some rfl) ?_
  intro args r hg
  unfold digG at hg
  split at hg
  · rename_i n xs
    replace hg := obind_inv hg; obtain ⟨b, hb, hg⟩ := hg
    replace hg := guardO_inv hg; obtain ⟨⟨hn, hbig⟩, hg⟩ := hg
    obtain rfl := Option.some.inj hg
    have := un8_inv _ hb; subst this
    subst hn
    clear hg hb
    refine ⟨Nat.le_of_ble_eq_true rfl, fun nx => ?_⟩
    have hs := sumL_len b
    refine awp_seqP rfl ?_
    refine awp_regP (Γ := noEnv) [0] (noEnv_ok _ _) rfl rfl rfl (fun K hK => ?_)
    simp only [Tryd.f35, bodyOf, Option.getD_some, cl, rOps, lights, light, rN, List.size_toArray, List.length_cons, List.length_nil, Nat.zero_add, List.map_cons, List.map_nil, Option.map_none]
    simp (maxSteps := 300000) (disch := omega) only [go_sem, Int.reduceLE, Int.reduceLT, BitVec.reduceOfInt, ↓reduceIte]
    with_reducible refine hK _ ?_
    clear hK K
    refine nx_then ?_
    refine awp_seqP rfl ?_
    refine awp_regP (Γ := envL [(22, .pure true sumG)]) [3] (envOK_cons ok22 envOK_nil) rfl rfl rfl (fun K hK => ?_)
    simp only [Tryd.f35, bodyOf, Option.getD_some, cl, cr, rOps, lights, light, rN, List.size_toArray, List.length_cons, List.length_nil, Nat.reduceAdd, Nat.zero_add, List.map_cons, List.map_nil, Option.map_none]
    simp (maxSteps := 300000) (disch := omega) only [go_sem, Nat.reduceAdd, Nat.reduceLeDiff, ↓reduceIte]
    with_reducible refine hK _ ?_
    clear hK K
    refine nx_then ?_
    refine awp_seqP rfl ?_
    refine awp_regP (Γ := noEnv) [2] (noEnv_ok _ _) rfl rfl rfl (fun K hK => ?_)
    simp only [Tryd.f35, bodyOf, Option.getD_some, cl, cr, rOps, lights, light, rN, List.size_toArray, List.length_cons, List.length_nil, Nat.reduceAdd, Nat.zero_add, List.map_cons, List.map_nil, Option.map_none]
    simp (maxSteps := 300000) (disch := omega) only [go_sem, Nat.reduceAdd, Int.reduceLE, Int.reduceLT, Int.reduceToNat, BitVec.reduceOfInt, BitVec.reduceToNat, ↓reduceIte]
    with_reducible refine hK _ ?_
    clear hK K
    refine nx_then ?_
    refine awp_retP rfl ?_
    simp (disch := omega) only [pureQ, resA, resAL, resA1, Tryd.f35, go_sem, ↓reduceIte, digL]
  · cases hg
theorem ok35 : EntOK Tryd.prog GLh 35 (.pure true digG) := ⟨⟨_, Tryd.func35, rfl, rfl⟩, dig_ok⟩

set_option maxHeartbeats 4000000 in
theorem rdig_ok : PureOK Tryd.prog GLh 36 digG := by
  refine pure_of_awp Tryd.func36 (bodyOf_some rfl) ?_
  intro args r hg
  unfold digG at hg
  split at hg
  · rename_i n xs
    replace hg := obind_inv hg; obtain ⟨b, hb, hg⟩ := hg
    replace hg := guardO_inv hg; obtain ⟨⟨hn, hbig⟩, hg⟩ := hg
    obtain rfl := Option.some.inj hg
    have := un8_inv _ hb; subst this
    subst hn
    clear hg hb
    refine ⟨Nat.le_of_ble_eq_true rfl, fun nx => ?_⟩
    have hs := sumL_len b
    have h4 : ((sumL b).take 4).length = 4 := by rw [List.length_take]; omega
    refine awp_seqP rfl ?_
    refine awp_regP (Γ := noEnv) [0] (noEnv_ok _ _) rfl rfl rfl (fun K hK => ?_)
    simp only [Tryd.f36, bodyOf, Option.getD_some, cl, rOps, lights, light, rN, List.size_toArray, List.length_cons, List.length_nil, Nat.zero_add, List.map_cons, List.map_nil, Option.map_none]
    simp (maxSteps := 300000) (disch := omega) only [go_sem, Int.reduceLE, Int.reduceLT, BitVec.reduceOfInt, ↓reduceIte]
    with_reducible refine hK _ ?_
    clear hK K
    refine nx_then ?_
    refine awp_seqP rfl ?_
    refine awp_regP (Γ := envL [(23, .pure true ref2G)]) [3] (envOK_cons ok23 envOK_nil) rfl rfl rfl (fun K hK => ?_)
    simp only [Tryd.f36, bodyOf, Option.getD_some, cl, cr, rOps, lights, light, rN, List.size_toArray, List.length_cons, List.length_nil, Nat.reduceAdd, Nat.zero_add, List.map_cons, List.map_nil, Option.map_none]
    simp (maxSteps := 300000) (disch := omega) only [go_sem, Nat.reduceAdd, Nat.reduceLeDiff, ↓reduceIte]
    with_reducible refine hK _ ?_
    clear hK K
    refine nx_then ?_
    refine awp_seqP rfl ?_
    refine awp_regP (Γ := envL [(70, .pure true getG)]) [2] (envOK_cons ok70 envOK_nil) rfl rfl rfl (fun K hK => ?_)
    simp only [Tryd.f36, bodyOf, Option.getD_some, cl, cr, rOps, lights, light, rN, List.size_toArray, List.length_cons, List.length_nil, Nat.reduceAdd, Nat.zero_add, List.map_cons, List.map_nil, Option.map_none]
    simp (maxSteps := 300000) (disch := omega) only [go_sem, Nat.reduceAdd, Nat.reduceSub, Nat.reduceLeDiff, Int.reduceLE, Int.reduceToNat, ↓reduceIte, h4]
    with_reducible refine hK _ ?_
    clear hK K
    refine nx_then ?_
    rw [getL4 _ (by omega)]
    refine awp_retP rfl ?_
    simp (disch := omega) only [pureQ, resA, resAL, resA1, Tryd.f36, go_sem, ↓reduceIte, digL]
  · cases hg
theorem ok36 : EntOK Tryd.prog GLh 36 (.pure true digG) := ⟨⟨_, Tryd.func36, rfl, rfl⟩, rdig_ok⟩

def rsecretG : List AV → Option AV
  | [.agg xs, .w32 leaf, .w8 i, .w8 v] => obind (un8 xs) fun b => guardO (b.length = 8) (some (.agg (c8 (secretL b leaf i v))))
  | _ => none
theorem rsecretG_eq (xs : List AV) (leaf : W32) (i v : B8) : rsecretG [.agg xs, .w32 leaf, .w8 i, .w8 v] = obind (un8 xs) fun b => guardO (b.length = 8) (some (.agg (c8 (secretL b leaf i v)))) := (rfl)
attribute [go_sem] rsecretG_eq

set_option maxHeartbeats 4000000 in
theorem rsecret_ok : PureOK Tryd.prog GLh 68 rsecretG := by
  refine pure_of_awp Tryd.func68 (bodyOf_some rfl) ?_
  intro args r hg
  unfold rsecretG at hg
  split at hg
  · rename_i xs leaf i v
    replace hg := obind_inv hg; obtain ⟨b, hb, hg⟩ := hg
    replace hg := guardO_inv hg; obtain ⟨hn, hg⟩ := hg
    obtain rfl := Option.some.inj hg
    have := un8_inv _ hb; subst this
    clear hg hb
    refine ⟨Nat.le_of_ble_eq_true rfl, fun nx => ?_⟩
    have hs := secretL_len b leaf i v
    have hf : shortL 1#8 [b, w4 leaf, [i], [v]] = secretL b leaf i v := rfl
    have hw : (w4 leaf).length = 4 := rfl
    refine awp_seqP rfl ?_
    refine awp_regP (Γ := noEnv) [1, 2, 3, 4, 8] (noEnv_ok _ _) rfl rfl rfl (fun K hK => ?_)
    simp only [Tryd.f68, bodyOf, Option.getD_some, cl, rOps, lights, light, rN, List.size_toArray, List.length_cons, List.length_nil, Nat.reduceAdd, Nat.zero_add, List.map_cons, List.map_nil, Option.map_none]
    simp (maxSteps := 300000) (disch := omega) only [go_sem, Nat.reduceAdd, ↓reduceIte]
    with_reducible refine hK _ ?_
    clear hK K
    refine nx_then ?_
    refine awp_seqP rfl ?_
    refine awp_drwP (Γ := envL [(82, .fresh true fourG), (25, .pure true shortG)]) (fun k => if k = 8 then 0 else 2) [8] mixed (envOK_cons ok82 (envOK_cons ok25 envOK_nil)) rfl rfl rfl (by kernel_rfl) (fun K hK => ?_)
    simp only [Tryd.f68, bodyOf, Option.getD_some, cl, cr, rOps, lights, light, rN, List.size_toArray, List.length_cons, List.length_nil, Nat.reduceAdd, Nat.zero_add, List.map_cons, List.map_nil, Option.map_none]
    simp (maxSteps := 300000) (disch := omega) only [go_sem, Nat.reduceAdd, Nat.reduceSub, Nat.reduceLeDiff, Nat.reduceLT, Int.reduceLE, Int.reduceLT, Int.reduceToNat, BitVec.reduceOfInt, ↓reduceIte, hn, hf, hw]
    with_reducible refine hK _ ?_
    clear hK K
    refine nx_then ?_
    refine awp_retP rfl ?_
    simp (disch := omega) only [pureQ, resA, resAL, resA1, Tryd.f68, go_sem, Nat.reduceLeDiff, ↓reduceIte, ldV, imm_c8, hs]
  · cases hg
theorem ok68 : EntOK Tryd.prog GLh 68 (.pure true rsecretG) := ⟨⟨_, Tryd.func68, rfl, rfl⟩, rsecret_ok⟩
end Go.AX
