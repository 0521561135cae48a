/-
  Digest, part F: slices.Grow from nothing, slices.Concat. Digest, part G: a name's hash, as the program and the reference tell it. Digest, part H: twenty bytes as digits of five bits, as the program and the reference tell them. Digest, part I: names that are light, names that are alike, owners of hashes. Digest, part J: the statements of layer 9, walked: tags, hashes, owners. Digest, part K: the statements of layer 9, walked: keys, great data.
-/
import Derived.Test.YtnnkmoaipcdhnaaDoorBI
namespace Go.AX
open Go Go.Proofs

/-- What an own row holds past a length may be forgotten. -/
theorem Inv.trunc {c : Ctx} {σ : Nat → Loc} {I : Nat → Prop} {w : World} {hp : H} {un : Nat → Prop} (h : Inv c σ I w hp un) {i : Nat} {xs : List AV} (ho : hp i = some (.cells xs true)) (k : Nat) :
    Inv c σ I w (upd hp i (.cells (xs.take k) true)) un := by
  have get : ∀ id o, upd hp i (.cells (xs.take k) true) id = some o → (id = i ∧ o = .cells (xs.take k) true) ∨ (id ≠ i ∧ hp id = some o) := by
    intro id o h
    simp only [upd] at h
    split at h
    · rename_i e; exact .inl ⟨e, (Option.some.inj h).symm⟩
    · rename_i e; exact .inr ⟨e, h⟩
  refine { h with own := fun id o h1 => ?_, inj := fun id id' ys o' blk base sz base' sz' h1 h2 hne hs => ?_, lim := fun id ys blk base sz h1 hs => ?_ }
  · rcases get id o h1 with ⟨rfl, rfl⟩ | ⟨_, h2⟩
    · have h3 := h.own id _ ho
      simp only [OwnRel] at h3 ⊢
      cases e : σ id with
      | unset => simp only [e] at h3
      | nil => simp only [e] at h3 ⊢; subst h3; exact List.take_nil
      | at_ blk base sz =>
        simp only [e] at h3 ⊢
        obtain ⟨⟨⟨cs, T, lo, hi, q1, q2, q3, q4, q5⟩, q6⟩, q7⟩ := h3
        have hl : (xs.take k).length ≤ xs.length := by rw [List.length_take]; omega
        refine ⟨⟨⟨cs, T, lo, hi, q1, q2, by omega, q4, fun i hi' => ?_⟩, fun i hi' => ?_⟩, q7⟩
        · rw [List.getElem_take]; exact q5 i (by omega)
        · rw [List.getElem_take]; exact q6 i (by omega)
    · exact h.own id o h2
  · rcases get id _ h1 with ⟨rfl, e1⟩ | ⟨_, h3⟩
    · rcases get id' _ h2 with ⟨e2, _⟩ | ⟨_, h4⟩
      · exact absurd e2.symm hne
      · exact h.inj id id' xs o' blk base sz base' sz' ho h4 hne hs
    · rcases get id' _ h2 with ⟨rfl, _⟩ | ⟨_, h4⟩
      · exact h.inj id id' ys _ blk base sz base' sz' h3 ho hne hs
      · exact h.inj id id' ys o' blk base sz base' sz' h3 h4 hne hs
  · rcases get id _ h1 with ⟨rfl, _⟩ | ⟨_, h3⟩
    · exact h.lim id xs blk base sz ho hs
    · exact h.lim id ys blk base sz h3 hs
theorem awp_trunc {P : Program} {GL : Nat → Option (List AV)} {nt : Nat} {code : Code} {Q : Exit → S → Prop} {fr : List (Nat × AV)} {hp : H} {nx cx : Nat} (i k : Nat) (xs : List AV) (ho : hp i = some (.cells xs true))
    (h : Awp P GL nt code { fr := fr, hp := upd hp i (.cells (xs.take k) true), nx := nx, cx := cx } Q) : Awp P GL nt code { fr := fr, hp := hp, nx := nx, cx := cx } Q := by
  intro c h1 h2 σ0 I0 w0 a w hR
  refine h c h1 h2 σ0 I0 w0 a w ?_
  obtain ⟨⟨σ, I, a1, a2, a3⟩, b, d, e1, e0⟩ := hR
  exact ⟨⟨σ, I, a1.trunc ho k, a2, a3⟩, b, d, e1, e0⟩

def growG : List AV → H → Nat → Option (AV × H × Nat)
  | [.v (.slice none 0 0), .i n], hp, nx => guardO (0 < n ∧ n ≤ 1000000) (some (.os (nx + 1 + 2 + 8 + 2 + 5) 0 0 1 true, upd hp (nx + 1 + 2 + 8 + 2 + 5) (.cells [] true), nx + 1 + 2 + 8 + 2 + 10 + 2))
  | _, _, _ => none
theorem growG_eq (n : Int) (hp : H) (nx : Nat) : growG [.v (.slice none 0 0), .i n] hp nx = guardO (0 < n ∧ n ≤ 1000000) (some (.os (nx + 1 + 2 + 8 + 2 + 5) 0 0 1 true, upd hp (nx + 1 + 2 + 8 + 2 + 5) (.cells [] true), nx + 1 + 2 + 8 + 2 + 10 + 2)) := (rfl)
attribute [go_sem] growG_eq slF_nil

set_option maxHeartbeats 1000000 in
theorem grow_ok : HeapOK Tryd.prog GLh 85 growG := by
  refine heap_of_awp Tryd.func85 (bodyOf_some rfl) ?_
  intro args hp nx r hp' nx' hg
  unfold growG at hg
  split at hg
  · rename_i n
    replace hg := guardO_inv hg; obtain ⟨⟨h0, hbig⟩, hg⟩ := hg
    simp only [Option.some.injEq, Prod.mk.injEq] at hg; obtain ⟨rfl, rfl, rfl⟩ := hg
    refine ⟨Nat.le_of_ble_eq_true rfl, by omega, fun hnone => ?_⟩
    refine awp_seqP rfl ?_
    refine awp_regP (Γ := noEnv) [0, 1] (noEnv_ok _ _) rfl rfl rfl (fun K hK => ?_)
    simp only [Tryd.f85, bodyOf, Option.getD_some, cl, rOps, lights, light, rN, List.size_toArray, List.length_cons, List.length_nil, Nat.zero_add, List.map_cons, List.map_nil, Option.map_none]
    simp (maxSteps := 300000) (disch := omega) only [go_sem, ↓reduceIte]
    with_reducible refine hK _ ?_
    clear hK K
    refine nx_then ?_
    refine awp_seqP rfl ?_
    refine awp_seqP rfl ?_
    refine awp_regP (Γ := noEnv) [6, 0, 1] (noEnv_ok _ _) rfl rfl rfl (fun K hK => ?_)
    simp only [Tryd.f85, bodyOf, Option.getD_some, cl, cr, rOps, lights, light, rN, List.size_toArray, List.length_cons, List.length_nil, Nat.reduceAdd, Nat.zero_add, List.map_cons, List.map_nil, Option.map_none]
    simp (maxSteps := 300000) (disch := omega) only [go_sem, Nat.reduceAdd, ↓reduceIte]
    with_reducible refine hK _ ?_
    clear hK K
    refine nx_then ?_
    refine awp_ifD (.tmp 6) rfl rfl rfl (fun h => ?_) (fun h => ?_)
    · skip
      refine awp_drop rfl ?_
      omega
    · skip
      refine awp_drop rfl ?_
      have e1 : n - (0 - 0) = n := by omega
      refine awp_skipP rfl ?_
      refine nx_then ?_
      refine awp_seqP rfl ?_
      refine awp_seqP rfl ?_
      refine awp_regP (Γ := noEnv) [0, 1] (noEnv_ok _ _) rfl rfl rfl (fun K hK => ?_)
      simp only [Tryd.f85, bodyOf, Option.getD_some, cl, cr, rOps, lights, light, rN, List.size_toArray, List.length_cons, List.length_nil, Nat.reduceAdd, Nat.zero_add, List.map_cons, List.map_nil, Option.map_none]
      simp (maxSteps := 300000) (disch := omega) only [go_sem, Nat.reduceAdd, ↓reduceIte, Int.sub_zero]
      with_reducible refine hK _ ?_
      clear hK K
      refine nx_then ?_
      refine awp_seqP rfl ?_
      refine awp_regP (Γ := noEnv) [16, 0, 1] (noEnv_ok _ _) rfl rfl rfl (fun K hK => ?_)
      simp only [Tryd.f85, bodyOf, Option.getD_some, cl, cr, rOps, lights, light, rN, List.size_toArray, List.length_cons, List.length_nil, Nat.reduceAdd, Nat.zero_add, List.map_cons, List.map_nil, Option.map_none]
      simp (maxSteps := 300000) (disch := omega) only [go_sem, Nat.reduceAdd, ↓reduceIte]
      with_reducible refine hK _ ?_
      clear hK K
      refine nx_then ?_
      refine awp_ifD (.tmp 16) rfl rfl rfl (fun h => ?_) (fun h => ?_)
      · skip
        refine awp_drop rfl ?_
        refine awp_regP (Γ := noEnv) [0] (noEnv_ok _ _) rfl rfl rfl (fun K hK => ?_)
        simp only [Tryd.f85, bodyOf, Option.getD_some, cl, cr, rOps, lights, light, rN, List.size_toArray, List.length_cons, List.length_nil, Nat.reduceAdd, Nat.zero_add, List.map_cons, List.map_nil, Option.map_none]
        simp (maxSteps := 300000) (disch := omega) only [go_sem, Nat.reduceAdd, Nat.reduceSub, Nat.reduceLT, Int.reduceLE, Int.reduceToNat, ↓reduceIte]
        with_reducible refine hK _ ?_
        clear hK K
        refine nx_then ?_
        refine awp_trunc (nx + 1 + 2 + 8 + 2 + 5) 0 _ (by simp only [upd, ↓reduceIte]; rfl) ?_
        simp only [List.take_zero]
        refine awp_seqP rfl ?_
        refine awp_regP (Γ := noEnv) [4] (noEnv_ok _ _) rfl rfl rfl (fun K hK => ?_)
        simp only [Tryd.f85, bodyOf, Option.getD_some, cl, cr, rOps, lights, light, rN, List.size_toArray, List.length_cons, List.length_nil, Nat.reduceAdd, Nat.zero_add, List.map_cons, List.map_nil, Option.map_none]
        simp (maxSteps := 300000) (disch := omega) only [go_sem, Nat.reduceAdd, ↓reduceIte]
        with_reducible refine hK _ ?_
        clear hK K
        refine nx_then ?_
        refine awp_retP rfl ?_
        refine ⟨rfl, fun j o h => ?_, Nat.le_refl _⟩
        simp only at h ⊢
        grind [upd_apply]
      · skip
        refine awp_drop rfl ?_
        omega
  · cases hg
theorem ok85 : EntOK Tryd.prog GLh 85 (.heap growG) := ⟨⟨_, Tryd.func85, rfl, rfl⟩, grow_ok⟩

def flat (ps : List (List B8)) : List B8 := ps.flatten
theorem flat_take (ps : List (List B8)) (k : Nat) (h : k < ps.length) : flat (ps.take (k + 1)) = flat (ps.take k) ++ ps.getD k [] := by
  have e : ps.take (k + 1) = ps.take k ++ [ps.getD k []] := by rw [List.take_succ_eq_append_getElem h]; simp [List.getD, List.getElem?_eq_getElem h, -List.take_append_getElem]
  rw [e]; unfold flat; rw [List.flatten_append]; simp only [List.flatten_cons, List.flatten_nil, List.append_nil]
theorem flat_le (ps : List (List B8)) (k : Nat) : (flat (ps.take k)).length ≤ (flat ps).length := by
  have e : flat ps = flat (ps.take k) ++ flat (ps.drop k) := by unfold flat; rw [← List.flatten_append, List.take_append_drop]
  rw [e, List.length_append]; omega
theorem flat_mem (ps : List (List B8)) (k : Nat) (h : k < ps.length) : (flat (ps.take k)).length + (ps.getD k []).length ≤ (flat ps).length := by
  rw [← List.length_append, ← flat_take ps k h]; exact flat_le ps (k + 1)
def concatG : List AV → Option (Nat × Nat × List AV)
  | [.sl n xs] => obind (unP xs) fun ps => guardO (ps.length = n ∧ n ≤ 1000000 ∧ 0 < (flat ps).length ∧ (flat ps).length ≤ 1000000) (some ((flat ps).length, 1, c8 (flat ps)))
  | _ => none
theorem concatG_eq (n : Nat) (xs : List AV) : concatG [.sl n xs] = obind (unP xs) fun ps => guardO (ps.length = n ∧ n ≤ 1000000 ∧ 0 < (flat ps).length ∧ (flat ps).length ≤ 1000000) (some ((flat ps).length, 1, c8 (flat ps))) := (rfl)
attribute [go_sem] concatG_eq

set_option maxHeartbeats 1000000 in
theorem concat_ok : FreshOK Tryd.prog GLh 76 concatG := by
  refine fresh_of_awp Tryd.func76 (bodyOf_some rfl) ?_
  intro args r hg
  unfold concatG at hg
  split at hg
  · rename_i n xs
    replace hg := obind_inv hg; obtain ⟨ps, hb, hg⟩ := hg
    replace hg := guardO_inv hg; obtain ⟨⟨hn, hbig, hpos, hbig2⟩, hg⟩ := hg
    obtain rfl := Option.some.inj hg
    have := unP_inv hb; subst this
    subst hn
    clear hg hb
    refine ⟨Nat.le_of_ble_eq_true rfl, fun nx => ?_⟩
    refine awp_seqP rfl ?_
    refine awp_regP (Γ := noEnv) [0] (noEnv_ok _ _) rfl rfl rfl (fun K hK => ?_)
    simp only [Tryd.f76, bodyOf, Option.getD_some, cl, rOps, lights, light, rN, List.size_toArray, List.length_cons, List.length_nil, Nat.zero_add, List.map_cons, List.map_nil, Option.map_none]
    simp (maxSteps := 300000) (disch := omega) only [go_sem, ↓reduceIte]
    with_reducible refine hK _ ?_
    clear hK K
    refine nx_then ?_
    refine awp_seqP rfl ?_
    refine awp_regP (Γ := noEnv) [0, 3] (noEnv_ok _ _) rfl rfl rfl (fun K hK => ?_)
    simp only [Tryd.f76, bodyOf, Option.getD_some, cl, cr, rOps, lights, light, rN, List.size_toArray, List.length_cons, List.length_nil, Nat.zero_add, List.map_cons, List.map_nil, Option.map_none]
    simp (maxSteps := 300000) (disch := omega) only [go_sem, ↓reduceIte]
    with_reducible refine hK _ ?_
    clear hK K
    refine nx_then ?_
    refine awp_seqP rfl ?_
    refine awp_seqP rfl ?_
    refine awp_regP (Γ := noEnv) [0, 3, 9, 10, 11] (noEnv_ok _ _) rfl rfl rfl (fun K hK => ?_)
    simp only [Tryd.f76, bodyOf, Option.getD_some, cl, cr, rOps, lights, light, rN, List.size_toArray, List.length_cons, List.length_nil, Nat.reduceAdd, Nat.zero_add, List.map_cons, List.map_nil, Option.map_none]
    simp (maxSteps := 300000) (disch := omega) only [go_sem, Nat.reduceAdd, ↓reduceIte]
    with_reducible refine hK _ ?_
    clear hK K
    refine nx_then ?_
    refine awp_blockN 0 rfl rfl ?_
    refine awp_loopP (fun p : KC => { fr := [(0, .sl ps.length (cP ps)), (3, .i (flat (ps.take p.k)).length), (9, .sl ps.length (cP ps)), (10, .i ps.length), (11, .i p.k)], hp := fun _ => none, nx := 0, cx := p.c }) (fun p => p.k ≤ ps.length) (fun p => ps.length - p.k) rfl ⟨⟨0, _⟩, Nat.zero_le _, sub_same rfl rfl (Nat.le_refl _)⟩ ?_
    rintro ⟨k, c⟩ hk n0
    simp only at hk ⊢
    refine awp_seqP rfl ?_
    refine awp_regP (Γ := noEnv) [12, 0, 3, 9, 10, 11] (noEnv_ok _ _) rfl rfl rfl (fun K hK => ?_)
    simp only [Tryd.f76, bodyOf, Option.getD_some, cl, cr, rOps, lights, light, rN, List.size_toArray, List.length_cons, List.length_nil, Nat.zero_add, List.map_cons, List.map_nil, Option.map_none]
    simp (maxSteps := 300000) (disch := omega) only [go_sem, ↓reduceIte]
    with_reducible refine hK _ ?_
    clear hK K
    refine nx_then ?_
    refine awp_seqP rfl ?_
    refine awp_ifD (.tmp 12) rfl rfl rfl (fun h => ?_) (fun h => ?_)
    · skip
      refine awp_drop rfl ?_
      have hkl : k < ps.length := by omega
      have ht := flat_le ps k
      have hm := flat_mem ps k hkl
      have e6 := flat_take ps k hkl
      obtain ⟨l, hl⟩ : ∃ l, ps.getD k [] = l := ⟨_, rfl⟩
      rw [hl] at hm e6
      refine awp_skipP rfl ?_
      refine nx_then ?_
      refine awp_seqP rfl ?_
      refine awp_blockN 1 rfl rfl ?_
      refine awp_seqP rfl ?_
      refine awp_regP (Γ := noEnv) [0, 3, 5, 9, 10, 11] (noEnv_ok _ _) rfl rfl rfl (fun K hK => ?_)
      simp only [Tryd.f76, bodyOf, Option.getD_some, cl, cr, rOps, lights, light, rN, List.size_toArray, List.length_cons, List.length_nil, Nat.reduceAdd, Nat.zero_add, List.map_cons, List.map_nil, Option.map_none]
      simp (maxSteps := 300000) (disch := omega) only [go_sem, Nat.reduceAdd, ↓reduceIte, hl]
      with_reducible refine hK _ ?_
      clear hK K
      refine nx_then ?_
      refine awp_seqP rfl ?_
      refine awp_regP (Γ := noEnv) [0, 3, 9, 10, 11] (noEnv_ok _ _) rfl rfl rfl (fun K hK => ?_)
      simp only [Tryd.f76, bodyOf, Option.getD_some, cl, cr, rOps, lights, light, rN, List.size_toArray, List.length_cons, List.length_nil, Nat.reduceAdd, Nat.zero_add, List.map_cons, List.map_nil, Option.map_none]
      simp (maxSteps := 300000) (disch := omega) only [go_sem, Nat.reduceAdd, ↓reduceIte]
      with_reducible refine hK _ ?_
      clear hK K
      refine nx_then ?_
      refine awp_seqP rfl ?_
      refine awp_regP (Γ := noEnv) [20, 0, 3, 9, 10, 11] (noEnv_ok _ _) rfl rfl rfl (fun K hK => ?_)
      simp only [Tryd.f76, bodyOf, Option.getD_some, cl, cr, rOps, lights, light, rN, List.size_toArray, List.length_cons, List.length_nil, Nat.reduceAdd, Nat.zero_add, List.map_cons, List.map_nil, Option.map_none]
      simp (maxSteps := 300000) (disch := omega) only [go_sem, Nat.reduceAdd, ↓reduceIte]
      with_reducible refine hK _ ?_
      clear hK K
      refine nx_then ?_
      refine awp_ifD (.tmp 20) rfl rfl rfl (fun h => ?_) (fun h => ?_)
      · skip
        refine awp_drop rfl ?_
        omega
      · skip
        refine awp_drop rfl ?_
        refine awp_skipP rfl ?_
        refine nx_blk (nx_then ?_)
        refine awp_regP (Γ := noEnv) [0, 3, 9, 10, 11] (noEnv_ok _ _) rfl rfl rfl (fun K hK => ?_)
        simp only [Tryd.f76, bodyOf, Option.getD_some, cl, cr, rOps, lights, light, rN, List.size_toArray, List.length_cons, List.length_nil, Nat.reduceAdd, Nat.zero_add, List.map_cons, List.map_nil, Option.map_none]
        simp (maxSteps := 300000) (disch := omega) only [go_sem, Nat.reduceAdd, ↓reduceIte]
        with_reducible refine hK _ ?_
        clear hK K
        refine nx_loop ?_
        refine ⟨⟨k + 1, _⟩, by simp only; omega, by simp only; omega, sub_same ?_ rfl (Nat.le_refl _)⟩
        simp only [e6, List.length_append, Int.natCast_add, Int.natCast_one]
    · skip
      refine awp_drop rfl ?_
      refine awp_exitN 0 rfl rfl ?_
      refine nx_ex_then (nx_ex_loop (nx_ex_blk ?_))
      refine nx_then ?_
      refine awp_seqP rfl ?_
      obtain rfl : k = ps.length := by omega
      have e8 : ps.take ps.length = ps := List.take_length
      refine awp_regP (Γ := envL [(85, .heap growG)]) [0, 6] (envOK_cons ok85 envOK_nil) rfl rfl rfl (fun K hK => ?_)
      simp only [Tryd.f76, bodyOf, Option.getD_some, cl, cr, rOps, lights, light, rN, List.size_toArray, List.length_cons, List.length_nil, Nat.reduceAdd, Nat.zero_add, List.map_cons, List.map_nil, Option.map_none]
      simp (maxSteps := 300000) (disch := omega) only [go_sem, Nat.reduceAdd, ↓reduceIte, e8]
      with_reducible refine hK _ ?_
      clear hK K
      refine nx_then ?_
      refine awp_seqP rfl ?_
      refine awp_seqP rfl ?_
      refine awp_regP (Γ := noEnv) [6, 25, 26, 27] (noEnv_ok _ _) rfl rfl rfl (fun K hK => ?_)
      simp only [Tryd.f76, bodyOf, Option.getD_some, cl, cr, rOps, lights, light, rN, List.size_toArray, List.length_cons, List.length_nil, Nat.reduceAdd, Nat.zero_add, List.map_cons, List.map_nil, Option.map_none]
      simp (maxSteps := 300000) (disch := omega) only [go_sem, Nat.reduceAdd, ↓reduceIte]
      with_reducible refine hK _ ?_
      clear hK K
      refine nx_then ?_
      clear hk h
      refine awp_blockN 2 rfl rfl ?_
      refine awp_loopP (fun p : KIC => { fr := [(6, .os p.id 0 (flat (ps.take p.k)).length 1 true), (25, .sl ps.length (cP ps)), (26, .i ps.length), (27, .i p.k)], hp := upd (fun _ => none) p.id (.cells (c8 (flat (ps.take p.k))) true), nx := 0, cx := p.c }) (fun p => p.k ≤ ps.length ∧ p.id < p.c) (fun p => ps.length - p.k) rfl ⟨⟨0, _, _⟩, ⟨Nat.zero_le _, by simp only; omega⟩, sub_same rfl rfl (Nat.le_refl _)⟩ ?_
      rintro ⟨k, id, c⟩ ⟨hk, hid⟩ n0
      simp only at hk hid ⊢
      refine awp_seqP rfl ?_
      refine awp_regP (Γ := noEnv) [28, 6, 25, 26, 27] (noEnv_ok _ _) rfl rfl rfl (fun K hK => ?_)
      simp only [Tryd.f76, bodyOf, Option.getD_some, cl, cr, rOps, lights, light, rN, List.size_toArray, List.length_cons, List.length_nil, Nat.zero_add, List.map_cons, List.map_nil, Option.map_none]
      simp (maxSteps := 300000) (disch := omega) only [go_sem, ↓reduceIte]
      with_reducible refine hK _ ?_
      clear hK K
      refine nx_then ?_
      refine awp_seqP rfl ?_
      refine awp_ifD (.tmp 28) rfl rfl rfl (fun h => ?_) (fun h => ?_)
      · skip
        refine awp_drop rfl ?_
        have hkl : k < ps.length := by omega
        have ht := flat_le ps k
        have hm := flat_mem ps k hkl
        have e6 := flat_take ps k hkl
        obtain ⟨l, hl⟩ : ∃ l, ps.getD k [] = l := ⟨_, rfl⟩
        rw [hl] at hm e6
        have e7 : (flat (ps.take (k + 1))).length = (flat (ps.take k)).length + l.length := by rw [e6, List.length_append]
        refine awp_skipP rfl ?_
        refine nx_then ?_
        refine awp_seqP rfl ?_
        refine awp_blockN 3 rfl rfl ?_
        refine awp_seqP rfl ?_
        refine awp_regP (Γ := noEnv) [6, 8, 25, 26, 27] (noEnv_ok _ _) rfl rfl rfl (fun K hK => ?_)
        simp only [Tryd.f76, bodyOf, Option.getD_some, cl, cr, rOps, lights, light, rN, List.size_toArray, List.length_cons, List.length_nil, Nat.reduceAdd, Nat.zero_add, List.map_cons, List.map_nil, Option.map_none]
        simp (maxSteps := 300000) (disch := omega) only [go_sem, Nat.reduceAdd, ↓reduceIte, hl]
        with_reducible refine hK _ ?_
        clear hK K
        refine nx_then ?_
        refine awp_regP (Γ := noEnv) [6, 25, 26, 27] (noEnv_ok _ _) rfl rfl rfl (fun K hK => ?_)
        simp only [Tryd.f76, bodyOf, Option.getD_some, cl, cr, rOps, lights, light, rN, List.size_toArray, List.length_cons, List.length_nil, Nat.reduceAdd, Nat.zero_add, List.map_cons, List.map_nil, Option.map_none]
        simp (maxSteps := 300000) (disch := omega) only [go_sem, Nat.reduceAdd, Nat.reduceLT, ↓reduceIte]
        with_reducible refine hK _ ?_
        clear hK K
        refine nx_blk (nx_then ?_)
        refine awp_regP (Γ := noEnv) [6, 25, 26, 27] (noEnv_ok _ _) rfl rfl rfl (fun K hK => ?_)
        simp only [Tryd.f76, bodyOf, Option.getD_some, cl, cr, rOps, lights, light, rN, List.size_toArray, List.length_cons, List.length_nil, Nat.reduceAdd, Nat.zero_add, List.map_cons, List.map_nil, Option.map_none]
        simp (maxSteps := 300000) (disch := omega) only [go_sem, Nat.reduceAdd, ↓reduceIte]
        with_reducible refine hK _ ?_
        clear hK K
        refine nx_loop ?_
        trace_state
        refine ⟨⟨k + 1, c + 1 + 3 + 2, _⟩, ⟨by simp only; omega, by simp only; omega⟩, by simp only; omega, ⟨fun _ => .inr ?_, fun j o h => ?_, Nat.le_refl _⟩⟩
        · simp only [e7, Int.natCast_add, Int.natCast_one]
        · simp only at h
          exact hsub_cons (by simp (disch := omega) only [up_app, ↓reduceIte, eq_self, e6]) (hsub_nil) j o h
      · skip
        refine awp_drop rfl ?_
        refine awp_exitN 2 rfl rfl ?_
        refine nx_ex_then (nx_ex_loop (nx_ex_blk ?_))
        refine nx_then ?_
        refine awp_seqP rfl ?_
        obtain rfl : k = ps.length := by omega
        refine awp_regP (Γ := noEnv) [2] (noEnv_ok _ _) rfl rfl rfl (fun K hK => ?_)
        simp only [Tryd.f76, bodyOf, Option.getD_some, cl, cr, rOps, lights, light, rN, List.size_toArray, List.length_cons, List.length_nil, Nat.reduceAdd, Nat.zero_add, List.map_cons, List.map_nil, Option.map_none]
        simp (maxSteps := 300000) (disch := omega) only [go_sem, Nat.reduceAdd, ↓reduceIte, e8]
        with_reducible refine hK _ ?_
        clear hK K
        refine nx_then ?_
        refine awp_retP rfl ?_
        simp (disch := omega) only [freshQ, freshR, resA, resAL, resA1, Tryd.f76, go_sem, ↓reduceIte, c8_noOwn]
  · cases hg
theorem ok76 : EntOK Tryd.prog GLh 76 (.fresh true concatG) := ⟨⟨_, Tryd.func76, rfl, rfl⟩, concat_ok⟩
end Go.AX

namespace Go.AX
open Go Go.Proofs

/-- The sums, one out of the other. -/
def iterL (ps : List (List B8)) (salt : List B8) : Nat → List B8
  | 0 => sumL (nameD ps salt)
  | k + 1 => sumL ((iterL ps salt k).take 20 ++ salt)
theorem iterL_zero (ps : List (List B8)) (d : List B8) : iterL ps d 0 = sumL (wireL (lowS ps) ++ d) := by rw [iterL, nameD]
theorem iterL_succ (ps : List (List B8)) (d : List B8) (i : Nat) : iterL ps d (i + 1) = sumL ((iterL ps d i).take 20 ++ d) := by rw [iterL]
theorem iterL_len (ps : List (List B8)) (salt : List B8) (k : Nat) : (iterL ps salt k).length = 32 := by cases k <;> exact sumL_len _
def times (n : Int) : Nat := if n ≤ 0 then 0 else if 50 ≤ n then 50 else n.toNat
def hashV (ps : List (List B8)) (salt : List B8) (n : Int) : List B8 := (iterL ps salt (times n)).take 20
theorem hashV_eq (ps : List (List B8)) (d : List B8) (n : Int) : hashV ps d n = (iterL ps d (times n)).take 20 := by rw [hashV]
theorem hashV_len (ps : List (List B8)) (salt : List B8) (n : Int) : (hashV ps salt n).length = 20 := by rw [hashV, List.length_take, iterL_len]; rfl
def hashG : List AV → Option AV
  | [.sl n xs, .sl m ys, .i k] => obind (unS xs) fun ps => obind (un8 ys) fun d => guardO (ps.length = n ∧ (wirB ps).length ≤ 100000 ∧ d.length = m ∧ m ≤ 60000) (some (.agg (c8 (hashV ps d k))))
  | _ => none
theorem hashG_eq (n m : Nat) (xs ys : List AV) (k : Int) : hashG [.sl n xs, .sl m ys, .i k] = obind (unS xs) fun ps => obind (un8 ys) fun d => guardO (ps.length = n ∧ (wirB ps).length ≤ 100000 ∧ d.length = m ∧ m ≤ 60000) (some (.agg (c8 (hashV ps d k)))) := (rfl)
attribute [go_sem] hashG_eq
theorem times_eq (k : Int) : (if 50 < (if k < 0 then 0 else k) then 50 else (if k < 0 then 0 else k)) = (times k : Int) := by
  unfold times
  by_cases h0 : k < 0
  · simp only [h0, if_true, show k ≤ 0 by omega]; rfl
  · by_cases h1 : k ≤ 0
    · obtain rfl : k = 0 := by omega
      rfl
    · by_cases h2 : 50 < k
      · simp only [h0, h1, h2, if_true, if_false, show (50 : Int) ≤ k by omega]; rfl
      · by_cases h3 : (50 : Int) ≤ k
        · simp only [h0, h1, h2, h3, if_true, if_false]; omega
        · simp only [h0, h1, h2, h3, if_false]; omega
theorem max_i (a b : Int) : max2A (.i a) (.i b) = some (.i (if a < b then b else a)) := (rfl)
theorem min_i (a b : Int) : min2A (.i a) (.i b) = some (.i (if b < a then b else a)) := (rfl)
theorem times_le (k : Int) : times k ≤ 50 := by unfold times; split <;> (try split) <;> omega
theorem ea_min {P : Program} {Γ : Env} {ρ : Operand → AV} {m nx n id cx : Nat} {hp : H} {x y : Operand} {ats : Array TypeId} : eff P Γ (.call { callee := .builtin .min, args := #[x, y], argTypes := ats }) ρ m nx n hp id cx = obind (min2A (ρ x) (ρ y)) fun y => some (y, hp, cx) := (rfl)
theorem ea_max {P : Program} {Γ : Env} {ρ : Operand → AV} {m nx n id cx : Nat} {hp : H} {x y : Operand} {ats : Array TypeId} : eff P Γ (.call { callee := .builtin .max, args := #[x, y], argTypes := ats }) ρ m nx n hp id cx = obind (max2A (ρ x) (ρ y)) fun y => some (y, hp, cx) := (rfl)
attribute [go_sem] ea_min ea_max max_i min_i

theorem awp_hp {P : Program} {GL : Nat → Option (List AV)} {nt : Nat} {code : Code} {Q : Exit → S → Prop} {fr : List (Nat × AV)} {hp hp' : H} {nx cx : Nat} (hs : ∀ j o, hp' j = some o → hp j = some o)
    (h : Awp P GL nt code { fr := fr, hp := hp', nx := nx, cx := cx } Q) : Awp P GL nt code { fr := fr, hp := hp, nx := nx, cx := cx } Q := awp_sub h ⟨fun _ => .inr rfl, hs, Nat.le_refl _⟩ rfl

set_option maxHeartbeats 1000000 in
theorem hash_ok : PureOK Tryd.prog GLh 45 hashG := by
  refine pure_of_awp Tryd.func45 (bodyOf_some rfl) ?_
  intro args r hg
  unfold hashG at hg
  split at hg
  · rename_i n xs m ys k
    replace hg := obind_inv hg; obtain ⟨ps, hb, hg⟩ := hg
    replace hg := obind_inv hg; obtain ⟨d, hb2, hg⟩ := hg
    replace hg := guardO_inv hg; obtain ⟨⟨hn, hbig, hm, hbig2⟩, hg⟩ := hg
    obtain rfl := Option.some.inj hg
    have := unS_inv hb; subst this
    have := un8_inv _ hb2; subst this
    subst hn; subst hm
    clear hg hb hb2
    refine ⟨Nat.le_of_ble_eq_true rfl, fun nx => ?_⟩
    have hpn := wirB_ge ps
    have hll := lowS_len ps
    have hwl := wireL_len ps
    have hwb := wirB_low ps
    obtain ⟨tx, htx⟩ : ∃ tx, wireL (lowS ps) ++ d = tx := ⟨_, rfl⟩
    have htl : tx.length = (wirB ps).length + 1 + d.length := by rw [← htx, List.length_append, hwl]
    have htk : tx.take ((wirB ps).length + 1 + d.length) = tx := List.take_of_length_le (by omega)
    have hs := sumL_len tx
    refine awp_seqP rfl ?_
    refine awp_regP (Γ := noEnv) [0, 1, 2, 6] (noEnv_ok _ _) rfl rfl rfl (fun K hK => ?_)
    simp only [Tryd.f45, bodyOf, Option.getD_some, cl, rOps, lights, light, rN, List.size_toArray, List.length_cons, List.length_nil, Nat.zero_add, List.map_cons, List.map_nil, Option.map_none]
    simp (maxSteps := 300000) (disch := omega) only [go_sem, Nat.reduceAdd, ↓reduceIte]
    with_reducible refine hK _ ?_
    clear hK K
    refine nx_then ?_
    refine awp_seqP rfl ?_
    refine awp_regP (Γ := envL [(72, .fresh true lowerG), (71, .fresh true wireG), (22, .pure true sumG)]) [1, 2, 6, 7] (envOK_cons ok72 (envOK_cons ok71 (envOK_cons ok22 envOK_nil))) rfl rfl rfl (fun K hK => ?_)
    simp only [Tryd.f45, bodyOf, Option.getD_some, cl, cr, rOps, lights, light, rN, List.size_toArray, List.length_cons, List.length_nil, Nat.reduceAdd, Nat.zero_add, List.map_cons, List.map_nil, Option.map_none]
    simp (maxSteps := 300000) (disch := omega) only [go_sem, Nat.reduceAdd, Nat.reduceLeDiff, Nat.reduceLT, ↓reduceIte, hwl, htx, htl, htk]
    with_reducible refine hK _ ?_
    clear hK K
    refine nx_then ?_
    obtain ⟨it, it0, its, itl, itv⟩ : ∃ it : Nat → List B8, it 0 = sumL tx ∧ (∀ i, it (i + 1) = sumL ((it i).take 20 ++ d)) ∧ (∀ i, (it i).length = 32) ∧ hashV ps d k = (it (times k)).take 20 :=
      ⟨iterL ps d, by rw [← htx]; exact iterL_zero ps d, iterL_succ ps d, iterL_len ps d, hashV_eq ps d k⟩
    have hte := times_eq k
    have htt := times_le k
    refine awp_seqP rfl ?_
    refine awp_seqP rfl ?_
    refine awp_regP (Γ := noEnv) [1, 6, 7, 16, 17] (noEnv_ok _ _) rfl rfl rfl (fun K hK => ?_)
    simp only [Tryd.f45, bodyOf, Option.getD_some, cl, cr, rOps, lights, light, rN, List.size_toArray, List.length_cons, List.length_nil, Nat.reduceAdd, Nat.zero_add, List.map_cons, List.map_nil, Option.map_none]
    simp (maxSteps := 300000) (disch := omega) only [go_sem, Nat.reduceAdd, ↓reduceIte, hte]
    with_reducible refine hK _ ?_
    clear hK K
    refine nx_then ?_
    refine awp_hp (hp' := upd (upd (fun _ => none) nx (.cells (c8 (List.replicate 20 0#8)) true)) (nx + 1 + 6) (.cells (c8 (it 0)) true)) (fun j o h => ?_) ?_
    · simp only [it0] at h
      exact hsub_cons (by simp (disch := omega) only [up_app, ↓reduceIte, eq_self]) (hsub_cons (by simp (disch := omega) only [up_app, de_app, nat_ne, ↓reduceIte, eq_self]) (hsub_nil)) j o h
    refine awp_blockN 0 rfl rfl ?_
    refine awp_loopP (fun p : KC => { fr := [(1, .sl d.length (c8 d)), (6, .op nx 0), (7, .op (nx + 1 + 6) 0), (16, .i (times k)), (17, .i p.k)], hp := upd (upd (fun _ => none) nx (.cells (c8 (List.replicate 20 0#8)) true)) (nx + 1 + 6) (.cells (c8 (it p.k)) true), nx := 0, cx := p.c }) (fun p => p.k ≤ times k ∧ nx + 1 + 6 < p.c) (fun p => times k - p.k) rfl ⟨⟨0, _⟩, ⟨Nat.zero_le _, by simp only; omega⟩, sub_same rfl rfl (Nat.le_refl _)⟩ ?_
    rintro ⟨i, c⟩ ⟨hi, hid⟩ n0
    simp only at hi hid ⊢
    have hsi := itl i
    refine awp_seqP rfl ?_
    refine awp_regP (Γ := noEnv) [18, 1, 6, 7, 16, 17] (noEnv_ok _ _) rfl rfl rfl (fun K hK => ?_)
    simp only [Tryd.f45, bodyOf, Option.getD_some, cl, cr, rOps, lights, light, rN, List.size_toArray, List.length_cons, List.length_nil, Nat.zero_add, List.map_cons, List.map_nil, Option.map_none]
    simp (maxSteps := 300000) (disch := omega) only [go_sem, ↓reduceIte]
    with_reducible refine hK _ ?_
    clear hK K
    refine nx_then ?_
    refine awp_seqP rfl ?_
    refine awp_ifD (.tmp 18) rfl rfl rfl (fun h => ?_) (fun h => ?_)
    · skip
      refine awp_drop rfl ?_
      have hsj := itl (i + 1)
      have ht20 : ((it i).take 20).length = 20 := by rw [List.length_take, hsi]; rfl
      obtain ⟨tt, htt2⟩ : ∃ tt, flat [(it i).take 20, d] = tt := ⟨_, rfl⟩
      have htl2 : tt.length = 20 + d.length := by rw [← htt2]; simp [flat, ht20]
      have hsu : sumL tt = it (i + 1) := by rw [its, ← htt2]; simp [flat]
      refine awp_skipP rfl ?_
      refine nx_then ?_
      refine awp_seqP rfl ?_
      refine awp_blockN 1 rfl rfl ?_
      refine awp_regP (Γ := envL [(76, .fresh true concatG), (22, .pure true sumG)]) [1, 6, 7, 16, 17] (envOK_cons ok76 (envOK_cons ok22 envOK_nil)) rfl rfl rfl (fun K hK => ?_)
      simp only [Tryd.f45, bodyOf, Option.getD_some, cl, cr, rOps, lights, light, rN, List.size_toArray, List.length_cons, List.length_nil, Nat.reduceAdd, Nat.zero_add, List.map_cons, List.map_nil, Option.map_none]
      simp (maxSteps := 300000) (disch := omega) only [go_sem, Nat.reduceAdd, Nat.reduceSub, Nat.reduceLeDiff, Nat.reduceLT, Int.reduceLE, Int.reduceToNat, ↓reduceIte, hsi, ht20, htt2, htl2, hsu]
      with_reducible refine hK _ ?_
      clear hK K
      refine nx_blk (nx_then ?_)
      refine awp_regP (Γ := noEnv) [1, 6, 7, 16, 17] (noEnv_ok _ _) rfl rfl rfl (fun K hK => ?_)
      simp only [Tryd.f45, bodyOf, Option.getD_some, cl, cr, rOps, lights, light, rN, List.size_toArray, List.length_cons, List.length_nil, Nat.reduceAdd, Nat.zero_add, List.map_cons, List.map_nil, Option.map_none]
      simp (maxSteps := 300000) (disch := omega) only [go_sem, Nat.reduceAdd, ↓reduceIte]
      with_reducible refine hK _ ?_
      clear hK K
      refine nx_loop ?_
      refine ⟨⟨i + 1, _⟩, ⟨by simp only; omega, by simp only; omega⟩, by simp only; omega, ⟨fun _ => .inr ?_, fun j o h => ?_, Nat.le_refl _⟩⟩
      · simp only [Int.natCast_add, Int.natCast_one]
      · simp only at h
        exact hsub_cons (by simp (disch := omega) only [up_app, ↓reduceIte, eq_self]) (hsub_cons (by simp (disch := omega) only [up_app, nat_ne, ↓reduceIte, eq_self]) (hsub_nil)) j o h
    · skip
      refine awp_drop rfl ?_
      refine awp_exitN 0 rfl rfl ?_
      refine nx_ex_then (nx_ex_loop (nx_ex_blk ?_))
      refine nx_then ?_
      refine awp_seqP rfl ?_
      obtain rfl : i = times k := by omega
      have itv2 := itv.symm
      have hvl := hashV_len ps d k
      refine awp_regP (Γ := noEnv) [6] (noEnv_ok _ _) rfl rfl rfl (fun K hK => ?_)
      simp only [Tryd.f45, bodyOf, Option.getD_some, cl, cr, rOps, lights, light, rN, List.size_toArray, List.length_cons, List.length_nil, Nat.reduceAdd, Nat.zero_add, List.map_cons, List.map_nil, Option.map_none]
      simp (maxSteps := 300000) (disch := omega) only [go_sem, Nat.reduceAdd, Nat.reduceSub, Nat.reduceLeDiff, Int.reduceLE, Int.reduceToNat, ↓reduceIte, hsi, itv2, hvl]
      with_reducible refine hK _ ?_
      clear hK K
      refine nx_then ?_
      refine awp_retP rfl ?_
      simp (disch := omega) only [pureQ, resA, resAL, resA1, Tryd.f45, go_sem, ↓reduceIte, ldV, imm_c8]
  · cases hg
theorem ok45 : EntOK Tryd.prog GLh 45 (.pure true hashG) := ⟨⟨_, Tryd.func45, rfl, rfl⟩, hash_ok⟩

set_option maxHeartbeats 1000000 in
theorem rhash_ok : PureOK Tryd.prog GLh 46 hashG := by
  refine pure_of_awp Tryd.func46 (bodyOf_some rfl) ?_
  intro args r hg
  unfold hashG at hg
  split at hg
  · rename_i n xs m ys k
    replace hg := obind_inv hg; obtain ⟨ps, hb, hg⟩ := hg
    replace hg := obind_inv hg; obtain ⟨d, hb2, hg⟩ := hg
    replace hg := guardO_inv hg; obtain ⟨⟨hn, hbig, hm, hbig2⟩, hg⟩ := hg
    obtain rfl := Option.some.inj hg
    have := unS_inv hb; subst this
    have := un8_inv _ hb2; subst this
    subst hn; subst hm
    clear hg hb hb2
    refine ⟨Nat.le_of_ble_eq_true rfl, fun nx => ?_⟩
    have hpn := wirB_ge ps
    have hll := lowS_len ps
    have hwl := wireL_len ps
    have hwb := wirB_low ps
    obtain ⟨tx, htx⟩ : ∃ tx, wireL (lowS ps) ++ d = tx := ⟨_, rfl⟩
    have htl : tx.length = (wirB ps).length + 1 + d.length := by rw [← htx, List.length_append, hwl]
    have htk : tx.take ((wirB ps).length + 1 + d.length) = tx := List.take_of_length_le (by omega)
    have hs := sumL_len tx
    obtain ⟨it, it0, its, itl, itv⟩ : ∃ it : Nat → List B8, it 0 = sumL tx ∧ (∀ i, it (i + 1) = sumL ((it i).take 20 ++ d)) ∧ (∀ i, (it i).length = 32) ∧ hashV ps d k = (it (times k)).take 20 :=
      ⟨iterL ps d, by rw [← htx]; exact iterL_zero ps d, iterL_succ ps d, iterL_len ps d, hashV_eq ps d k⟩
    have hte := times_eq k
    have htt := times_le k
    refine awp_seqP rfl ?_
    refine awp_regP (Γ := noEnv) [0, 1, 2, 6] (noEnv_ok _ _) rfl rfl rfl (fun K hK => ?_)
    simp only [Tryd.f46, bodyOf, Option.getD_some, cl, rOps, lights, light, rN, List.size_toArray, List.length_cons, List.length_nil, Nat.zero_add, List.map_cons, List.map_nil, Option.map_none]
    simp (maxSteps := 300000) (disch := omega) only [go_sem, Nat.reduceAdd, ↓reduceIte]
    with_reducible refine hK _ ?_
    clear hK K
    refine nx_then ?_
    refine awp_seqP rfl ?_
    refine awp_regP (Γ := noEnv) [0, 1, 2, 6] (noEnv_ok _ _) rfl rfl rfl (fun K hK => ?_)
    simp only [Tryd.f46, bodyOf, Option.getD_some, cl, cr, rOps, lights, light, rN, List.size_toArray, List.length_cons, List.length_nil, Nat.reduceAdd, Nat.zero_add, List.map_cons, List.map_nil, Option.map_none]
    simp (maxSteps := 300000) (disch := omega) only [go_sem, Nat.reduceAdd, ↓reduceIte, hte]
    with_reducible refine hK _ ?_
    clear hK K
    refine nx_then ?_
    refine awp_seqP rfl ?_
    refine awp_regP (Γ := envL [(74, .fresh true lowerG), (73, .fresh true wireG), (23, .pure true ref2G)]) [1, 2, 6, 7] (envOK_cons ok74 (envOK_cons ok73 (envOK_cons ok23 envOK_nil))) rfl rfl rfl (fun K hK => ?_)
    simp only [Tryd.f46, bodyOf, Option.getD_some, cl, cr, rOps, lights, light, rN, List.size_toArray, List.length_cons, List.length_nil, Nat.reduceAdd, Nat.zero_add, List.map_cons, List.map_nil, Option.map_none]
    simp (maxSteps := 300000) (disch := omega) only [go_sem, Nat.reduceAdd, Nat.reduceLeDiff, Nat.reduceLT, ↓reduceIte, hwl, htx, htl, htk]
    with_reducible refine hK _ ?_
    clear hK K
    refine nx_then ?_
    refine awp_seqP rfl ?_
    refine awp_seqP rfl ?_
    refine awp_regP (Γ := noEnv) [1, 2, 6, 7, 8] (noEnv_ok _ _) rfl rfl rfl (fun K hK => ?_)
    simp only [Tryd.f46, bodyOf, Option.getD_some, cl, cr, rOps, lights, light, rN, List.size_toArray, List.length_cons, List.length_nil, Nat.zero_add, List.map_cons, List.map_nil, Option.map_none]
    simp (maxSteps := 300000) (disch := omega) only [go_sem, ↓reduceIte]
    with_reducible refine hK _ ?_
    clear hK K
    refine nx_then ?_
    trace_state
    refine awp_hp (hp' := upd (upd (fun _ => none) nx (.cells (c8 (List.replicate 20 0#8)) true)) (nx + 1 + 4 + 6) (.cells (c8 (it 0)) true)) (fun j o h => ?_) ?_
    · simp only [it0] at h
      exact hsub_cons (by simp (disch := omega) only [up_app, ↓reduceIte, eq_self]) (hsub_cons (by simp (disch := omega) only [up_app, de_app, nat_ne, ↓reduceIte, eq_self]) (hsub_nil)) j o h
    refine awp_blockN 0 rfl rfl ?_
    refine awp_loopP (fun p : KC => { fr := [(1, .sl d.length (c8 d)), (2, .i (times k)), (6, .op nx 0), (7, .op (nx + 1 + 4 + 6) 0), (8, .i p.k)], hp := upd (upd (fun _ => none) nx (.cells (c8 (List.replicate 20 0#8)) true)) (nx + 1 + 4 + 6) (.cells (c8 (it p.k)) true), nx := 0, cx := p.c }) (fun p => p.k ≤ times k ∧ nx + 1 + 4 + 6 < p.c) (fun p => times k - p.k) rfl ⟨⟨0, _⟩, ⟨Nat.zero_le _, by simp only; omega⟩, sub_same rfl rfl (Nat.le_refl _)⟩ ?_
    rintro ⟨i, c⟩ ⟨hi, hid⟩ n0
    simp only at hi hid ⊢
    have hsi := itl i
    refine awp_seqP rfl ?_
    refine awp_seqP rfl ?_
    refine awp_regP (Γ := noEnv) [20, 1, 2, 6, 7, 8] (noEnv_ok _ _) rfl rfl rfl (fun K hK => ?_)
    simp only [Tryd.f46, bodyOf, Option.getD_some, cl, cr, rOps, lights, light, rN, List.size_toArray, List.length_cons, List.length_nil, Nat.reduceAdd, Nat.zero_add, List.map_cons, List.map_nil, Option.map_none]
    simp (maxSteps := 300000) (disch := omega) only [go_sem, Nat.reduceAdd, ↓reduceIte]
    with_reducible refine hK _ ?_
    clear hK K
    refine nx_then ?_
    refine awp_ifD (.tmp 20) rfl rfl rfl (fun h => ?_) (fun h => ?_)
    · skip
      refine awp_drop rfl ?_
      have hsj := itl (i + 1)
      have ht20 : ((it i).take 20).length = 20 := by rw [List.length_take, hsi]; rfl
      obtain ⟨tt, htt2⟩ : ∃ tt, (it i).take 20 ++ d = tt := ⟨_, rfl⟩
      have htl2 : tt.length = 20 + d.length := by rw [← htt2, List.length_append, ht20]
      have htk2 : tt.take (20 + d.length) = tt := List.take_of_length_le (by omega)
      have hsu : sumL tt = it (i + 1) := by rw [its, ← htt2]
      refine awp_skipP rfl ?_
      refine nx_then ?_
      refine awp_seqP rfl ?_
      refine awp_blockN 1 rfl rfl ?_
      refine awp_regP (Γ := envL [(23, .pure true ref2G)]) [1, 2, 6, 7, 8] (envOK_cons ok23 envOK_nil) rfl rfl rfl (fun K hK => ?_)
      simp only [Tryd.f46, bodyOf, Option.getD_some, cl, cr, rOps, lights, light, rN, List.size_toArray, List.length_cons, List.length_nil, Nat.reduceAdd, Nat.zero_add, List.map_cons, List.map_nil, Option.map_none]
      simp (maxSteps := 300000) (disch := omega) only [go_sem, Nat.reduceAdd, Nat.reduceSub, Nat.reduceLeDiff, Nat.reduceLT, Int.reduceLE, Int.reduceToNat, ↓reduceIte, hsi, ht20, htt2, htl2, htk2, hsu]
      with_reducible refine hK _ ?_
      clear hK K
      refine nx_blk (nx_then ?_)
      refine awp_regP (Γ := noEnv) [1, 2, 6, 7, 8] (noEnv_ok _ _) rfl rfl rfl (fun K hK => ?_)
      simp only [Tryd.f46, bodyOf, Option.getD_some, cl, cr, rOps, lights, light, rN, List.size_toArray, List.length_cons, List.length_nil, Nat.reduceAdd, Nat.zero_add, List.map_cons, List.map_nil, Option.map_none]
      simp (maxSteps := 300000) (disch := omega) only [go_sem, Nat.reduceAdd, ↓reduceIte]
      with_reducible refine hK _ ?_
      clear hK K
      refine nx_loop ?_
      refine ⟨⟨i + 1, _⟩, ⟨by simp only; omega, by simp only; omega⟩, by simp only; omega, ⟨fun _ => .inr ?_, fun j o h => ?_, Nat.le_refl _⟩⟩
      · simp only [Int.natCast_add, Int.natCast_one]
      · simp only at h
        exact hsub_cons (by simp (disch := omega) only [up_app, ↓reduceIte, eq_self]) (hsub_cons (by simp (disch := omega) only [up_app, de_app, nat_ne, ↓reduceIte, eq_self]) (hsub_nil)) j o h
    · skip
      refine awp_drop rfl ?_
      refine awp_exitN 0 rfl rfl ?_
      refine nx_ex_then (nx_ex_loop (nx_ex_blk ?_))
      refine nx_then ?_
      refine awp_seqP rfl ?_
      obtain rfl : i = times k := by omega
      have itv2 := itv.symm
      have hvl := hashV_len ps d k
      refine awp_regP (Γ := noEnv) [6] (noEnv_ok _ _) rfl rfl rfl (fun K hK => ?_)
      simp only [Tryd.f46, bodyOf, Option.getD_some, cl, cr, rOps, lights, light, rN, List.size_toArray, List.length_cons, List.length_nil, Nat.reduceAdd, Nat.zero_add, List.map_cons, List.map_nil, Option.map_none]
      simp (maxSteps := 300000) (disch := omega) only [go_sem, Nat.reduceAdd, Nat.reduceSub, Nat.reduceLeDiff, Int.reduceLE, Int.reduceToNat, ↓reduceIte, hsi, itv2, hvl]
      with_reducible refine hK _ ?_
      clear hK K
      refine nx_then ?_
      refine awp_retP rfl ?_
      simp (disch := omega) only [pureQ, resA, resAL, resA1, Tryd.f46, go_sem, ↓reduceIte, ldV, imm_c8]
  · cases hg
theorem ok46 : EntOK Tryd.prog GLh 46 (.pure true hashG) := ⟨⟨_, Tryd.func46, rfl, rfl⟩, rhash_ok⟩
end Go.AX

namespace Go.AX
open Go Go.Proofs

def tblL : List B8 := [48#8, 49#8, 50#8, 51#8, 52#8, 53#8, 54#8, 55#8, 56#8, 57#8, 97#8, 98#8, 99#8, 100#8, 101#8, 102#8, 103#8, 104#8, 105#8, 106#8, 107#8, 108#8, 109#8, 110#8, 111#8, 112#8, 113#8, 114#8, 115#8, 116#8, 117#8, 118#8]
theorem tblL_len : tblL.length = 32 := rfl
/-- The byte ahead of the k-th. -/
def prevB (b : List B8) : Nat → B8
  | 0 => 0#8
  | k + 1 => b.getD k 0#8
/-- What is read of at the k-th byte. -/
def hxW (b : List B8) (k : Nat) : BitVec 32 := ((prevB b k).setWidth 32 &&& 31#32) <<< 8 ||| (b.getD k 0#8).setWidth 32
/-- The digit that ends s bits ahead of the k-th byte's end. -/
def hxD (b : List B8) (k s : Nat) : Nat := ((hxW b k) >>> s &&& 31#32).toNat
theorem hxD_lt (b : List B8) (k s : Nat) : hxD b k s < 32 := by
  unfold hxD
  rw [BitVec.toNat_and]
  exact Nat.lt_of_le_of_lt Nat.and_le_right (by decide)
/-- The first digits, j of them. -/
def hxL (b : List B8) : Nat → List B8
  | 0 => []
  | j + 1 => hxL b j ++ [tblL.getD (hxD b ((5 * (j + 1) - 1) / 8) (8 * ((5 * (j + 1) - 1) / 8 + 1) - 5 * (j + 1))) 0#8]
theorem hxL_len (b : List B8) (j : Nat) : (hxL b j).length = j := by
  induction j with
  | zero => rfl
  | succ j ih => simp [hxL, ih]
theorem hxL_next (b : List B8) (k j : Nat) (h1 : 8 * k < 5 * (j + 1)) (h2 : 5 * (j + 1) ≤ 8 * (k + 1)) : hxL b (j + 1) = hxL b j ++ [tblL.getD (hxD b k (8 * (k + 1) - 5 * (j + 1))) 0#8] := by
  have e : (5 * (j + 1) - 1) / 8 = k := by omega
  rw [hxL, e]
def hexG : List AV → Option AV
  | [.sl n xs] => obind (un8 xs) fun b => guardO (b.length = n ∧ n = 20) (some (.s (hxL b 32)))
  | _ => none
theorem hexG_eq (n : Nat) (xs : List AV) : hexG [.sl n xs] = obind (un8 xs) fun b => guardO (b.length = n ∧ n = 20) (some (.s (hxL b 32))) := (rfl)
def texG : List AV → Option AV
  | [.sl n xs, .i k] => obind (un8 xs) fun b => guardO (b.length = n ∧ n = 20 ∧ k = 5) (some (.s (hxL b 32)))
  | _ => none
theorem texG_eq (n : Nat) (xs : List AV) (k : Int) : texG [.sl n xs, .i k] = obind (un8 xs) fun b => guardO (b.length = n ∧ n = 20 ∧ k = 5) (some (.s (hxL b 32))) := (rfl)
attribute [go_sem] hexG_eq texG_eq
/-- The number as the program has it: nothing is struck out. -/
def hxN (b : List B8) : Nat → BitVec 32
  | 0 => 0#32
  | k + 1 => hxN b k <<< 8 ||| (b.getD k 0#8).setWidth 32
theorem g31 (j : Nat) : (31#32).getLsbD j = decide (j < 5) := by
  by_cases h : j < 32
  · exact (by decide : ∀ j : Fin 32, (31#32).getLsbD j.1 = decide (j.1 < 5)) ⟨j, h⟩
  · rw [BitVec.getLsbD_of_ge _ _ (by omega)]; simp; omega
theorem dig_same (n m : BitVec 32) (x : B8) (s : Nat) (hs : s ≤ 8) (h : n &&& 31#32 = m &&& 31#32) : (n <<< 8 ||| x.setWidth 32) >>> s &&& 31#32 = ((m &&& 31#32) <<< 8 ||| x.setWidth 32) >>> s &&& 31#32 := by
  apply BitVec.eq_of_getLsbD_eq
  intro i hi
  simp only [BitVec.getLsbD_and, BitVec.getLsbD_ushiftRight, BitVec.getLsbD_or, BitVec.getLsbD_shiftLeft, g31]
  by_cases h5 : i < 5
  · by_cases h8 : s + i < 8
    · simp [h8]
    · have hb := congrArg (·.getLsbD (s + i - 8)) h
      simp only [BitVec.getLsbD_and, g31, show s + i - 8 < 5 by omega, decide_true, Bool.and_true] at hb
      simp only [show s + i - 8 < 5 by omega, decide_true, Bool.and_true, hb]
  · simp [h5]
theorem hxN_low (b : List B8) (k : Nat) : hxN b k &&& 31#32 = (prevB b k).setWidth 32 &&& 31#32 := by
  cases k with
  | zero => rfl
  | succ k =>
    apply BitVec.eq_of_getLsbD_eq
    intro i hi
    simp only [hxN, prevB, BitVec.getLsbD_and, BitVec.getLsbD_or, BitVec.getLsbD_shiftLeft, g31]
    by_cases h5 : i < 5
    · simp [show i < 8 by omega]
    · simp [h5]
theorem hxN_dig (b : List B8) (k s : Nat) (hs : s ≤ 8) : (hxN b (k + 1) >>> s &&& 31#32).toNat = hxD b k s := by
  unfold hxD hxW
  rw [hxN, dig_same _ _ _ _ hs (hxN_low b k)]
theorem tbl_val : ofV (Value.string { data := #[48, 49, 50, 51, 52, 53, 54, 55, 56, 57, 97, 98, 99, 100, 101, 102, 103, 104, 105, 106, 107, 108, 109, 110, 111, 112, 113, 114, 115, 116, 117, 118] }) = .s tblL := (rfl)
theorem one5 : (1#32 <<< 5 - 1#32 : BitVec 32) = 31#32 := by decide
theorem ofInt64 (n : Nat) (h : n ≤ 64) : (BitVec.ofInt 64 (n : Int)).toNat = n := by rw [BitVec.toNat_ofInt]; omega
theorem tbl_at (j : Nat) (h : j < 32) : tblL[j]? = some (tblL.getD j 0#8) := by rw [List.getD_eq_getElem?_getD, List.getElem?_eq_getElem (by rw [tblL_len]; exact h)]; rfl

set_option maxHeartbeats 1000000 in
theorem texted_ok : PureOK Tryd.prog GLh 86 texG := by
  refine pure_of_awp Tryd.func86 (bodyOf_some rfl) ?_
  intro args r hg
  unfold texG at hg
  split at hg
  · rename_i n xs k0
    replace hg := obind_inv hg; obtain ⟨b, hb, hg⟩ := hg
    replace hg := guardO_inv hg; obtain ⟨⟨hn, h20, h5⟩, hg⟩ := hg
    obtain rfl := Option.some.inj hg
    have := un8_inv _ hb; subst this
    subst h5
    subst h20
    clear hg hb
    refine ⟨Nat.le_of_ble_eq_true rfl, fun nx => ?_⟩
    refine awp_seqP rfl ?_
    refine awp_regP (Γ := noEnv) [0, 1] (noEnv_ok _ _) rfl rfl rfl (fun K hK => ?_)
    simp only [Tryd.f86, bodyOf, Option.getD_some, cl, rOps, lights, light, rN, List.size_toArray, List.length_cons, List.length_nil, Nat.zero_add, List.map_cons, List.map_nil, Option.map_none]
    simp (maxSteps := 300000) (disch := omega) only [go_sem, ↓reduceIte]
    with_reducible refine hK _ ?_
    clear hK K
    refine nx_then ?_
    refine awp_seqP rfl ?_
    refine awp_regP (Γ := noEnv) [0, 1, 5] (noEnv_ok _ _) rfl rfl rfl (fun K hK => ?_)
    simp only [Tryd.f86, bodyOf, Option.getD_some, cl, cr, rOps, lights, light, rN, List.size_toArray, List.length_cons, List.length_nil, Nat.zero_add, List.map_cons, List.map_nil, Option.map_none]
    simp (maxSteps := 300000) (disch := omega) only [go_sem, ↓reduceIte]
    with_reducible refine hK _ ?_
    clear hK K
    refine nx_then ?_
    refine awp_seqP rfl ?_
    refine awp_regP (Γ := noEnv) [0, 1, 5, 6, 7] (noEnv_ok _ _) rfl rfl rfl (fun K hK => ?_)
    simp only [Tryd.f86, bodyOf, Option.getD_some, cl, cr, rOps, lights, light, rN, List.size_toArray, List.length_cons, List.length_nil, Nat.reduceAdd, Nat.zero_add, List.map_cons, List.map_nil, Option.map_none]
    simp (maxSteps := 300000) (disch := omega) only [go_sem, Nat.reduceAdd, Int.reduceLE, Int.reduceLT, BitVec.reduceOfInt, ↓reduceIte]
    with_reducible refine hK _ ?_
    clear hK K
    refine nx_then ?_
    refine awp_seqP rfl ?_
    refine awp_seqP rfl ?_
    refine awp_regP (Γ := noEnv) [1, 5, 6, 7, 10, 11, 12] (noEnv_ok _ _) rfl rfl rfl (fun K hK => ?_)
    simp only [Tryd.f86, bodyOf, Option.getD_some, cl, cr, rOps, lights, light, rN, List.size_toArray, List.length_cons, List.length_nil, Nat.reduceAdd, Nat.zero_add, List.map_cons, List.map_nil, Option.map_none]
    simp (maxSteps := 300000) (disch := omega) only [go_sem, Nat.reduceAdd, ↓reduceIte]
    with_reducible refine hK _ ?_
    clear hK K
    refine nx_then ?_
    refine awp_own 5 1 rfl ?_
    refine awp_keep [1, 5, 6, 7, 10, 11, 12] ?_
    simp only [kf_nil, kf_cons, look_cons, ↓reduceIte, Nat.reduceEqDiff]
    refine awp_blockN 0 rfl rfl ?_
    refine awp_loopP (fun p : KIC => { fr := [(1, .i 5), (5, .os p.id 0 (8 * p.k / 5) 1 true), (6, .i (8 * p.k % 5 : Nat)), (7, .w32 (hxN b p.k)), (10, .sl 20 (c8 b)), (11, .i 20), (12, .i p.k)], hp := upd (fun _ => none) p.id (.cells (c8 (hxL b (8 * p.k / 5))) true), nx := 0, cx := p.c }) (fun p => p.k ≤ 20 ∧ p.id < p.c) (fun p => 20 - p.k) rfl ⟨⟨0, nx + 1 + 1 + 2 + 3, nx + 1 + 1 + 2 + 3 + 1⟩, ⟨Nat.zero_le _, by simp only; omega⟩, sub_same (by simp only [Nat.mul_zero, Nat.zero_div, Nat.zero_mod, hxN]; rfl) (by simp only [Nat.mul_zero, Nat.zero_div, hxL]; rfl) (Nat.le_refl _)⟩ ?_
    rintro ⟨k, id, c⟩ ⟨hk, hid⟩ n0
    simp only at hk hid ⊢
    refine awp_seqP rfl ?_
    refine awp_regP (Γ := noEnv) [13, 1, 5, 6, 7, 10, 11, 12] (noEnv_ok _ _) rfl rfl rfl (fun K hK => ?_)
    simp only [Tryd.f86, bodyOf, Option.getD_some, cl, cr, rOps, lights, light, rN, List.size_toArray, List.length_cons, List.length_nil, Nat.zero_add, List.map_cons, List.map_nil, Option.map_none]
    simp (maxSteps := 300000) (disch := omega) only [go_sem, ↓reduceIte]
    with_reducible refine hK _ ?_
    clear hK K
    refine nx_then ?_
    refine awp_seqP rfl ?_
    refine awp_ifD (.tmp 13) rfl rfl rfl (fun h => ?_) (fun h => ?_)
    · skip
      refine awp_drop rfl ?_
      have hkl : k < b.length := by omega
      refine awp_skipP rfl ?_
      refine nx_then ?_
      refine awp_seqP rfl ?_
      refine awp_blockN 1 rfl rfl ?_
      refine awp_seqP rfl ?_
      refine awp_regP (Γ := noEnv) [1, 5, 6, 7, 9, 10, 11, 12] (noEnv_ok _ _) rfl rfl rfl (fun K hK => ?_)
      simp only [Tryd.f86, bodyOf, Option.getD_some, cl, cr, rOps, lights, light, rN, List.size_toArray, List.length_cons, List.length_nil, Nat.reduceAdd, Nat.zero_add, List.map_cons, List.map_nil, Option.map_none]
      simp (maxSteps := 300000) (disch := omega) only [go_sem, Nat.reduceAdd, ↓reduceIte]
      with_reducible refine hK _ ?_
      clear hK K
      refine nx_then ?_
      refine awp_seqP rfl ?_
      refine awp_regP (Γ := noEnv) [1, 5, 6, 7, 10, 11, 12] (noEnv_ok _ _) rfl rfl rfl (fun K hK => ?_)
      simp only [Tryd.f86, bodyOf, Option.getD_some, cl, cr, rOps, lights, light, rN, List.size_toArray, List.length_cons, List.length_nil, Nat.reduceAdd, Nat.zero_add, List.map_cons, List.map_nil, Option.map_none]
      simp (maxSteps := 300000) (disch := omega) only [go_sem, Nat.reduceAdd, Int.reduceLE, Int.reduceLT, BitVec.reduceOfInt, BitVec.reduceToNat, ↓reduceIte]
      with_reducible refine hK _ ?_
      clear hK K
      refine nx_then ?_
      have hN : hxN b k <<< 8 ||| (b.getD k 0#8).setWidth 32 = hxN b (k + 1) := rfl
      rw [hN]
      refine awp_blockN 2 rfl rfl ?_
      refine awp_loopP (fun q : KIC => { fr := [(1, .i 5), (5, .os q.id 0 q.k 1 true), (6, .i (8 * ((k : Int) + 1) - 5 * (q.k : Int))), (7, .w32 (hxN b (k + 1))), (10, .sl 20 (c8 b)), (11, .i 20), (12, .i k)], hp := upd (fun _ => none) q.id (.cells (c8 (hxL b q.k)) true), nx := 0, cx := q.c }) (fun q => 8 * k < 5 * (q.k + 1) ∧ 5 * q.k ≤ 8 * (k + 1) ∧ q.id < q.c) (fun q => 8 * (k + 1) - 5 * q.k) rfl ⟨⟨8 * k / 5, id, c + 1 + 3 + 9⟩, ⟨by simp only; omega, by simp only; omega, by simp only; omega⟩, sub_same (by simp only [show (8 * ((k : Int) + 1) - 5 * ((8 * k / 5 : Nat) : Int)) = ((8 * k % 5 : Nat) : Int) + 8 by omega]) rfl (Nat.le_refl _)⟩ ?_
      rintro ⟨j, id2, c2⟩ ⟨hj1, hj2, hid2⟩ n0
      simp only at hj1 hj2 hid2 ⊢
      have hjl := hxL_len b j
      refine awp_seqP rfl ?_
      refine awp_seqP rfl ?_
      refine awp_regP (Γ := noEnv) [25, 1, 5, 6, 7, 10, 11, 12] (noEnv_ok _ _) rfl rfl rfl (fun K hK => ?_)
      simp only [Tryd.f86, bodyOf, Option.getD_some, cl, cr, rOps, lights, light, rN, List.size_toArray, List.length_cons, List.length_nil, Nat.reduceAdd, Nat.zero_add, List.map_cons, List.map_nil, Option.map_none]
      simp (maxSteps := 300000) (disch := omega) only [go_sem, Nat.reduceAdd, ↓reduceIte]
      with_reducible refine hK _ ?_
      clear hK K
      refine nx_then ?_
      refine awp_ifD (.tmp 25) rfl rfl rfl (fun h => ?_) (fun h => ?_)
      · skip
        refine awp_drop rfl ?_
        obtain ⟨sh, hsh⟩ : ∃ sh : Nat, sh = 8 * (k + 1) - 5 * (j + 1) := ⟨_, rfl⟩
        have hsh7 : sh ≤ 7 := by omega
        have es : 8 * ((k : Int) + 1) - 5 * (j : Int) - 5 = (sh : Int) := by omega
        refine awp_skipP rfl ?_
        refine nx_then ?_
        refine awp_blockN 3 rfl rfl ?_
        refine awp_seqP rfl ?_
        refine awp_regP (Γ := noEnv) [1, 5, 6, 7, 10, 11, 12] (noEnv_ok _ _) rfl rfl rfl (fun K hK => ?_)
        simp only [Tryd.f86, bodyOf, Option.getD_some, cl, cr, rOps, lights, light, rN, List.size_toArray, List.length_cons, List.length_nil, Nat.reduceAdd, Nat.zero_add, List.map_cons, List.map_nil, Option.map_none]
        simp (maxSteps := 300000) (disch := omega) only [go_sem, Nat.reduceAdd, ↓reduceIte, es]
        with_reducible refine hK _ ?_
        clear hK K
        refine nx_then ?_
        have e64 := ofInt64 sh (by omega)
        obtain ⟨D, hD⟩ : ∃ D, hxN b (k + 1) >>> sh &&& 31#32 = D := ⟨_, rfl⟩
        have hDn : D.toNat = hxD b k sh := by rw [← hD]; exact hxN_dig b k sh (by omega)
        have hDt := tbl_at (hxD b k sh) (hxD_lt b k sh)
        have enx := hxL_next b k j (by omega) (by omega)
        rw [← hsh] at enx
        refine awp_regP (Γ := noEnv) [1, 5, 6, 7, 10, 11, 12] (noEnv_ok _ _) rfl rfl rfl (fun K hK => ?_)
        simp only [Tryd.f86, bodyOf, Option.getD_some, cl, cr, rOps, lights, light, rN, List.size_toArray, List.length_cons, List.length_nil, Nat.reduceAdd, Nat.zero_add, List.map_cons, List.map_nil, Option.map_none]
        simp (maxSteps := 300000) (disch := omega) only [go_sem, Nat.reduceAdd, Nat.reduceLeDiff, Nat.reduceLT, Int.reduceLE, Int.reduceLT, BitVec.reduceOfInt, BitVec.reduceToNat, ↓reduceIte, tbl_val, one5, e64, hD, hDn, hDt, hjl, Int.toNat_natCast]
        with_reducible refine hK _ ?_
        clear hK K
        refine nx_blk (nx_loop ?_)
        have es2 : 8 * ((k : Int) + 1) - 5 * (((j + 1 : Nat) : Int)) = (sh : Int) := by omega
        refine ⟨⟨j + 1, c2 + 3 + 4 + 12, _⟩, ⟨by simp only; omega, by simp only; omega, by simp only; omega⟩, by simp only; omega, ⟨fun _ => .inr ?_, fun j o h => ?_, Nat.le_refl _⟩⟩
        · simp only [es2]
        · simp only at h
          exact hsub_cons (by simp (disch := omega) only [up_app, ↓reduceIte, eq_self, enx]) (hsub_nil) j o h
      · skip
        refine awp_drop rfl ?_
        refine awp_exitN 2 rfl rfl ?_
        refine nx_ex_then (nx_ex_loop (nx_ex_blk ?_))
        refine nx_blk (nx_then ?_)
        refine awp_regP (Γ := noEnv) [1, 5, 6, 7, 10, 11, 12] (noEnv_ok _ _) rfl rfl rfl (fun K hK => ?_)
        simp only [Tryd.f86, bodyOf, Option.getD_some, cl, cr, rOps, lights, light, rN, List.size_toArray, List.length_cons, List.length_nil, Nat.reduceAdd, Nat.zero_add, List.map_cons, List.map_nil, Option.map_none]
        simp (maxSteps := 300000) (disch := omega) only [go_sem, Nat.reduceAdd, ↓reduceIte]
        with_reducible refine hK _ ?_
        clear hK K
        refine nx_loop ?_
        have hj' : 8 * (k + 1) / 5 = j := by omega
        have hr' : ((8 * (k + 1) % 5 : Nat) : Int) = 8 * ((k : Int) + 1) - 5 * (j : Int) := by omega
        have hk' : ((k + 1 : Nat) : Int) = (k : Int) + 1 := rfl
        refine ⟨⟨k + 1, id2, _⟩, ⟨by simp only; omega, by simp only; omega⟩, by simp only; omega, sub_same ?_ ?_ (Nat.le_refl _)⟩
        · simp only [hj', hr', hk']
        · simp only [hj']
    · skip
      refine awp_drop rfl ?_
      refine awp_exitN 0 rfl rfl ?_
      refine nx_ex_then (nx_ex_loop (nx_ex_blk ?_))
      refine nx_then ?_
      refine awp_seqP rfl ?_
      refine awp_seqP rfl ?_
      obtain rfl : k = 20 := by omega
      refine awp_regP (Γ := noEnv) [44, 1, 5, 6, 7] (noEnv_ok _ _) rfl rfl rfl (fun K hK => ?_)
      simp only [Tryd.f86, bodyOf, Option.getD_some, cl, cr, rOps, lights, light, rN, List.size_toArray, List.length_cons, List.length_nil, Nat.reduceAdd, Nat.zero_add, List.map_cons, List.map_nil, Option.map_none]
      simp (maxSteps := 300000) (disch := omega) only [go_sem, Nat.reduceAdd, Nat.reduceMul, Nat.reduceMod, Nat.reduceDiv, ↓reduceIte]
      with_reducible refine hK _ ?_
      clear hK K
      refine nx_then ?_
      refine awp_ifD (.tmp 44) rfl rfl rfl (fun h => ?_) (fun h => ?_)
      · skip
        refine awp_drop rfl ?_
        omega
      · skip
        refine awp_drop rfl ?_
        refine awp_skipP rfl ?_
        refine nx_then ?_
        refine awp_seqP rfl ?_
        have hxl := hxL_len b 32
        have hxt : (hxL b 32).take 32 = hxL b 32 := List.take_of_length_le (by omega)
        refine awp_regP (Γ := noEnv) [4] (noEnv_ok _ _) rfl rfl rfl (fun K hK => ?_)
        simp only [Tryd.f86, bodyOf, Option.getD_some, cl, cr, rOps, lights, light, rN, List.size_toArray, List.length_cons, List.length_nil, Nat.reduceAdd, Nat.zero_add, List.map_cons, List.map_nil, Option.map_none]
        simp (maxSteps := 300000) (disch := omega) only [go_sem, Nat.reduceAdd, Nat.reduceLeDiff, ↓reduceIte, hxl, hxt, unW8_c8]
        with_reducible refine hK _ ?_
        clear hK K
        refine nx_then ?_
        refine awp_retP rfl ?_
        simp (disch := omega) only [pureQ, resA, resAL, resA1, Tryd.f86, go_sem, ↓reduceIte]
  · cases hg
theorem ok86 : EntOK Tryd.prog GLh 86 (.pure true texG) := ⟨⟨_, Tryd.func86, rfl, rfl⟩, texted_ok⟩

set_option maxHeartbeats 1000000 in
theorem hex_ok : PureOK Tryd.prog GLh 77 hexG := by
  refine pure_of_awp Tryd.func77 (bodyOf_some rfl) ?_
  intro args r hg
  unfold hexG at hg
  split at hg
  · rename_i n xs
    replace hg := obind_inv hg; obtain ⟨b, hb, hg⟩ := hg
    replace hg := guardO_inv hg; obtain ⟨⟨hn, h20⟩, hg⟩ := hg
    obtain rfl := Option.some.inj hg
    have := un8_inv _ hb; subst this
    subst h20
    clear hg hb
    refine ⟨Nat.le_of_ble_eq_true rfl, fun nx => ?_⟩
    refine awp_seqP rfl ?_
    refine awp_regP (Γ := noEnv) [0] (noEnv_ok _ _) rfl rfl rfl (fun K hK => ?_)
    simp only [Tryd.f77, bodyOf, Option.getD_some, cl, rOps, lights, light, rN, List.size_toArray, List.length_cons, List.length_nil, Nat.zero_add, List.map_cons, List.map_nil, Option.map_none]
    simp (maxSteps := 300000) (disch := omega) only [go_sem, ↓reduceIte]
    with_reducible refine hK _ ?_
    clear hK K
    refine nx_then ?_
    refine awp_seqP rfl ?_
    refine awp_regP (Γ := envL [(86, .pure true texG)]) [2] (envOK_cons ok86 envOK_nil) rfl rfl rfl (fun K hK => ?_)
    simp only [Tryd.f77, bodyOf, Option.getD_some, cl, cr, rOps, lights, light, rN, List.size_toArray, List.length_cons, List.length_nil, Nat.reduceAdd, Nat.zero_add, List.map_cons, List.map_nil, Option.map_none]
    simp (maxSteps := 300000) (disch := omega) only [go_sem, Nat.reduceAdd, ↓reduceIte]
    with_reducible refine hK _ ?_
    clear hK K
    refine nx_then ?_
    refine awp_retP rfl ?_
    simp (disch := omega) only [pureQ, resA, resAL, resA1, Tryd.f77, go_sem, ↓reduceIte]
  · cases hg
theorem ok77 : EntOK Tryd.prog GLh 77 (.pure true hexG) := ⟨⟨_, Tryd.func77, rfl, rfl⟩, hex_ok⟩

theorem hxW_low (b : List B8) (k : Nat) : hxW b k &&& 31#32 = (prevB b (k + 1)).setWidth 32 &&& 31#32 := by
  apply BitVec.eq_of_getLsbD_eq
  intro i hi
  simp only [hxW, prevB, BitVec.getLsbD_and, BitVec.getLsbD_or, BitVec.getLsbD_shiftLeft, g31]
  by_cases h5 : i < 5
  · simp [show i < 8 by omega]
  · simp [h5]
theorem suc32 (D : BitVec 32) (h : D.toNat < 32) : (D + 1#32).toNat = D.toNat + 1 := by
  rw [BitVec.toNat_add]
  simp only [BitVec.toNat_ofNat]; omega
theorem tbl_one (j : Nat) (h : j < 32) : List.take 1 (List.drop j tblL) = [tblL.getD j 0#8] := by
  rw [List.drop_eq_getElem_cons (by rw [tblL_len]; exact h), List.take_succ_cons, List.take_zero, List.getD_eq_getElem?_getD, List.getElem?_eq_getElem (by rw [tblL_len]; exact h)]; rfl

set_option maxHeartbeats 1000000 in
theorem rhex_ok : PureOK Tryd.prog GLh 78 hexG := by
  refine pure_of_awp Tryd.func78 (bodyOf_some rfl) ?_
  intro args r hg
  unfold hexG at hg
  split at hg
  · rename_i n xs
    replace hg := obind_inv hg; obtain ⟨b, hb, hg⟩ := hg
    replace hg := guardO_inv hg; obtain ⟨⟨hn, h20⟩, hg⟩ := hg
    obtain rfl := Option.some.inj hg
    have := un8_inv _ hb; subst this
    subst h20
    clear hg hb
    refine ⟨Nat.le_of_ble_eq_true rfl, fun nx => ?_⟩
    refine awp_seqP rfl ?_
    refine awp_regP (Γ := noEnv) [0] (noEnv_ok _ _) rfl rfl rfl (fun K hK => ?_)
    simp only [Tryd.f78, bodyOf, Option.getD_some, cl, rOps, lights, light, rN, List.size_toArray, List.length_cons, List.length_nil, Nat.zero_add, List.map_cons, List.map_nil, Option.map_none]
    simp (maxSteps := 300000) (disch := omega) only [go_sem, ↓reduceIte]
    with_reducible refine hK _ ?_
    clear hK K
    refine nx_then ?_
    refine awp_seqP rfl ?_
    refine awp_regP (Γ := noEnv) [0, 3] (noEnv_ok _ _) rfl rfl rfl (fun K hK => ?_)
    simp only [Tryd.f78, bodyOf, Option.getD_some, cl, cr, rOps, lights, light, rN, List.size_toArray, List.length_cons, List.length_nil, Nat.zero_add, List.map_cons, List.map_nil, Option.map_none]
    simp (maxSteps := 300000) (disch := omega) only [go_sem, ↓reduceIte]
    with_reducible refine hK _ ?_
    clear hK K
    refine nx_then ?_
    refine awp_seqP rfl ?_
    refine awp_regP (Γ := noEnv) [0, 3, 4, 5] (noEnv_ok _ _) rfl rfl rfl (fun K hK => ?_)
    simp only [Tryd.f78, bodyOf, Option.getD_some, cl, cr, rOps, lights, light, rN, List.size_toArray, List.length_cons, List.length_nil, Nat.reduceAdd, Nat.zero_add, List.map_cons, List.map_nil, Option.map_none]
    simp (maxSteps := 300000) (disch := omega) only [go_sem, Nat.reduceAdd, Int.reduceLE, Int.reduceLT, BitVec.reduceOfInt, ↓reduceIte]
    with_reducible refine hK _ ?_
    clear hK K
    refine nx_then ?_
    refine awp_seqP rfl ?_
    refine awp_seqP rfl ?_
    refine awp_regP (Γ := noEnv) [0, 3, 4, 5, 6] (noEnv_ok _ _) rfl rfl rfl (fun K hK => ?_)
    simp only [Tryd.f78, bodyOf, Option.getD_some, cl, cr, rOps, lights, light, rN, List.size_toArray, List.length_cons, List.length_nil, Nat.zero_add, List.map_cons, List.map_nil, Option.map_none]
    simp (maxSteps := 300000) (disch := omega) only [go_sem, ↓reduceIte]
    with_reducible refine hK _ ?_
    clear hK K
    refine nx_then ?_
    refine awp_blockN 0 rfl rfl ?_
    refine awp_loopP (fun p : KC => { fr := [(0, .sl 20 (c8 b)), (3, .s (hxL b (8 * p.k / 5))), (4, .w32 ((prevB b p.k).setWidth 32 &&& 31#32)), (5, .i (8 * p.k % 5 : Nat)), (6, .i p.k)], hp := fun _ => none, nx := 0, cx := p.c }) (fun p => p.k ≤ 20) (fun p => 20 - p.k) rfl ⟨⟨0, _⟩, Nat.zero_le _, sub_same (by simp only [Nat.mul_zero, Nat.zero_div, Nat.zero_mod, hxL, prevB]; rfl) rfl (Nat.le_refl _)⟩ ?_
    rintro ⟨k, c⟩ hk n0
    simp only at hk ⊢
    refine awp_seqP rfl ?_
    refine awp_seqP rfl ?_
    refine awp_regP (Γ := noEnv) [12, 0, 3, 4, 5, 6] (noEnv_ok _ _) rfl rfl rfl (fun K hK => ?_)
    simp only [Tryd.f78, bodyOf, Option.getD_some, cl, cr, rOps, lights, light, rN, List.size_toArray, List.length_cons, List.length_nil, Nat.reduceAdd, Nat.zero_add, List.map_cons, List.map_nil, Option.map_none]
    simp (maxSteps := 300000) (disch := omega) only [go_sem, Nat.reduceAdd, ↓reduceIte]
    with_reducible refine hK _ ?_
    clear hK K
    refine nx_then ?_
    refine awp_ifD (.tmp 12) rfl rfl rfl (fun h => ?_) (fun h => ?_)
    · skip
      refine awp_drop rfl ?_
      have hkl : k < b.length := by omega
      have hw : ((prevB b k).setWidth 32 &&& 31#32) <<< 8 ||| (b.getD k 0#8).setWidth 32 = hxW b k := rfl
      refine awp_skipP rfl ?_
      refine nx_then ?_
      refine awp_seqP rfl ?_
      refine awp_blockN 1 rfl rfl ?_
      refine awp_seqP rfl ?_
      refine awp_regP (Γ := noEnv) [0, 3, 4, 5, 6] (noEnv_ok _ _) rfl rfl rfl (fun K hK => ?_)
      simp only [Tryd.f78, bodyOf, Option.getD_some, cl, cr, rOps, lights, light, rN, List.size_toArray, List.length_cons, List.length_nil, Nat.reduceAdd, Nat.zero_add, List.map_cons, List.map_nil, Option.map_none]
      simp (maxSteps := 300000) (disch := omega) only [go_sem, Nat.reduceAdd, Int.reduceLE, Int.reduceLT, BitVec.reduceOfInt, BitVec.reduceToNat, ↓reduceIte, hw]
      with_reducible refine hK _ ?_
      clear hK K
      refine nx_then ?_
      refine awp_seqP rfl ?_
      refine awp_blockN 2 rfl rfl ?_
      refine awp_loopP (fun q : KC => { fr := [(0, .sl 20 (c8 b)), (3, .s (hxL b q.k)), (4, .w32 (hxW b k)), (5, .i (8 * ((k : Int) + 1) - 5 * (q.k : Int))), (6, .i k)], hp := fun _ => none, nx := 0, cx := q.c }) (fun q => 8 * k < 5 * (q.k + 1) ∧ 5 * q.k ≤ 8 * (k + 1)) (fun q => 8 * (k + 1) - 5 * q.k) rfl ⟨⟨8 * k / 5, _⟩, ⟨by simp only; omega, by simp only; omega⟩, sub_same (by simp only [show (8 * ((k : Int) + 1) - 5 * ((8 * k / 5 : Nat) : Int)) = ((8 * k % 5 : Nat) : Int) + 8 by omega]) rfl (Nat.le_refl _)⟩ ?_
      rintro ⟨j, c2⟩ ⟨hj1, hj2⟩ n0
      simp only at hj1 hj2 ⊢
      have hjl := hxL_len b j
      refine awp_seqP rfl ?_
      refine awp_seqP rfl ?_
      refine awp_regP (Γ := noEnv) [26, 0, 3, 4, 5, 6] (noEnv_ok _ _) rfl rfl rfl (fun K hK => ?_)
      simp only [Tryd.f78, bodyOf, Option.getD_some, cl, cr, rOps, lights, light, rN, List.size_toArray, List.length_cons, List.length_nil, Nat.reduceAdd, Nat.zero_add, List.map_cons, List.map_nil, Option.map_none]
      simp (maxSteps := 300000) (disch := omega) only [go_sem, Nat.reduceAdd, ↓reduceIte]
      with_reducible refine hK _ ?_
      clear hK K
      refine nx_then ?_
      refine awp_ifD (.tmp 26) rfl rfl rfl (fun h => ?_) (fun h => ?_)
      · skip
        refine awp_drop rfl ?_
        obtain ⟨sh, hsh⟩ : ∃ sh : Nat, sh = 8 * (k + 1) - 5 * (j + 1) := ⟨_, rfl⟩
        have hsh7 : sh ≤ 7 := by omega
        have es : 8 * ((k : Int) + 1) - 5 * (j : Int) - 5 = (sh : Int) := by omega
        refine awp_skipP rfl ?_
        refine nx_then ?_
        refine awp_blockN 3 rfl rfl ?_
        refine awp_seqP rfl ?_
        refine awp_regP (Γ := noEnv) [0, 3, 4, 5, 6] (noEnv_ok _ _) rfl rfl rfl (fun K hK => ?_)
        simp only [Tryd.f78, bodyOf, Option.getD_some, cl, cr, rOps, lights, light, rN, List.size_toArray, List.length_cons, List.length_nil, Nat.reduceAdd, Nat.zero_add, List.map_cons, List.map_nil, Option.map_none]
        simp (maxSteps := 300000) (disch := omega) only [go_sem, Nat.reduceAdd, ↓reduceIte, es]
        with_reducible refine hK _ ?_
        clear hK K
        refine nx_then ?_
        obtain ⟨D, hD⟩ : ∃ D, hxW b k >>> sh &&& 31#32 = D := ⟨_, rfl⟩
        have hDn : D.toNat = hxD b k sh := by rw [← hD]; rfl
        have hDl := hxD_lt b k sh
        have hDs := suc32 D (by omega)
        have hDt := tbl_one D.toNat (by omega)
        have enx := hxL_next b k j (by omega) (by omega)
        rw [← hsh, ← hDn] at enx
        refine awp_seqP rfl ?_
        refine awp_regP (Γ := noEnv) [0, 3, 4, 5, 6, 7] (noEnv_ok _ _) rfl rfl rfl (fun K hK => ?_)
        simp only [Tryd.f78, bodyOf, Option.getD_some, cl, cr, rOps, lights, light, rN, List.size_toArray, List.length_cons, List.length_nil, Nat.reduceAdd, Nat.zero_add, List.map_cons, List.map_nil, Option.map_none]
        simp (maxSteps := 300000) (disch := omega) only [go_sem, Nat.reduceAdd, Int.reduceLE, Int.reduceLT, BitVec.reduceOfInt, ↓reduceIte, hD, Int.toNat_natCast]
        with_reducible refine hK _ ?_
        clear hK K
        refine nx_then ?_
        have e1 : D.toNat + 1 - D.toNat = 1 := by omega
        have henx := enx.symm
        have hj40 : (j ≤ 9223372036854775806) = True := eq_true (by omega)
        refine awp_regP (Γ := noEnv) [0, 3, 4, 5, 6] (noEnv_ok _ _) rfl rfl rfl (fun K hK => ?_)
        simp only [Tryd.f78, bodyOf, Option.getD_some, cl, cr, rOps, lights, light, rN, List.size_toArray, List.length_cons, List.length_nil, Nat.reduceAdd, Nat.zero_add, List.map_cons, List.map_nil, Option.map_none]
        simp (maxSteps := 300000) (disch := omega) only [go_sem, Nat.reduceAdd, Nat.reduceLeDiff, Int.reduceLE, Int.reduceLT, BitVec.reduceOfInt, ↓reduceIte, tbl_val, hDs, hDt, hjl, e1, tblL_len, Int.toNat_natCast, hj40]
        with_reducible refine hK _ ?_
        clear hK K
        refine nx_blk (nx_loop ?_)
        have es2 : 8 * ((k : Int) + 1) - 5 * (((j + 1 : Nat) : Int)) = (sh : Int) := by omega
        refine ⟨⟨j + 1, _⟩, ⟨by simp only; omega, by simp only; omega⟩, by simp only; omega, sub_same ?_ rfl (Nat.le_refl _)⟩
        simp only [es2, enx]
      · skip
        refine awp_drop rfl ?_
        refine awp_exitN 2 rfl rfl ?_
        refine nx_ex_then (nx_ex_loop (nx_ex_blk ?_))
        refine nx_then ?_
        have hlo := hxW_low b k
        refine awp_regP (Γ := noEnv) [0, 3, 4, 5, 6] (noEnv_ok _ _) rfl rfl rfl (fun K hK => ?_)
        simp only [Tryd.f78, bodyOf, Option.getD_some, cl, cr, rOps, lights, light, rN, List.size_toArray, List.length_cons, List.length_nil, Nat.reduceAdd, Nat.zero_add, List.map_cons, List.map_nil, Option.map_none]
        simp (maxSteps := 300000) (disch := omega) only [go_sem, Nat.reduceAdd, Int.reduceLE, Int.reduceLT, BitVec.reduceOfInt, ↓reduceIte, hlo]
        with_reducible refine hK _ ?_
        clear hK K
        refine nx_blk (nx_then ?_)
        refine awp_regP (Γ := noEnv) [0, 3, 4, 5, 6] (noEnv_ok _ _) rfl rfl rfl (fun K hK => ?_)
        simp only [Tryd.f78, bodyOf, Option.getD_some, cl, cr, rOps, lights, light, rN, List.size_toArray, List.length_cons, List.length_nil, Nat.reduceAdd, Nat.zero_add, List.map_cons, List.map_nil, Option.map_none]
        simp (maxSteps := 300000) (disch := omega) only [go_sem, Nat.reduceAdd, ↓reduceIte]
        with_reducible refine hK _ ?_
        clear hK K
        refine nx_loop ?_
        have hj' : 8 * (k + 1) / 5 = j := by omega
        have hr' : ((8 * (k + 1) % 5 : Nat) : Int) = 8 * ((k : Int) + 1) - 5 * (j : Int) := by omega
        have hk' : ((k + 1 : Nat) : Int) = (k : Int) + 1 := rfl
        refine ⟨⟨k + 1, _⟩, by simp only; omega, by simp only; omega, sub_same ?_ rfl (Nat.le_refl _)⟩
        simp only [hj', hr', hk']
    · skip
      refine awp_drop rfl ?_
      refine awp_exitN 0 rfl rfl ?_
      refine nx_ex_then (nx_ex_loop (nx_ex_blk ?_))
      refine nx_then ?_
      refine awp_seqP rfl ?_
      refine awp_seqP rfl ?_
      obtain rfl : k = 20 := by omega
      refine awp_regP (Γ := noEnv) [42, 3, 4, 5] (noEnv_ok _ _) rfl rfl rfl (fun K hK => ?_)
      simp only [Tryd.f78, bodyOf, Option.getD_some, cl, cr, rOps, lights, light, rN, List.size_toArray, List.length_cons, List.length_nil, Nat.reduceAdd, Nat.zero_add, List.map_cons, List.map_nil, Option.map_none]
      simp (maxSteps := 300000) (disch := omega) only [go_sem, Nat.reduceAdd, Nat.reduceMul, Nat.reduceMod, Nat.reduceDiv, ↓reduceIte]
      with_reducible refine hK _ ?_
      clear hK K
      refine nx_then ?_
      refine awp_ifD (.tmp 42) rfl rfl rfl (fun h => ?_) (fun h => ?_)
      · skip
        refine awp_drop rfl ?_
        omega
      · skip
        refine awp_drop rfl ?_
        refine awp_skipP rfl ?_
        refine nx_then ?_
        refine awp_seqP rfl ?_
        refine awp_regP (Γ := noEnv) [2] (noEnv_ok _ _) rfl rfl rfl (fun K hK => ?_)
        simp only [Tryd.f78, bodyOf, Option.getD_some, cl, cr, rOps, lights, light, rN, List.size_toArray, List.length_cons, List.length_nil, Nat.reduceAdd, Nat.zero_add, List.map_cons, List.map_nil, Option.map_none]
        simp (maxSteps := 300000) (disch := omega) only [go_sem, Nat.reduceAdd, ↓reduceIte]
        with_reducible refine hK _ ?_
        clear hK K
        refine nx_then ?_
        refine awp_retP rfl ?_
        simp (disch := omega) only [pureQ, resA, resAL, resA1, Tryd.f78, go_sem, ↓reduceIte]
  · cases hg
theorem ok78 : EntOK Tryd.prog GLh 78 (.pure true hexG) := ⟨⟨_, Tryd.func78, rfl, rfl⟩, rhex_ok⟩
end Go.AX

namespace Go.AX
open Go Go.Proofs

/-- A name's bytes, all in all. -/
def totS (ps : List (List B8)) : Nat := (wirB ps).length - ps.length
theorem totS_take (ps : List (List B8)) (k : Nat) (h : k < ps.length) : totS (ps.take (k + 1)) = totS (ps.take k) + (ps.getD k []).length := by
  have h1 := wirB_take ps k h
  have h2 := wirB_ge (ps.take k)
  unfold totS
  rw [h1, List.length_append, labL, List.length_cons, List.length_take, List.length_take]
  rw [List.length_take] at h2
  omega
def lightP (ps : List (List B8)) : Prop := ps.length ≤ 200 ∧ (∀ p ∈ ps, p.length ≤ 300) ∧ totS ps ≤ 2000
noncomputable def lightB (ps : List (List B8)) : Bool := @decide (lightP ps) (Classical.propDecidable _)
theorem lightB_no {ps : List (List B8)} (h : ¬ lightP ps) : lightB ps = false := by unfold lightB; exact @decide_eq_false _ (Classical.propDecidable _) h
theorem lightB_is {ps : List (List B8)} (h1 : ps.length ≤ 200) (h2 : ∀ k, k < ps.length → (ps.getD k []).length ≤ 300) : decide ((totS ps : Int) ≤ 2000) = lightB ps := by
  unfold lightB
  rw [decide_eq_decide]
  constructor
  · intro h; exact ⟨h1, fun p hp => by
      obtain ⟨k, hk, rfl⟩ := List.getElem_of_mem hp
      have := h2 k hk
      rwa [List.getD_eq_getElem?_getD, List.getElem?_eq_getElem hk, Option.getD_some] at this, by omega⟩
  · rintro ⟨_, _, h⟩; omega
theorem light_wir {ps : List (List B8)} (h : lightB ps = true) : ps.length ≤ 200 ∧ (wirB ps).length ≤ 2200 := by
  unfold lightB at h
  have hp : lightP ps := @of_decide_eq_true _ (Classical.propDecidable _) h
  obtain ⟨h1, _, h3⟩ := hp
  have := wirB_ge ps
  unfold totS at h3
  omega
noncomputable def lightG : List AV → Option AV
  | [.sl n xs] => obind (unS xs) fun ps => guardO (ps.length = n ∧ n ≤ 9223372036854775807) (some (.b (lightB ps)))
  | _ => none
theorem lightG_eq (n : Nat) (xs : List AV) : lightG [.sl n xs] = obind (unS xs) fun ps => guardO (ps.length = n ∧ n ≤ 9223372036854775807) (some (.b (lightB ps))) := (rfl)
attribute [go_sem] lightG_eq

set_option maxHeartbeats 1000000 in
theorem light_ok : PureOK Tryd.prog GLh 39 lightG := by
  refine pure_of_awp Tryd.func39 (bodyOf_some rfl) ?_
  intro args r hg
  unfold lightG at hg
  split at hg
  · rename_i n xs
    replace hg := obind_inv hg; obtain ⟨ps, hb, hg⟩ := hg
    replace hg := guardO_inv hg; obtain ⟨⟨hn, hbig⟩, hg⟩ := hg
    obtain rfl := Option.some.inj hg
    have := unS_inv hb; subst this
    subst hn
    clear hg hb
    refine ⟨Nat.le_of_ble_eq_true rfl, fun nx => ?_⟩
    refine awp_seqP rfl ?_
    refine awp_regP (Γ := noEnv) [0] (noEnv_ok _ _) rfl rfl rfl (fun K hK => ?_)
    simp only [Tryd.f39, bodyOf, Option.getD_some, cl, rOps, lights, light, rN, List.size_toArray, List.length_cons, List.length_nil, Nat.zero_add, List.map_cons, List.map_nil, Option.map_none]
    simp (maxSteps := 300000) (disch := omega) only [go_sem, ↓reduceIte]
    with_reducible refine hK _ ?_
    clear hK K
    refine nx_then ?_
    refine awp_seqP rfl ?_
    refine awp_seqP rfl ?_
    refine awp_regP (Γ := noEnv) [7, 0] (noEnv_ok _ _) rfl rfl rfl (fun K hK => ?_)
    simp only [Tryd.f39, bodyOf, Option.getD_some, cl, cr, rOps, lights, light, rN, List.size_toArray, List.length_cons, List.length_nil, Nat.reduceAdd, Nat.zero_add, List.map_cons, List.map_nil, Option.map_none]
    simp (maxSteps := 300000) (disch := omega) only [go_sem, Nat.reduceAdd, ↓reduceIte]
    with_reducible refine hK _ ?_
    clear hK K
    refine nx_then ?_
    refine awp_ifD (.tmp 7) rfl rfl rfl (fun h => ?_) (fun h => ?_)
    · skip
      refine awp_drop rfl ?_
      have hl : lightB ps = false := lightB_no (fun ⟨h1, _, _⟩ => by omega)
      refine awp_seqP rfl ?_
      refine awp_regP (Γ := noEnv) [2] (noEnv_ok _ _) rfl rfl rfl (fun K hK => ?_)
      simp only [Tryd.f39, bodyOf, Option.getD_some, cl, cr, rOps, lights, light, rN, List.size_toArray, List.length_cons, List.length_nil, Nat.zero_add, List.map_cons, List.map_nil, Option.map_none]
      simp (maxSteps := 300000) (disch := omega) only [go_sem, ↓reduceIte]
      with_reducible refine hK _ ?_
      clear hK K
      refine nx_then ?_
      refine awp_retP rfl ?_
      refine nx_ret_then ?_
      simp (disch := omega) only [pureQ, resA, resAL, resA1, Tryd.f39, go_sem, ↓reduceIte, hl]
    · skip
      refine awp_drop rfl ?_
      have hps : ps.length ≤ 200 := by omega
      refine awp_skipP rfl ?_
      refine nx_then ?_
      refine awp_seqP rfl ?_
      refine awp_regP (Γ := noEnv) [0, 3] (noEnv_ok _ _) rfl rfl rfl (fun K hK => ?_)
      simp only [Tryd.f39, bodyOf, Option.getD_some, cl, cr, rOps, lights, light, rN, List.size_toArray, List.length_cons, List.length_nil, Nat.zero_add, List.map_cons, List.map_nil, Option.map_none]
      simp (maxSteps := 300000) (disch := omega) only [go_sem, ↓reduceIte]
      with_reducible refine hK _ ?_
      clear hK K
      refine nx_then ?_
      refine awp_seqP rfl ?_
      refine awp_seqP rfl ?_
      refine awp_regP (Γ := noEnv) [0, 3, 4] (noEnv_ok _ _) rfl rfl rfl (fun K hK => ?_)
      simp only [Tryd.f39, bodyOf, Option.getD_some, cl, cr, rOps, lights, light, rN, List.size_toArray, List.length_cons, List.length_nil, Nat.zero_add, List.map_cons, List.map_nil, Option.map_none]
      simp (maxSteps := 300000) (disch := omega) only [go_sem, ↓reduceIte]
      with_reducible refine hK _ ?_
      clear hK K
      refine nx_then ?_
      refine awp_blockN 0 rfl rfl ?_
      refine awp_loopP (fun p : KC => { fr := [(0, .sl ps.length (cS ps)), (3, .i (totS (ps.take p.k))), (4, .i p.k)], hp := fun _ => none, nx := 0, cx := p.c }) (fun p => p.k ≤ ps.length ∧ totS (ps.take p.k) ≤ 300 * p.k ∧ ∀ j, j < p.k → (ps.getD j []).length ≤ 300) (fun p => ps.length - p.k) rfl ⟨⟨0, _⟩, ⟨Nat.zero_le _, by simp [totS, wirB], fun j hj => by simp at hj⟩, sub_same rfl rfl (Nat.le_refl _)⟩ ?_
      rintro ⟨k, c⟩ ⟨hk, ht, ha⟩ n0
      simp only at hk ht ha ⊢
      refine awp_seqP rfl ?_
      refine awp_seqP rfl ?_
      refine awp_regP (Γ := noEnv) [11, 0, 3, 4] (noEnv_ok _ _) rfl rfl rfl (fun K hK => ?_)
      simp only [Tryd.f39, bodyOf, Option.getD_some, cl, cr, rOps, lights, light, rN, List.size_toArray, List.length_cons, List.length_nil, Nat.reduceAdd, Nat.zero_add, List.map_cons, List.map_nil, Option.map_none]
      simp (maxSteps := 300000) (disch := omega) only [go_sem, Nat.reduceAdd, ↓reduceIte]
      with_reducible refine hK _ ?_
      clear hK K
      refine nx_then ?_
      refine awp_ifD (.tmp 11) rfl rfl rfl (fun h => ?_) (fun h => ?_)
      · skip
        refine awp_drop rfl ?_
        have hkl : k < ps.length := by omega
        have htk := totS_take ps k hkl
        obtain ⟨l, hl⟩ : ∃ l, ps.getD k [] = l := ⟨_, rfl⟩
        rw [hl] at htk
        refine awp_skipP rfl ?_
        refine nx_then ?_
        refine awp_seqP rfl ?_
        refine awp_blockN 1 rfl rfl ?_
        refine awp_seqP rfl ?_
        refine awp_seqP rfl ?_
        refine awp_regP (Γ := noEnv) [19, 0, 3, 4] (noEnv_ok _ _) rfl rfl rfl (fun K hK => ?_)
        simp only [Tryd.f39, bodyOf, Option.getD_some, cl, cr, rOps, lights, light, rN, List.size_toArray, List.length_cons, List.length_nil, Nat.reduceAdd, Nat.zero_add, List.map_cons, List.map_nil, Option.map_none]
        simp (maxSteps := 300000) (disch := omega) only [go_sem, Nat.reduceAdd, ↓reduceIte, hl]
        with_reducible refine hK _ ?_
        clear hK K
        refine nx_then ?_
        refine awp_ifD (.tmp 19) rfl rfl rfl (fun h => ?_) (fun h => ?_)
        · skip
          refine awp_drop rfl ?_
          have hlb : lightB ps = false := lightB_no (fun ⟨_, h2, _⟩ => by
            have : l ∈ ps := by
              rw [← hl, List.getD_eq_getElem?_getD, List.getElem?_eq_getElem hkl]; exact List.getElem_mem hkl
            have := h2 l this
            omega)
          refine awp_seqP rfl ?_
          refine awp_regP (Γ := noEnv) [2] (noEnv_ok _ _) rfl rfl rfl (fun K hK => ?_)
          simp only [Tryd.f39, bodyOf, Option.getD_some, cl, cr, rOps, lights, light, rN, List.size_toArray, List.length_cons, List.length_nil, Nat.zero_add, List.map_cons, List.map_nil, Option.map_none]
          simp (maxSteps := 300000) (disch := omega) only [go_sem, ↓reduceIte]
          with_reducible refine hK _ ?_
          clear hK K
          refine nx_then ?_
          refine awp_retP rfl ?_
          refine nx_ret_then (nx_ret_blk (nx_ret_then (nx_ret_loop (nx_ret_blk (nx_ret_then ?_)))))
          simp (disch := omega) only [pureQ, resA, resAL, resA1, Tryd.f39, go_sem, ↓reduceIte, hlb]
        · skip
          refine awp_drop rfl ?_
          refine awp_skipP rfl ?_
          refine nx_then ?_
          refine awp_regP (Γ := noEnv) [0, 3, 4] (noEnv_ok _ _) rfl rfl rfl (fun K hK => ?_)
          simp only [Tryd.f39, bodyOf, Option.getD_some, cl, cr, rOps, lights, light, rN, List.size_toArray, List.length_cons, List.length_nil, Nat.reduceAdd, Nat.zero_add, List.map_cons, List.map_nil, Option.map_none]
          simp (maxSteps := 300000) (disch := omega) only [go_sem, Nat.reduceAdd, ↓reduceIte, hl]
          with_reducible refine hK _ ?_
          clear hK K
          refine nx_blk (nx_then ?_)
          refine awp_regP (Γ := noEnv) [0, 3, 4] (noEnv_ok _ _) rfl rfl rfl (fun K hK => ?_)
          simp only [Tryd.f39, bodyOf, Option.getD_some, cl, cr, rOps, lights, light, rN, List.size_toArray, List.length_cons, List.length_nil, Nat.reduceAdd, Nat.zero_add, List.map_cons, List.map_nil, Option.map_none]
          simp (maxSteps := 300000) (disch := omega) only [go_sem, Nat.reduceAdd, ↓reduceIte]
          with_reducible refine hK _ ?_
          clear hK K
          refine nx_loop ?_
          refine ⟨⟨k + 1, _⟩, ⟨by simp only; omega, by simp only; omega, fun j hj => ?_⟩, by simp only; omega, sub_same ?_ rfl (Nat.le_refl _)⟩
          · by_cases e : j = k
            · subst e; rw [hl]; omega
            · exact ha j (by simp only at hj; omega)
          · simp only [htk, Int.natCast_add, Int.natCast_one]
      · skip
        refine awp_drop rfl ?_
        refine awp_exitN 0 rfl rfl ?_
        refine nx_ex_then (nx_ex_loop (nx_ex_blk ?_))
        refine nx_then ?_
        refine awp_seqP rfl ?_
        obtain rfl : k = ps.length := by omega
        have e8 : ps.take ps.length = ps := List.take_length
        have hl := lightB_is hps ha
        refine awp_regP (Γ := noEnv) [2] (noEnv_ok _ _) rfl rfl rfl (fun K hK => ?_)
        simp only [Tryd.f39, bodyOf, Option.getD_some, cl, cr, rOps, lights, light, rN, List.size_toArray, List.length_cons, List.length_nil, Nat.reduceAdd, Nat.zero_add, List.map_cons, List.map_nil, Option.map_none]
        simp (maxSteps := 300000) (disch := omega) only [go_sem, Nat.reduceAdd, ↓reduceIte, e8]
        with_reducible refine hK _ ?_
        clear hK K
        refine nx_then ?_
        refine awp_retP rfl ?_
        simp (disch := omega) only [pureQ, resA, resAL, resA1, Tryd.f39, go_sem, ↓reduceIte, hl]
  · cases hg
theorem ok39 : EntOK Tryd.prog GLh 39 (.pure true lightG) := ⟨⟨_, Tryd.func39, rfl, rfl⟩, light_ok⟩

def nmeG : List AV → Option AV
  | [.sl n xs, .sl m ys] => obind (unS xs) fun a => obind (unS ys) fun b => guardO (a.length = n ∧ b.length = m ∧ n ≤ 9223372036854775807 ∧ m ≤ 9223372036854775807) (some (.b (decide (a = b))))
  | _ => none
theorem nmeG_eq (n m : Nat) (xs ys : List AV) : nmeG [.sl n xs, .sl m ys] = obind (unS xs) fun a => obind (unS ys) fun b => guardO (a.length = n ∧ b.length = m ∧ n ≤ 9223372036854775807 ∧ m ≤ 9223372036854775807) (some (.b (decide (a = b)))) := (rfl)
attribute [go_sem] nmeG_eq
theorem take_next {a b : List (List B8)} {k : Nat} (ha : k < a.length) (hb : k < b.length) (h : a.take k = b.take k) (e : a.getD k [] = b.getD k []) : a.take (k + 1) = b.take (k + 1) := by
  rw [List.take_succ_eq_append_getElem ha, List.take_succ_eq_append_getElem hb, h]
  rw [List.getD_eq_getElem?_getD, List.getD_eq_getElem?_getD, List.getElem?_eq_getElem ha, List.getElem?_eq_getElem hb] at e
  simp only [Option.getD_some] at e
  rw [e]

set_option maxHeartbeats 1000000 in
theorem nme_ok : PureOK Tryd.prog GLh 47 nmeG := by
  refine pure_of_awp Tryd.func47 (bodyOf_some rfl) ?_
  intro args r hg
  unfold nmeG at hg
  split at hg
  · rename_i n m xs ys
    replace hg := obind_inv hg; obtain ⟨a, ha, hg⟩ := hg
    replace hg := obind_inv hg; obtain ⟨b, hb, hg⟩ := hg
    replace hg := guardO_inv hg; obtain ⟨⟨hn, hm, hbig, hbig2⟩, hg⟩ := hg
    obtain rfl := Option.some.inj hg
    have := unS_inv ha; subst this
    have := unS_inv hb; subst this
    subst hn; subst hm
    clear hg hb ha
    refine ⟨Nat.le_of_ble_eq_true rfl, fun nx => ?_⟩
    refine awp_seqP rfl ?_
    refine awp_regP (Γ := noEnv) [0, 1] (noEnv_ok _ _) rfl rfl rfl (fun K hK => ?_)
    simp only [Tryd.f47, bodyOf, Option.getD_some, cl, rOps, lights, light, rN, List.size_toArray, List.length_cons, List.length_nil, Nat.zero_add, List.map_cons, List.map_nil, Option.map_none]
    simp (maxSteps := 300000) (disch := omega) only [go_sem, ↓reduceIte]
    with_reducible refine hK _ ?_
    clear hK K
    refine nx_then ?_
    refine awp_seqP rfl ?_
    refine awp_seqP rfl ?_
    refine awp_regP (Γ := noEnv) [10, 0, 1] (noEnv_ok _ _) rfl rfl rfl (fun K hK => ?_)
    simp only [Tryd.f47, bodyOf, Option.getD_some, cl, cr, rOps, lights, light, rN, List.size_toArray, List.length_cons, List.length_nil, Nat.reduceAdd, Nat.zero_add, List.map_cons, List.map_nil, Option.map_none]
    simp (maxSteps := 300000) (disch := omega) only [go_sem, Nat.reduceAdd, ↓reduceIte]
    with_reducible refine hK _ ?_
    clear hK K
    refine nx_then ?_
    refine awp_ifE (.tmp 10) rfl rfl rfl (fun h => ?_) (fun h => ?_)
    · skip
      refine awp_drop rfl ?_
      have hl : decide (a = b) = false := decide_eq_false (fun e => h (by rw [e]))
      refine awp_seqP rfl ?_
      refine awp_regP (Γ := noEnv) [4] (noEnv_ok _ _) rfl rfl rfl (fun K hK => ?_)
      simp only [Tryd.f47, bodyOf, Option.getD_some, cl, cr, rOps, lights, light, rN, List.size_toArray, List.length_cons, List.length_nil, Nat.zero_add, List.map_cons, List.map_nil, Option.map_none]
      simp (maxSteps := 300000) (disch := omega) only [go_sem, ↓reduceIte]
      with_reducible refine hK _ ?_
      clear hK K
      refine nx_then ?_
      refine awp_retP rfl ?_
      refine nx_ret_then ?_
      simp (disch := omega) only [pureQ, resA, resAL, resA1, Tryd.f47, go_sem, ↓reduceIte, hl]
    · skip
      refine awp_drop rfl ?_
      have hab : a.length = b.length := by omega
      refine awp_skipP rfl ?_
      refine nx_then ?_
      refine awp_seqP rfl ?_
      refine awp_seqP rfl ?_
      refine awp_regP (Γ := noEnv) [0, 1, 5] (noEnv_ok _ _) rfl rfl rfl (fun K hK => ?_)
      simp only [Tryd.f47, bodyOf, Option.getD_some, cl, cr, rOps, lights, light, rN, List.size_toArray, List.length_cons, List.length_nil, Nat.zero_add, List.map_cons, List.map_nil, Option.map_none]
      simp (maxSteps := 300000) (disch := omega) only [go_sem, ↓reduceIte]
      with_reducible refine hK _ ?_
      clear hK K
      refine nx_then ?_
      refine awp_blockN 0 rfl rfl ?_
      refine awp_loopP (fun p : KC => { fr := [(0, .sl a.length (cS a)), (1, .sl b.length (cS b)), (5, .i p.k)], hp := fun _ => none, nx := 0, cx := p.c }) (fun p => p.k ≤ a.length ∧ a.take p.k = b.take p.k) (fun p => a.length - p.k) rfl ⟨⟨0, _⟩, ⟨Nat.zero_le _, rfl⟩, sub_same rfl rfl (Nat.le_refl _)⟩ ?_
      rintro ⟨k, c⟩ ⟨hk, ht⟩ n0
      simp only at hk ht ⊢
      refine awp_seqP rfl ?_
      refine awp_seqP rfl ?_
      refine awp_regP (Γ := noEnv) [14, 0, 1, 5] (noEnv_ok _ _) rfl rfl rfl (fun K hK => ?_)
      simp only [Tryd.f47, bodyOf, Option.getD_some, cl, cr, rOps, lights, light, rN, List.size_toArray, List.length_cons, List.length_nil, Nat.reduceAdd, Nat.zero_add, List.map_cons, List.map_nil, Option.map_none]
      simp (maxSteps := 300000) (disch := omega) only [go_sem, Nat.reduceAdd, ↓reduceIte]
      with_reducible refine hK _ ?_
      clear hK K
      refine nx_then ?_
      refine awp_ifD (.tmp 14) rfl rfl rfl (fun h => ?_) (fun h => ?_)
      · skip
        refine awp_drop rfl ?_
        have hka : k < a.length := by omega
        have hkb : k < b.length := by omega
        refine awp_skipP rfl ?_
        refine nx_then ?_
        refine awp_seqP rfl ?_
        refine awp_blockN 1 rfl rfl ?_
        refine awp_seqP rfl ?_
        refine awp_drwP (Γ := noEnv) (fun _ => 2) [25, 0, 1, 5] mixed (noEnv_ok _ _) rfl rfl rfl (by kernel_rfl) (fun K hK => ?_)
        simp only [Tryd.f47, bodyOf, Option.getD_some, cl, cr, rOps, lights, light, rN, List.size_toArray, List.length_cons, List.length_nil, Nat.reduceAdd, Nat.zero_add, List.map_cons, List.map_nil, Option.map_none]
        simp (maxSteps := 300000) (disch := omega) only [go_sem, Nat.reduceAdd, ↓reduceIte]
        with_reducible refine hK _ ?_
        clear hK K
        refine nx_then ?_
        refine awp_ifE (.tmp 25) rfl rfl rfl (fun h => ?_) (fun h => ?_)
        · skip
          refine awp_drop rfl ?_
          have hl : decide (a = b) = false := decide_eq_false (fun e => h (by rw [e]))
          refine awp_seqP rfl ?_
          refine awp_regP (Γ := noEnv) [4] (noEnv_ok _ _) rfl rfl rfl (fun K hK => ?_)
          simp only [Tryd.f47, bodyOf, Option.getD_some, cl, cr, rOps, lights, light, rN, List.size_toArray, List.length_cons, List.length_nil, Nat.zero_add, List.map_cons, List.map_nil, Option.map_none]
          simp (maxSteps := 300000) (disch := omega) only [go_sem, ↓reduceIte]
          with_reducible refine hK _ ?_
          clear hK K
          refine nx_then ?_
          refine awp_retP rfl ?_
          refine nx_ret_blk (nx_ret_then (nx_ret_loop (nx_ret_blk (nx_ret_then ?_))))
          simp (disch := omega) only [pureQ, resA, resAL, resA1, Tryd.f47, go_sem, ↓reduceIte, hl]
        · skip
          refine awp_drop rfl ?_
          refine awp_skipP rfl ?_
          refine nx_blk (nx_then ?_)
          refine awp_regP (Γ := noEnv) [0, 1, 5] (noEnv_ok _ _) rfl rfl rfl (fun K hK => ?_)
          simp only [Tryd.f47, bodyOf, Option.getD_some, cl, cr, rOps, lights, light, rN, List.size_toArray, List.length_cons, List.length_nil, Nat.reduceAdd, Nat.zero_add, List.map_cons, List.map_nil, Option.map_none]
          simp (maxSteps := 300000) (disch := omega) only [go_sem, Nat.reduceAdd, ↓reduceIte]
          with_reducible refine hK _ ?_
          clear hK K
          refine nx_loop ?_
          refine ⟨⟨k + 1, _⟩, ⟨by simp only; omega, take_next hka hkb ht h⟩, by simp only; omega, sub_same ?_ rfl (Nat.le_refl _)⟩
          simp only [Int.natCast_add, Int.natCast_one]
      · skip
        refine awp_drop rfl ?_
        refine awp_exitN 0 rfl rfl ?_
        refine nx_ex_then (nx_ex_loop (nx_ex_blk ?_))
        refine nx_then ?_
        refine awp_seqP rfl ?_
        obtain rfl : k = a.length := by omega
        have hl : decide (a = b) = true := decide_eq_true (by rw [List.take_length, hab, List.take_length] at ht; exact ht)
        refine awp_regP (Γ := noEnv) [4] (noEnv_ok _ _) rfl rfl rfl (fun K hK => ?_)
        simp only [Tryd.f47, bodyOf, Option.getD_some, cl, cr, rOps, lights, light, rN, List.size_toArray, List.length_cons, List.length_nil, Nat.zero_add, List.map_cons, List.map_nil, Option.map_none]
        simp (maxSteps := 300000) (disch := omega) only [go_sem, ↓reduceIte]
        with_reducible refine hK _ ?_
        clear hK K
        refine nx_then ?_
        refine awp_retP rfl ?_
        simp (disch := omega) only [pureQ, resA, resAL, resA1, Tryd.f47, go_sem, ↓reduceIte, hl]
  · cases hg
theorem ok47 : EntOK Tryd.prog GLh 47 (.pure true nmeG) := ⟨⟨_, Tryd.func47, rfl, rfl⟩, nme_ok⟩

def ownL (ps apex : List (List B8)) (salt : List B8) (k : Int) : List (List B8) := hxL (hashV ps salt k) 32 :: apex
def ownG : List AV → Option (Nat × Nat × List AV)
  | [.sl n xs, .sl q ws, .sl m ys, .i k] => obind (unS xs) fun ps => obind (unS ws) fun apex => obind (un8 ys) fun d => guardO (ps.length = n ∧ (wirB ps).length ≤ 100000 ∧ apex.length = q ∧ q ≤ 100000 ∧ d.length = m ∧ m ≤ 60000) (some (1 + q, 1, cS (ownL ps apex d k)))
  | _ => none
theorem ownG_eq (n q m : Nat) (xs ws ys : List AV) (k : Int) : ownG [.sl n xs, .sl q ws, .sl m ys, .i k] = obind (unS xs) fun ps => obind (unS ws) fun apex => obind (un8 ys) fun d => guardO (ps.length = n ∧ (wirB ps).length ≤ 100000 ∧ apex.length = q ∧ q ≤ 100000 ∧ d.length = m ∧ m ≤ 60000) (some (1 + q, 1, cS (ownL ps apex d k))) := (rfl)
theorem cS_noOs (ps : List (List B8)) : noOs (cS ps) = true := by
  simp only [noOs, cS, Bool.not_eq_true', List.any_eq_false, List.mem_map]
  rintro _ ⟨x, _, rfl⟩
  simp [isOs]
attribute [go_sem] ownG_eq cS_noOs
theorem ownL_len (ps apex : List (List B8)) (salt : List B8) (k : Int) : (ownL ps apex salt k).length = 1 + apex.length := by rw [ownL, List.length_cons]; omega
theorem cS_one' (x : List B8) (l : List (List B8)) : AV.s x :: cS l = cS (x :: l) := rfl

set_option maxHeartbeats 1000000 in
theorem own_ok : FreshOK Tryd.prog GLh 48 ownG := by
  refine fresh_of_awp Tryd.func48 (bodyOf_some rfl) ?_
  intro args r hg
  unfold ownG at hg
  split at hg
  · rename_i n xs q ws m ys k
    replace hg := obind_inv hg; obtain ⟨ps, hb, hg⟩ := hg
    replace hg := obind_inv hg; obtain ⟨apex, hb1, hg⟩ := hg
    replace hg := obind_inv hg; obtain ⟨d, hb2, hg⟩ := hg
    replace hg := guardO_inv hg; obtain ⟨⟨hn, hbig, hq, hbig1, hm, hbig2⟩, hg⟩ := hg
    obtain rfl := Option.some.inj hg
    have := unS_inv hb; subst this
    have := unS_inv hb1; subst this
    have := un8_inv _ hb2; subst this
    subst hn; subst hm; subst hq
    clear hg hb hb2 hb1
    refine ⟨Nat.le_of_ble_eq_true rfl, fun nx => ?_⟩
    have hvl := hashV_len ps d k
    have hob : cS (hxL (hashV ps d k) 32 :: apex) = cS (ownL ps apex d k) := rfl
    refine awp_seqP rfl ?_
    refine awp_regP (Γ := noEnv) [0, 1, 2, 3] (noEnv_ok _ _) rfl rfl rfl (fun K hK => ?_)
    simp only [Tryd.f48, bodyOf, Option.getD_some, cl, rOps, lights, light, rN, List.size_toArray, List.length_cons, List.length_nil, Nat.zero_add, List.map_cons, List.map_nil, Option.map_none]
    simp (maxSteps := 300000) (disch := omega) only [go_sem, Nat.reduceAdd, ↓reduceIte]
    with_reducible refine hK _ ?_
    clear hK K
    refine nx_then ?_
    refine awp_seqP rfl ?_
    refine awp_regP (Γ := envL [(45, .pure true hashG)]) [1, 9] (envOK_cons ok45 envOK_nil) rfl rfl rfl (fun K hK => ?_)
    simp only [Tryd.f48, bodyOf, Option.getD_some, cl, cr, rOps, lights, light, rN, List.size_toArray, List.length_cons, List.length_nil, Nat.reduceAdd, Nat.zero_add, List.map_cons, List.map_nil, Option.map_none]
    simp (maxSteps := 300000) (disch := omega) only [go_sem, Nat.reduceAdd, Nat.reduceLeDiff, ↓reduceIte]
    with_reducible refine hK _ ?_
    clear hK K
    refine nx_then ?_
    generalize hashV ps d k = hv at *
    refine awp_seqP rfl ?_
    refine awp_regP (Γ := envL [(77, .pure true hexG)]) [8] (envOK_cons ok77 envOK_nil) rfl rfl rfl (fun K hK => ?_)
    simp only [Tryd.f48, bodyOf, Option.getD_some, cl, cr, rOps, lights, light, rN, List.size_toArray, List.length_cons, List.length_nil, Nat.reduceAdd, Nat.zero_add, List.map_cons, List.map_nil, Option.map_none]
    simp (maxSteps := 300000) (disch := omega) only [go_sem, Nat.reduceAdd, Nat.reduceSub, Nat.reduceLeDiff, Nat.reduceLT, Int.reduceLE, Int.reduceToNat, ↓reduceIte, hvl]
    with_reducible refine hK _ ?_
    clear hK K
    refine nx_then ?_
    refine awp_retP rfl ?_
    simp (disch := omega) only [freshQ, freshR, resA, resAL, resA1, Tryd.f48, go_sem, ↓reduceIte, cS_noOwn, cS_one', hob, ownL_len]
  · cases hg
theorem ok48 : EntOK Tryd.prog GLh 48 (.fresh true ownG) := ⟨⟨_, Tryd.func48, rfl, rfl⟩, own_ok⟩

set_option maxHeartbeats 1000000 in
theorem rown_ok : FreshOK Tryd.prog GLh 49 ownG := by
  refine fresh_of_awp Tryd.func49 (bodyOf_some rfl) ?_
  intro args r hg
  unfold ownG at hg
  split at hg
  · rename_i n xs q ws m ys k
    replace hg := obind_inv hg; obtain ⟨ps, hb, hg⟩ := hg
    replace hg := obind_inv hg; obtain ⟨apex, hb1, hg⟩ := hg
    replace hg := obind_inv hg; obtain ⟨d, hb2, hg⟩ := hg
    replace hg := guardO_inv hg; obtain ⟨⟨hn, hbig, hq, hbig1, hm, hbig2⟩, hg⟩ := hg
    obtain rfl := Option.some.inj hg
    have := unS_inv hb; subst this
    have := unS_inv hb1; subst this
    have := un8_inv _ hb2; subst this
    subst hn; subst hm; subst hq
    clear hg hb hb2 hb1
    refine ⟨Nat.le_of_ble_eq_true rfl, fun nx => ?_⟩
    have hvl := hashV_len ps d k
    have hob : cS (hxL (hashV ps d k) 32 :: apex) = cS (ownL ps apex d k) := rfl
    refine awp_seqP rfl ?_
    refine awp_regP (Γ := noEnv) [0, 1, 2, 3] (noEnv_ok _ _) rfl rfl rfl (fun K hK => ?_)
    simp only [Tryd.f49, bodyOf, Option.getD_some, cl, rOps, lights, light, rN, List.size_toArray, List.length_cons, List.length_nil, Nat.zero_add, List.map_cons, List.map_nil, Option.map_none]
    simp (maxSteps := 300000) (disch := omega) only [go_sem, Nat.reduceAdd, ↓reduceIte]
    with_reducible refine hK _ ?_
    clear hK K
    refine nx_then ?_
    refine awp_seqP rfl ?_
    refine awp_regP (Γ := envL [(46, .pure true hashG)]) [1, 9] (envOK_cons ok46 envOK_nil) rfl rfl rfl (fun K hK => ?_)
    simp only [Tryd.f49, bodyOf, Option.getD_some, cl, cr, rOps, lights, light, rN, List.size_toArray, List.length_cons, List.length_nil, Nat.reduceAdd, Nat.zero_add, List.map_cons, List.map_nil, Option.map_none]
    simp (maxSteps := 300000) (disch := omega) only [go_sem, Nat.reduceAdd, Nat.reduceLeDiff, ↓reduceIte]
    with_reducible refine hK _ ?_
    clear hK K
    refine nx_then ?_
    generalize hashV ps d k = hv at *
    refine awp_seqP rfl ?_
    refine awp_regP (Γ := envL [(78, .pure true hexG)]) [8] (envOK_cons ok78 envOK_nil) rfl rfl rfl (fun K hK => ?_)
    simp only [Tryd.f49, bodyOf, Option.getD_some, cl, cr, rOps, lights, light, rN, List.size_toArray, List.length_cons, List.length_nil, Nat.reduceAdd, Nat.zero_add, List.map_cons, List.map_nil, Option.map_none]
    simp (maxSteps := 300000) (disch := omega) only [go_sem, Nat.reduceAdd, Nat.reduceSub, Nat.reduceLeDiff, Nat.reduceLT, Int.reduceLE, Int.reduceToNat, ↓reduceIte, hvl]
    with_reducible refine hK _ ?_
    clear hK K
    refine nx_then ?_
    refine awp_retP rfl ?_
    simp (disch := omega) only [freshQ, freshR, resA, resAL, resA1, Tryd.f49, go_sem, ↓reduceIte, cS_noOwn, cS_one', hob, ownL_len]
  · cases hg
theorem ok49 : EntOK Tryd.prog GLh 49 (.fresh true ownG) := ⟨⟨_, Tryd.func49, rfl, rfl⟩, rown_ok⟩
end Go.AX

namespace Go.AX
open Go Go.Proofs

theorem ib4d : isBoolT Tryd.prog 4 = true := by kernel_rfl
attribute [go_sem] List.getElem?_cons_zero List.getElem?_cons_succ Bool.and_true Bool.true_and Bool.and_self ib4d
theorem sA : ofV (Value.string { data := #[97] }) = .s [97#8] := (rfl)
theorem sB : ofV (Value.string { data := #[98] }) = .s [98#8] := (rfl)
theorem sC : ofV (Value.string { data := #[65] }) = .s [65#8] := (rfl)
theorem unS_one (x : List B8) : unS [AV.s x] = some [x] := (rfl)
attribute [go_sem] sA sB sC unS_one
theorem eg55 : Tryd.prog.eqGuardType Tryd.prog.depth 55 = false := by kernel_rfl
theorem eq55 (l m : List B8) (hl : l.length = 20) (hm : m.length = 20) : eqT Tryd.prog 6 55 (.agg (c8 l)) (.agg (c8 m)) = some (decide (l = m)) :=
  eqT_c8 _ 55 5 20 Tryd.underlying55 Tryd.underlying5 sz5 ag5 l m hl hm
attribute [go_sem] eg55 eq55
def known9G : List AV → Option AV
  | [] => some (.b true)
  | _ => none
theorem known9G_eq : known9G [] = some (.b true) := (rfl)
attribute [go_sem] known9G_eq
theorem iterL_low (ps qs : List (List B8)) (d : List B8) (h : lowS ps = lowS qs) (k : Nat) : iterL ps d k = iterL qs d k := by
  induction k with
  | zero => rw [iterL_zero, iterL_zero, h]
  | succ k ih => rw [iterL_succ, iterL_succ, ih]
theorem hashV_low (ps qs : List (List B8)) (d : List B8) (h : lowS ps = lowS qs) (k : Int) : hashV ps d k = hashV qs d k := by rw [hashV_eq, hashV_eq, iterL_low ps qs d h]
theorem k9a : tagL [1#8, 0#8, 3#8, 253#8, 9#8] = 3581#16 := by decide
theorem k9b : lowS [[65#8]] = lowS [[97#8]] := by decide
theorem k9c (d : List B8) (k : Int) : hashV [[65#8]] d k = hashV [[97#8]] d k := hashV_low _ _ d k9b k

set_option maxHeartbeats 1000000 in
theorem known9_ok : PureOK Tryd.prog GLh 38 known9G := by
  refine pure_of_awp Tryd.func38 (bodyOf_some rfl) ?_
  intro args r hg
  unfold known9G at hg
  split at hg
  · obtain rfl := Option.some.inj hg
    refine ⟨Nat.le_of_ble_eq_true rfl, fun nx => ?_⟩
    have hw1 : (wirB [[97#8]]).length = 2 := rfl
    have hh : (cS [hxL (hashV [[97#8]] [] 0) 32, [98#8]]) = [.s (hxL (hashV [[97#8]] [] 0) 32), .s [98#8]] := rfl
    have hw0 : (wirB []).length = 0 := rfl
    have hw2 : (wirB [[65#8]]).length = 2 := rfl
    refine awp_seqP rfl ?_
    refine awp_regP (Γ := noEnv) [] (noEnv_ok _ _) rfl rfl rfl (fun K hK => ?_)
    simp only [Tryd.f38, bodyOf, Option.getD_some, cl, rOps, lights, light, rN, List.size_toArray, List.length_cons, List.length_nil, Nat.zero_add, List.map_cons, List.map_nil, Option.map_none]
    simp (maxSteps := 300000) (disch := omega) only [go_sem]
    with_reducible refine hK _ ?_
    clear hK K
    refine nx_then ?_
    refine awp_seqP rfl ?_
    refine awp_regP (Γ := noEnv) [1] (noEnv_ok _ _) rfl rfl rfl (fun K hK => ?_)
    simp only [Tryd.f38, bodyOf, Option.getD_some, cl, cr, rOps, lights, light, rN, List.size_toArray, List.length_cons, List.length_nil, Nat.reduceAdd, Nat.zero_add, List.map_cons, List.map_nil, Option.map_none]
    simp (maxSteps := 300000) (disch := omega) only [go_sem, Nat.reduceAdd, Nat.reduceLeDiff, Nat.reduceLT, Int.reduceLE, Int.reduceLT, BitVec.reduceOfInt, ↓reduceIte]
    with_reducible refine hK _ ?_
    clear hK K
    refine nx_then ?_
    refine awp_seqP rfl ?_
    refine awp_regP (Γ := envL [(48, .fresh true ownG)]) [1, 2] (envOK_cons ok48 envOK_nil) rfl rfl rfl (fun K hK => ?_)
    simp only [Tryd.f38, bodyOf, Option.getD_some, cl, cr, rOps, lights, light, rN, List.size_toArray, List.length_cons, List.length_nil, Nat.reduceAdd, Nat.zero_add, List.map_cons, List.map_nil, Option.map_none]
    simp (maxSteps := 300000) (disch := omega) only [go_sem, Nat.reduceAdd, Nat.reduceLeDiff, Nat.reduceLT, ↓reduceIte, hw1]
    with_reducible refine hK _ ?_
    clear hK K
    refine nx_then ?_
    have hk := k9c [] 1
    have hv1 := hashV_len [[97#8]] [] 1
    have hx := hxL_len (hashV [[97#8]] [] 0) 32
    have hdl := dsL_len [] [1#8, 0#8, 3#8, 253#8, 9#8]
    refine awp_seqP rfl ?_
    refine awp_regP (Γ := envL [(40, .pure true tagG), (42, .fresh true dsN), (45, .pure true hashG)]) [0] (envOK_cons ok40 (envOK_cons ok42 (envOK_cons ok45 envOK_nil))) rfl rfl rfl (fun K hK => ?_)
    simp only [Tryd.f38, bodyOf, Option.getD_some, cl, cr, rOps, lights, light, rN, List.size_toArray, List.length_cons, List.length_nil, Nat.reduceAdd, Nat.zero_add, List.map_cons, List.map_nil, Option.map_none, Option.map_some, List.getElem?_toArray, List.getElem?_cons_zero, List.getElem?_cons_succ, Option.bind_some]
    simp (maxSteps := 300000) (disch := omega) only [go_sem, Nat.reduceAdd, Nat.reduceLeDiff, Nat.reduceLT, Int.reduceLE, Int.reduceLT, Int.reduceToNat, BitVec.reduceOfInt, ↓reduceIte, k9a, hk, hx, hw1, hw2, hw0, ownL, Int.cast_ofNat_Int, hh, List.head?_cons, List.drop_succ_cons, List.drop_zero, decide_true]
    with_reducible refine hK _ ?_
    clear hK K
    refine nx_then ?_
    refine awp_retP rfl ?_
    simp (disch := omega) only [pureQ, resA, resAL, resA1, Tryd.f38, go_sem, ↓reduceIte]
  · cases hg
theorem ok38 : EntOK Tryd.prog GLh 38 (.pure true known9G) := ⟨⟨_, Tryd.func38, rfl, rfl⟩, known9_ok⟩

noncomputable def law9aG : List AV → Option AV
  | [.sl n xs, .sl m ys] => obind (unS xs) fun ps => obind (un8 ys) fun d => guardO (ps.length = n ∧ d.length = m ∧ n ≤ 9223372036854775807 ∧ m ≤ 9223372036854775807) (some (.b true))
  | _ => none

set_option maxHeartbeats 1000000 in
theorem law9a_ok : PureOK Tryd.prog GLh 11 law9aG := by
  refine pure_of_awp Tryd.func11 (bodyOf_some rfl) ?_
  intro args r hg
  unfold law9aG at hg
  split at hg
  · rename_i n xs m ys
    replace hg := obind_inv hg; obtain ⟨ps, hb, hg⟩ := hg
    replace hg := obind_inv hg; obtain ⟨d, hb2, hg⟩ := hg
    replace hg := guardO_inv hg; obtain ⟨⟨hn, hm, hbig, hbig2⟩, hg⟩ := hg
    obtain rfl := Option.some.inj hg
    have := unS_inv hb; subst this
    have := un8_inv _ hb2; subst this
    subst hn; subst hm
    clear hg hb hb2
    refine ⟨Nat.le_of_ble_eq_true rfl, fun nx => ?_⟩
    have hdl := dsL_len ps d
    refine awp_seqP rfl ?_
    refine awp_regP (Γ := noEnv) [0, 1] (noEnv_ok _ _) rfl rfl rfl (fun K hK => ?_)
    simp only [Tryd.f11, bodyOf, Option.getD_some, cl, rOps, lights, light, rN, List.size_toArray, List.length_cons, List.length_nil, Nat.zero_add, List.map_cons, List.map_nil, Option.map_none]
    simp (maxSteps := 300000) (disch := omega) only [go_sem, ↓reduceIte]
    with_reducible refine hK _ ?_
    clear hK K
    refine nx_then ?_
    refine awp_seqP rfl ?_
    refine awp_seqP rfl ?_
    refine awp_regP (Γ := envL [(38, .pure true known9G)]) [6, 0, 1] (envOK_cons ok38 envOK_nil) rfl rfl rfl (fun K hK => ?_)
    simp only [Tryd.f11, bodyOf, Option.getD_some, cl, cr, rOps, lights, light, rN, List.size_toArray, List.length_cons, List.length_nil, Nat.reduceAdd, Nat.zero_add, List.map_cons, List.map_nil, Option.map_none]
    simp (maxSteps := 300000) (disch := omega) only [go_sem, Nat.reduceAdd, ↓reduceIte]
    with_reducible refine hK _ ?_
    clear hK K
    refine nx_then ?_
    refine awp_ifB (.tmp 6) rfl rfl rfl (fun h => ?_) (fun h => ?_)
    · skip
      refine awp_drop rfl ?_
      cases h
    · skip
      refine awp_drop rfl ?_
      clear h
      by_cases ha : 3000 < d.length
      · skip
        have ha2 : decide (3000 < (d.length : Int)) = true := decide_eq_true (by omega)
        refine awp_skipP rfl ?_
        refine nx_then ?_
        refine awp_seqP rfl ?_
        refine awp_seqP rfl ?_
        refine awp_regP (Γ := envL [(39, .pure true lightG)]) [14, 0, 1] (envOK_cons ok39 envOK_nil) rfl rfl rfl (fun K hK => ?_)
        simp only [Tryd.f11, bodyOf, Option.getD_some, cl, cr, rOps, lights, light, rN, List.size_toArray, List.length_cons, List.length_nil, Nat.reduceAdd, Nat.zero_add, List.map_cons, List.map_nil, Option.map_none, Option.map_some, List.getElem?_toArray, List.getElem?_cons_zero, List.getElem?_cons_succ, Option.bind_some]
        simp (maxSteps := 300000) (disch := omega) only [go_sem, Nat.reduceAdd, ↓reduceIte, ha2]
        with_reducible refine hK _ ?_
        clear hK K
        refine nx_then ?_
        refine awp_ifB (.tmp 14) rfl rfl rfl (fun h => ?_) (fun h => ?_)
        · skip
          refine awp_drop rfl ?_
          refine awp_seqP rfl ?_
          refine awp_regP (Γ := noEnv) [4] (noEnv_ok _ _) rfl rfl rfl (fun K hK => ?_)
          simp only [Tryd.f11, bodyOf, Option.getD_some, cl, cr, rOps, lights, light, rN, List.size_toArray, List.length_cons, List.length_nil, Nat.zero_add, List.map_cons, List.map_nil, Option.map_none]
          simp (maxSteps := 300000) (disch := omega) only [go_sem, ↓reduceIte]
          with_reducible refine hK _ ?_
          clear hK K
          refine nx_then ?_
          refine awp_retP rfl ?_
          refine nx_ret_then ?_
          simp (disch := omega) only [pureQ, resA, resAL, resA1, Tryd.f11, go_sem, ↓reduceIte]
        · skip
          refine awp_drop rfl ?_
          cases h
      · skip
        have ha2 : decide (3000 < (d.length : Int)) = false := decide_eq_false (by omega)
        refine awp_skipP rfl ?_
        refine nx_then ?_
        refine awp_seqP rfl ?_
        refine awp_seqP rfl ?_
        refine awp_regP (Γ := envL [(39, .pure true lightG)]) [14, 0, 1] (envOK_cons ok39 envOK_nil) rfl rfl rfl (fun K hK => ?_)
        simp only [Tryd.f11, bodyOf, Option.getD_some, cl, cr, rOps, lights, light, rN, List.size_toArray, List.length_cons, List.length_nil, Nat.reduceAdd, Nat.zero_add, List.map_cons, List.map_nil, Option.map_none, Option.map_some, List.getElem?_toArray, List.getElem?_cons_zero, List.getElem?_cons_succ, Option.bind_some]
        simp (maxSteps := 300000) (disch := omega) only [go_sem, Nat.reduceAdd, reduceCtorEq, ↓reduceIte, ha2]
        with_reducible refine hK _ ?_
        clear hK K
        refine nx_then ?_
        cases hlt : lightB ps
        · skip
          refine awp_ifB (.tmp 14) rfl rfl rfl (fun h => ?_) (fun h => ?_)
          · skip
            refine awp_drop rfl ?_
            refine awp_seqP rfl ?_
            refine awp_regP (Γ := noEnv) [4] (noEnv_ok _ _) rfl rfl rfl (fun K hK => ?_)
            simp only [Tryd.f11, bodyOf, Option.getD_some, cl, cr, rOps, lights, light, rN, List.size_toArray, List.length_cons, List.length_nil, Nat.zero_add, List.map_cons, List.map_nil, Option.map_none]
            simp (maxSteps := 300000) (disch := omega) only [go_sem, ↓reduceIte]
            with_reducible refine hK _ ?_
            clear hK K
            refine nx_then ?_
            refine awp_retP rfl ?_
            refine nx_ret_then ?_
            simp (disch := omega) only [pureQ, resA, resAL, resA1, Tryd.f11, go_sem, ↓reduceIte]
          · skip
            refine awp_drop rfl ?_
            cases h
        · skip
          obtain ⟨hl1, hl2⟩ := light_wir hlt
          refine awp_ifB (.tmp 14) rfl rfl rfl (fun h => ?_) (fun h => ?_)
          · skip
            refine awp_drop rfl ?_
            cases h
          · skip
            refine awp_drop rfl ?_
            clear h
            refine awp_skipP rfl ?_
            refine nx_then ?_
            refine awp_seqP rfl ?_
            refine awp_regP (Γ := envL [(40, .pure true tagG), (41, .pure true tagG), (42, .fresh true dsN), (43, .fresh true dsG), (31, .pure true bytG)]) [4] (envOK_cons ok40 (envOK_cons ok41 (envOK_cons ok42 (envOK_cons ok43 (envOK_cons ok31 envOK_nil))))) rfl rfl rfl (fun K hK => ?_)
            simp only [Tryd.f11, bodyOf, Option.getD_some, cl, cr, rOps, lights, light, rN, List.size_toArray, List.length_cons, List.length_nil, Nat.reduceAdd, Nat.zero_add, List.map_cons, List.map_nil, Option.map_none, Option.map_some, List.getElem?_toArray, List.getElem?_cons_zero, List.getElem?_cons_succ, Option.bind_some]
            simp (maxSteps := 300000) (disch := omega) only [go_sem, Nat.reduceAdd, Nat.reduceLeDiff, ↓reduceIte, hdl]
            with_reducible refine hK _ ?_
            clear hK K
            refine nx_then ?_
            refine awp_retP rfl ?_
            simp (disch := omega) only [pureQ, resA, resAL, resA1, Tryd.f11, go_sem, ↓reduceIte]
  · cases hg
theorem ok11 : EntOK Tryd.prog GLh 11 (.pure true law9aG) := ⟨⟨_, Tryd.func11, rfl, rfl⟩, law9a_ok⟩

noncomputable def law9bG : List AV → Option AV
  | [.sl n xs, .sl q ws, .sl m ys, .i _, .b _] => obind (unS xs) fun ps => obind (unS ws) fun ax => obind (un8 ys) fun d => guardO (ps.length = n ∧ ax.length = q ∧ d.length = m ∧ n ≤ 9223372036854775807 ∧ q ≤ 9223372036854775807 ∧ m ≤ 9223372036854775807) (some (.b true))
  | _ => none

set_option maxHeartbeats 1000000 in
theorem law9b_ok : PureOK Tryd.prog GLh 12 law9bG := by
  refine pure_of_awp Tryd.func12 (bodyOf_some rfl) ?_
  intro args r hg
  unfold law9bG at hg
  split at hg
  · rename_i n xs q ws m ys k0 raw
    replace hg := obind_inv hg; obtain ⟨ps, hb, hg⟩ := hg
    replace hg := obind_inv hg; obtain ⟨ax, hb1, hg⟩ := hg
    replace hg := obind_inv hg; obtain ⟨d, hb2, hg⟩ := hg
    replace hg := guardO_inv hg; obtain ⟨⟨hn, hq, hm, hbig, hbig1, hbig2⟩, hg⟩ := hg
    obtain rfl := Option.some.inj hg
    have := unS_inv hb; subst this
    have := unS_inv hb1; subst this
    have := un8_inv _ hb2; subst this
    subst hn; subst hm; subst hq
    clear hg hb hb2 hb1
    refine ⟨Nat.le_of_ble_eq_true rfl, fun nx => ?_⟩
    refine awp_seqP rfl ?_
    refine awp_regP (Γ := noEnv) [0, 1, 2, 3, 4] (noEnv_ok _ _) rfl rfl rfl (fun K hK => ?_)
    simp only [Tryd.f12, bodyOf, Option.getD_some, cl, rOps, lights, light, rN, List.size_toArray, List.length_cons, List.length_nil, Nat.zero_add, List.map_cons, List.map_nil, Option.map_none]
    simp (maxSteps := 300000) (disch := omega) only [go_sem, Nat.reduceAdd, ↓reduceIte]
    with_reducible refine hK _ ?_
    clear hK K
    refine nx_then ?_
    refine awp_seqP rfl ?_
    refine awp_seqP rfl ?_
    refine awp_regP (Γ := envL [(38, .pure true known9G)]) [13, 0, 1, 2, 3, 4] (envOK_cons ok38 envOK_nil) rfl rfl rfl (fun K hK => ?_)
    simp only [Tryd.f12, bodyOf, Option.getD_some, cl, cr, rOps, lights, light, rN, List.size_toArray, List.length_cons, List.length_nil, Nat.reduceAdd, Nat.zero_add, List.map_cons, List.map_nil, Option.map_none]
    simp (maxSteps := 300000) (disch := omega) only [go_sem, Nat.reduceAdd, ↓reduceIte]
    with_reducible refine hK _ ?_
    clear hK K
    refine nx_then ?_
    refine awp_ifB (.tmp 13) rfl rfl rfl (fun h => ?_) (fun h => ?_)
    · skip
      refine awp_drop rfl ?_
      cases h
    · skip
      refine awp_drop rfl ?_
      clear h
      cases hlt : lightB ps
      · skip
        refine awp_skipP rfl ?_
        refine nx_then ?_
        refine awp_seqP rfl ?_
        refine awp_seqP rfl ?_
        refine awp_regP (Γ := envL [(39, .pure true lightG)]) [26, 0, 1, 2, 3, 4] (envOK_cons ok39 envOK_nil) rfl rfl rfl (fun K hK => ?_)
        simp only [Tryd.f12, bodyOf, Option.getD_some, cl, cr, rOps, lights, light, rN, List.size_toArray, List.length_cons, List.length_nil, Nat.reduceAdd, Nat.zero_add, List.map_cons, List.map_nil, Option.map_none, Option.map_some, List.getElem?_toArray, List.getElem?_cons_zero, List.getElem?_cons_succ, Option.bind_some]
        simp (maxSteps := 300000) (disch := omega) only [go_sem, Nat.reduceAdd, ↓reduceIte, hlt]
        with_reducible refine hK _ ?_
        clear hK K
        refine nx_then ?_
        refine awp_ifB (.tmp 26) rfl rfl rfl (fun h => ?_) (fun h => ?_)
        · skip
          refine awp_drop rfl ?_
          refine awp_seqP rfl ?_
          refine awp_regP (Γ := noEnv) [10] (noEnv_ok _ _) rfl rfl rfl (fun K hK => ?_)
          simp only [Tryd.f12, bodyOf, Option.getD_some, cl, cr, rOps, lights, light, rN, List.size_toArray, List.length_cons, List.length_nil, Nat.zero_add, List.map_cons, List.map_nil, Option.map_none]
          simp (maxSteps := 300000) (disch := omega) only [go_sem, ↓reduceIte]
          with_reducible refine hK _ ?_
          clear hK K
          refine nx_then ?_
          refine awp_retP rfl ?_
          refine nx_ret_then ?_
          simp (disch := omega) only [pureQ, resA, resAL, resA1, Tryd.f12, go_sem, ↓reduceIte]
        · skip
          refine awp_drop rfl ?_
          cases h
      · skip
        obtain ⟨hl1, hl2⟩ := light_wir hlt
        cases hlx : lightB ax
        · skip
          refine awp_skipP rfl ?_
          refine nx_then ?_
          refine awp_seqP rfl ?_
          refine awp_seqP rfl ?_
          refine awp_regP (Γ := envL [(39, .pure true lightG)]) [26, 0, 1, 2, 3, 4] (envOK_cons ok39 envOK_nil) rfl rfl rfl (fun K hK => ?_)
          simp only [Tryd.f12, bodyOf, Option.getD_some, cl, cr, rOps, lights, light, rN, List.size_toArray, List.length_cons, List.length_nil, Nat.reduceAdd, Nat.zero_add, List.map_cons, List.map_nil, Option.map_none, Option.map_some, List.getElem?_toArray, List.getElem?_cons_zero, List.getElem?_cons_succ, Option.bind_some]
          simp (maxSteps := 300000) (disch := omega) only [go_sem, Nat.reduceAdd, reduceCtorEq, ↓reduceIte, hlt, hlx]
          with_reducible refine hK _ ?_
          clear hK K
          refine nx_then ?_
          refine awp_ifB (.tmp 26) rfl rfl rfl (fun h => ?_) (fun h => ?_)
          · skip
            refine awp_drop rfl ?_
            refine awp_seqP rfl ?_
            refine awp_regP (Γ := noEnv) [10] (noEnv_ok _ _) rfl rfl rfl (fun K hK => ?_)
            simp only [Tryd.f12, bodyOf, Option.getD_some, cl, cr, rOps, lights, light, rN, List.size_toArray, List.length_cons, List.length_nil, Nat.zero_add, List.map_cons, List.map_nil, Option.map_none]
            simp (maxSteps := 300000) (disch := omega) only [go_sem, ↓reduceIte]
            with_reducible refine hK _ ?_
            clear hK K
            refine nx_then ?_
            refine awp_retP rfl ?_
            refine nx_ret_then ?_
            simp (disch := omega) only [pureQ, resA, resAL, resA1, Tryd.f12, go_sem, ↓reduceIte]
          · skip
            refine awp_drop rfl ?_
            cases h
        · skip
          obtain ⟨hl3, hl4⟩ := light_wir hlx
          by_cases ha : 300 < d.length
          · skip
            have ha2 : decide (300 < (d.length : Int)) = true := decide_eq_true (by omega)
            refine awp_skipP rfl ?_
            refine nx_then ?_
            refine awp_seqP rfl ?_
            refine awp_seqP rfl ?_
            refine awp_regP (Γ := envL [(39, .pure true lightG)]) [26, 0, 1, 2, 3, 4] (envOK_cons ok39 envOK_nil) rfl rfl rfl (fun K hK => ?_)
            simp only [Tryd.f12, bodyOf, Option.getD_some, cl, cr, rOps, lights, light, rN, List.size_toArray, List.length_cons, List.length_nil, Nat.reduceAdd, Nat.zero_add, List.map_cons, List.map_nil, Option.map_none, Option.map_some, List.getElem?_toArray, List.getElem?_cons_zero, List.getElem?_cons_succ, Option.bind_some]
            simp (maxSteps := 300000) (disch := omega) only [go_sem, Nat.reduceAdd, reduceCtorEq, ↓reduceIte, hlt, hlx, ha2]
            with_reducible refine hK _ ?_
            clear hK K
            refine nx_then ?_
            refine awp_ifB (.tmp 26) rfl rfl rfl (fun h => ?_) (fun h => ?_)
            · skip
              refine awp_drop rfl ?_
              refine awp_seqP rfl ?_
              refine awp_regP (Γ := noEnv) [10] (noEnv_ok _ _) rfl rfl rfl (fun K hK => ?_)
              simp only [Tryd.f12, bodyOf, Option.getD_some, cl, cr, rOps, lights, light, rN, List.size_toArray, List.length_cons, List.length_nil, Nat.zero_add, List.map_cons, List.map_nil, Option.map_none]
              simp (maxSteps := 300000) (disch := omega) only [go_sem, ↓reduceIte]
              with_reducible refine hK _ ?_
              clear hK K
              refine nx_then ?_
              refine awp_retP rfl ?_
              refine nx_ret_then ?_
              simp (disch := omega) only [pureQ, resA, resAL, resA1, Tryd.f12, go_sem, ↓reduceIte]
            · skip
              refine awp_drop rfl ?_
              cases h
          · skip
            have ha2 : decide (300 < (d.length : Int)) = false := decide_eq_false (by omega)
            refine awp_skipP rfl ?_
            refine nx_then ?_
            refine awp_seqP rfl ?_
            refine awp_seqP rfl ?_
            refine awp_regP (Γ := envL [(39, .pure true lightG)]) [26, 0, 1, 2, 3, 4] (envOK_cons ok39 envOK_nil) rfl rfl rfl (fun K hK => ?_)
            simp only [Tryd.f12, bodyOf, Option.getD_some, cl, cr, rOps, lights, light, rN, List.size_toArray, List.length_cons, List.length_nil, Nat.reduceAdd, Nat.zero_add, List.map_cons, List.map_nil, Option.map_none, Option.map_some, List.getElem?_toArray, List.getElem?_cons_zero, List.getElem?_cons_succ, Option.bind_some]
            simp (maxSteps := 300000) (disch := omega) only [go_sem, Nat.reduceAdd, reduceCtorEq, ↓reduceIte, hlt, hlx, ha2]
            with_reducible refine hK _ ?_
            clear hK K
            refine nx_then ?_
            refine awp_ifB (.tmp 26) rfl rfl rfl (fun h => ?_) (fun h => ?_)
            · skip
              refine awp_drop rfl ?_
              cases h
            · skip
              refine awp_drop rfl ?_
              clear h
              refine awp_skipP rfl ?_
              refine nx_then ?_
              refine awp_seqP rfl ?_
              refine awp_seqP rfl ?_
              refine awp_regP (Γ := noEnv) [28, 0, 1, 2, 3] (noEnv_ok _ _) rfl rfl rfl (fun K hK => ?_)
              simp only [Tryd.f12, bodyOf, Option.getD_some, cl, cr, rOps, lights, light, rN, List.size_toArray, List.length_cons, List.length_nil, Nat.reduceAdd, Nat.zero_add, List.map_cons, List.map_nil, Option.map_none]
              simp (maxSteps := 300000) (disch := omega) only [go_sem, Nat.reduceAdd, ↓reduceIte]
              with_reducible refine hK _ ?_
              clear hK K
              refine nx_then ?_
              refine awp_ifB (.tmp 28) rfl rfl rfl (fun h => ?_) (fun h => ?_)
              · skip
                refine awp_drop rfl ?_
                refine awp_regP (Γ := envL [(44, .pure true placeG)]) [0, 1, 2, 3] (envOK_cons ok44 envOK_nil) rfl rfl rfl (fun K hK => ?_)
                simp only [Tryd.f12, bodyOf, Option.getD_some, cl, cr, rOps, lights, light, rN, List.size_toArray, List.length_cons, List.length_nil, Nat.reduceAdd, Nat.zero_add, List.map_cons, List.map_nil, Option.map_none]
                simp (maxSteps := 300000) (disch := omega) only [go_sem, Nat.reduceAdd, Int.reduceLE, Int.reduceLT, ↓reduceIte]
                with_reducible refine hK _ ?_
                clear hK K
                refine nx_then ?_
                have hvl := hashV_len ps d (k0 % 10)
                have hol := ownL_len ps ax d (k0 % 10)
                have hd1 : decide (hashV ps d (k0 % 10) = hashV ps d (k0 % 10)) = true := decide_eq_true rfl
                have hd2 : decide (ownL ps ax d (k0 % 10) = ownL ps ax d (k0 % 10)) = true := decide_eq_true rfl
                refine awp_seqP rfl ?_
                refine awp_regP (Γ := envL [(45, .pure true hashG)]) [0, 1, 2, 3, 11] (envOK_cons ok45 envOK_nil) rfl rfl rfl (fun K hK => ?_)
                simp only [Tryd.f12, bodyOf, Option.getD_some, cl, cr, rOps, lights, light, rN, List.size_toArray, List.length_cons, List.length_nil, Nat.reduceAdd, Nat.zero_add, List.map_cons, List.map_nil, Option.map_none]
                simp (maxSteps := 300000) (disch := omega) only [go_sem, Nat.reduceAdd, Nat.reduceLeDiff, ↓reduceIte]
                with_reducible refine hK _ ?_
                clear hK K
                refine nx_then ?_
                refine awp_seqP rfl ?_
                refine awp_drwP (Γ := envL [(46, .pure true hashG), (48, .fresh true ownG), (49, .fresh true ownG), (47, .pure true nmeG)]) (fun k => if k = 11 then 0 else if k = 16 then 0 else if k = 17 then 0 else 2) [10] mixed (envOK_cons ok46 (envOK_cons ok48 (envOK_cons ok49 (envOK_cons ok47 envOK_nil)))) rfl rfl rfl (by kernel_rfl) (fun K hK => ?_)
                simp only [Tryd.f12, bodyOf, Option.getD_some, cl, cr, rOps, lights, light, rN, List.size_toArray, List.length_cons, List.length_nil, Nat.reduceAdd, Nat.zero_add, List.map_cons, List.map_nil, Option.map_none, Option.map_some, List.getElem?_toArray, List.getElem?_cons_zero, List.getElem?_cons_succ, Option.bind_some]
                simp (maxSteps := 300000) (disch := omega) only [go_sem, Nat.reduceAdd, ↓reduceIte]
                with_reducible refine hK _ ?_
                clear hK K
                refine nx_then ?_
                refine awp_retP rfl ?_
                simp (disch := omega) only [pureQ, resA, resAL, resA1, Tryd.f12, go_sem, ↓reduceIte]
              · skip
                refine awp_drop rfl ?_
                refine awp_skipP rfl ?_
                refine nx_then ?_
                refine awp_seqP rfl ?_
                have hvl := hashV_len ps d k0
                have hol := ownL_len ps ax d k0
                have hd1 : decide (hashV ps d k0 = hashV ps d k0) = true := decide_eq_true rfl
                have hd2 : decide (ownL ps ax d k0 = ownL ps ax d k0) = true := decide_eq_true rfl
                refine awp_regP (Γ := envL [(45, .pure true hashG)]) [0, 1, 2, 3, 11] (envOK_cons ok45 envOK_nil) rfl rfl rfl (fun K hK => ?_)
                simp only [Tryd.f12, bodyOf, Option.getD_some, cl, cr, rOps, lights, light, rN, List.size_toArray, List.length_cons, List.length_nil, Nat.reduceAdd, Nat.zero_add, List.map_cons, List.map_nil, Option.map_none]
                simp (maxSteps := 300000) (disch := omega) only [go_sem, Nat.reduceAdd, Nat.reduceLeDiff, ↓reduceIte]
                with_reducible refine hK _ ?_
                clear hK K
                refine nx_then ?_
                refine awp_seqP rfl ?_
                refine awp_drwP (Γ := envL [(46, .pure true hashG), (48, .fresh true ownG), (49, .fresh true ownG), (47, .pure true nmeG)]) (fun k => if k = 11 then 0 else if k = 16 then 0 else if k = 17 then 0 else 2) [10] mixed (envOK_cons ok46 (envOK_cons ok48 (envOK_cons ok49 (envOK_cons ok47 envOK_nil)))) rfl rfl rfl (by kernel_rfl) (fun K hK => ?_)
                simp only [Tryd.f12, bodyOf, Option.getD_some, cl, cr, rOps, lights, light, rN, List.size_toArray, List.length_cons, List.length_nil, Nat.reduceAdd, Nat.zero_add, List.map_cons, List.map_nil, Option.map_none, Option.map_some, List.getElem?_toArray, List.getElem?_cons_zero, List.getElem?_cons_succ, Option.bind_some]
                simp (maxSteps := 300000) (disch := omega) only [go_sem, Nat.reduceAdd, ↓reduceIte]
                with_reducible refine hK _ ?_
                clear hK K
                refine nx_then ?_
                refine awp_retP rfl ?_
                simp (disch := omega) only [pureQ, resA, resAL, resA1, Tryd.f12, go_sem, ↓reduceIte]
  · cases hg
theorem ok12 : EntOK Tryd.prog GLh 12 (.pure true law9bG) := ⟨⟨_, Tryd.func12, rfl, rfl⟩, law9b_ok⟩
end Go.AX

namespace Go.AX
open Go Go.Proofs

theorem b_eqlb (P : Program) (t : TypeId) (a b : Bool) : binT P .eql t (.b a) (.b b) = guardO (isBoolT P t = true) (some (.b (a == b))) := (rfl)
theorem b_neqb (P : Program) (t : TypeId) (a b : Bool) : binT P .neq t (.b a) (.b b) = guardO (isBoolT P t = true) (some (.b (!(a == b)))) := (rfl)
attribute [go_sem] b_eqlb b_neqb
noncomputable def law9dG : List AV → Option AV
  | [.sl n xs, .sl q ws, .sl m ys] => obind (unS xs) fun ps => obind (unS ws) fun ax => obind (un8 ys) fun d => guardO (ps.length = n ∧ ax.length = q ∧ d.length = m ∧ n ≤ 9223372036854775807 ∧ q ≤ 9223372036854775807 ∧ m ≤ 9223372036854775807) (some (.b true))
  | _ => none
theorem ds_0 (ps : List (List B8)) (d : List B8) : (dsL ps d).getD 0 0#8 = (tagL d >>> 8).setWidth 8 := by rw [dsL]; rfl
theorem ds_1 (ps : List (List B8)) (d : List B8) : (dsL ps d).getD 1 0#8 = (tagL d).setWidth 8 := by rw [dsL]; rfl
theorem ds_3 (ps : List (List B8)) (d : List B8) : (dsL ps d).getD 3 0#8 = 2#8 := by rw [dsL]; rfl

set_option maxHeartbeats 1000000 in
theorem law9d_ok : PureOK Tryd.prog GLh 14 law9dG := by
  refine pure_of_awp Tryd.func14 (bodyOf_some rfl) ?_
  intro args r hg
  unfold law9dG at hg
  split at hg
  · rename_i n xs q ws m ys
    replace hg := obind_inv hg; obtain ⟨ps, hb, hg⟩ := hg
    replace hg := obind_inv hg; obtain ⟨ax, hb1, hg⟩ := hg
    replace hg := obind_inv hg; obtain ⟨d, hb2, hg⟩ := hg
    replace hg := guardO_inv hg; obtain ⟨⟨hn, hq, hm, hbig, hbig1, hbig2⟩, hg⟩ := hg
    obtain rfl := Option.some.inj hg
    have := unS_inv hb; subst this
    have := unS_inv hb1; subst this
    have := un8_inv _ hb2; subst this
    subst hn; subst hm; subst hq
    clear hg hb hb2 hb1
    refine ⟨Nat.le_of_ble_eq_true rfl, fun nx => ?_⟩
    refine awp_seqP rfl ?_
    refine awp_regP (Γ := noEnv) [0, 1, 2] (noEnv_ok _ _) rfl rfl rfl (fun K hK => ?_)
    simp only [Tryd.f14, bodyOf, Option.getD_some, cl, rOps, lights, light, rN, List.size_toArray, List.length_cons, List.length_nil, Nat.zero_add, List.map_cons, List.map_nil, Option.map_none]
    simp (maxSteps := 300000) (disch := omega) only [go_sem, Nat.reduceAdd, ↓reduceIte]
    with_reducible refine hK _ ?_
    clear hK K
    refine nx_then ?_
    refine awp_seqP rfl ?_
    refine awp_seqP rfl ?_
    refine awp_regP (Γ := envL [(38, .pure true known9G)]) [10, 0, 1, 2] (envOK_cons ok38 envOK_nil) rfl rfl rfl (fun K hK => ?_)
    simp only [Tryd.f14, bodyOf, Option.getD_some, cl, cr, rOps, lights, light, rN, List.size_toArray, List.length_cons, List.length_nil, Nat.reduceAdd, Nat.zero_add, List.map_cons, List.map_nil, Option.map_none]
    simp (maxSteps := 300000) (disch := omega) only [go_sem, Nat.reduceAdd, ↓reduceIte]
    with_reducible refine hK _ ?_
    clear hK K
    refine nx_then ?_
    refine awp_ifB (.tmp 10) rfl rfl rfl (fun h => ?_) (fun h => ?_)
    · skip
      refine awp_drop rfl ?_
      cases h
    · skip
      refine awp_drop rfl ?_
      clear h
      cases hlt : lightB ps
      · skip
        refine awp_skipP rfl ?_
        refine nx_then ?_
        refine awp_seqP rfl ?_
        refine awp_seqP rfl ?_
        refine awp_regP (Γ := envL [(39, .pure true lightG)]) [23, 0, 1, 2] (envOK_cons ok39 envOK_nil) rfl rfl rfl (fun K hK => ?_)
        simp only [Tryd.f14, bodyOf, Option.getD_some, cl, cr, rOps, lights, light, rN, List.size_toArray, List.length_cons, List.length_nil, Nat.reduceAdd, Nat.zero_add, List.map_cons, List.map_nil, Option.map_none, Option.map_some, List.getElem?_toArray, List.getElem?_cons_zero, List.getElem?_cons_succ, Option.bind_some]
        simp (maxSteps := 300000) (disch := omega) only [go_sem, Nat.reduceAdd, ↓reduceIte, hlt]
        with_reducible refine hK _ ?_
        clear hK K
        refine nx_then ?_
        refine awp_ifB (.tmp 23) rfl rfl rfl (fun h => ?_) (fun h => ?_)
        · skip
          refine awp_drop rfl ?_
          refine awp_seqP rfl ?_
          refine awp_regP (Γ := noEnv) [6] (noEnv_ok _ _) rfl rfl rfl (fun K hK => ?_)
          simp only [Tryd.f14, bodyOf, Option.getD_some, cl, cr, rOps, lights, light, rN, List.size_toArray, List.length_cons, List.length_nil, Nat.zero_add, List.map_cons, List.map_nil, Option.map_none]
          simp (maxSteps := 300000) (disch := omega) only [go_sem, ↓reduceIte]
          with_reducible refine hK _ ?_
          clear hK K
          refine nx_then ?_
          refine awp_retP rfl ?_
          refine nx_ret_then ?_
          simp (disch := omega) only [pureQ, resA, resAL, resA1, Tryd.f14, go_sem, ↓reduceIte]
        · skip
          refine awp_drop rfl ?_
          cases h
      · skip
        obtain ⟨hl1, hl2⟩ := light_wir hlt
        cases hlx : lightB ax
        · skip
          refine awp_skipP rfl ?_
          refine nx_then ?_
          refine awp_seqP rfl ?_
          refine awp_seqP rfl ?_
          refine awp_regP (Γ := envL [(39, .pure true lightG)]) [23, 0, 1, 2] (envOK_cons ok39 envOK_nil) rfl rfl rfl (fun K hK => ?_)
          simp only [Tryd.f14, bodyOf, Option.getD_some, cl, cr, rOps, lights, light, rN, List.size_toArray, List.length_cons, List.length_nil, Nat.reduceAdd, Nat.zero_add, List.map_cons, List.map_nil, Option.map_none, Option.map_some, List.getElem?_toArray, List.getElem?_cons_zero, List.getElem?_cons_succ, Option.bind_some]
          simp (maxSteps := 300000) (disch := omega) only [go_sem, Nat.reduceAdd, reduceCtorEq, ↓reduceIte, hlt, hlx]
          with_reducible refine hK _ ?_
          clear hK K
          refine nx_then ?_
          refine awp_ifB (.tmp 23) rfl rfl rfl (fun h => ?_) (fun h => ?_)
          · skip
            refine awp_drop rfl ?_
            refine awp_seqP rfl ?_
            refine awp_regP (Γ := noEnv) [6] (noEnv_ok _ _) rfl rfl rfl (fun K hK => ?_)
            simp only [Tryd.f14, bodyOf, Option.getD_some, cl, cr, rOps, lights, light, rN, List.size_toArray, List.length_cons, List.length_nil, Nat.zero_add, List.map_cons, List.map_nil, Option.map_none]
            simp (maxSteps := 300000) (disch := omega) only [go_sem, ↓reduceIte]
            with_reducible refine hK _ ?_
            clear hK K
            refine nx_then ?_
            refine awp_retP rfl ?_
            refine nx_ret_then ?_
            simp (disch := omega) only [pureQ, resA, resAL, resA1, Tryd.f14, go_sem, ↓reduceIte]
          · skip
            refine awp_drop rfl ?_
            cases h
        · skip
          obtain ⟨hl3, hl4⟩ := light_wir hlx
          by_cases ha : 500 < d.length
          · skip
            have ha2 : decide (500 < (d.length : Int)) = true := decide_eq_true (by omega)
            refine awp_skipP rfl ?_
            refine nx_then ?_
            refine awp_seqP rfl ?_
            refine awp_seqP rfl ?_
            refine awp_regP (Γ := envL [(39, .pure true lightG)]) [23, 0, 1, 2] (envOK_cons ok39 envOK_nil) rfl rfl rfl (fun K hK => ?_)
            simp only [Tryd.f14, bodyOf, Option.getD_some, cl, cr, rOps, lights, light, rN, List.size_toArray, List.length_cons, List.length_nil, Nat.reduceAdd, Nat.zero_add, List.map_cons, List.map_nil, Option.map_none, Option.map_some, List.getElem?_toArray, List.getElem?_cons_zero, List.getElem?_cons_succ, Option.bind_some]
            simp (maxSteps := 300000) (disch := omega) only [go_sem, Nat.reduceAdd, reduceCtorEq, ↓reduceIte, hlt, hlx, ha2]
            with_reducible refine hK _ ?_
            clear hK K
            refine nx_then ?_
            refine awp_ifB (.tmp 23) rfl rfl rfl (fun h => ?_) (fun h => ?_)
            · skip
              refine awp_drop rfl ?_
              refine awp_seqP rfl ?_
              refine awp_regP (Γ := noEnv) [6] (noEnv_ok _ _) rfl rfl rfl (fun K hK => ?_)
              simp only [Tryd.f14, bodyOf, Option.getD_some, cl, cr, rOps, lights, light, rN, List.size_toArray, List.length_cons, List.length_nil, Nat.zero_add, List.map_cons, List.map_nil, Option.map_none]
              simp (maxSteps := 300000) (disch := omega) only [go_sem, ↓reduceIte]
              with_reducible refine hK _ ?_
              clear hK K
              refine nx_then ?_
              refine awp_retP rfl ?_
              refine nx_ret_then ?_
              simp (disch := omega) only [pureQ, resA, resAL, resA1, Tryd.f14, go_sem, ↓reduceIte]
            · skip
              refine awp_drop rfl ?_
              cases h
          · skip
            have ha2 : decide (500 < (d.length : Int)) = false := decide_eq_false (by omega)
            refine awp_skipP rfl ?_
            refine nx_then ?_
            refine awp_seqP rfl ?_
            refine awp_seqP rfl ?_
            refine awp_regP (Γ := envL [(39, .pure true lightG)]) [23, 0, 1, 2] (envOK_cons ok39 envOK_nil) rfl rfl rfl (fun K hK => ?_)
            simp only [Tryd.f14, bodyOf, Option.getD_some, cl, cr, rOps, lights, light, rN, List.size_toArray, List.length_cons, List.length_nil, Nat.reduceAdd, Nat.zero_add, List.map_cons, List.map_nil, Option.map_none, Option.map_some, List.getElem?_toArray, List.getElem?_cons_zero, List.getElem?_cons_succ, Option.bind_some]
            simp (maxSteps := 300000) (disch := omega) only [go_sem, Nat.reduceAdd, reduceCtorEq, ↓reduceIte, hlt, hlx, ha2]
            with_reducible refine hK _ ?_
            clear hK K
            refine nx_then ?_
            refine awp_ifB (.tmp 23) rfl rfl rfl (fun h => ?_) (fun h => ?_)
            · skip
              refine awp_drop rfl ?_
              cases h
            · skip
              refine awp_drop rfl ?_
              clear h
              have hd1 := dsL_len ps d
              have hd2 := dsL_len ax d
              have h0 := ds_0 ps d
              have h1 := ds_1 ps d
              have h3 := ds_3 ps d
              obtain ⟨A, hA⟩ : ∃ A, dsL ps d = A := ⟨_, rfl⟩
              obtain ⟨B, hB⟩ : ∃ B, dsL ax d = B := ⟨_, rfl⟩
              rw [hA] at hd1 h0 h1 h3
              rw [hB] at hd2
              refine awp_skipP rfl ?_
              refine nx_then ?_
              refine awp_seqP rfl ?_
              refine awp_regP (Γ := envL [(42, .fresh true dsN)]) [0, 1, 2, 7, 8] (envOK_cons ok42 envOK_nil) rfl rfl rfl (fun K hK => ?_)
              simp only [Tryd.f14, bodyOf, Option.getD_some, cl, cr, rOps, lights, light, rN, List.size_toArray, List.length_cons, List.length_nil, Nat.reduceAdd, Nat.zero_add, List.map_cons, List.map_nil, Option.map_none]
              simp (maxSteps := 300000) (disch := omega) only [go_sem, Nat.reduceAdd, ↓reduceIte, hA, hB]
              with_reducible refine hK _ ?_
              clear hK K
              refine nx_then ?_
              refine awp_seqP rfl ?_
              refine awp_drwP (Γ := envL [(31, .pure true bytG), (43, .fresh true dsG), (40, .pure true tagG)]) (fun k => if k = 2 then 0 else if k = 5 then 0 else if k = 8 then 0 else if k = 9 then 0 else if k = 38 then 0 else 2) [6] mixed (envOK_cons ok31 (envOK_cons ok43 (envOK_cons ok40 envOK_nil))) rfl rfl rfl (by kernel_rfl) (fun K hK => ?_)
              simp only [Tryd.f14, bodyOf, Option.getD_some, cl, cr, rOps, lights, light, rN, List.size_toArray, List.length_cons, List.length_nil, Nat.reduceAdd, Nat.zero_add, List.map_cons, List.map_nil, Option.map_none, Option.map_some, List.getElem?_toArray, List.getElem?_cons_zero, List.getElem?_cons_succ, Option.bind_some]
              simp (maxSteps := 300000) (disch := omega) only [go_sem, Nat.reduceAdd, Nat.reduceLeDiff, Int.reduceLE, Int.reduceLT, Int.reduceToNat, BitVec.reduceOfInt, BitVec.reduceToNat, ↓reduceIte, hd1, hd2, hA, hB, h0, h1, h3, Int.cast_ofNat_Int, beq_self_eq_true, decide_true]
              with_reducible refine hK _ ?_
              clear hK K
              refine nx_then ?_
              refine awp_retP rfl ?_
              simp (disch := omega) only [pureQ, resA, resAL, resA1, Tryd.f14, go_sem, ↓reduceIte]
  · cases hg
theorem ok14 : EntOK Tryd.prog GLh 14 (.pure true law9dG) := ⟨⟨_, Tryd.func14, rfl, rfl⟩, law9d_ok⟩

/-- A byte's weight. -/
def wt (j : Nat) : Nat := if j % 2 = 0 then 256 else 1
theorem tagN_step (l : List B8) (k : Nat) : tagN l (k + 1) = tagN l k + wt k * (l.getD k 0#8).toNat := by
  unfold wt
  rw [tagN]
  split <;> simp
theorem tagN_set (l : List B8) (j : Nat) (x : B8) (hj : j < l.length) : ∀ k, tagN (l.set j x) k + (if j < k then wt j * (l.getD j 0#8).toNat else 0) = tagN l k + (if j < k then wt j * x.toNat else 0)
  | 0 => by simp [tagN]
  | k + 1 => by
    have ih := tagN_set l j x hj k
    rw [tagN_step, tagN_step]
    by_cases e : j = k
    · subst e
      have h1 : (l.set j x).getD j 0#8 = x := by rw [List.getD_eq_getElem?_getD, List.getElem?_set_self hj]; rfl
      rw [h1, if_pos (by omega), if_pos (by omega)]
      rw [if_neg (by omega), if_neg (by omega)] at ih
      omega
    · have h1 : (l.set j x).getD k 0#8 = l.getD k 0#8 := by rw [List.getD_eq_getElem?_getD, List.getElem?_set_ne e, List.getD_eq_getElem?_getD]
      rw [h1]
      by_cases e2 : j < k
      · rw [if_pos (by omega), if_pos (by omega)]
        rw [if_pos e2, if_pos e2] at ih
        omega
      · rw [if_neg (by omega), if_neg (by omega)]
        rw [if_neg e2, if_neg e2] at ih
        omega
theorem tagN_set' (l : List B8) (j : Nat) (x : B8) (hj : j < l.length) : tagN (l.set j x) l.length + wt j * (l.getD j 0#8).toNat = tagN l l.length + wt j * x.toNat := by
  have := tagN_set l j x hj l.length
  rwa [if_pos hj, if_pos hj] at this
theorem getD_set_other (l : List B8) (i j : Nat) (x : B8) (h : i ≠ j) : (l.set i x).getD j 0#8 = l.getD j 0#8 := by
  rw [List.getD_eq_getElem?_getD, List.getElem?_set_ne h, List.getD_eq_getElem?_getD]
theorem getD_set_same (l : List B8) (i : Nat) (x : B8) (h : i < l.length) : (l.set i x).getD i 0#8 = x := by
  rw [List.getD_eq_getElem?_getD, List.getElem?_set_self h]; rfl
def swapL (l : List B8) (i k : Nat) : List B8 := (((l.set (2 * i) (l.getD (2 * k) 0#8)).set (2 * i + 1) (l.getD (2 * k + 1) 0#8)).set (2 * k) (l.getD (2 * i) 0#8)).set (2 * k + 1) (l.getD (2 * i + 1) 0#8)
theorem wt_even (i : Nat) : wt (2 * i) = 256 := by unfold wt; rw [if_pos (by omega)]
theorem wt_odd (i : Nat) : wt (2 * i + 1) = 1 := by unfold wt; rw [if_neg (by omega)]
theorem swap_len (l : List B8) (i k : Nat) : (swapL l i k).length = l.length := by simp only [swapL, List.length_set]
theorem tagN_swap (l : List B8) (i k : Nat) (hi : 2 * i + 1 < l.length) (hk : 2 * k + 1 < l.length) : tagN (swapL l i k) l.length = tagN l l.length := by
  have e1 := tagN_set' l (2 * i) (l.getD (2 * k) 0#8) (by omega)
  have e2 := tagN_set' (l.set (2 * i) (l.getD (2 * k) 0#8)) (2 * i + 1) (l.getD (2 * k + 1) 0#8) (by rw [List.length_set]; omega)
  have e3 := tagN_set' ((l.set (2 * i) (l.getD (2 * k) 0#8)).set (2 * i + 1) (l.getD (2 * k + 1) 0#8)) (2 * k) (l.getD (2 * i) 0#8) (by simp only [List.length_set]; omega)
  have e4 := tagN_set' (((l.set (2 * i) (l.getD (2 * k) 0#8)).set (2 * i + 1) (l.getD (2 * k + 1) 0#8)).set (2 * k) (l.getD (2 * i) 0#8)) (2 * k + 1) (l.getD (2 * i + 1) 0#8) (by simp only [List.length_set]; omega)
  simp only [List.length_set, wt_even, wt_odd] at e1 e2 e3 e4
  rw [getD_set_other l _ _ _ (by omega)] at e2
  by_cases e : i = k
  · subst e
    rw [getD_set_other _ _ _ _ (by omega), getD_set_same _ _ _ (by omega)] at e3
    rw [getD_set_other _ _ _ _ (by omega), getD_set_same _ _ _ (by rw [List.length_set]; omega)] at e4
    unfold swapL
    omega
  · rw [getD_set_other _ _ _ _ (by omega), getD_set_other _ _ _ _ (by omega)] at e3
    rw [getD_set_other _ _ _ _ (by omega), getD_set_other _ _ _ _ (by omega), getD_set_other _ _ _ _ (by omega)] at e4
    unfold swapL
    omega
theorem tag_swap (l : List B8) (i k : Nat) (hi : 2 * i + 1 < l.length) (hk : 2 * k + 1 < l.length) : tagL (swapL l i k) = tagL l := by
  unfold tagL
  rw [swap_len, tagN_swap l i k hi hk]
def law9cG : List AV → Option AV
  | [.sl m ys, .i _, .i _] => obind (un8 ys) fun d => guardO (d.length = m ∧ m ≤ 9223372036854775807) (some (.b true))
  | _ => none

set_option maxHeartbeats 1000000 in
theorem law9c_ok : PureOK Tryd.prog GLh 13 law9cG := by
  refine pure_of_awp Tryd.func13 (bodyOf_some rfl) ?_
  intro args r hg
  unfold law9cG at hg
  split at hg
  · rename_i m ys i0 k0
    replace hg := obind_inv hg; obtain ⟨d, hb2, hg⟩ := hg
    replace hg := guardO_inv hg; obtain ⟨⟨hm, hbig2⟩, hg⟩ := hg
    obtain rfl := Option.some.inj hg
    have := un8_inv _ hb2; subst this
    subst hm
    clear hg hb2
    refine ⟨Nat.le_of_ble_eq_true rfl, fun nx => ?_⟩
    refine awp_seqP rfl ?_
    refine awp_regP (Γ := noEnv) [0, 1, 2] (noEnv_ok _ _) rfl rfl rfl (fun K hK => ?_)
    simp only [Tryd.f13, bodyOf, Option.getD_some, cl, rOps, lights, light, rN, List.size_toArray, List.length_cons, List.length_nil, Nat.zero_add, List.map_cons, List.map_nil, Option.map_none]
    simp (maxSteps := 300000) (disch := omega) only [go_sem, Nat.reduceAdd, ↓reduceIte]
    with_reducible refine hK _ ?_
    clear hK K
    refine nx_then ?_
    refine awp_seqP rfl ?_
    refine awp_seqP rfl ?_
    refine awp_regP (Γ := envL [(38, .pure true known9G)]) [9, 0, 1, 2] (envOK_cons ok38 envOK_nil) rfl rfl rfl (fun K hK => ?_)
    simp only [Tryd.f13, bodyOf, Option.getD_some, cl, cr, rOps, lights, light, rN, List.size_toArray, List.length_cons, List.length_nil, Nat.reduceAdd, Nat.zero_add, List.map_cons, List.map_nil, Option.map_none]
    simp (maxSteps := 300000) (disch := omega) only [go_sem, Nat.reduceAdd, ↓reduceIte]
    with_reducible refine hK _ ?_
    clear hK K
    refine nx_then ?_
    refine awp_ifB (.tmp 9) rfl rfl rfl (fun h => ?_) (fun h => ?_)
    · skip
      refine awp_drop rfl ?_
      cases h
    · skip
      refine awp_drop rfl ?_
      clear h
      by_cases ha : 2000 < d.length
      · skip
        have ha2 : decide (2000 < (d.length : Int)) = true := decide_eq_true (by omega)
        refine awp_skipP rfl ?_
        refine nx_then ?_
        refine awp_seqP rfl ?_
        refine awp_seqP rfl ?_
        refine awp_regP (Γ := noEnv) [17, 0, 1, 2] (noEnv_ok _ _) rfl rfl rfl (fun K hK => ?_)
        simp only [Tryd.f13, bodyOf, Option.getD_some, cl, cr, rOps, lights, light, rN, List.size_toArray, List.length_cons, List.length_nil, Nat.reduceAdd, Nat.zero_add, List.map_cons, List.map_nil, Option.map_none, Option.map_some, List.getElem?_toArray, List.getElem?_cons_zero, List.getElem?_cons_succ, Option.bind_some]
        simp (maxSteps := 300000) (disch := omega) only [go_sem, Nat.reduceAdd, ↓reduceIte, ha2]
        with_reducible refine hK _ ?_
        clear hK K
        refine nx_then ?_
        refine awp_ifB (.tmp 17) rfl rfl rfl (fun h => ?_) (fun h => ?_)
        · skip
          refine awp_drop rfl ?_
          refine awp_seqP rfl ?_
          refine awp_regP (Γ := noEnv) [6] (noEnv_ok _ _) rfl rfl rfl (fun K hK => ?_)
          simp only [Tryd.f13, bodyOf, Option.getD_some, cl, cr, rOps, lights, light, rN, List.size_toArray, List.length_cons, List.length_nil, Nat.zero_add, List.map_cons, List.map_nil, Option.map_none]
          simp (maxSteps := 300000) (disch := omega) only [go_sem, ↓reduceIte]
          with_reducible refine hK _ ?_
          clear hK K
          refine nx_then ?_
          refine awp_retP rfl ?_
          refine nx_ret_then ?_
          simp (disch := omega) only [pureQ, resA, resAL, resA1, Tryd.f13, go_sem, ↓reduceIte]
        · skip
          refine awp_drop rfl ?_
          cases h
      · skip
        have ha2 : decide (2000 < (d.length : Int)) = false := decide_eq_false (by omega)
        by_cases hc : d.length < 2
        · skip
          have hc2 : decide ((d.length : Int) < 2) = true := decide_eq_true (by omega)
          refine awp_skipP rfl ?_
          refine nx_then ?_
          refine awp_seqP rfl ?_
          refine awp_seqP rfl ?_
          refine awp_regP (Γ := noEnv) [17, 0, 1, 2] (noEnv_ok _ _) rfl rfl rfl (fun K hK => ?_)
          simp only [Tryd.f13, bodyOf, Option.getD_some, cl, cr, rOps, lights, light, rN, List.size_toArray, List.length_cons, List.length_nil, Nat.reduceAdd, Nat.zero_add, List.map_cons, List.map_nil, Option.map_none, Option.map_some, List.getElem?_toArray, List.getElem?_cons_zero, List.getElem?_cons_succ, Option.bind_some]
          simp (maxSteps := 300000) (disch := omega) only [go_sem, Nat.reduceAdd, reduceCtorEq, ↓reduceIte, ha2, hc2]
          with_reducible refine hK _ ?_
          clear hK K
          refine nx_then ?_
          refine awp_ifB (.tmp 17) rfl rfl rfl (fun h => ?_) (fun h => ?_)
          · skip
            refine awp_drop rfl ?_
            refine awp_seqP rfl ?_
            refine awp_regP (Γ := noEnv) [6] (noEnv_ok _ _) rfl rfl rfl (fun K hK => ?_)
            simp only [Tryd.f13, bodyOf, Option.getD_some, cl, cr, rOps, lights, light, rN, List.size_toArray, List.length_cons, List.length_nil, Nat.zero_add, List.map_cons, List.map_nil, Option.map_none]
            simp (maxSteps := 300000) (disch := omega) only [go_sem, ↓reduceIte]
            with_reducible refine hK _ ?_
            clear hK K
            refine nx_then ?_
            refine awp_retP rfl ?_
            refine nx_ret_then ?_
            simp (disch := omega) only [pureQ, resA, resAL, resA1, Tryd.f13, go_sem, ↓reduceIte]
          · skip
            refine awp_drop rfl ?_
            cases h
        · skip
          have hc2 : decide ((d.length : Int) < 2) = false := decide_eq_false (by omega)
          refine awp_skipP rfl ?_
          refine nx_then ?_
          refine awp_seqP rfl ?_
          refine awp_seqP rfl ?_
          refine awp_regP (Γ := noEnv) [17, 0, 1, 2] (noEnv_ok _ _) rfl rfl rfl (fun K hK => ?_)
          simp only [Tryd.f13, bodyOf, Option.getD_some, cl, cr, rOps, lights, light, rN, List.size_toArray, List.length_cons, List.length_nil, Nat.reduceAdd, Nat.zero_add, List.map_cons, List.map_nil, Option.map_none, Option.map_some, List.getElem?_toArray, List.getElem?_cons_zero, List.getElem?_cons_succ, Option.bind_some]
          simp (maxSteps := 300000) (disch := omega) only [go_sem, Nat.reduceAdd, reduceCtorEq, ↓reduceIte, ha2, hc2]
          with_reducible refine hK _ ?_
          clear hK K
          refine nx_then ?_
          refine awp_ifB (.tmp 17) rfl rfl rfl (fun h => ?_) (fun h => ?_)
          · skip
            refine awp_drop rfl ?_
            cases h
          · skip
            refine awp_drop rfl ?_
            clear h
            have e2 : (d.length : Int).tdiv 2 = ((d.length / 2 : Nat) : Int) := by rw [Int.tdiv_eq_ediv_of_nonneg (by omega)]; omega
            have hp : 0 < d.length / 2 := by omega
            obtain ⟨i, hi⟩ : ∃ i : Nat, i0 % ((d.length / 2 : Nat) : Int) = (i : Int) := ⟨(i0 % ((d.length / 2 : Nat) : Int)).toNat, by have := Int.emod_nonneg i0 (show ((d.length / 2 : Nat) : Int) ≠ 0 by omega); omega⟩
            obtain ⟨k, hk⟩ : ∃ k : Nat, k0 % ((d.length / 2 : Nat) : Int) = (k : Int) := ⟨(k0 % ((d.length / 2 : Nat) : Int)).toNat, by have := Int.emod_nonneg k0 (show ((d.length / 2 : Nat) : Int) ≠ 0 by omega); omega⟩
            have hil : i < d.length / 2 := by have := Int.emod_lt_of_pos i0 (show (0 : Int) < ((d.length / 2 : Nat) : Int) by omega); omega
            have hkl : k < d.length / 2 := by have := Int.emod_lt_of_pos k0 (show (0 : Int) < ((d.length / 2 : Nat) : Int) by omega); omega
            have t1 : (2 * (i : Int)).toNat = 2 * i := by omega
            have t2 : (2 * (i : Int) + 1).toNat = 2 * i + 1 := by omega
            have t3 : (2 * (k : Int)).toNat = 2 * k := by omega
            have t4 : (2 * (k : Int) + 1).toNat = 2 * k + 1 := by omega
            have hsw : (((d.set (2 * i) (d.getD (2 * k) 0#8)).set (2 * i + 1) (d.getD (2 * k + 1) 0#8)).set (2 * k) (d.getD (2 * i) 0#8)).set (2 * k + 1) (d.getD (2 * i + 1) 0#8) = swapL d i k := rfl
            have hsl := swap_len d i k
            have htk : List.take d.length (swapL d i k) = swapL d i k := List.take_of_length_le (by omega)
            have hs := tag_swap d i k (by omega) (by omega)
            refine awp_skipP rfl ?_
            refine nx_then ?_
            refine awp_seqP rfl ?_
            refine awp_regP (Γ := envL [(44, .pure true placeG)]) [0, 1, 2] (envOK_cons ok44 envOK_nil) rfl rfl rfl (fun K hK => ?_)
            simp only [Tryd.f13, bodyOf, Option.getD_some, cl, cr, rOps, lights, light, rN, List.size_toArray, List.length_cons, List.length_nil, Nat.reduceAdd, Nat.zero_add, List.map_cons, List.map_nil, Option.map_none]
            simp (maxSteps := 300000) (disch := omega) only [go_sem, Nat.reduceAdd, Int.reduceEq, ↓reduceIte, e2, hi, hk]
            with_reducible refine hK _ ?_
            clear hK K
            refine nx_then ?_
            refine awp_seqP rfl ?_
            refine awp_regP (Γ := noEnv) [0, 1, 2, 7] (noEnv_ok _ _) rfl rfl rfl (fun K hK => ?_)
            simp only [Tryd.f13, bodyOf, Option.getD_some, cl, cr, rOps, lights, light, rN, List.size_toArray, List.length_cons, List.length_nil, Nat.reduceAdd, Nat.zero_add, List.map_cons, List.map_nil, Option.map_none]
            simp (maxSteps := 300000) (disch := omega) only [go_sem, Nat.reduceAdd, Nat.reduceLT, ↓reduceIte]
            with_reducible refine hK _ ?_
            clear hK K
            refine nx_then ?_
            refine awp_seqP rfl ?_
            refine awp_drwP (Γ := noEnv) (fun _ => 2) [0, 7] mixed (noEnv_ok _ _) rfl rfl rfl (by kernel_rfl) (fun K hK => ?_)
            simp only [Tryd.f13, bodyOf, Option.getD_some, cl, cr, rOps, lights, light, rN, List.size_toArray, List.length_cons, List.length_nil, Nat.reduceAdd, Nat.zero_add, List.map_cons, List.map_nil, Option.map_none]
            simp (maxSteps := 300000) (disch := omega) only [go_sem, Nat.reduceAdd, ↓reduceIte, t1, t2, t3, t4, hsw]
            with_reducible refine hK _ ?_
            clear hK K
            refine nx_then ?_
            refine awp_seqP rfl ?_
            refine awp_regP (Γ := envL [(40, .pure true tagG)]) [6] (envOK_cons ok40 envOK_nil) rfl rfl rfl (fun K hK => ?_)
            simp only [Tryd.f13, bodyOf, Option.getD_some, cl, cr, rOps, lights, light, rN, List.size_toArray, List.length_cons, List.length_nil, Nat.reduceAdd, Nat.zero_add, List.map_cons, List.map_nil, Option.map_none]
            simp (maxSteps := 300000) (disch := omega) only [go_sem, Nat.reduceAdd, ↓reduceIte, hsl, htk, hs, decide_true]
            with_reducible refine hK _ ?_
            clear hK K
            refine nx_then ?_
            refine awp_retP rfl ?_
            simp (disch := omega) only [pureQ, resA, resAL, resA1, Tryd.f13, go_sem, ↓reduceIte]
  · cases hg
theorem ok13 : EntOK Tryd.prog GLh 13 (.pure true law9cG) := ⟨⟨_, Tryd.func13, rfl, rfl⟩, law9c_ok⟩
end Go.AX
