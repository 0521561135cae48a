/-
  Keys, part I: all keys, in order. Keys, part J: keys turned, seen, told. Keys, part K: the statement KeysMany. Keys, part L: the statement KeysMany, walked.
-/
import Derived.Test.YtkpgebeipmedeaaDoorUC
import Derived.Test.YtkpgebeipmedeaaDoorKB
namespace Go.AX
open Go Go.Proofs
set_option maxRecDepth 8000

def ky0 : KY := ⟨0#32, 0, 0, ⟨0#8, 0#8, 0#8, 0#8, 0#8, 0#8, 0#8, 0#8⟩, 0, 0#32, 0#32, 0#32⟩
/-- Keys, as they stand in a row. -/
def kysC : List KY → List AV
  | [] => []
  | k :: r => kyC k ++ kysC r
theorem kysC_len (l : List KY) : (kysC l).length = 15 * l.length := by
  induction l with
  | nil => rfl
  | cons k r ih => rw [kysC, List.length_append, ih, List.length_cons]; show 15 + _ = _; omega
theorem kysC_app (l m : List KY) : kysC (l ++ m) = kysC l ++ kysC m := by
  induction l with
  | nil => rfl
  | cons k r ih => rw [List.cons_append, kysC, ih, kysC, List.append_assoc]
theorem kysC_one (k : KY) : kysC [k] = kyC k := by rw [kysC, kysC, List.append_nil]
def idsL (C : RC) : List W32 := sortL (C.by'.map (·.1))
def allL (C : RC) : List KY := (idsL C).map fun id => (getK id C.by').getD ky0
theorem idsL_len (C : RC) : (idsL C).length = C.by'.length := by rw [idsL, sortL_len, List.length_map]
theorem allL_len (C : RC) : (allL C).length = C.by'.length := by rw [allL, List.length_map, idsL_len]
theorem getK_mem {β : Type} (id : W32) : ∀ l : List (W32 × β), id ∈ l.map (·.1) → ∃ v, getK id l = some v
  | [], h => by cases h
  | p :: r, h => by
    simp only [getK]
    by_cases e : id = p.1
    · exact ⟨p.2, by rw [if_pos e]⟩
    · rw [if_neg e]
      rw [List.map_cons, List.mem_cons] at h
      exact getK_mem id r (h.resolve_left e)
theorem idsL_get (C : RC) (k : Nat) (hk : k < (idsL C).length) : getK ((idsL C).getD k 0#32) C.by' = some ((allL C).getD k ky0) := by
  have hm : (idsL C).getD k 0#32 ∈ C.by'.map (·.1) := by
    rw [List.getD_eq_getElem?_getD, List.getElem?_eq_getElem hk]
    exact (sortL_perm _).mem_iff.1 (List.getElem_mem hk)
  obtain ⟨v, hv⟩ := getK_mem _ _ hm
  rw [hv]
  have e : (allL C).getD k ky0 = ((getK ((idsL C).getD k 0#32) C.by').getD ky0) := by
    simp [allL, List.getD_eq_getElem?_getD, List.getElem?_eq_getElem hk]
  rw [e, hv]; rfl
theorem allL_take (C : RC) (k : Nat) (hk : k < (allL C).length) : (allL C).take (k + 1) = (allL C).take k ++ [(allL C).getD k ky0] := by
  rw [List.take_add_one, List.getElem?_eq_getElem hk, List.getD_eq_getElem?_getD, List.getElem?_eq_getElem hk]; rfl
noncomputable def allG : List AV → H → Nat → Option (AV × H × Nat)
  | [.op d 0], hp, nx => obind (rngOf hp d) fun t => guardO (t.C.by'.length ≤ 1000) (some (.sl t.C.by'.length (kysC (allL t.C)), hp, nx + 200 + 100 * t.C.by'.length))
  | _, _, _ => none
theorem allG_eq (d : Nat) (hp : H) (nx : Nat) : allG [.op d 0] hp nx = obind (rngOf hp d) fun t => guardO (t.C.by'.length ≤ 1000) (some (.sl t.C.by'.length (kysC (allL t.C)), hp, nx + 200 + 100 * t.C.by'.length)) := (rfl)
attribute [go_sem] allG_eq
set_option maxHeartbeats 1000000 in
theorem all_ok : HeapOK Tryd.prog GLh 15 allG := by
  refine heap_of_awp Tryd.func15 (bodyOf_some rfl) ?_
  intro args hp nx r hp' nx' hg
  unfold allG at hg
  split at hg
  · rename_i d
    replace hg := obind_inv hg; obtain ⟨⟨s, m, C⟩, hD0, hg⟩ := hg
    have hD := rngOf_inv hD0
    replace hg := guardO_inv hg; obtain ⟨hlen, hg⟩ := hg
    simp only [Option.some.injEq, Prod.mk.injEq] at hg hD hlen; obtain ⟨rfl, rfl, rfl⟩ := hg
    refine ⟨Nat.le_of_ble_eq_true rfl, by omega, fun hnone => ?_⟩
    have h1 := hD.hd; have h2 := hD.hs; have h3 := hD.hm
    obtain ⟨n1, n2, n3, n4, n5, n6⟩ := hD.ne
    have hlt : ∀ k o, hp k = some o → k < nx := fun k o hk => lt_of_none2 hnone hk
    have hd := hlt _ _ h1
    have hs := hlt _ _ h2
    have hm := hlt _ _ h3
    have hil := idsL_len C
    have hal := allL_len C
    have hid : sortL (C.by'.map (·.1)) = idsL C := rfl
    obtain ⟨N, hN⟩ : ∃ N, C.by'.length = N := ⟨_, rfl⟩
    rw [hN] at hlen hil hal ⊢
    refine awp_seqP rfl ?_
    refine awp_regP (Γ := noEnv) [0] (noEnv_ok _ _) rfl rfl rfl (fun K hK => ?_)
    simp (disch := omega) only [Tryd.f15, go_sem, ↓reduceIte]
    refine hK _ ?_
    clear hK K
    refine nx_then ?_
    refine awp_seqP rfl ?_
    refine awp_regP (Γ := noEnv) [0, 3] (noEnv_ok _ _) rfl rfl rfl (fun K hK => ?_)
    simp (disch := omega) only [Tryd.f15, go_sem, ↓reduceIte]
    refine hK _ ?_
    clear hK K
    refine nx_then ?_
    refine awp_seqP rfl ?_
    refine awp_seqP rfl ?_
    refine awp_regP (Γ := envL [(36, .heap keysG), (35, .heap sdG)]) [0, 3, 11, 12, 13] (envOK_cons okd36 (envOK_cons okd35 envOK_nil)) rfl rfl rfl (fun K hK => ?_)
    simp (disch := omega) only [Tryd.f15, go_sem, Nat.reduceAdd, Nat.reduceLT, ↓reduceIte, h1, h2, rgC_eq, hid, hN, List.length_map, List.head?_cons, List.drop_succ_cons, List.drop_zero]
    refine hK _ ?_
    clear hK K
    refine nx_then ?_
    refine awp_own 3 15 rfl ?_
    refine awp_keep [0, 3, 11, 12, 13] ?_
    simp only [kf_nil, kf_cons, look_cons, ↓reduceIte, Nat.reduceEqDiff]
    refine awp_blockN 0 rfl rfl ?_
    refine awp_loopP (fun p : KIC => { fr := [(0, .op d 0), (3, .os p.id 0 p.k 15 true), (11, .os (nx + 1 + 1 + 8 + 10) 0 N 1 true), (12, .i N), (13, .i p.k)], hp := upd (upd (upd hp (nx + 1 + 1 + 8) (.cells [.mp s] true)) (nx + 1 + 1 + 8 + 10) (.cells (c32 (idsL C)) true)) p.id (.cells (kysC ((allL C).take p.k)) true), nx := 0, cx := p.c }) (fun p => p.k ≤ N ∧ nx + 20 < p.id ∧ p.id < p.c ∧ p.c ≤ nx + 60 + 60 * p.k) (fun p => N - p.k) rfl ⟨⟨0, _, _⟩, ⟨Nat.zero_le _, by simp only; omega, by simp only; omega, by simp only; omega⟩, sub_same rfl rfl (Nat.le_refl _)⟩ ?_
    rintro ⟨k, id, c⟩ ⟨hk, hid1, hid2, hcc⟩ n0
    simp only at hk hid1 hid2 hcc ⊢
    refine awp_seqP rfl ?_
    refine awp_regP (Γ := noEnv) [14, 0, 3, 11, 12, 13] (noEnv_ok _ _) rfl rfl rfl (fun K hK => ?_)
    simp (disch := omega) only [Tryd.f15, go_sem, ↓reduceIte]
    refine hK _ ?_
    clear hK K
    refine nx_then ?_
    refine awp_seqP rfl ?_
    refine awp_ifD (.tmp 14) rfl rfl rfl (fun h => ?_) (fun h => ?_)
    · skip
      refine awp_drop rfl ?_
      have hkN : k < N := by omega
      have hgk := idsL_get C k (by omega)
      have hta := allL_take C k (by omega)
      have htl : ((allL C).take k).length = k := by rw [List.length_take]; omega
      refine awp_skipP rfl ?_
      refine nx_then ?_
      refine awp_seqP rfl ?_
      refine awp_blockN 1 rfl rfl ?_
      refine awp_seqP rfl ?_
      refine awp_regP (Γ := noEnv) [0, 3, 5, 11, 12, 13] (noEnv_ok _ _) rfl rfl rfl (fun K hK => ?_)
      simp (disch := omega) only [Tryd.f15, go_sem, Nat.reduceAdd, ↓reduceIte]
      refine hK _ ?_
      clear hK K
      refine nx_then ?_
      have hkt := kysC_len ((allL C).take k)
      rw [htl] at hkt
      have htA : kysC ((allL C).take (k + 1)) = kysC ((allL C).take k) ++ kyC ((allL C).getD k ky0) := by rw [hta, kysC_app, kysC_one]
      generalize (allL C).getD k ky0 = X at hgk htA
      refine awp_regP (Γ := noEnv) [0, 3, 11, 12, 13] (noEnv_ok _ _) rfl rfl rfl (fun K hK => ?_)
      simp (disch := omega) only [Tryd.f15, go_sem, Nat.reduceAdd, Nat.reduceLeDiff, Nat.reduceLT, ↓reduceIte, h1, h2, hgk, rgC_eq, encK_eq, splice, List.nil_append, List.cons_append, List.head?_cons, List.take_succ_cons, List.take_zero, List.drop_succ_cons, List.drop_zero, List.length_cons, List.length_nil, hkt]
      refine hK _ ?_
      clear hK K
      refine nx_blk (nx_then ?_)
      refine awp_regP (Γ := noEnv) [0, 3, 11, 12, 13] (noEnv_ok _ _) rfl rfl rfl (fun K hK => ?_)
      simp (disch := omega) only [Tryd.f15, go_sem, Nat.reduceAdd, ↓reduceIte]
      refine hK _ ?_
      clear hK K
      refine nx_loop ?_
      refine ⟨⟨k + 1, c + 1 + 3 + 8, _⟩, ⟨by simp only; omega, by simp only; omega, by simp only; omega, by simp only; omega⟩, by simp only; omega, ⟨fun _ => .inr ?_, fun j o h => ?_, Nat.le_refl _⟩⟩
      · simp only [Int.natCast_add, Int.natCast_one]
      · simp only at h
        refine hsub_cons ?_ (hsub_cons ?_ (hsub_cons ?_ (fun j o h => ?_))) j o h
        · simp (disch := omega) only [up_app, ↓reduceIte, eq_self, htA] <;> rfl
        · simp (disch := omega) only [up_app, de_app, nat_ne, ↓reduceIte, eq_self]
        · simp (disch := omega) only [up_app, de_app, nat_ne, ↓reduceIte, eq_self]
        · have := hlt j o h
          simp (disch := omega) only [up_app, de_app, nat_ne, ↓reduceIte]
          exact h
    · skip
      refine awp_drop rfl ?_
      refine awp_exitN 0 rfl rfl ?_
      refine nx_ex_then (nx_ex_loop (nx_ex_blk ?_))
      refine nx_then ?_
      refine awp_seqP rfl ?_
      obtain rfl : k = N := by omega
      rw [List.take_of_length_le (by omega)]
      have hkl := kysC_len (allL C)
      refine awp_sl 3 id 0 k 15 rfl (by rw [upd_apply, if_pos rfl]) (by omega) ?_
      rw [List.drop_zero, List.take_of_length_le (by omega)]
      refine awp_regP (Γ := noEnv) [2] (noEnv_ok _ _) rfl rfl rfl (fun K hK => ?_)
      simp (disch := omega) only [Tryd.f15, go_sem, Nat.reduceAdd, ↓reduceIte]
      refine hK _ ?_
      clear hK K
      refine nx_then ?_
      refine awp_retP rfl ?_
      refine ⟨rfl, fun j o h => ?_, by simp only; omega⟩
      have := hlt j o h
      simp (disch := omega) only [up_app, nat_ne, ↓reduceIte]
      exact h
  · cases hg
theorem okd15 : EntOK Tryd.prog GLh 15 (.heap allG) := ⟨⟨_, Tryd.func15, rfl, rfl⟩, all_ok⟩
end Go.AX

namespace Go.AX
open Go Go.Proofs
set_option maxRecDepth 8000

def tnC (C : RC) (id : W32) (k : KY) (st : Int) (now : W32) : RC := { C with by' := putK id { k with st := st, since := now } C.by' }
def goC (C : RC) (id : W32) : RC := { C with by' := delK id C.by', tr := delK id C.tr }
def tnV (C : RC) (id : W32) (st : Int) (now : W32) : Int × RC := match getK id C.by' with
  | none => (130, C)
  | some k => if st ≤ k.st ∨ 4 < st then (131, C) else if st = 4 then (0, goC C id) else (0, tnC C id k st now)
theorem tnV_n {C : RC} {id : W32} {st : Int} {now : W32} (h : getK id C.by' = none) : tnV C id st now = (130, C) := by rw [tnV, h]
theorem tnV_y {C : RC} {id : W32} {st : Int} {now : W32} {k : KY} (h : getK id C.by' = some k) : tnV C id st now = if st ≤ k.st ∨ 4 < st then (131, C) else if st = 4 then (0, goC C id) else (0, tnC C id k st now) := by rw [tnV, h]
theorem ROk.upd {C : RC} (h : ROk C) {id : W32} {k k' : KY} (hk : getK id C.by' = some k) (e1 : k'.id = k.id) (e2 : k'.h = k.h) (e3 : k'.next = k.next) (e4 : k'.seed = k.seed) : ROk { C with by' := putK id k' C.by' } := by
  obtain ⟨b1, b2, b3, b4⟩ := h.key _ _ hk
  refine ⟨fun i k2 hk2 => ?_, fun i t ht => ?_, put_nodup _ _ _ h.nb, h.nt⟩
  · simp only [getK_put] at hk2
    split at hk2
    · rename_i e
      obtain rfl := Option.some.inj hk2
      subst e
      exact ⟨e1.trans b1, by rw [e2]; exact b2, by rw [e2, e3]; exact b3, b4⟩
    · exact h.key _ _ hk2
  · obtain ⟨k2, a1, a2⟩ := h.tree _ _ ht
    by_cases e : i = id
    · subst e
      obtain rfl := Option.some.inj (hk.symm.trans a1)
      exact ⟨k', by simp only [getK_put, if_true], by rw [e2, e4]; exact a2⟩
    · exact ⟨k2, by simp only [getK_put]; rw [if_neg e]; exact a1, a2⟩
theorem ROk.goC {C : RC} (h : ROk C) (id : W32) : ROk (goC C id) := by
  refine ⟨fun i k2 hk2 => ?_, fun i t ht => ?_, del_nodup _ _ h.nb, del_nodup _ _ h.nt⟩
  · simp only [AX.goC] at hk2
    rw [getK_del _ _ _ h.nb] at hk2
    split at hk2
    · cases hk2
    · exact h.key _ _ hk2
  · simp only [AX.goC] at ht ⊢
    rw [getK_del _ _ _ h.nt] at ht
    split at ht
    · cases ht
    · rename_i e
      obtain ⟨k2, a1, a2⟩ := h.tree _ _ ht
      exact ⟨k2, by rw [getK_del _ _ _ h.nb, if_neg e]; exact a1, a2⟩
theorem ROk.tnV {C : RC} (h : ROk C) (id : W32) (st : Int) (now : W32) : ROk (tnV C id st now).2 := by
  rcases hk : getK id C.by' with _ | k
  · rw [tnV_n hk]; exact h
  · rw [tnV_y hk]
    split
    · exact h
    · split
      · exact h.goC id
      · exact h.upd hk rfl rfl rfl rfl
noncomputable def turnG20 : List AV → H → Nat → Option (AV × H × Nat)
  | [.op d 0, .w32 id, .i st, .w32 now], hp, nx => obind (rngOf hp d) fun t => some (.i (tnV t.C id st now).1, setR d t.s t.m (tnV t.C id st now).2 hp, nx + 90)
  | _, _, _ => none
theorem turnG20_eq (d : Nat) (id now : W32) (st : Int) (hp : H) (nx : Nat) : turnG20 [.op d 0, .w32 id, .i st, .w32 now] hp nx = obind (rngOf hp d) fun t => some (.i (tnV t.C id st now).1, setR d t.s t.m (tnV t.C id st now).2 hp, nx + 90) := (rfl)
attribute [go_sem] turnG20_eq
set_option maxHeartbeats 1000000 in
theorem turn20_ok : HeapOK Tryd.prog GLh 16 turnG20 := by
  refine heap_of_awp Tryd.func16 (bodyOf_some rfl) ?_
  intro args hp nx r hp' nx' hg
  unfold turnG20 at hg
  split at hg
  · rename_i d id st now
    replace hg := obind_inv hg; obtain ⟨⟨s, m, C⟩, hD0, hg⟩ := hg
    have hD := rngOf_inv hD0
    simp only [Option.some.injEq, Prod.mk.injEq] at hg hD; obtain ⟨rfl, rfl, rfl⟩ := hg
    refine ⟨Nat.le_of_ble_eq_true rfl, by omega, fun hnone => ?_⟩
    have h1 := hD.hd; have h2 := hD.hs; have h3 := hD.hm
    obtain ⟨n1, n2, n3, n4, n5, n6⟩ := hD.ne
    have hlt : ∀ k o, hp k = some o → k < nx := fun k o hk => lt_of_none2 hnone hk
    have hd := hlt _ _ h1
    have hs := hlt _ _ h2
    have hm := hlt _ _ h3
    refine awp_seqP rfl ?_
    refine awp_regP (Γ := noEnv) [0, 1, 2, 3] (noEnv_ok _ _) rfl rfl rfl (fun K hK => ?_)
    simp (disch := omega) only [Tryd.f16, go_sem, Nat.reduceAdd, ↓reduceIte]
    refine hK _ ?_
    clear hK K
    refine nx_then ?_
    rcases hk : getK id C.by' with _ | k
    · skip
      rw [tnV_n hk]
      refine awp_seqP rfl ?_
      refine awp_regP (Γ := noEnv) [0, 1, 2, 3, 9, 10] (noEnv_ok _ _) rfl rfl rfl (fun K hK => ?_)
      simp (disch := omega) only [Tryd.f16, go_sem, Nat.reduceAdd, Nat.reduceLeDiff, Nat.reduceLT, ↓reduceIte, h1, h2, hk, rgC_eq, List.head?_cons, List.drop_succ_cons, List.drop_zero]
      refine hK _ ?_
      clear hK K
      refine nx_then ?_
      refine awp_seqP rfl ?_
      refine awp_blockN 0 rfl rfl ?_
      refine awp_seqP rfl ?_
      refine awp_regP (Γ := noEnv) [20, 0, 1, 2, 3, 9] (noEnv_ok _ _) rfl rfl rfl (fun K hK => ?_)
      simp (disch := omega) only [Tryd.f16, go_sem, Nat.reduceAdd, ↓reduceIte]
      refine hK _ ?_
      clear hK K
      refine nx_then ?_
      refine awp_ifB (.tmp 20) rfl rfl rfl (fun h => ?_) (fun h => ?_)
      · skip
        refine awp_drop rfl ?_
        refine awp_seqP rfl ?_
        refine awp_regP (Γ := noEnv) [8] (noEnv_ok _ _) rfl rfl rfl (fun K hK => ?_)
        simp (disch := omega) only [Tryd.f16, go_sem, ↓reduceIte]
        refine hK _ ?_
        clear hK K
        refine nx_then ?_
        refine awp_retP rfl ?_
        refine nx_ret_blk (nx_ret_then ?_)
        rw [setR_same hD]
        exact ⟨rfl, fun j o h => hsub_new hnone (by omega) j o h, by simp only; omega⟩
      · skip
        refine awp_drop rfl ?_
        cases h
    · skip
      have ek := tnV_y (st := st) (now := now) hk
      refine awp_seqP rfl ?_
      refine awp_regP (Γ := noEnv) [0, 1, 2, 3, 9, 10] (noEnv_ok _ _) rfl rfl rfl (fun K hK => ?_)
      simp (disch := omega) only [Tryd.f16, go_sem, Nat.reduceAdd, Nat.reduceLeDiff, Nat.reduceLT, ↓reduceIte, h1, h2, hk, rgC_eq, encK_eq, List.head?_cons, List.drop_succ_cons, List.drop_zero]
      refine hK _ ?_
      clear hK K
      refine nx_then ?_
      refine awp_seqP rfl ?_
      refine awp_blockN 0 rfl rfl ?_
      refine awp_seqP rfl ?_
      refine awp_regP (Γ := noEnv) [20, 0, 1, 2, 3, 9] (noEnv_ok _ _) rfl rfl rfl (fun K hK => ?_)
      simp (disch := omega) only [Tryd.f16, go_sem, Nat.reduceAdd, ↓reduceIte]
      refine hK _ ?_
      clear hK K
      refine nx_then ?_
      refine awp_ifB (.tmp 20) rfl rfl rfl (fun h => ?_) (fun h => ?_)
      · skip
        refine awp_drop rfl ?_
        cases h
      · skip
        refine awp_drop rfl ?_
        clear h
        by_cases hb : st ≤ k.st
        · skip
          have db : decide (st ≤ k.st) = true := decide_eq_true hb
          rw [if_pos (.inl hb)] at ek
          rw [ek]
          refine awp_seqP rfl ?_
          refine awp_regP (Γ := noEnv) [23, 0, 1, 2, 3, 9] (noEnv_ok _ _) rfl rfl rfl (fun K hK => ?_)
          simp (disch := omega) only [Tryd.f16, go_sem, Nat.reduceAdd, Nat.reduceLT, ↓reduceIte, db, List.head?_cons, List.drop_succ_cons, List.drop_zero]
          refine hK _ ?_
          clear hK K
          refine nx_then ?_
          refine awp_ifB (.tmp 23) rfl rfl rfl (fun h => ?_) (fun h => ?_)
          · skip
            refine awp_drop rfl ?_
            refine awp_seqP rfl ?_
            refine awp_regP (Γ := noEnv) [8] (noEnv_ok _ _) rfl rfl rfl (fun K hK => ?_)
            simp (disch := omega) only [Tryd.f16, go_sem, ↓reduceIte]
            refine hK _ ?_
            clear hK K
            refine nx_then ?_
            refine awp_retP rfl ?_
            refine nx_ret_blk (nx_ret_then ?_)
            rw [setR_same hD]
            exact ⟨rfl, fun j o h => hsub_new hnone (by omega) j o h, by simp only; omega⟩
          · skip
            refine awp_drop rfl ?_
            cases h
        · skip
          have db : decide (st ≤ k.st) = false := decide_eq_false hb
          refine awp_seqP rfl ?_
          refine awp_regP (Γ := noEnv) [23, 0, 1, 2, 3, 9] (noEnv_ok _ _) rfl rfl rfl (fun K hK => ?_)
          simp (disch := omega) only [Tryd.f16, go_sem, Nat.reduceAdd, Nat.reduceLT, reduceCtorEq, ↓reduceIte, db, List.head?_cons, List.drop_succ_cons, List.drop_zero]
          refine hK _ ?_
          clear hK K
          refine nx_then ?_
          refine awp_ifD (.tmp 23) rfl rfl rfl (fun h => ?_) (fun h => ?_)
          · skip
            refine awp_drop rfl ?_
            rw [if_pos (.inr h)] at ek
            rw [ek]
            refine awp_seqP rfl ?_
            refine awp_regP (Γ := noEnv) [8] (noEnv_ok _ _) rfl rfl rfl (fun K hK => ?_)
            simp (disch := omega) only [Tryd.f16, go_sem, ↓reduceIte]
            refine hK _ ?_
            clear hK K
            refine nx_then ?_
            refine awp_retP rfl ?_
            refine nx_ret_blk (nx_ret_then ?_)
            rw [setR_same hD]
            exact ⟨rfl, fun j o h => hsub_new hnone (by omega) j o h, by simp only; omega⟩
          · skip
            refine awp_drop rfl ?_
            rw [if_neg (fun e => e.elim hb h)] at ek
            clear h
            refine awp_seqP rfl ?_
            refine awp_regP (Γ := noEnv) [32, 0, 1, 2, 3, 9] (noEnv_ok _ _) rfl rfl rfl (fun K hK => ?_)
            simp (disch := omega) only [Tryd.f16, go_sem, Nat.reduceAdd, ↓reduceIte]
            refine hK _ ?_
            clear hK K
            refine nx_then ?_
            refine awp_ifD (.tmp 32) rfl rfl rfl (fun h => ?_) (fun h => ?_)
            · skip
              refine awp_drop rfl ?_
              rw [if_pos h] at ek
              rw [ek]
              refine awp_seqP rfl ?_
              refine awp_regP (Γ := noEnv) [0, 1] (noEnv_ok _ _) rfl rfl rfl (fun K hK => ?_)
              simp (disch := omega) only [Tryd.f16, go_sem, Nat.reduceAdd, Nat.reduceLT, ↓reduceIte, h1, h2, rgC_eq, List.head?_cons, List.drop_succ_cons, List.drop_zero]
              refine hK _ ?_
              clear hK K
              refine nx_then ?_
              refine awp_seqP rfl ?_
              refine awp_regP (Γ := noEnv) [] (noEnv_ok _ _) rfl rfl rfl (fun K hK => ?_)
              simp (disch := omega) only [Tryd.f16, go_sem, Nat.reduceAdd, Nat.reduceLT, ↓reduceIte, h1, h3, rgC_eq, List.head?_cons, List.drop_succ_cons, List.drop_zero]
              refine hK _ ?_
              clear hK K
              refine nx_then ?_
              refine awp_seqP rfl ?_
              refine awp_regP (Γ := noEnv) [8] (noEnv_ok _ _) rfl rfl rfl (fun K hK => ?_)
              simp (disch := omega) only [Tryd.f16, go_sem, ↓reduceIte]
              refine hK _ ?_
              clear hK K
              refine nx_then ?_
              refine awp_retP rfl ?_
              refine nx_ret_blk (nx_ret_then ?_)
              refine ⟨rfl, fun j o hj => setR_sub (C := goC C id) ?_ ?_ ?_ ?_ j o hj, by simp only; omega⟩
              · simp (disch := omega) only [up_app, nat_ne, ↓reduceIte] <;> first | exact h1 | rfl
              · simp (disch := omega) only [up_app, nat_ne, ↓reduceIte, eq_self] <;> first | exact h2 | rfl
              · simp (disch := omega) only [up_app, ↓reduceIte, eq_self] <;> first | exact h3 | rfl
              · intro k o k1 k2 k3 hk
                have := hlt k o hk
                simp (disch := omega) only [up_app, nat_ne, ↓reduceIte]
                exact hk
            · skip
              refine awp_drop rfl ?_
              rw [if_neg h] at ek
              rw [ek]
              refine awp_skipP rfl ?_
              refine nx_blk (nx_then ?_)
              refine awp_seqP rfl ?_
              refine awp_regP (Γ := noEnv) [0, 1, 9] (noEnv_ok _ _) rfl rfl rfl (fun K hK => ?_)
              simp (disch := omega) only [Tryd.f16, go_sem, Nat.reduceAdd, Nat.reduceLeDiff, Nat.reduceLT, ↓reduceIte, List.set_cons_succ, List.set_cons_zero]
              refine hK _ ?_
              clear hK K
              refine nx_then ?_
              refine awp_seqP rfl ?_
              refine awp_drwP (Γ := noEnv) (fun _ => 2) [] mixed (noEnv_ok _ _) rfl rfl rfl (by kernel_rfl) (fun K hK => ?_)
              simp (disch := omega) only [Tryd.f16, go_sem, Nat.reduceAdd, Nat.reduceLeDiff, Nat.reduceLT, ↓reduceIte, h1, h2, rgC_eq, List.head?_cons, List.take_succ_cons, List.take_zero, List.drop_succ_cons, List.drop_zero]
              refine hK _ ?_
              clear hK K
              refine nx_then ?_
              refine awp_seqP rfl ?_
              refine awp_regP (Γ := noEnv) [8] (noEnv_ok _ _) rfl rfl rfl (fun K hK => ?_)
              simp (disch := omega) only [Tryd.f16, go_sem, ↓reduceIte]
              refine hK _ ?_
              clear hK K
              refine nx_then ?_
              refine awp_retP rfl ?_
              refine ⟨rfl, fun j o hj => setR_sub (C := tnC C id k st now) ?_ ?_ ?_ ?_ j o hj, by simp only; omega⟩
              · simp (disch := omega) only [up_app, nat_ne, ↓reduceIte] <;> first | exact h1 | rfl
              · simp (disch := omega) only [up_app, ↓reduceIte, eq_self] <;> first | exact h2 | rfl
              · simp (disch := omega) only [up_app, nat_ne, ↓reduceIte] <;> first | exact h3 | rfl
              · intro k o k1 k2 k3 hk
                have := hlt k o hk
                simp (disch := omega) only [up_app, nat_ne, ↓reduceIte]
                exact hk
  · cases hg
theorem okd16 : EntOK Tryd.prog GLh 16 (.heap turnG20) := ⟨⟨_, Tryd.func16, rfl, rfl⟩, turn20_ok⟩

def kyR : Option KY → AV
  | none => .tup [encK ky0, .b false]
  | some k => .tup [encK k, .b true]
noncomputable def keyG20 : List AV → H → Nat → Option (AV × H × Nat)
  | [.op d 0, .w32 id], hp, nx => obind (rngOf hp d) fun t => some (kyR (getK id t.C.by'), hp, nx + 60)
  | _, _, _ => none
theorem keyG20_eq (d : Nat) (id : W32) (hp : H) (nx : Nat) : keyG20 [.op d 0, .w32 id] hp nx = obind (rngOf hp d) fun t => some (kyR (getK id t.C.by'), hp, nx + 60) := (rfl)
theorem kyR_n : kyR none = .tup [encK ky0, .b false] := rfl
theorem kyR_y (k : KY) : kyR (some k) = .tup [encK k, .b true] := rfl
attribute [go_sem] keyG20_eq
set_option maxHeartbeats 1000000 in
theorem key20_ok : HeapOK Tryd.prog GLh 17 keyG20 := by
  refine heap_of_awp Tryd.func17 (bodyOf_some rfl) ?_
  intro args hp nx r hp' nx' hg
  unfold keyG20 at hg
  split at hg
  · rename_i d id
    replace hg := obind_inv hg; obtain ⟨⟨s, m, C⟩, hD0, hg⟩ := hg
    have hD := rngOf_inv hD0
    simp only [Option.some.injEq, Prod.mk.injEq] at hg hD; obtain ⟨rfl, rfl, rfl⟩ := hg
    refine ⟨Nat.le_of_ble_eq_true rfl, by omega, fun hnone => ?_⟩
    have h1 := hD.hd; have h2 := hD.hs; have h3 := hD.hm
    obtain ⟨n1, n2, n3, n4, n5, n6⟩ := hD.ne
    have hlt : ∀ k o, hp k = some o → k < nx := fun k o hk => lt_of_none2 hnone hk
    have hd := hlt _ _ h1
    have hs := hlt _ _ h2
    have hm := hlt _ _ h3
    refine awp_seqP rfl ?_
    refine awp_regP (Γ := noEnv) [0, 1, 4] (noEnv_ok _ _) rfl rfl rfl (fun K hK => ?_)
    simp (disch := omega) only [Tryd.f17, go_sem, Nat.reduceAdd, ↓reduceIte]
    refine hK _ ?_
    clear hK K
    refine nx_then ?_
    rcases hk : getK id C.by' with _ | k
    · skip
      refine awp_seqP rfl ?_
      refine awp_regP (Γ := noEnv) [4, 6, 7] (noEnv_ok _ _) rfl rfl rfl (fun K hK => ?_)
      simp (disch := omega) only [Tryd.f17, go_sem, Nat.reduceAdd, Nat.reduceLeDiff, Nat.reduceLT, ↓reduceIte, h1, h2, hk, rgC_eq, List.head?_cons, List.drop_succ_cons, List.drop_zero]
      refine hK _ ?_
      clear hK K
      refine nx_then ?_
      refine awp_seqP rfl ?_
      refine awp_regP (Γ := noEnv) [4, 5] (noEnv_ok _ _) rfl rfl rfl (fun K hK => ?_)
      simp (disch := omega) only [Tryd.f17, go_sem, Nat.reduceAdd, Nat.reduceLeDiff, ↓reduceIte, List.take_succ_cons, List.take_zero, List.drop_zero]
      refine hK _ ?_
      clear hK K
      refine nx_then ?_
      refine awp_retP rfl ?_
      refine ⟨by simp (disch := omega) only [resA, resAL, resA1, Tryd.f17, go_sem, up_app, ldV, encK_eq, List.take_succ_cons, List.take_zero, List.drop_zero, kyR_n] <;> rfl, fun j o h => ?_, by simp only; omega⟩
      have := hlt j o h
      simp (disch := omega) only [up_app, nat_ne, ↓reduceIte]
      exact h
    · skip
      refine awp_seqP rfl ?_
      refine awp_regP (Γ := noEnv) [4, 6, 7] (noEnv_ok _ _) rfl rfl rfl (fun K hK => ?_)
      simp (disch := omega) only [Tryd.f17, go_sem, Nat.reduceAdd, Nat.reduceLeDiff, Nat.reduceLT, ↓reduceIte, h1, h2, hk, rgC_eq, encK_eq, List.head?_cons, List.drop_succ_cons, List.drop_zero]
      refine hK _ ?_
      clear hK K
      refine nx_then ?_
      refine awp_seqP rfl ?_
      refine awp_regP (Γ := noEnv) [4, 5] (noEnv_ok _ _) rfl rfl rfl (fun K hK => ?_)
      simp (disch := omega) only [Tryd.f17, go_sem, Nat.reduceAdd, Nat.reduceLeDiff, ↓reduceIte, List.take_succ_cons, List.take_zero, List.drop_zero]
      refine hK _ ?_
      clear hK K
      refine nx_then ?_
      refine awp_retP rfl ?_
      refine ⟨by simp (disch := omega) only [resA, resAL, resA1, Tryd.f17, go_sem, up_app, ldV, encK_eq, List.take_succ_cons, List.take_zero, List.drop_zero, kyR_y] <;> rfl, fun j o h => ?_, by simp only; omega⟩
      have := hlt j o h
      simp (disch := omega) only [up_app, nat_ne, ↓reduceIte]
      exact h
  · cases hg
theorem okd17 : EntOK Tryd.prog GLh 17 (.heap keyG20) := ⟨⟨_, Tryd.func17, rfl, rfl⟩, key20_ok⟩
end Go.AX

namespace Go.AX
open Go Go.Proofs
set_option maxRecDepth 8000

def sd1 : S8 := ⟨1#8, 0#8, 0#8, 0#8, 0#8, 0#8, 0#8, 0#8⟩
def sd2 : S8 := ⟨2#8, 0#8, 0#8, 0#8, 0#8, 0#8, 0#8, 0#8⟩
def mrK (j : Nat) : KY := ⟨BitVec.ofNat 32 j, 0, 0, sd1, 2, 0#32, 9#32, 0#32⟩
def mrL : Nat → List (W32 × KY)
  | 0 => []
  | i + 1 => mrL i ++ [(BitVec.ofNat 32 (i + 1), mrK (i + 1))]
def mrC (i : Nat) : RC := ⟨cfg2, mrL i, BitVec.ofNat 32 i, []⟩
theorem mrL_len (i : Nat) : (mrL i).length = i := by
  induction i with
  | zero => rfl
  | succ i ih => rw [mrL, List.length_append, ih]; rfl
theorem ofn_inj {a b : Nat} (ha : a < 1000000) (hb : b < 1000000) (h : BitVec.ofNat 32 a = BitVec.ofNat 32 b) : a = b := by
  have := congrArg BitVec.toNat h
  rw [BitVec.toNat_ofNat, BitVec.toNat_ofNat, Nat.mod_eq_of_lt (by omega), Nat.mod_eq_of_lt (by omega)] at this
  exact this
theorem mrL_mem (i : Nat) (hi : i ≤ 100) (x : W32) : x ∈ (mrL i).map (·.1) ↔ ∃ j, 1 ≤ j ∧ j ≤ i ∧ x = BitVec.ofNat 32 j := by
  induction i with
  | zero => simp only [mrL, List.map_nil, List.not_mem_nil, false_iff]; rintro ⟨j, h1, h2, _⟩; omega
  | succ i ih =>
    rw [mrL, List.map_append, List.mem_append, ih (by omega)]
    constructor
    · rintro (⟨j, h1, h2, h3⟩ | h)
      · exact ⟨j, h1, by omega, h3⟩
      · simp at h; exact ⟨i + 1, by omega, by omega, h⟩
    · rintro ⟨j, h1, h2, h3⟩
      by_cases e : j = i + 1
      · subst e; right; simp [h3]
      · left; exact ⟨j, h1, by omega, h3⟩
theorem put_new {β : Type} (a : W32) (v : β) : ∀ l : List (W32 × β), a ∉ l.map (·.1) → putK a v l = l ++ [(a, v)]
  | [], _ => rfl
  | p :: r, h => by
    simp only [List.map_cons, List.mem_cons] at h
    simp only [putK]
    rw [if_neg (fun e => h (.inl e)), put_new a v r (fun e => h (.inr e)), List.cons_append]
theorem mrL_new (i : Nat) (hi : i ≤ 100) : BitVec.ofNat 32 (i + 1) ∉ (mrL i).map (·.1) := by
  rw [mrL_mem i hi]
  rintro ⟨j, h1, h2, h3⟩
  have := ofn_inj (by omega) (by omega) h3
  omega
theorem getK_app {β : Type} (a : W32) (l m : List (W32 × β)) : getK a (l ++ m) = match getK a l with | some v => some v | none => getK a m := by
  induction l with
  | nil => rfl
  | cons p r ih =>
    rw [List.cons_append]
    simp only [getK]
    split
    · rfl
    · exact ih
theorem mrL_get (i : Nat) (hi : i ≤ 100) (id : W32) (k : KY) (h : getK id (mrL i) = some k) : ∃ j, 1 ≤ j ∧ j ≤ i ∧ id = BitVec.ofNat 32 j ∧ k = mrK j := by
  induction i with
  | zero => cases h
  | succ i ih =>
    rw [mrL, getK_app] at h
    split at h
    · rename_i v hv
      obtain rfl := Option.some.inj h
      obtain ⟨j, h1, h2, h3⟩ := ih (by omega) hv
      exact ⟨j, h1, by omega, h3⟩
    · obtain ⟨e1, e2⟩ : id = BitVec.ofNat 32 (i + 1) ∧ k = mrK (i + 1) := by
        simp only [getK] at h
        split at h
        · rename_i e; exact ⟨e, (Option.some.inj h).symm⟩
        · cases h
      exact ⟨i + 1, by omega, by omega, e1, e2⟩
theorem mrC_ok (i : Nat) (hi : i ≤ 16) : ROk (mrC i) := by
  refine ⟨fun id k hk => ?_, fun id t ht => (nomatch ht), ?_, List.nodup_nil⟩
  · obtain ⟨j, h1, h2, rfl, rfl⟩ := mrL_get i (by omega) id k hk
    refine ⟨rfl, Nat.le_of_ble_eq_true rfl, Nat.zero_le _, ?_⟩
    show (BitVec.ofNat 32 j).toNat ≤ (BitVec.ofNat 32 i).toNat
    rw [BitVec.toNat_ofNat, BitVec.toNat_ofNat]
    omega
  · show ((mrL i).map (·.1)).Nodup
    induction i with
    | zero => exact List.nodup_nil
    | succ i ih =>
      rw [mrL, List.map_append, List.nodup_append]
      exact ⟨ih (by omega), by simp, fun x hx y hy => by simp at hy; subst hy; exact fun e => mrL_new i (by omega) (e ▸ hx)⟩
theorem mrC_last (i : Nat) (hi : i ≤ 16) : (mrC i).last.toNat < 1000000 := by
  show (BitVec.ofNat 32 i).toNat < _
  rw [BitVec.toNat_ofNat]
  omega
theorem mrC_mk (i : Nat) (hi : i < 16) : mkV (mrC i) 0 sd1 0 9#32 = (BitVec.ofNat 32 (i + 1), 0, mrC (i + 1)) := by
  have e1 : (mrC i).last + 1#32 = BitVec.ofNat 32 (i + 1) := ofn_suc i
  unfold mkV
  rw [if_neg (by omega), if_neg (by show ¬ 16 ≤ (mrL i).length; rw [mrL_len]; omega)]
  unfold mkC nkey
  rw [e1]
  refine congrArg (fun z => (BitVec.ofNat 32 (i + 1), (0 : Int), z)) ?_
  show (⟨cfg2, putK _ _ (mrL i), _, []⟩ : RC) = ⟨cfg2, mrL (i + 1), _, []⟩
  rw [put_new _ _ _ (mrL_new i (by omega))]
  rfl
theorem mrC_full : mkV (mrC 16) 0 sd1 0 9#32 = (0#32, 133, mrC 16) := by
  unfold mkV
  rw [if_neg (by omega), if_pos (by show 16 ≤ (mrL 16).length; rw [mrL_len]; exact Nat.le_refl _)]
theorem mrL_at (i j : Nat) (hi : i ≤ 100) (h1 : 1 ≤ j) (h2 : j ≤ i) : getK (BitVec.ofNat 32 j) (mrL i) = some (mrK j) := by
  obtain ⟨k, hk⟩ := getK_mem (BitVec.ofNat 32 j) (mrL i) ((mrL_mem i hi _).2 ⟨j, h1, h2, rfl⟩)
  obtain ⟨j2, h3, h4, h5, h6⟩ := mrL_get i hi _ _ hk
  have := ofn_inj (by omega) (by omega) h5
  subst this
  rw [hk, h6]
theorem del_len {β : Type} (a : W32) : ∀ l : List (W32 × β), a ∈ l.map (·.1) → (delK a l).length + 1 = l.length
  | [], h => by cases h
  | p :: r, h => by
    simp only [delK]
    by_cases e : a = p.1
    · rw [if_pos e]; rfl
    · rw [if_neg e]
      rw [List.map_cons, List.mem_cons] at h
      rw [List.length_cons, List.length_cons, del_len a r (h.resolve_left e)]
theorem mrC_go (m j : Nat) (hm : m ≤ 16) (h1 : 1 ≤ j) (h2 : j ≤ m) : tnV (mrC m) (BitVec.ofNat 32 j) 4 10#32 = (0, goC (mrC m) (BitVec.ofNat 32 j)) := by
  rw [tnV_y (show getK (BitVec.ofNat 32 j) (mrC m).by' = some (mrK j) from mrL_at m j (by omega) h1 h2)]
  exact (if_neg (show ¬ ((4 : Int) ≤ 0 ∨ (4 : Int) < 4) by omega)).trans (if_pos rfl)
/-- A ring of m keys, behind one that went. -/
def mrG (m j : Nat) : RC := goC (mrC m) (BitVec.ofNat 32 j)
def mrH (m j : Nat) : RC := mkC (mrG m j) (nkey (mrG m j) 1 sd2 1 11#32)
theorem mrG_ok (m j : Nat) (hm : m ≤ 16) : ROk (mrG m j) := (mrC_ok m hm).goC _
theorem mrG_len (m j : Nat) (hm : m ≤ 16) (h1 : 1 ≤ j) (h2 : j ≤ m) : (mrG m j).by'.length + 1 = m := by
  have := del_len (BitVec.ofNat 32 j) (mrL m) ((mrL_mem m (by omega) _).2 ⟨j, h1, h2, rfl⟩)
  rw [mrL_len] at this
  exact this
theorem mrG_none (m j : Nat) (hm : m ≤ 16) : getK (BitVec.ofNat 32 j) (mrG m j).by' = none := by
  show getK _ (delK _ (mrL m)) = none
  exact (getK_del _ _ _ (mrC_ok m hm).nb).trans (if_pos rfl)
theorem mrH_mk (m j : Nat) (hm : m ≤ 16) (h1 : 1 ≤ j) (h2 : j ≤ m) : mkV (mrG m j) 1 sd2 1 11#32 = (BitVec.ofNat 32 (m + 1), 0, mrH m j) := by
  have hl := mrG_len m j hm h1 h2
  have e1 : (mrG m j).last + 1#32 = BitVec.ofNat 32 (m + 1) := ofn_suc m
  unfold mkV
  rw [if_neg (by omega), if_neg (by omega), e1]
  rfl
theorem mrH_none (m j : Nat) (hm : m ≤ 16) (h2 : j ≤ m) : getK (BitVec.ofNat 32 j) (mrH m j).by' = none := by
  have e1 : (mrG m j).last + 1#32 = BitVec.ofNat 32 (m + 1) := ofn_suc m
  show getK _ (putK ((mrG m j).last + 1#32) _ (mrG m j).by') = none
  rw [getK_put, e1, if_neg (fun e => by have := ofn_inj (by omega) (by omega) e; omega), mrG_none m j hm]
theorem mrH_len (m j : Nat) (hm : m ≤ 16) (h1 : 1 ≤ j) (h2 : j ≤ m) : (mrH m j).by'.length = m := by
  have hl := mrG_len m j hm h1 h2
  have e1 : (mrG m j).last + 1#32 = BitVec.ofNat 32 (m + 1) := ofn_suc m
  show (putK ((mrG m j).last + 1#32) _ (mrG m j).by').length = m
  rw [put_new, List.length_append]
  · exact hl
  · rw [e1]
    intro h
    exact mrL_new m (by omega) (del_keys _ _ _ h)
theorem mrH_go (m j : Nat) (hm : m ≤ 16) (h2 : j ≤ m) : tnV (mrH m j) (BitVec.ofNat 32 j) 4 12#32 = (130, mrH m j) := tnV_n (mrH_none m j hm h2)
end Go.AX

namespace Go.AX
open Go Go.Proofs
set_option maxRecDepth 8000

/-- How many keys a ring has behind g tries. -/
def mn (g : Nat) : Nat := min g 16
theorem mn_lt {g : Nat} (h : g < 16) : mn g = g := Nat.min_eq_left (by omega)
theorem mn_ge {g : Nat} (h : 16 ≤ g) : mn g = 16 := Nat.min_eq_right h
theorem mn_le (g : Nat) : mn g ≤ 16 := Nat.min_le_right _ _
theorem cvt {g : Nat} (h : g < 1000) : BitVec.ofInt 32 ((g : Int) + 1) = BitVec.ofNat 32 (g + 1) := by
  apply BitVec.eq_of_toNat_eq
  rw [BitVec.toNat_ofInt, BitVec.toNat_ofNat]
  omega
theorem away_eq (gone : BitVec 8) (m : Nat) (h1 : 1 ≤ m) (h2 : m ≤ 16) : ∃ j, 1 ≤ j ∧ j ≤ m ∧ gone.setWidth 32 % BitVec.ofInt 32 (m : Int) + 1#32 = BitVec.ofNat 32 j := by
  refine ⟨gone.toNat % m + 1, by omega, by have := Nat.mod_lt gone.toNat (show m > 0 by omega); omega, ?_⟩
  have h3 := Nat.mod_lt gone.toNat (show m > 0 by omega)
  have h4 := gone.isLt
  apply BitVec.eq_of_toNat_eq
  have e1 : (BitVec.ofInt 32 (m : Int)).toNat = m := by rw [BitVec.toNat_ofInt]; omega
  have e2 : (gone.setWidth 32).toNat = gone.toNat := by rw [BitVec.toNat_setWidth]; omega
  rw [BitVec.toNat_add, BitVec.toNat_umod, e1, e2, BitVec.toNat_ofNat]
  rfl
theorem nz_ofInt (m : Nat) (h1 : 1 ≤ m) (h2 : m ≤ 16) : (BitVec.ofInt 32 (m : Int) = 0#32) = False := by
  apply eq_false
  intro h
  have := congrArg BitVec.toNat h
  rw [BitVec.toNat_ofInt] at this
  simp only [BitVec.toNat_ofNat] at this
  omega
theorem isb : isBoolT Tryd.prog 4 = true := by kernel_rfl
attribute [go_sem] isb
def kmG : List AV → Option AV
  | [.w8 _, .w8 _] => some (.b true)
  | _ => none
set_option maxHeartbeats 4000000 in
theorem km_ok : PureOK Tryd.prog GLh 4 kmG := by
  refine pure_of_awp Tryd.func4 (bodyOf_some rfl) ?_
  intro args r hg
  unfold kmG at hg
  split at hg
  · rename_i n gone
    obtain rfl := Option.some.inj hg
    clear hg
    refine ⟨Nat.le_of_ble_eq_true rfl, fun nx => ?_⟩
    have ec : cfOf (cfC { cfg0 with h := 2 }) = some cfg2 := cfOf_cfC cfg2
    have hc2 : cfg2.h ≤ 10 := Nat.le_of_ble_eq_true rfl
    have h81 : s8L sd1.l = some sd1 := rfl
    have hsp1 : splice (c8 (List.replicate 8 0#8)) 0 [.w8 1#8] = c8 sd1.l := rfl
    obtain ⟨N, hNe⟩ : ∃ N, n.toNat % 20 = N := ⟨_, rfl⟩
    have hNl : N < 20 := by omega
    have hN : (n % 20#8).toNat = N := by rw [BitVec.toNat_umod]; exact hNe
    refine awp_seqP rfl ?_
    refine awp_regP (Γ := noEnv) [0, 1] (noEnv_ok _ _) rfl rfl rfl (fun K hK => ?_)
    simp (disch := omega) only [Tryd.f4, go_sem, ↓reduceIte]
    refine hK _ ?_
    clear hK K
    refine nx_then ?_
    refine awp_seqP rfl ?_
    refine awp_seqP rfl ?_
    refine awp_regP (Γ := envL [(6, .pure true known20G)]) [17, 0, 1] (envOK_cons okd6 envOK_nil) rfl rfl rfl (fun K hK => ?_)
    simp (disch := omega) only [Tryd.f4, go_sem, Nat.reduceAdd, ↓reduceIte]
    refine hK _ ?_
    clear hK K
    refine nx_then ?_
    refine awp_ifB (.tmp 17) rfl rfl rfl (fun h => ?_) (fun h => ?_)
    · skip
      refine awp_drop rfl ?_
      cases h
    · skip
      refine awp_drop rfl ?_
      clear h
      refine awp_skipP rfl ?_
      refine nx_then ?_
      refine awp_seqP rfl ?_
      refine awp_regP (Γ := envL [(8, .pure false setG), (7, .heap rnewG)]) [0, 1, 5] (envOK_cons okd8 (envOK_cons okd7 envOK_nil)) rfl rfl rfl (fun K hK => ?_)
      simp (disch := omega) only [Tryd.f4, go_sem, Nat.reduceAdd, ↓reduceIte, ec]
      refine hK _ ?_
      clear hK K
      refine nx_then ?_
      refine awp_seqP rfl ?_
      refine awp_seqP rfl ?_
      refine awp_regP (Γ := noEnv) [0, 1, 5, 6] (noEnv_ok _ _) rfl rfl rfl (fun K hK => ?_)
      simp (disch := omega) only [Tryd.f4, go_sem, ↓reduceIte]
      refine hK _ ?_
      clear hK K
      refine nx_then ?_
      obtain ⟨d, hd⟩ : ∃ d, nx + 1 + 2 + 3 + 6 = d := ⟨_, rfl⟩
      obtain ⟨s, hs⟩ : ∃ s, nx + 1 + 2 + 3 + 3 = s := ⟨_, rfl⟩
      obtain ⟨m, hm⟩ : ∃ m, nx + 1 + 2 + 3 + 4 = m := ⟨_, rfl⟩
      rw [hd, hs, hm]
      have n1 : d ≠ s := by omega
      have n2 : d ≠ m := by omega
      have n3 : s ≠ m := by omega
      refine awp_blockN 0 rfl rfl ?_
      refine awp_loopP (fun g : Nat => { fr := [(0, .w8 n), (1, .w8 gone), (5, .op d 0), (6, .i g)], hp := setR d s m (mrC (mn g)) (fun _ => none), nx := 0, cx := nx + 100 + 300 * g }) (fun g => g ≤ N) (fun g => N - g) rfl ⟨0, Nat.zero_le _, ⟨fun _ => .inr rfl, fun j o h => h, by simp only; omega⟩⟩ ?_
      rintro g hg n0
      simp only at hg ⊢
      refine awp_seqP rfl ?_
      refine awp_seqP rfl ?_
      refine awp_regP (Γ := noEnv) [24, 0, 1, 5, 6] (noEnv_ok _ _) rfl rfl rfl (fun K hK => ?_)
      simp (disch := omega) only [Tryd.f4, go_sem, Nat.reduceAdd, Int.reduceLE, Int.reduceLT, BitVec.reduceOfInt, ↓reduceIte, hN, BitVec.reduceEq]
      refine hK _ ?_
      clear hK K
      refine nx_then ?_
      refine awp_ifD (.tmp 24) rfl rfl rfl (fun h => ?_) (fun h => ?_)
      · skip
        refine awp_drop rfl ?_
        have hgN : g < N := by omega
        have hml := mn_le g
        have hok := mrC_ok (mn g) hml
        have hla := mrC_last (mn g) hml
        have hcv := cvt (g := g) (by omega)
        refine awp_skipP rfl ?_
        refine nx_then ?_
        refine awp_seqP rfl ?_
        refine awp_blockN 1 rfl rfl ?_
        refine awp_seqP rfl ?_
        rcases Nat.lt_or_ge g 16 with hg16 | hg16
        · skip
          have hmk : mkV (mrC (mn g)) 0 sd1 0 9#32 = (BitVec.ofNat 32 (g + 1), 0, mrC (mn (g + 1))) := by
            rw [mn_lt hg16, mrC_mk g hg16]
            congr 3
            exact (Nat.min_eq_left (by omega)).symm
          have dg : decide ((g : Int) < 16) = true := decide_eq_true (by omega)
          refine awp_regP (Γ := envL [(9, .heap makeG)]) [0, 1, 5, 6, 7, 8] (envOK_cons okd9 envOK_nil) rfl rfl rfl (fun K hK => ?_)
          simp (disch := omega) only [Tryd.f4, go_sem, Nat.reduceAdd, Nat.reduceLeDiff, Int.reduceLE, Int.reduceLT, BitVec.reduceOfInt, ↓reduceIte, hok, hla, hmk, h81, hsp1]
          refine hK _ ?_
          clear hK K
          refine nx_then ?_
          refine awp_seqP rfl ?_
          refine awp_regP (Γ := noEnv) [56, 0, 1, 5, 6] (noEnv_ok _ _) rfl rfl rfl (fun K hK => ?_)
          simp (disch := omega) only [Tryd.f4, go_sem, Nat.reduceAdd, reduceCtorEq, ↓reduceIte, dg, hcv, decide_true, Bool.not_true]
          refine hK _ ?_
          clear hK K
          refine nx_then ?_
          refine awp_ifB (.tmp 56) rfl rfl rfl (fun h => ?_) (fun h => ?_)
          · skip
            refine awp_drop rfl ?_
            cases h
          · skip
            refine awp_drop rfl ?_
            clear h
            refine awp_skipP rfl ?_
            refine nx_blk (nx_then ?_)
            refine awp_regP (Γ := noEnv) [0, 1, 5, 6] (noEnv_ok _ _) rfl rfl rfl (fun K hK => ?_)
            simp (disch := omega) only [Tryd.f4, go_sem, Nat.reduceAdd, ↓reduceIte]
            refine hK _ ?_
            clear hK K
            refine nx_loop ?_
            exact ⟨g + 1, by omega, by omega, ⟨fun _ => .inr (by simp only [Int.natCast_add, Int.natCast_one]), fun j o h => h, by simp only; omega⟩⟩
        · skip
          have hmk : mkV (mrC (mn g)) 0 sd1 0 9#32 = (0#32, 133, mrC (mn (g + 1))) := by
            rw [mn_ge hg16, mn_ge (by omega)]
            exact mrC_full
          have dg : decide ((g : Int) < 16) = false := decide_eq_false (by omega)
          refine awp_regP (Γ := envL [(9, .heap makeG)]) [0, 1, 5, 6, 7, 8] (envOK_cons okd9 envOK_nil) rfl rfl rfl (fun K hK => ?_)
          simp (disch := omega) only [Tryd.f4, go_sem, Nat.reduceAdd, Nat.reduceLeDiff, Int.reduceLE, Int.reduceLT, BitVec.reduceOfInt, ↓reduceIte, hok, hla, hmk, h81, hsp1]
          refine hK _ ?_
          clear hK K
          refine nx_then ?_
          refine awp_seqP rfl ?_
          refine awp_regP (Γ := noEnv) [56, 0, 1, 5, 6] (noEnv_ok _ _) rfl rfl rfl (fun K hK => ?_)
          simp (disch := omega) only [Tryd.f4, go_sem, Nat.reduceAdd, Int.reduceEq, reduceCtorEq, ↓reduceIte, dg, decide_true, Bool.not_true]
          refine hK _ ?_
          clear hK K
          refine nx_then ?_
          refine awp_ifB (.tmp 56) rfl rfl rfl (fun h => ?_) (fun h => ?_)
          · skip
            refine awp_drop rfl ?_
            cases h
          · skip
            refine awp_drop rfl ?_
            clear h
            refine awp_skipP rfl ?_
            refine nx_blk (nx_then ?_)
            refine awp_regP (Γ := noEnv) [0, 1, 5, 6] (noEnv_ok _ _) rfl rfl rfl (fun K hK => ?_)
            simp (disch := omega) only [Tryd.f4, go_sem, Nat.reduceAdd, ↓reduceIte]
            refine hK _ ?_
            clear hK K
            refine nx_loop ?_
            exact ⟨g + 1, by omega, by omega, ⟨fun _ => .inr (by simp only [Int.natCast_add, Int.natCast_one]), fun j o h => h, by simp only; omega⟩⟩
      · skip
        refine awp_drop rfl ?_
        refine awp_exitN 0 rfl rfl ?_
        refine nx_ex_then (nx_ex_loop (nx_ex_blk ?_))
        refine nx_then ?_
        refine awp_seqP rfl ?_
        obtain rfl : g = N := by omega
        obtain ⟨M, hM⟩ : ∃ M, mn g = M := ⟨_, rfl⟩
        have hml : M ≤ 16 := by rw [← hM]; exact mn_le g
        have hmin : (if (16 : Int) < (g : Int) then (16 : Int) else (g : Int)) = (M : Int) := by rw [← hM]; unfold mn; split <;> omega
        rw [hM]
        refine awp_regP (Γ := noEnv) [1, 5, 9] (noEnv_ok _ _) rfl rfl rfl (fun K hK => ?_)
        simp (disch := omega) only [Tryd.f4, go_sem, Nat.reduceAdd, Int.reduceLE, Int.reduceLT, BitVec.reduceOfInt, ↓reduceIte, hN, BitVec.reduceEq, hmin]
        refine hK _ ?_
        clear hK K
        refine nx_then ?_
        refine awp_seqP rfl ?_
        refine awp_seqP rfl ?_
        refine awp_regP (Γ := noEnv) [62, 1, 5, 9] (noEnv_ok _ _) rfl rfl rfl (fun K hK => ?_)
        simp (disch := omega) only [Tryd.f4, go_sem, Nat.reduceAdd, ↓reduceIte]
        refine hK _ ?_
        clear hK K
        refine nx_then ?_
        refine awp_ifD (.tmp 62) rfl rfl rfl (fun h => ?_) (fun h => ?_)
        · skip
          refine awp_drop rfl ?_
          obtain rfl : M = 0 := by omega
          have hlen : (mrC 0).by'.length = 0 := rfl
          refine awp_seqP rfl ?_
          refine awp_regP (Γ := envL [(15, .heap allG)]) [4] (envOK_cons okd15 envOK_nil) rfl rfl rfl (fun K hK => ?_)
          simp (disch := omega) only [Tryd.f4, go_sem, Nat.reduceAdd, Nat.reduceMul, Nat.reduceLeDiff, ↓reduceIte, hlen]
          refine hK _ ?_
          clear hK K
          refine nx_then ?_
          refine awp_retP rfl ?_
          refine nx_ret_then ?_
          simp (disch := omega) only [pureQ, resA, resAL, resA1, Tryd.f4, go_sem, ↓reduceIte]
          rfl
        · skip
          refine awp_drop rfl ?_
          refine awp_skipP rfl ?_
          refine nx_then ?_
          refine awp_seqP rfl ?_
          have hM1 : 1 ≤ M := by omega
          obtain ⟨J, hJ1, hJ2, hJ⟩ := away_eq gone M hM1 hml
          have hnz := nz_ofInt M hM1 hml
          refine awp_regP (Γ := noEnv) [5, 9, 10] (noEnv_ok _ _) rfl rfl rfl (fun K hK => ?_)
          simp (disch := omega) only [Tryd.f4, go_sem, Nat.reduceAdd, Int.reduceLE, Int.reduceLT, BitVec.reduceOfInt, ↓reduceIte, hJ, hnz]
          refine hK _ ?_
          clear hK K
          refine nx_then ?_
          have hgo := mrC_go M J hml hJ1 hJ2
          refine awp_seqP rfl ?_
          refine awp_regP (Γ := envL [(16, .heap turnG20)]) [5, 9, 10, 11] (envOK_cons okd16 envOK_nil) rfl rfl rfl (fun K hK => ?_)
          simp (disch := omega) only [Tryd.f4, go_sem, Nat.reduceAdd, Int.reduceLE, Int.reduceLT, BitVec.reduceOfInt, ↓reduceIte, hgo]
          refine hK _ ?_
          clear hK K
          refine nx_then ?_
          have hnone := mrG_none M J hml
          have hok1 := mrG_ok M J hml
          have hla1 : (mrG M J).last.toNat < 1000000 := mrC_last M hml
          have hc21 : (mrG M J).c.h ≤ 10 := Nat.le_of_ble_eq_true rfl
          have hmk1 := mrH_mk M J hml hJ1 hJ2
          have h82 : s8L sd2.l = some sd2 := rfl
          have hsp2 : splice (c8 (List.replicate 8 0#8)) 0 [.w8 2#8] = c8 sd2.l := rfl
          have hcv := cvt (g := M) (by omega)
          have hgo2 := mrH_go M J hml hJ2
          have hlen2 := mrH_len M J hml hJ1 hJ2
          rw [show goC (mrC M) (BitVec.ofNat 32 J) = mrG M J from rfl]
          refine awp_seqP rfl ?_
          refine awp_regP (Γ := envL [(17, .heap keyG20)]) [5, 9, 10, 11, 13] (envOK_cons okd17 envOK_nil) rfl rfl rfl (fun K hK => ?_)
          simp (disch := omega) only [Tryd.f4, go_sem, Nat.reduceAdd, Nat.reduceLeDiff, ↓reduceIte, hnone, kyR_n, encK_eq]
          refine hK _ ?_
          clear hK K
          refine nx_then ?_
          refine awp_seqP rfl ?_
          refine awp_regP (Γ := envL [(9, .heap makeG)]) [5, 9, 10, 11, 13, 14, 15] (envOK_cons okd9 envOK_nil) rfl rfl rfl (fun K hK => ?_)
          simp (disch := omega) only [Tryd.f4, go_sem, Nat.reduceAdd, Nat.reduceLeDiff, Int.reduceLE, Int.reduceLT, BitVec.reduceOfInt, ↓reduceIte, hok1, hla1, hc21, hmk1, h82, hsp2]
          refine hK _ ?_
          clear hK K
          refine nx_then ?_
          refine awp_seqP rfl ?_
          refine awp_regP (Γ := envL [(16, .heap turnG20), (15, .heap allG)]) [4] (envOK_cons okd16 (envOK_cons okd15 envOK_nil)) rfl rfl rfl (fun K hK => ?_)
          simp (disch := omega) only [Tryd.f4, go_sem, Nat.reduceAdd, Int.reduceLE, Int.reduceLT, Int.reduceAdd, BitVec.reduceOfInt, ↓reduceIte, hcv, hgo2, hlen2, decide_true, Bool.not_false]
          refine hK _ ?_
          clear hK K
          refine nx_then ?_
          refine awp_retP rfl ?_
          simp (disch := omega) only [pureQ, resA, resAL, resA1, Tryd.f4, go_sem, ↓reduceIte]
  · cases hg
end Go.AX
