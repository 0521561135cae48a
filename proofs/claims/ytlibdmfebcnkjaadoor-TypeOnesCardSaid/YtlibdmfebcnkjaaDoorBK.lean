/-
  Types, part R: texts, as the document tells and reads them. Types, part S: a number's text, as the library prints it. Types, part T: a number's digits, two by two. Types, part U: texts, as the program tells them.
-/
import Derived.Test.YtlibdmfebcnkjaaDoorBJ
namespace Go.AX
open Go Go.Proofs

def digsL : List B8 := [48#8, 49#8, 50#8, 51#8, 52#8, 53#8, 54#8, 55#8, 56#8, 57#8]
theorem skD : ofV (Value.string { data := #[48, 49, 50, 51, 52, 53, 54, 55, 56, 57] }) = .s digsL := (rfl)
theorem digsL_len : digsL.length = 10 := rfl
theorem digs_at : ∀ n, n < 10 → (digsL.drop n).take 1 = [BitVec.ofNat 8 (48 + n)] := by decide
theorem decD_one {n : Nat} (h : n < 10) : decD n = [BitVec.ofNat 8 (48 + n)] := by rw [decD, if_pos h]
theorem decD_more {n : Nat} (h : ¬ n < 10) : decD n = decD (n / 10) ++ decD (n % 10) := by
  rw [decD, if_neg h, decD_one (n := n % 10) (Nat.mod_lt _ (by omega))]
theorem w10 : (10#64 = 0#64) = False := by decide
theorem w64_lt (a b : BitVec 64) : a < b ↔ a.toNat < b.toNat := BitVec.lt_def
theorem dec_short (n k : Nat) (h : n < 10 ^ 20) (hk : k ≤ n) : (decD k).length ≤ 20 := (decD_len k 20 (by omega) (by omega)).2
def decGN (N : Nat) : List AV → Option AV
  | [.w64 x] => guardO (x.toNat < N) (some (.s (decD x.toNat)))
  | _ => none
theorem decGN_eq (N : Nat) (x : BitVec 64) : decGN N [.w64 x] = guardO (x.toNat < N) (some (.s (decD x.toNat))) := (rfl)
attribute [go_sem] decGN_eq skD digsL_len
theorem w64_quo10 (x : BitVec 64) : (x / 10#64).toNat = x.toNat / 10 := by rw [BitVec.toNat_udiv]; rfl
theorem w64_rem10 (x : BitVec 64) : (x % 10#64).toNat = x.toNat % 10 := by rw [BitVec.toNat_umod]; rfl
set_option maxHeartbeats 4000000 in
theorem dec_okN : ∀ N : Nat, PureOK Tryd.prog GLh 25 (decGN N)
  | 0 => by
    intro σ I w nx args vals r h1 h2 h3 hs hr hg
    unfold decGN at hg
    split at hg
    · replace hg := guardO_inv hg; omega
    · cases hg
  | N + 1 => by
    have ok25 : EntOK Tryd.prog GLh 25 (.pure true (decGN N)) := ⟨⟨_, Tryd.func25, rfl, rfl⟩, dec_okN N⟩
    refine pure_of_awp Tryd.func25 (bodyOf_some rfl) ?_
    intro args r hg
    unfold decGN at hg
    split at hg
    · rename_i x
      replace hg := guardO_inv hg; obtain ⟨hx, hg⟩ := hg
      obtain rfl := Option.some.inj hg
      refine ⟨Nat.le_of_ble_eq_true rfl, fun nx => ?_⟩
      clear hg
      have hxl := x.isLt
      refine awp_seqP rfl ?_
      refine awp_regP (Γ := noEnv) [0] (noEnv_ok _ _) rfl rfl rfl (fun K hK => ?_)
      simp only [Tryd.f25, bodyOf, Option.getD_some, cl, rOps, lights, light, rN, List.size_toArray, List.length_cons, List.length_nil, Nat.zero_add, List.map_cons, List.map_nil, Option.map_none]
      simp (maxSteps := 300000) (disch := omega) only [go_sem, ↓reduceIte]
      with_reducible refine hK _ ?_
      clear hK K
      refine nx_then ?_
      refine awp_seqP rfl ?_
      refine awp_seqP rfl ?_
      refine awp_regP (Γ := noEnv) [4, 0] (noEnv_ok _ _) rfl rfl rfl (fun K hK => ?_)
      simp only [Tryd.f25, bodyOf, Option.getD_some, cl, cr, rOps, lights, light, rN, List.size_toArray, List.length_cons, List.length_nil, Nat.reduceAdd, Nat.zero_add, List.map_cons, List.map_nil, Option.map_none]
      simp (maxSteps := 300000) (disch := omega) only [go_sem, Nat.reduceAdd, Int.reduceLE, Int.reduceLT, BitVec.reduceOfInt, ↓reduceIte]
      with_reducible refine hK _ ?_
      clear hK K
      refine nx_then ?_
      refine awp_ifD (.tmp 4) rfl rfl rfl (fun h => ?_) (fun h => ?_)
      · skip
        refine awp_drop rfl ?_
        have h10 : x.toNat < 10 := by rw [w64_lt] at h; exact h
        have e1 : (x + 1#64).toNat = x.toNat + 1 := by rw [BitVec.toNat_add]; show (x.toNat + 1) % _ = _; omega
        have e2 : x.toNat + 1 - x.toNat = 1 := by omega
        have e3 := digs_at x.toNat h10
        have e4 := decD_one h10
        refine awp_seqP rfl ?_
        refine awp_regP (Γ := noEnv) [2] (noEnv_ok _ _) rfl rfl rfl (fun K hK => ?_)
        simp only [Tryd.f25, bodyOf, Option.getD_some, cl, cr, rOps, lights, light, rN, List.size_toArray, List.length_cons, List.length_nil, Nat.reduceAdd, Nat.zero_add, List.map_cons, List.map_nil, Option.map_none]
        simp (maxSteps := 300000) (disch := omega) only [go_sem, Nat.reduceAdd, Int.reduceLE, Int.reduceLT, BitVec.reduceOfInt, ↓reduceIte, e1, Int.toNat_natCast, e2, e3]
        with_reducible refine hK _ ?_
        clear hK K
        refine nx_then ?_
        refine awp_retP rfl ?_
        refine nx_ret_then ?_
        simp (disch := omega) only [pureQ, resA, resAL, resA1, Tryd.f25, go_sem, ↓reduceIte, e4]
      · skip
        refine awp_drop rfl ?_
        have h10 : ¬ x.toNat < 10 := by rw [w64_lt] at h; exact h
        have e4 := decD_more h10
        have l1 := (decD_len (x.toNat / 10) 20 (by omega) (by omega)).2
        have l2 := (decD_len (x.toNat % 10) 20 (by omega) (by omega)).2
        have hlt1 : (x / 10#64).toNat < N := by rw [w64_quo10]; omega
        have hlt2 : (x % 10#64).toNat < N := by rw [w64_rem10]; omega
        have l3 : (decD (x.toNat / 10)).length + (decD (x.toNat % 10)).length ≤ 9223372036854775807 := by omega
        refine awp_skipP rfl ?_
        refine nx_then ?_
        refine awp_seqP rfl ?_
        refine awp_regP (Γ := envL [(25, .pure true (decGN N))]) [2] (envOK_cons ok25 envOK_nil) rfl rfl rfl (fun K hK => ?_)
        simp only [Tryd.f25, bodyOf, Option.getD_some, cl, cr, rOps, lights, light, rN, List.size_toArray, List.length_cons, List.length_nil, Nat.reduceAdd, Nat.zero_add, List.map_cons, List.map_nil, Option.map_none]
        simp (maxSteps := 300000) (disch := omega) only [go_sem, Nat.reduceAdd, Int.reduceLE, Int.reduceLT, BitVec.reduceOfInt, ↓reduceIte, w10, w64_quo10, w64_rem10, l3]
        with_reducible refine hK _ ?_
        clear hK K
        refine nx_then ?_
        refine awp_retP rfl ?_
        simp (disch := omega) only [pureQ, resA, resAL, resA1, Tryd.f25, go_sem, ↓reduceIte, e4]
    · cases hg
def decG : List AV → Option AV
  | [.w64 x] => some (.s (decD x.toNat))
  | _ => none
theorem decG_eq (x : BitVec 64) : decG [.w64 x] = some (.s (decD x.toNat)) := (rfl)
attribute [go_sem] decG_eq
theorem dec_ok : PureOK Tryd.prog GLh 25 decG := by
  intro σ I w nx args vals r h1 h2 h3 hs hr hg
  refine dec_okN (2 ^ 64) σ I w nx args vals r h1 h2 h3 hs hr ?_
  unfold decG at hg
  split at hg
  · rename_i x; unfold decGN; simp only; rw [guardO_true _ x.isLt]; exact hg
  · cases hg
theorem ok25 : EntOK Tryd.prog GLh 25 (.pure true decG) := ⟨⟨_, Tryd.func25, rfl, rfl⟩, dec_ok⟩

theorem tys_at (k : Nat) : typesL.getD k 0#16 = (tabL.getD k (0#16, [])).1 := by
  unfold typesL
  rw [List.getD_eq_getElem?_getD, List.getD_eq_getElem?_getD, List.getElem?_map]
  cases tabL[k]? <;> rfl
theorem txs_at (k : Nat) : textsL.getD k [] = (tabL.getD k (0#16, [])).2 := by
  unfold textsL
  rw [List.getD_eq_getElem?_getD, List.getD_eq_getElem?_getD, List.getElem?_map]
  cases tabL[k]? <;> rfl
theorem text_at (t : T16) (k : Nat) (hk : k < 14) (h : (tabL.getD k (0#16, [])).1 = t) (hn : ∀ j, j < k → (tabL.getD j (0#16, [])).1 ≠ t) : textL t = (tabL.getD k (0#16, [])).2 := by
  unfold textL
  rw [find_at _ (0#16, []) tabL k (by rw [tab_len]; exact hk) (decide_eq_true h) fun j hj => decide_eq_false (hn j hj)]
theorem text_no (t : T16) (hn : ∀ j, j < 14 → (tabL.getD j (0#16, [])).1 ≠ t) : textL t = typeW ++ decD t.toNat := by
  unfold textL
  rw [find_no _ (0#16, []) tabL fun j hj => decide_eq_false (hn j (by rw [tab_len] at hj; exact hj))]
theorem parse_at (s : List B8) (k : Nat) (hk : k < 14) (h : (tabL.getD k (0#16, [])).2 = s) (hn : ∀ j, j < k → (tabL.getD j (0#16, [])).2 ≠ s) : parseL s = some (tabL.getD k (0#16, [])).1 := by
  unfold parseL
  rw [find_at _ (0#16, []) tabL k (by rw [tab_len]; exact hk) (decide_eq_true h) fun j hj => decide_eq_false (hn j hj)]
theorem parse_no (s : List B8) (hn : ∀ j, j < 14 → (tabL.getD j (0#16, [])).2 ≠ s) : parseL s = if s.take 4 = typeW then numL (s.drop 4) else none := by
  unfold parseL
  rw [find_no _ (0#16, []) tabL fun j hj => decide_eq_false (hn j (by rw [tab_len] at hj; exact hj))]
theorem typeW_len : typeW.length = 4 := rfl
def txtG : List AV → Option AV
  | [.w16 t] => some (.s (textL t))
  | _ => none
theorem txtG_eq (t : T16) : txtG [.w16 t] = some (.s (textL t)) := (rfl)
attribute [go_sem] txtG_eq typeW_len
theorem set64 (t : T16) : (t.setWidth 64).toNat = t.toNat := by rw [BitVec.toNat_setWidth]; exact Nat.mod_eq_of_lt (by have := t.isLt; omega)
set_option maxHeartbeats 4000000 in
theorem rtxt_ok : PureOK Tryd.prog GLh 11 txtG := by
  refine pure_of_awp Tryd.func11 (bodyOf_some rfl) ?_
  intro args r hg
  unfold txtG at hg
  split at hg
  · rename_i t
    obtain rfl := Option.some.inj hg
    refine ⟨Nat.le_of_ble_eq_true rfl, fun nx => ?_⟩
    clear hg
    have htl := t.isLt
    have hty := typesL_len
    have htx := textsL_len
    refine awp_seqP rfl ?_
    refine awp_regP (Γ := noEnv) [0] (noEnv_ok _ _) rfl rfl rfl (fun K hK => ?_)
    simp only [Tryd.f11, bodyOf, Option.getD_some, cl, rOps, lights, light, rN, List.size_toArray, List.length_cons, List.length_nil, Nat.zero_add, List.map_cons, List.map_nil, Option.map_none]
    simp (maxSteps := 300000) (disch := omega) only [go_sem, ↓reduceIte]
    with_reducible refine hK _ ?_
    clear hK K
    refine nx_then ?_
    refine awp_seqP rfl ?_
    refine awp_regP (Γ := envL [(23, .pure false wordsG)]) [0, 3, 4] (envOK_cons ok23 envOK_nil) rfl rfl rfl (fun K hK => ?_)
    simp only [Tryd.f11, bodyOf, Option.getD_some, cl, cr, rOps, lights, light, rN, List.size_toArray, List.length_cons, List.length_nil, Nat.reduceAdd, Nat.zero_add, List.map_cons, List.map_nil, Option.map_none]
    simp (maxSteps := 300000) (disch := omega) only [go_sem, Nat.reduceAdd, ↓reduceIte, List.getElem?_cons_zero, List.getElem?_cons_succ]
    with_reducible refine hK _ ?_
    clear hK K
    refine nx_then ?_
    refine awp_seqP rfl ?_
    refine awp_seqP rfl ?_
    refine awp_regP (Γ := noEnv) [0, 3, 4, 5] (noEnv_ok _ _) rfl rfl rfl (fun K hK => ?_)
    simp only [Tryd.f11, bodyOf, Option.getD_some, cl, cr, rOps, lights, light, rN, List.size_toArray, List.length_cons, List.length_nil, Nat.zero_add, List.map_cons, List.map_nil, Option.map_none]
    simp (maxSteps := 300000) (disch := omega) only [go_sem, ↓reduceIte]
    with_reducible refine hK _ ?_
    clear hK K
    refine nx_then ?_
    refine awp_blockN 0 rfl rfl ?_
    refine awp_loopP (fun p : KC => { fr := [(0, .w16 t), (3, .sl 14 (c16 typesL)), (4, .sl 14 (cS textsL)), (5, .i p.k)], hp := fun _ => none, nx := 0, cx := p.c }) (fun p => p.k ≤ 14 ∧ ∀ j, j < p.k → (tabL.getD j (0#16, [])).1 ≠ t) (fun p => 14 - p.k) rfl ⟨⟨0, _⟩, ⟨Nat.zero_le _, fun j hj => by simp at hj⟩, sub_same rfl rfl (Nat.le_refl _)⟩ ?_
    rintro ⟨k, c⟩ ⟨hk, hn⟩ n0
    simp only at hk hn ⊢
    refine awp_seqP rfl ?_
    refine awp_seqP rfl ?_
    refine awp_regP (Γ := noEnv) [13, 0, 3, 4, 5] (noEnv_ok _ _) rfl rfl rfl (fun K hK => ?_)
    simp only [Tryd.f11, bodyOf, Option.getD_some, cl, cr, rOps, lights, light, rN, List.size_toArray, List.length_cons, List.length_nil, Nat.reduceAdd, Nat.zero_add, List.map_cons, List.map_nil, Option.map_none]
    simp (maxSteps := 300000) (disch := omega) only [go_sem, Nat.reduceAdd, ↓reduceIte]
    with_reducible refine hK _ ?_
    clear hK K
    refine nx_then ?_
    refine awp_ifD (.tmp 13) rfl rfl rfl (fun h => ?_) (fun h => ?_)
    · skip
      refine awp_drop rfl ?_
      have hkl : k < 14 := by omega
      refine awp_skipP rfl ?_
      refine nx_then ?_
      refine awp_seqP rfl ?_
      refine awp_blockN 1 rfl rfl ?_
      refine awp_seqP rfl ?_
      refine awp_regP (Γ := noEnv) [21, 0, 3, 4, 5] (noEnv_ok _ _) rfl rfl rfl (fun K hK => ?_)
      simp only [Tryd.f11, bodyOf, Option.getD_some, cl, cr, rOps, lights, light, rN, List.size_toArray, List.length_cons, List.length_nil, Nat.reduceAdd, Nat.zero_add, List.map_cons, List.map_nil, Option.map_none]
      simp (maxSteps := 300000) (disch := omega) only [go_sem, Nat.reduceAdd, ↓reduceIte, tys_at]
      with_reducible refine hK _ ?_
      clear hK K
      refine nx_then ?_
      refine awp_ifD (.tmp 21) rfl rfl rfl (fun h => ?_) (fun h => ?_)
      · skip
        refine awp_drop rfl ?_
        have ht := text_at t k hkl h hn
        refine awp_seqP rfl ?_
        refine awp_regP (Γ := noEnv) [2] (noEnv_ok _ _) rfl rfl rfl (fun K hK => ?_)
        simp only [Tryd.f11, bodyOf, Option.getD_some, cl, cr, rOps, lights, light, rN, List.size_toArray, List.length_cons, List.length_nil, Nat.reduceAdd, Nat.zero_add, List.map_cons, List.map_nil, Option.map_none]
        simp (maxSteps := 300000) (disch := omega) only [go_sem, Nat.reduceAdd, ↓reduceIte, txs_at]
        with_reducible refine hK _ ?_
        clear hK K
        refine nx_then ?_
        refine awp_retP rfl ?_
        refine nx_ret_blk (nx_ret_then (nx_ret_loop (nx_ret_blk (nx_ret_then ?_))))
        simp (disch := omega) only [pureQ, resA, resAL, resA1, Tryd.f11, go_sem, ↓reduceIte, ht]
      · skip
        refine awp_drop rfl ?_
        refine awp_skipP rfl ?_
        refine nx_blk (nx_then ?_)
        refine awp_regP (Γ := noEnv) [0, 3, 4, 5] (noEnv_ok _ _) rfl rfl rfl (fun K hK => ?_)
        simp only [Tryd.f11, bodyOf, Option.getD_some, cl, cr, rOps, lights, light, rN, List.size_toArray, List.length_cons, List.length_nil, Nat.reduceAdd, Nat.zero_add, List.map_cons, List.map_nil, Option.map_none]
        simp (maxSteps := 300000) (disch := omega) only [go_sem, Nat.reduceAdd, ↓reduceIte]
        with_reducible refine hK _ ?_
        clear hK K
        refine nx_loop ?_
        refine ⟨⟨k + 1, _⟩, ⟨by simp only; omega, fun j hj => ?_⟩, by simp only; omega, sub_same ?_ rfl (Nat.le_refl _)⟩
        · by_cases e : j = k
          · subst e; exact h
          · exact hn j (by simp only at hj; omega)
        · simp only [Int.natCast_add, Int.natCast_one]
    · skip
      refine awp_drop rfl ?_
      obtain rfl : k = 14 := by omega
      have ht := text_no t hn
      have hl := (decD_len t.toNat 5 (by omega) (by omega)).2
      have hl2 : 4 + (decD t.toNat).length ≤ 9223372036854775807 := by omega
      refine awp_exitN 0 rfl rfl ?_
      refine nx_ex_then (nx_ex_loop (nx_ex_blk ?_))
      refine nx_then ?_
      refine awp_seqP rfl ?_
      refine awp_regP (Γ := envL [(25, .pure true decG)]) [2] (envOK_cons ok25 envOK_nil) rfl rfl rfl (fun K hK => ?_)
      simp only [Tryd.f11, bodyOf, Option.getD_some, cl, cr, rOps, lights, light, rN, List.size_toArray, List.length_cons, List.length_nil, Nat.reduceAdd, Nat.zero_add, List.map_cons, List.map_nil, Option.map_none]
      simp (maxSteps := 300000) (disch := omega) only [go_sem, Nat.reduceAdd, ↓reduceIte, set64, hl2]
      with_reducible refine hK _ ?_
      clear hK K
      refine nx_then ?_
      refine awp_retP rfl ?_
      simp (disch := omega) only [pureQ, resA, resAL, resA1, Tryd.f11, go_sem, ↓reduceIte, ht]
  · cases hg
theorem ok11 : EntOK Tryd.prog GLh 11 (.pure true txtG) := ⟨⟨_, Tryd.func11, rfl, rfl⟩, rtxt_ok⟩

def parT : Option T16 → AV
  | some t => .tup [.w16 t, .b true]
  | none => .tup [.w16 0#16, .b false]
theorem parT_s (t : T16) : parT (some t) = .tup [.w16 t, .b true] := (rfl)
theorem parT_n : parT none = .tup [.w16 0#16, .b false] := (rfl)
def parG : List AV → Option AV
  | [.s s] => guardO (s.length ≤ 9223372036854775807) (some (parT (parseL s)))
  | _ => none
theorem parG_eq (s : List B8) : parG [.s s] = guardO (s.length ≤ 9223372036854775807) (some (parT (parseL s))) := (rfl)
attribute [go_sem] parT_s parT_n parG_eq
theorem numL_no1 {d : List B8} (h : d.length = 0 ∨ 5 < d.length ∨ (1 < d.length ∧ d.getD 0 0#8 = 48#8)) : numL d = none := by unfold numL; rw [if_pos h]
theorem numL_if {d : List B8} (h : ¬ (d.length = 0 ∨ 5 < d.length ∨ (1 < d.length ∧ d.getD 0 0#8 = 48#8))) : numL d = if (∀ c ∈ d, isD c) ∧ valD 0 d ≤ 65535 then some (BitVec.ofNat 16 (valD 0 d)) else none := by unfold numL; rw [if_neg h]
theorem isD_iff (c : B8) : isD c ↔ 48#8 ≤ c ∧ c ≤ 57#8 := by unfold isD; rw [BitVec.le_def, BitVec.le_def]; rfl
theorem valD_snoc (l : List B8) (n : Nat) (c : B8) : valD n (l ++ [c]) = 10 * valD n l + (c.toNat - 48) := by unfold valD; rw [List.foldl_append]; rfl
theorem valD_take (d : List B8) (k : Nat) (h : k < d.length) : valD 0 (d.take (k + 1)) = 10 * valD 0 (d.take k) + ((d.getD k 0#8).toNat - 48) := by
  rw [List.take_succ_eq_append_getElem h, valD_snoc, List.getD_eq_getElem?_getD, List.getElem?_eq_getElem h]; rfl
theorem sub48 (c : B8) (h : 48#8 ≤ c) : (c - 48#8).toNat = c.toNat - 48 := by rw [BitVec.toNat_sub_of_le h]; rfl
theorem dig_all {d : List B8} {k : Nat} (hk : k = d.length) (h : ∀ j, j < k → isD (d.getD j 0#8)) : ∀ c ∈ d, isD c := by
  intro c hc
  obtain ⟨j, hj, rfl⟩ := List.getElem_of_mem hc
  have := h j (by omega)
  rwa [List.getD_eq_getElem?_getD, List.getElem?_eq_getElem hj] at this
theorem dig_not {d : List B8} {k : Nat} (hk : k < d.length) (h : ¬ isD (d.getD k 0#8)) : ¬ ∀ c ∈ d, isD c := by
  intro ha
  refine h ?_
  rw [List.getD_eq_getElem?_getD, List.getElem?_eq_getElem hk]
  exact ha _ (List.getElem_mem hk)
theorem idF4 (s : List B8) (k : Nat) (h : k < s.length) : s[k]? = some (s.getD k 0#8) := by rw [List.getD_eq_getElem?_getD, List.getElem?_eq_getElem h]; rfl
theorem pow_step (k v c : Nat) (hv : v < 10 ^ k) (hc : c ≤ 9) : 10 * v + c < 10 ^ (k + 1) := by rw [Nat.pow_succ]; omega
theorem pow_le5 (k : Nat) (h : k ≤ 5) : 10 ^ k ≤ 100000 := by
  have := Nat.pow_le_pow_right (n := 10) (by omega) h; exact this
set_option maxHeartbeats 4000000 in
theorem rpar_rest (s d : List B8) (hdl : d.length = s.length - 4) (h5 : 5 ≤ s.length) (h9 : s.length ≤ 9) (hdg : ∀ k, s.getD (4 + k) 0#8 = d.getD k 0#8) (hnum : numL d = if (∀ c ∈ d, isD c) ∧ valD 0 d ≤ 65535 then some (BitVec.ofNat 16 (valD 0 d)) else none) (nx cx : Nat) :
    Awp Tryd.prog GLh Tryd.f10.ntmps (cr (cr (cr (cr (bodyOf Tryd.f10))))) { fr := [(0, .s s)], hp := fun _ => none, nx := nx, cx := cx } (pureQ Tryd.prog Tryd.f10.results.toList (parT (numL d))) := by
  refine awp_seqP rfl ?_
  refine awp_regP (Γ := noEnv) [0, 7] (noEnv_ok _ _) rfl rfl rfl (fun K hK => ?_)
  simp only [Tryd.f10, bodyOf, Option.getD_some, cl, cr, rOps, lights, light, rN, List.size_toArray, List.length_cons, List.length_nil, Nat.zero_add, List.map_cons, List.map_nil, Option.map_none]
  simp (maxSteps := 300000) (disch := omega) only [go_sem, ↓reduceIte]
  with_reducible refine hK _ ?_
  clear hK K
  refine nx_then ?_
  refine awp_seqP rfl ?_
  refine awp_seqP rfl ?_
  refine awp_regP (Γ := noEnv) [0, 7, 8] (noEnv_ok _ _) rfl rfl rfl (fun K hK => ?_)
  simp only [Tryd.f10, bodyOf, Option.getD_some, cl, cr, rOps, lights, light, rN, List.size_toArray, List.length_cons, List.length_nil, Nat.zero_add, List.map_cons, List.map_nil, Option.map_none]
  simp (maxSteps := 300000) (disch := omega) only [go_sem, ↓reduceIte]
  with_reducible refine hK _ ?_
  clear hK K
  refine nx_then ?_
  refine awp_blockN 2 rfl rfl ?_
  refine awp_loopP (fun p : KC => { fr := [(0, .s s), (7, .i ((valD 0 (d.take p.k) : Nat) : Int)), (8, .i ((4 + p.k : Nat) : Int))], hp := fun _ => none, nx := 0, cx := p.c }) (fun p => p.k ≤ d.length ∧ (∀ j, j < p.k → isD (d.getD j 0#8)) ∧ valD 0 (d.take p.k) < 10 ^ p.k) (fun p => d.length - p.k) rfl ⟨⟨0, _⟩, ⟨Nat.zero_le _, fun j hj => by simp at hj, by simp [valD]⟩, sub_same rfl rfl (Nat.le_refl _)⟩ ?_
  rintro ⟨k, c⟩ ⟨hk, hn, hv⟩ n0
  simp only at hk hn hv ⊢
  refine awp_seqP rfl ?_
  refine awp_seqP rfl ?_
  refine awp_regP (Γ := noEnv) [55, 0, 7, 8] (noEnv_ok _ _) rfl rfl rfl (fun K hK => ?_)
  simp only [Tryd.f10, bodyOf, Option.getD_some, cl, cr, rOps, lights, light, rN, List.size_toArray, List.length_cons, List.length_nil, Nat.reduceAdd, Nat.zero_add, List.map_cons, List.map_nil, Option.map_none]
  simp (maxSteps := 300000) (disch := omega) only [go_sem, Nat.reduceAdd, ↓reduceIte]
  with_reducible refine hK _ ?_
  clear hK K
  refine nx_then ?_
  refine awp_ifD (.tmp 55) rfl rfl rfl (fun h => ?_) (fun h => ?_)
  · skip
    refine awp_drop rfl ?_
    have hkl : k < d.length := by omega
    have hik := idF4 s (4 + k) (by omega)
    rw [hdg] at hik
    have hp5 := pow_le5 k (by omega)
    by_cases hD : isD (d.getD k 0#8)
    · skip
      have hD2 := (isD_iff _).1 hD
      have e1 : (decide (48#8 ≤ d.getD k 0#8) && decide (d.getD k 0#8 ≤ 57#8)) = true := by simp only [hD2.1, hD2.2, decide_true, Bool.and_self]
      have e2 := sub48 _ hD2.1
      have hs9 : (d.getD k 0#8).toNat - 48 ≤ 9 := by unfold isD at hD; omega
      have hst := valD_take d k hkl
      have hpw := pow_step k _ _ hv hs9
      refine awp_skipP rfl ?_
      refine nx_then ?_
      refine awp_seqP rfl ?_
      refine awp_blockN 3 rfl rfl ?_
      refine awp_seqP rfl ?_
      refine awp_seqP rfl ?_
      refine awp_regP (Γ := envL [(24, .pure true digG)]) [62, 0, 7, 8] (envOK_cons ok24 envOK_nil) rfl rfl rfl (fun K hK => ?_)
      simp only [Tryd.f10, bodyOf, Option.getD_some, cl, cr, rOps, lights, light, rN, List.size_toArray, List.length_cons, List.length_nil, Nat.reduceAdd, Nat.zero_add, List.map_cons, List.map_nil, Option.map_none]
      simp (maxSteps := 300000) (disch := omega) only [go_sem, Nat.reduceAdd, ↓reduceIte, hik, e1, Int.toNat_natCast, Bool.not_true]
      with_reducible refine hK _ ?_
      clear hK K
      refine nx_then ?_
      refine awp_ifB (.tmp 62) rfl rfl rfl (fun h => ?_) (fun h => ?_)
      · skip
        refine awp_drop rfl ?_
        cases h
      · skip
        refine awp_drop rfl ?_
        clear h
        refine awp_skipP rfl ?_
        refine nx_then ?_
        refine awp_regP (Γ := noEnv) [0, 7, 8] (noEnv_ok _ _) rfl rfl rfl (fun K hK => ?_)
        simp only [Tryd.f10, bodyOf, Option.getD_some, cl, cr, rOps, lights, light, rN, List.size_toArray, List.length_cons, List.length_nil, Nat.reduceAdd, Nat.zero_add, List.map_cons, List.map_nil, Option.map_none]
        simp (maxSteps := 300000) (disch := omega) only [go_sem, Nat.reduceAdd, Int.reduceLE, Int.reduceLT, BitVec.reduceOfInt, ↓reduceIte, hik, e2, Int.toNat_natCast]
        with_reducible refine hK _ ?_
        clear hK K
        refine nx_blk (nx_then ?_)
        refine awp_regP (Γ := noEnv) [0, 7, 8] (noEnv_ok _ _) rfl rfl rfl (fun K hK => ?_)
        simp only [Tryd.f10, bodyOf, Option.getD_some, cl, cr, rOps, lights, light, rN, List.size_toArray, List.length_cons, List.length_nil, Nat.reduceAdd, Nat.zero_add, List.map_cons, List.map_nil, Option.map_none]
        simp (maxSteps := 300000) (disch := omega) only [go_sem, Nat.reduceAdd, ↓reduceIte]
        with_reducible refine hK _ ?_
        clear hK K
        refine nx_loop ?_
        refine ⟨⟨k + 1, _⟩, ⟨by simp only; omega, fun j hj => ?_, by simp only; rw [hst]; exact hpw⟩, by simp only; omega, sub_same ?_ rfl (Nat.le_refl _)⟩
        · by_cases e : j = k
          · subst e; exact hD
          · exact hn j (by simp only at hj; omega)
        · simp only [hst, Int.natCast_add, Int.natCast_mul, Int.natCast_one, Int.add_assoc]; rfl
    · skip
      have e1 : (decide (48#8 ≤ d.getD k 0#8) && decide (d.getD k 0#8 ≤ 57#8)) = false := by
        rw [isD_iff] at hD
        rw [← Bool.decide_and]; exact decide_eq_false hD
      have hno : numL d = none := by rw [hnum, if_neg fun ⟨ha, _⟩ => dig_not hkl hD ha]
      refine awp_skipP rfl ?_
      refine nx_then ?_
      refine awp_seqP rfl ?_
      refine awp_blockN 3 rfl rfl ?_
      refine awp_seqP rfl ?_
      refine awp_seqP rfl ?_
      refine awp_regP (Γ := envL [(24, .pure true digG)]) [62, 0, 7, 8] (envOK_cons ok24 envOK_nil) rfl rfl rfl (fun K hK => ?_)
      simp only [Tryd.f10, bodyOf, Option.getD_some, cl, cr, rOps, lights, light, rN, List.size_toArray, List.length_cons, List.length_nil, Nat.reduceAdd, Nat.zero_add, List.map_cons, List.map_nil, Option.map_none]
      simp (maxSteps := 300000) (disch := omega) only [go_sem, Nat.reduceAdd, ↓reduceIte, hik, e1, Int.toNat_natCast, Bool.not_false]
      with_reducible refine hK _ ?_
      clear hK K
      refine nx_then ?_
      refine awp_ifB (.tmp 62) rfl rfl rfl (fun h => ?_) (fun h => ?_)
      · skip
        refine awp_drop rfl ?_
        refine awp_seqP rfl ?_
        refine awp_regP (Γ := noEnv) [2, 3] (noEnv_ok _ _) rfl rfl rfl (fun K hK => ?_)
        simp only [Tryd.f10, bodyOf, Option.getD_some, cl, cr, rOps, lights, light, rN, List.size_toArray, List.length_cons, List.length_nil, Nat.reduceAdd, Nat.zero_add, List.map_cons, List.map_nil, Option.map_none]
        simp (maxSteps := 300000) (disch := omega) only [go_sem, Nat.reduceAdd, Int.reduceLE, Int.reduceLT, BitVec.reduceOfInt, ↓reduceIte]
        with_reducible refine hK _ ?_
        clear hK K
        refine nx_then ?_
        refine awp_retP rfl ?_
        refine nx_ret_then (nx_ret_blk (nx_ret_then (nx_ret_loop (nx_ret_blk (nx_ret_then ?_)))))
        simp (disch := omega) only [pureQ, resA, resAL, resA1, Tryd.f10, go_sem, ↓reduceIte, hno]
      · skip
        refine awp_drop rfl ?_
        cases h
  · skip
    refine awp_drop rfl ?_
    obtain rfl : k = d.length := by omega
    have hall := dig_all rfl hn
    have hp5 := pow_le5 d.length (by omega)
    rw [List.take_length] at hv
    refine awp_exitN 2 rfl rfl ?_
    refine nx_ex_then (nx_ex_loop (nx_ex_blk ?_))
    refine nx_then ?_
    refine awp_seqP rfl ?_
    refine awp_seqP rfl ?_
    refine awp_regP (Γ := noEnv) [72, 7] (noEnv_ok _ _) rfl rfl rfl (fun K hK => ?_)
    simp only [Tryd.f10, bodyOf, Option.getD_some, cl, cr, rOps, lights, light, rN, List.size_toArray, List.length_cons, List.length_nil, Nat.reduceAdd, Nat.zero_add, List.map_cons, List.map_nil, Option.map_none]
    simp (maxSteps := 300000) (disch := omega) only [go_sem, Nat.reduceAdd, ↓reduceIte, List.take_length]
    with_reducible refine hK _ ?_
    clear hK K
    refine nx_then ?_
    refine awp_ifD (.tmp 72) rfl rfl rfl (fun h => ?_) (fun h => ?_)
    · skip
      refine awp_drop rfl ?_
      have hno : numL d = none := by rw [hnum, if_neg fun ⟨_, ha⟩ => by omega]
      refine awp_seqP rfl ?_
      refine awp_regP (Γ := noEnv) [2, 3] (noEnv_ok _ _) rfl rfl rfl (fun K hK => ?_)
      simp only [Tryd.f10, bodyOf, Option.getD_some, cl, cr, rOps, lights, light, rN, List.size_toArray, List.length_cons, List.length_nil, Nat.reduceAdd, Nat.zero_add, List.map_cons, List.map_nil, Option.map_none]
      simp (maxSteps := 300000) (disch := omega) only [go_sem, Nat.reduceAdd, Int.reduceLE, Int.reduceLT, BitVec.reduceOfInt, ↓reduceIte]
      with_reducible refine hK _ ?_
      clear hK K
      refine nx_then ?_
      refine awp_retP rfl ?_
      refine nx_ret_then ?_
      simp (disch := omega) only [pureQ, resA, resAL, resA1, Tryd.f10, go_sem, ↓reduceIte, hno]
    · skip
      refine awp_drop rfl ?_
      have hyes : numL d = some (BitVec.ofNat 16 (valD 0 d)) := by rw [hnum, if_pos ⟨hall, by omega⟩]
      refine awp_skipP rfl ?_
      refine nx_then ?_
      refine awp_seqP rfl ?_
      refine awp_regP (Γ := noEnv) [2, 3] (noEnv_ok _ _) rfl rfl rfl (fun K hK => ?_)
      simp only [Tryd.f10, bodyOf, Option.getD_some, cl, cr, rOps, lights, light, rN, List.size_toArray, List.length_cons, List.length_nil, Nat.reduceAdd, Nat.zero_add, List.map_cons, List.map_nil, Option.map_none]
      simp (maxSteps := 300000) (disch := omega) only [go_sem, Nat.reduceAdd, ↓reduceIte]
      with_reducible refine hK _ ?_
      clear hK K
      refine nx_then ?_
      refine awp_retP rfl ?_
      simp (disch := omega) only [pureQ, resA, resAL, resA1, Tryd.f10, go_sem, ↓reduceIte, hyes, BitVec.ofInt_natCast]
set_option maxHeartbeats 4000000 in
theorem rpar_ok : PureOK Tryd.prog GLh 10 parG := by
  refine pure_of_awp Tryd.func10 (bodyOf_some rfl) ?_
  intro args r hg
  unfold parG at hg
  split at hg
  · rename_i s
    replace hg := guardO_inv hg; obtain ⟨hs, hg⟩ := hg
    obtain rfl := Option.some.inj hg
    refine ⟨Nat.le_of_ble_eq_true rfl, fun nx => ?_⟩
    clear hg
    have hty := typesL_len
    have htx := textsL_len
    refine awp_seqP rfl ?_
    refine awp_regP (Γ := noEnv) [0] (noEnv_ok _ _) rfl rfl rfl (fun K hK => ?_)
    simp only [Tryd.f10, bodyOf, Option.getD_some, cl, rOps, lights, light, rN, List.size_toArray, List.length_cons, List.length_nil, Nat.reduceAdd, Nat.zero_add, List.map_cons, List.map_nil, Option.map_none]
    simp (maxSteps := 300000) (disch := omega) only [go_sem, Nat.reduceAdd, Int.reduceLE, Int.reduceLT, BitVec.reduceOfInt, ↓reduceIte]
    with_reducible refine hK _ ?_
    clear hK K
    refine nx_then ?_
    refine awp_seqP rfl ?_
    refine awp_regP (Γ := envL [(23, .pure false wordsG)]) [0, 4, 5] (envOK_cons ok23 envOK_nil) rfl rfl rfl (fun K hK => ?_)
    simp only [Tryd.f10, bodyOf, Option.getD_some, cl, cr, rOps, lights, light, rN, List.size_toArray, List.length_cons, List.length_nil, Nat.reduceAdd, Nat.zero_add, List.map_cons, List.map_nil, Option.map_none]
    simp (maxSteps := 300000) (disch := omega) only [go_sem, Nat.reduceAdd, ↓reduceIte, List.getElem?_cons_zero, List.getElem?_cons_succ]
    with_reducible refine hK _ ?_
    clear hK K
    refine nx_then ?_
    refine awp_seqP rfl ?_
    refine awp_seqP rfl ?_
    refine awp_regP (Γ := noEnv) [0, 4, 5, 6] (noEnv_ok _ _) rfl rfl rfl (fun K hK => ?_)
    simp only [Tryd.f10, bodyOf, Option.getD_some, cl, cr, rOps, lights, light, rN, List.size_toArray, List.length_cons, List.length_nil, Nat.zero_add, List.map_cons, List.map_nil, Option.map_none]
    simp (maxSteps := 300000) (disch := omega) only [go_sem, ↓reduceIte]
    with_reducible refine hK _ ?_
    clear hK K
    refine nx_then ?_
    refine awp_blockN 0 rfl rfl ?_
    refine awp_loopP (fun p : KC => { fr := [(0, .s s), (4, .sl 14 (c16 typesL)), (5, .sl 14 (cS textsL)), (6, .i p.k)], hp := fun _ => none, nx := 0, cx := p.c }) (fun p => p.k ≤ 14 ∧ ∀ j, j < p.k → (tabL.getD j (0#16, [])).2 ≠ s) (fun p => 14 - p.k) rfl ⟨⟨0, _⟩, ⟨Nat.zero_le _, fun j hj => by simp at hj⟩, sub_same rfl rfl (Nat.le_refl _)⟩ ?_
    rintro ⟨k, c⟩ ⟨hk, hn⟩ n0
    simp only at hk hn ⊢
    refine awp_seqP rfl ?_
    refine awp_seqP rfl ?_
    refine awp_regP (Γ := noEnv) [16, 0, 4, 5, 6] (noEnv_ok _ _) rfl rfl rfl (fun K hK => ?_)
    simp only [Tryd.f10, bodyOf, Option.getD_some, cl, cr, rOps, lights, light, rN, List.size_toArray, List.length_cons, List.length_nil, Nat.reduceAdd, Nat.zero_add, List.map_cons, List.map_nil, Option.map_none]
    simp (maxSteps := 300000) (disch := omega) only [go_sem, Nat.reduceAdd, ↓reduceIte]
    with_reducible refine hK _ ?_
    clear hK K
    refine nx_then ?_
    refine awp_ifD (.tmp 16) rfl rfl rfl (fun h => ?_) (fun h => ?_)
    · skip
      refine awp_drop rfl ?_
      have hkl : k < 14 := by omega
      refine awp_skipP rfl ?_
      refine nx_then ?_
      refine awp_seqP rfl ?_
      refine awp_blockN 1 rfl rfl ?_
      refine awp_seqP rfl ?_
      refine awp_regP (Γ := noEnv) [24, 0, 4, 5, 6] (noEnv_ok _ _) rfl rfl rfl (fun K hK => ?_)
      simp only [Tryd.f10, bodyOf, Option.getD_some, cl, cr, rOps, lights, light, rN, List.size_toArray, List.length_cons, List.length_nil, Nat.reduceAdd, Nat.zero_add, List.map_cons, List.map_nil, Option.map_none]
      simp (maxSteps := 300000) (disch := omega) only [go_sem, Nat.reduceAdd, ↓reduceIte, txs_at]
      with_reducible refine hK _ ?_
      clear hK K
      refine nx_then ?_
      refine awp_ifD (.tmp 24) rfl rfl rfl (fun h => ?_) (fun h => ?_)
      · skip
        refine awp_drop rfl ?_
        have ht := parse_at s k hkl h hn
        refine awp_seqP rfl ?_
        refine awp_regP (Γ := noEnv) [2, 3] (noEnv_ok _ _) rfl rfl rfl (fun K hK => ?_)
        simp only [Tryd.f10, bodyOf, Option.getD_some, cl, cr, rOps, lights, light, rN, List.size_toArray, List.length_cons, List.length_nil, Nat.reduceAdd, Nat.zero_add, List.map_cons, List.map_nil, Option.map_none]
        simp (maxSteps := 300000) (disch := omega) only [go_sem, Nat.reduceAdd, ↓reduceIte, tys_at]
        with_reducible refine hK _ ?_
        clear hK K
        refine nx_then ?_
        refine awp_retP rfl ?_
        refine nx_ret_blk (nx_ret_then (nx_ret_loop (nx_ret_blk (nx_ret_then ?_))))
        simp (disch := omega) only [pureQ, resA, resAL, resA1, Tryd.f10, go_sem, ↓reduceIte, ht]
      · skip
        refine awp_drop rfl ?_
        refine awp_skipP rfl ?_
        refine nx_blk (nx_then ?_)
        refine awp_regP (Γ := noEnv) [0, 4, 5, 6] (noEnv_ok _ _) rfl rfl rfl (fun K hK => ?_)
        simp only [Tryd.f10, bodyOf, Option.getD_some, cl, cr, rOps, lights, light, rN, List.size_toArray, List.length_cons, List.length_nil, Nat.reduceAdd, Nat.zero_add, List.map_cons, List.map_nil, Option.map_none]
        simp (maxSteps := 300000) (disch := omega) only [go_sem, Nat.reduceAdd, ↓reduceIte]
        with_reducible refine hK _ ?_
        clear hK K
        refine nx_loop ?_
        refine ⟨⟨k + 1, _⟩, ⟨by simp only; omega, fun j hj => ?_⟩, by simp only; omega, sub_same ?_ rfl (Nat.le_refl _)⟩
        · by_cases e : j = k
          · subst e; exact h
          · exact hn j (by simp only at hj; omega)
        · simp only [Int.natCast_add, Int.natCast_one]
    · skip
      refine awp_drop rfl ?_
      obtain rfl : k = 14 := by omega
      have ht := parse_no s hn
      obtain ⟨d, hd⟩ : ∃ d, s.drop 4 = d := ⟨_, rfl⟩
      have hdl : d.length = s.length - 4 := by rw [← hd, List.length_drop]
      have hdg : ∀ k, s.getD (4 + k) 0#8 = d.getD k 0#8 := fun k => by rw [← hd, drop_getD]
      have hdg0 := hdg 0
      rw [Nat.add_zero] at hdg0
      rw [hd] at ht
      refine awp_exitN 0 rfl rfl ?_
      refine nx_ex_then (nx_ex_loop (nx_ex_blk ?_))
      refine nx_then ?_
      refine awp_seqP rfl ?_
      refine awp_seqP rfl ?_
      by_cases q1 : s.length < 5
      · skip
        have d1 : decide ((s.length : Int) < 5) = true := decide_eq_true (by omega)
        have hno : parseL s = none := by rw [ht]; split <;> first | rfl | exact numL_no1 (.inl (by omega))
        refine awp_regP (Γ := noEnv) [51, 0] (noEnv_ok _ _) rfl rfl rfl (fun K hK => ?_)
        simp only [Tryd.f10, bodyOf, Option.getD_some, cl, cr, rOps, lights, light, rN, List.size_toArray, List.length_cons, List.length_nil, Nat.reduceAdd, Nat.zero_add, List.map_cons, List.map_nil, Option.map_none, Option.map_some, List.getElem?_toArray, List.getElem?_cons_zero, List.getElem?_cons_succ, Option.bind_some]
        simp (maxSteps := 300000) (disch := omega) only [go_sem, Nat.reduceAdd, ↓reduceIte, d1]
        with_reducible refine hK _ ?_
        clear hK K
        refine nx_then ?_
        refine awp_ifB (.tmp 51) rfl rfl rfl (fun h => ?_) (fun h => ?_)
        · skip
          refine awp_drop rfl ?_
          refine awp_seqP rfl ?_
          refine awp_regP (Γ := noEnv) [2, 3] (noEnv_ok _ _) rfl rfl rfl (fun K hK => ?_)
          simp only [Tryd.f10, bodyOf, Option.getD_some, cl, cr, rOps, lights, light, rN, List.size_toArray, List.length_cons, List.length_nil, Nat.reduceAdd, Nat.zero_add, List.map_cons, List.map_nil, Option.map_none]
          simp (maxSteps := 300000) (disch := omega) only [go_sem, Nat.reduceAdd, Int.reduceLE, Int.reduceLT, BitVec.reduceOfInt, ↓reduceIte]
          with_reducible refine hK _ ?_
          clear hK K
          refine nx_then ?_
          refine awp_retP rfl ?_
          refine nx_ret_then ?_
          simp (disch := omega) only [pureQ, resA, resAL, resA1, Tryd.f10, go_sem, ↓reduceIte, hno]
        · skip
          refine awp_drop rfl ?_
          cases h
      · skip
        have d1 : decide ((s.length : Int) < 5) = false := decide_eq_false (by omega)
        by_cases q2 : 9 < s.length
        · skip
          have d2 : decide (9 < (s.length : Int)) = true := decide_eq_true (by omega)
          have hno : parseL s = none := by rw [ht]; split <;> first | rfl | exact numL_no1 (.inr (.inl (by omega)))
          refine awp_regP (Γ := noEnv) [51, 0] (noEnv_ok _ _) rfl rfl rfl (fun K hK => ?_)
          simp only [Tryd.f10, bodyOf, Option.getD_some, cl, cr, rOps, lights, light, rN, List.size_toArray, List.length_cons, List.length_nil, Nat.reduceAdd, Nat.zero_add, List.map_cons, List.map_nil, Option.map_none, Option.map_some, List.getElem?_toArray, List.getElem?_cons_zero, List.getElem?_cons_succ, Option.bind_some]
          simp (maxSteps := 300000) (disch := omega) only [go_sem, Nat.reduceAdd, reduceCtorEq, ↓reduceIte, d1, d2]
          with_reducible refine hK _ ?_
          clear hK K
          refine nx_then ?_
          refine awp_ifB (.tmp 51) rfl rfl rfl (fun h => ?_) (fun h => ?_)
          · skip
            refine awp_drop rfl ?_
            refine awp_seqP rfl ?_
            refine awp_regP (Γ := noEnv) [2, 3] (noEnv_ok _ _) rfl rfl rfl (fun K hK => ?_)
            simp only [Tryd.f10, bodyOf, Option.getD_some, cl, cr, rOps, lights, light, rN, List.size_toArray, List.length_cons, List.length_nil, Nat.reduceAdd, Nat.zero_add, List.map_cons, List.map_nil, Option.map_none]
            simp (maxSteps := 300000) (disch := omega) only [go_sem, Nat.reduceAdd, Int.reduceLE, Int.reduceLT, BitVec.reduceOfInt, ↓reduceIte]
            with_reducible refine hK _ ?_
            clear hK K
            refine nx_then ?_
            refine awp_retP rfl ?_
            refine nx_ret_then ?_
            simp (disch := omega) only [pureQ, resA, resAL, resA1, Tryd.f10, go_sem, ↓reduceIte, hno]
          · skip
            refine awp_drop rfl ?_
            cases h
        · skip
          have d2 : decide (9 < (s.length : Int)) = false := decide_eq_false (by omega)
          by_cases q3 : s.take 4 = typeW
          · skip
            have d3 : decide (s.take 4 = typeW) = true := decide_eq_true q3
            rw [if_pos q3] at ht
            by_cases q4 : 5 < s.length
            · skip
              have d4 : decide (5 < (s.length : Int)) = true := decide_eq_true (by omega)
              have hi4 := idF4 s 4 (by omega)
              rw [hdg0] at hi4
              by_cases q5 : d.getD 0 0#8 = 48#8
              · skip
                have d5 : decide (d.getD 0 0#8 = 48#8) = true := decide_eq_true q5
                have hno : parseL s = none := by rw [ht]; exact numL_no1 (.inr (.inr ⟨by omega, q5⟩))
                refine awp_regP (Γ := noEnv) [51, 0] (noEnv_ok _ _) rfl rfl rfl (fun K hK => ?_)
                simp only [Tryd.f10, bodyOf, Option.getD_some, cl, cr, rOps, lights, light, rN, List.size_toArray, List.length_cons, List.length_nil, Nat.reduceAdd, Nat.zero_add, List.map_cons, List.map_nil, Option.map_none, Option.map_some, List.getElem?_toArray, List.getElem?_cons_zero, List.getElem?_cons_succ, Option.bind_some]
                simp (maxSteps := 300000) (disch := omega) only [go_sem, Nat.reduceAdd, Int.reduceLE, Int.reduceLT, Int.reduceToNat, BitVec.reduceOfInt, reduceCtorEq, ↓reduceIte, d1, d2, d3, d4, hi4, d5, List.drop_zero, Nat.sub_zero, Bool.not_true]
                with_reducible refine hK _ ?_
                clear hK K
                refine nx_then ?_
                refine awp_ifB (.tmp 51) rfl rfl rfl (fun h => ?_) (fun h => ?_)
                · skip
                  refine awp_drop rfl ?_
                  refine awp_seqP rfl ?_
                  refine awp_regP (Γ := noEnv) [2, 3] (noEnv_ok _ _) rfl rfl rfl (fun K hK => ?_)
                  simp only [Tryd.f10, bodyOf, Option.getD_some, cl, cr, rOps, lights, light, rN, List.size_toArray, List.length_cons, List.length_nil, Nat.reduceAdd, Nat.zero_add, List.map_cons, List.map_nil, Option.map_none]
                  simp (maxSteps := 300000) (disch := omega) only [go_sem, Nat.reduceAdd, Int.reduceLE, Int.reduceLT, BitVec.reduceOfInt, ↓reduceIte]
                  with_reducible refine hK _ ?_
                  clear hK K
                  refine nx_then ?_
                  refine awp_retP rfl ?_
                  refine nx_ret_then ?_
                  simp (disch := omega) only [pureQ, resA, resAL, resA1, Tryd.f10, go_sem, ↓reduceIte, hno]
                · skip
                  refine awp_drop rfl ?_
                  cases h
              · skip
                have d5 : decide (d.getD 0 0#8 = 48#8) = false := decide_eq_false q5
                have hnum := numL_if (d := d) (by rintro (h | h | ⟨h, h2⟩) <;> first | omega | exact q5 h2)
                refine awp_regP (Γ := noEnv) [51, 0] (noEnv_ok _ _) rfl rfl rfl (fun K hK => ?_)
                simp only [Tryd.f10, bodyOf, Option.getD_some, cl, cr, rOps, lights, light, rN, List.size_toArray, List.length_cons, List.length_nil, Nat.reduceAdd, Nat.zero_add, List.map_cons, List.map_nil, Option.map_none, Option.map_some, List.getElem?_toArray, List.getElem?_cons_zero, List.getElem?_cons_succ, Option.bind_some]
                simp (maxSteps := 300000) (disch := omega) only [go_sem, Nat.reduceAdd, Int.reduceLE, Int.reduceLT, Int.reduceToNat, BitVec.reduceOfInt, reduceCtorEq, ↓reduceIte, d1, d2, d3, d4, hi4, d5, List.drop_zero, Nat.sub_zero, Bool.not_true]
                with_reducible refine hK _ ?_
                clear hK K
                refine nx_then ?_
                refine awp_ifB (.tmp 51) rfl rfl rfl (fun h => ?_) (fun h => ?_)
                · skip
                  refine awp_drop rfl ?_
                  cases h
                · skip
                  refine awp_drop rfl ?_
                  clear h
                  refine awp_skipP rfl ?_
                  refine nx_then ?_
                  rw [ht]
                  exact rpar_rest s d hdl (by omega) (by omega) hdg hnum _ _
            · skip
              have d4 : decide (5 < (s.length : Int)) = false := decide_eq_false (by omega)
              have hnum := numL_if (d := d) (by rintro (h | h | ⟨h, h2⟩) <;> omega)
              refine awp_regP (Γ := noEnv) [51, 0] (noEnv_ok _ _) rfl rfl rfl (fun K hK => ?_)
              simp only [Tryd.f10, bodyOf, Option.getD_some, cl, cr, rOps, lights, light, rN, List.size_toArray, List.length_cons, List.length_nil, Nat.reduceAdd, Nat.zero_add, List.map_cons, List.map_nil, Option.map_none, Option.map_some, List.getElem?_toArray, List.getElem?_cons_zero, List.getElem?_cons_succ, Option.bind_some]
              simp (maxSteps := 300000) (disch := omega) only [go_sem, Nat.reduceAdd, Int.reduceLE, Int.reduceToNat, reduceCtorEq, ↓reduceIte, d1, d2, d3, d4, List.drop_zero, Nat.sub_zero, Bool.not_true]
              with_reducible refine hK _ ?_
              clear hK K
              refine nx_then ?_
              refine awp_ifB (.tmp 51) rfl rfl rfl (fun h => ?_) (fun h => ?_)
              · skip
                refine awp_drop rfl ?_
                cases h
              · skip
                refine awp_drop rfl ?_
                clear h
                refine awp_skipP rfl ?_
                refine nx_then ?_
                rw [ht]
                exact rpar_rest s d hdl (by omega) (by omega) hdg hnum _ _
          · skip
            have d3 : decide (s.take 4 = typeW) = false := decide_eq_false q3
            rw [if_neg q3] at ht
            refine awp_regP (Γ := noEnv) [51, 0] (noEnv_ok _ _) rfl rfl rfl (fun K hK => ?_)
            simp only [Tryd.f10, bodyOf, Option.getD_some, cl, cr, rOps, lights, light, rN, List.size_toArray, List.length_cons, List.length_nil, Nat.reduceAdd, Nat.zero_add, List.map_cons, List.map_nil, Option.map_none, Option.map_some, List.getElem?_toArray, List.getElem?_cons_zero, List.getElem?_cons_succ, Option.bind_some]
            simp (maxSteps := 300000) (disch := omega) only [go_sem, Nat.reduceAdd, Int.reduceLE, Int.reduceToNat, reduceCtorEq, ↓reduceIte, d1, d2, d3, List.drop_zero, Nat.sub_zero, Bool.not_false]
            with_reducible refine hK _ ?_
            clear hK K
            refine nx_then ?_
            refine awp_ifB (.tmp 51) rfl rfl rfl (fun h => ?_) (fun h => ?_)
            · skip
              refine awp_drop rfl ?_
              refine awp_seqP rfl ?_
              refine awp_regP (Γ := noEnv) [2, 3] (noEnv_ok _ _) rfl rfl rfl (fun K hK => ?_)
              simp only [Tryd.f10, bodyOf, Option.getD_some, cl, cr, rOps, lights, light, rN, List.size_toArray, List.length_cons, List.length_nil, Nat.reduceAdd, Nat.zero_add, List.map_cons, List.map_nil, Option.map_none]
              simp (maxSteps := 300000) (disch := omega) only [go_sem, Nat.reduceAdd, Int.reduceLE, Int.reduceLT, BitVec.reduceOfInt, ↓reduceIte]
              with_reducible refine hK _ ?_
              clear hK K
              refine nx_then ?_
              refine awp_retP rfl ?_
              refine nx_ret_then ?_
              simp (disch := omega) only [pureQ, resA, resAL, resA1, Tryd.f10, go_sem, ↓reduceIte, ht]
            · skip
              refine awp_drop rfl ?_
              cases h
  · cases hg
theorem ok10 : EntOK Tryd.prog GLh 10 (.pure true parG) := ⟨⟨_, Tryd.func10, rfl, rfl⟩, rpar_ok⟩
end Go.AX

namespace Go.AX
open Go Go.Proofs

def d36L : List B8 := [48#8, 49#8, 50#8, 51#8, 52#8, 53#8, 54#8, 55#8, 56#8, 57#8, 97#8, 98#8, 99#8, 100#8, 101#8, 102#8, 103#8, 104#8, 105#8, 106#8, 107#8, 108#8, 109#8, 110#8, 111#8, 112#8, 113#8, 114#8, 115#8, 116#8, 117#8, 118#8, 119#8, 120#8, 121#8, 122#8]
theorem sk36 : ofV (Value.string { data := #[48, 49, 50, 51, 52, 53, 54, 55, 56, 57, 97, 98, 99, 100, 101, 102, 103, 104, 105, 106, 107, 108, 109, 110, 111, 112, 113, 114, 115, 116, 117, 118, 119, 120, 121, 122] }) = .s d36L := (rfl)
theorem d36_len : d36L.length = 36 := rfl
theorem d36_at : ∀ n, n < 10 → (d36L.drop n).take 1 = [BitVec.ofNat 8 (48 + n)] := by decide
attribute [go_sem] sk36 d36_len

def lgG : List AV → Option AV
  | [.i x] => guardO (0 ≤ x ∧ x ≤ 64) (some (.i ((x.toNat * 78913 / 262144 : Nat) : Int)))
  | _ => none
theorem lgG_eq (x : Int) : lgG [.i x] = guardO (0 ≤ x ∧ x ≤ 64) (some (.i ((x.toNat * 78913 / 262144 : Nat) : Int))) := (rfl)
attribute [go_sem] lgG_eq
theorem fdiv18 (k : Nat) : Int.fdiv ((k : Int) * 78913) (2 ^ (min (18#64).toNat 64)) = ((k * 78913 / 262144 : Nat) : Int) := by
  have : (2 ^ (min (18#64).toNat 64) : Int) = 262144 := by decide
  rw [this, Int.fdiv_eq_ediv_of_nonneg _ (by omega)]
  omega
set_option maxHeartbeats 2000000 in
theorem lg_ok : PureOK Tryd.prog GLh 55 lgG := by
  refine pure_of_awp Tryd.func55 (bodyOf_some rfl) ?_
  intro args r hg
  unfold lgG at hg
  split at hg
  · rename_i x
    replace hg := guardO_inv hg; obtain ⟨⟨h0, h1⟩, hg⟩ := hg
    obtain rfl := Option.some.inj hg
    obtain ⟨k, rfl⟩ := Int.eq_ofNat_of_zero_le h0
    refine ⟨Nat.le_of_ble_eq_true rfl, fun nx => ?_⟩
    clear hg
    simp only [Int.toNat_natCast] at *
    have hf := fdiv18 k
    simp only [BitVec.reduceToNat] at hf
    refine awp_seqP rfl ?_
    refine awp_regP (Γ := noEnv) [0] (noEnv_ok _ _) rfl rfl rfl (fun K hK => ?_)
    simp only [Tryd.f55, bodyOf, Option.getD_some, cl, rOps, lights, light, rN, List.size_toArray, List.length_cons, List.length_nil, Nat.zero_add, List.map_cons, List.map_nil, Option.map_none]
    simp (maxSteps := 300000) (disch := omega) only [go_sem, ↓reduceIte]
    with_reducible refine hK _ ?_
    clear hK K
    refine nx_then ?_
    refine awp_seqP rfl ?_
    refine awp_regP (Γ := noEnv) [2] (noEnv_ok _ _) rfl rfl rfl (fun K hK => ?_)
    simp only [Tryd.f55, bodyOf, Option.getD_some, cl, cr, rOps, lights, light, rN, List.size_toArray, List.length_cons, List.length_nil, Nat.reduceAdd, Nat.zero_add, List.map_cons, List.map_nil, Option.map_none]
    simp (maxSteps := 300000) (disch := omega) only [go_sem, Nat.reduceAdd, Int.reduceLE, Int.reduceLT, BitVec.reduceOfInt, BitVec.reduceToNat, ↓reduceIte, hf]
    with_reducible refine hK _ ?_
    clear hK K
    refine nx_then ?_
    refine awp_retP rfl ?_
    simp (disch := omega) only [pureQ, resA, resAL, resA1, Tryd.f55, go_sem, ↓reduceIte]
  · cases hg
theorem ok55 : EntOK Tryd.prog GLh 55 (.pure true lgG) := ⟨⟨_, Tryd.func55, rfl, rfl⟩, lg_ok⟩

def b2G : List AV → Option AV
  | [.b x] => some (.i (if x = true then 1 else 0))
  | _ => none
theorem b2G_eq (x : Bool) : b2G [.b x] = some (.i (if x = true then 1 else 0)) := (rfl)
attribute [go_sem] b2G_eq
set_option maxHeartbeats 2000000 in
theorem b2_ok : PureOK Tryd.prog GLh 56 b2G := by
  refine pure_of_awp Tryd.func56 (bodyOf_some rfl) ?_
  intro args r hg
  unfold b2G at hg
  split at hg
  · rename_i x
    obtain rfl := Option.some.inj hg
    refine ⟨Nat.le_of_ble_eq_true rfl, fun nx => ?_⟩
    clear hg
    refine awp_seqP rfl ?_
    refine awp_regP (Γ := noEnv) [0] (noEnv_ok _ _) rfl rfl rfl (fun K hK => ?_)
    simp only [Tryd.f56, bodyOf, Option.getD_some, cl, rOps, lights, light, rN, List.size_toArray, List.length_cons, List.length_nil, Nat.zero_add, List.map_cons, List.map_nil, Option.map_none]
    simp (maxSteps := 300000) (disch := omega) only [go_sem, ↓reduceIte]
    with_reducible refine hK _ ?_
    clear hK K
    refine nx_then ?_
    refine awp_seqP rfl ?_
    refine awp_seqP rfl ?_
    refine awp_regP (Γ := noEnv) [3] (noEnv_ok _ _) rfl rfl rfl (fun K hK => ?_)
    simp only [Tryd.f56, bodyOf, Option.getD_some, cl, cr, rOps, lights, light, rN, List.size_toArray, List.length_cons, List.length_nil, Nat.zero_add, List.map_cons, List.map_nil, Option.map_none]
    simp (maxSteps := 300000) (disch := omega) only [go_sem, ↓reduceIte]
    with_reducible refine hK _ ?_
    clear hK K
    refine nx_then ?_
    refine awp_ifB (.tmp 3) rfl rfl rfl (fun h => ?_) (fun h => ?_)
    · skip
      refine awp_drop rfl ?_
      refine awp_seqP rfl ?_
      refine awp_regP (Γ := noEnv) [2] (noEnv_ok _ _) rfl rfl rfl (fun K hK => ?_)
      simp only [Tryd.f56, bodyOf, Option.getD_some, cl, cr, rOps, lights, light, rN, List.size_toArray, List.length_cons, List.length_nil, Nat.zero_add, List.map_cons, List.map_nil, Option.map_none]
      simp (maxSteps := 300000) (disch := omega) only [go_sem, ↓reduceIte]
      with_reducible refine hK _ ?_
      clear hK K
      refine nx_then ?_
      refine awp_retP rfl ?_
      refine nx_ret_then ?_
      simp (disch := omega) only [pureQ, resA, resAL, resA1, Tryd.f56, go_sem, ↓reduceIte, h]
    · skip
      refine awp_drop rfl ?_
      have h2 : (x = true) = False := by simp [h]
      refine awp_skipP rfl ?_
      refine nx_then ?_
      refine awp_seqP rfl ?_
      refine awp_regP (Γ := noEnv) [2] (noEnv_ok _ _) rfl rfl rfl (fun K hK => ?_)
      simp only [Tryd.f56, bodyOf, Option.getD_some, cl, cr, rOps, lights, light, rN, List.size_toArray, List.length_cons, List.length_nil, Nat.zero_add, List.map_cons, List.map_nil, Option.map_none]
      simp (maxSteps := 300000) (disch := omega) only [go_sem, ↓reduceIte]
      with_reducible refine hK _ ?_
      clear hK K
      refine nx_then ?_
      refine awp_retP rfl ?_
      simp (disch := omega) only [pureQ, resA, resAL, resA1, Tryd.f56, go_sem, ↓reduceIte, h2]
  · cases hg
theorem ok56 : EntOK Tryd.prog GLh 56 (.pure true b2G) := ⟨⟨_, Tryd.func56, rfl, rfl⟩, b2_ok⟩

/-- How many digits. -/
def ndL (n : Nat) : Nat := if n < 10 then 1 else if n < 100 then 2 else if n < 1000 then 3 else if n < 10000 then 4 else 5
def numG : List AV → Option AV
  | [.w64 x] => guardO (1 ≤ x.toNat ∧ x.toNat < 65536) (some (.i (ndL x.toNat : Int)))
  | _ => none
theorem numG_eq (x : BitVec 64) : numG [.w64 x] = guardO (1 ≤ x.toNat ∧ x.toNat < 65536) (some (.i (ndL x.toNat : Int))) := (rfl)
attribute [go_sem] numG_eq
theorem bits_iv (n : Nat) (h1 : 1 ≤ n) (h2 : n < 65536) : 1 ≤ Sort.bitsLen n ∧ Sort.bitsLen n ≤ 16 ∧ 2 ^ (Sort.bitsLen n - 1) ≤ n ∧ n < 2 ^ Sort.bitsLen n := by
  unfold Sort.bitsLen
  rw [if_neg (by omega)]
  have h3 : Nat.log2 n < 16 := (Nat.log2_lt (by omega)).2 h2
  refine ⟨by omega, by omega, ?_, Nat.lt_log2_self⟩
  rw [Nat.add_sub_cancel]; exact Nat.log2_self_le (by omega)
theorem nd_log (n : Nat) (h1 : 1 ≤ n) (h2 : n < 65536) : ∃ k, Sort.bitsLen n * 78913 / 262144 = k ∧ k < 20 ∧ PT[k]? = some (PT.getD k 0#64) ∧ ((k : Int) + (if decide ((PT.getD k 0#64).toNat ≤ n) = true then 1 else 0) = (ndL n : Int)) := by
  obtain ⟨a, b, c, d⟩ := bits_iv n h1 h2
  generalize Sort.bitsLen n = L at a b c d
  have hL : L = 1 ∨ L = 2 ∨ L = 3 ∨ L = 4 ∨ L = 5 ∨ L = 6 ∨ L = 7 ∨ L = 8 ∨ L = 9 ∨ L = 10 ∨ L = 11 ∨ L = 12 ∨ L = 13 ∨ L = 14 ∨ L = 15 ∨ L = 16 := by omega
  have p0 : (PT.getD 0 0#64).toNat = 1 := rfl
  have p1 : (PT.getD 1 0#64).toNat = 10 := rfl
  have p2 : (PT.getD 2 0#64).toNat = 100 := rfl
  have p3 : (PT.getD 3 0#64).toNat = 1000 := rfl
  have p4 : (PT.getD 4 0#64).toNat = 10000 := rfl
  rcases hL with rfl | rfl | rfl | rfl | rfl | rfl | rfl | rfl | rfl | rfl | rfl | rfl | rfl | rfl | rfl | rfl
  all_goals (simp only [Nat.reduceSub, Nat.reducePow] at c d; refine ⟨_, rfl, by decide, rfl, ?_⟩; simp only [Nat.reduceMul, Nat.reduceDiv, p0, p1, p2, p3, p4, decide_eq_true_eq]; unfold ndL; (repeat' split) <;> omega)
theorem PTm_len : (PT.map AV.w64).length = 20 := rfl
theorem PTm_at (k : Nat) (h : PT[k]? = some (PT.getD k 0#64)) : ((PT.map AV.w64).drop k).head? = some (.w64 (PT.getD k 0#64)) := by rw [List.head?_drop, List.getElem?_map, h]; rfl
theorem w64_ge (a b : BitVec 64) : decide (a ≤ b) = decide (a.toNat ≤ b.toNat) := by simp only [BitVec.le_def]
theorem evg0 (fr : List (Nat × AV)) : ev GLh fr (.global 0) = .rp (PT.map .w64) := (rfl)
attribute [go_sem] evg0 PTm_len
set_option maxHeartbeats 2000000 in
theorem num_ok : PureOK Tryd.prog GLh 41 numG := by
  refine pure_of_awp Tryd.func41 (bodyOf_some rfl) ?_
  intro args r hg
  unfold numG at hg
  split at hg
  · rename_i x
    replace hg := guardO_inv hg; obtain ⟨⟨h0, h1⟩, hg⟩ := hg
    obtain rfl := Option.some.inj hg
    refine ⟨Nat.le_of_ble_eq_true rfl, fun nx => ?_⟩
    clear hg
    obtain ⟨k, e1, hk, hp, he⟩ := nd_log x.toNat h0 h1
    obtain ⟨_, hb, _, _⟩ := bits_iv x.toNat h0 h1
    have hpm := PTm_at k hp
    refine awp_seqP rfl ?_
    refine awp_regP (Γ := noEnv) [0] (noEnv_ok _ _) rfl rfl rfl (fun K hK => ?_)
    simp only [Tryd.f41, bodyOf, Option.getD_some, cl, rOps, lights, light, rN, List.size_toArray, List.length_cons, List.length_nil, Nat.zero_add, List.map_cons, List.map_nil, Option.map_none]
    simp (maxSteps := 300000) (disch := omega) only [go_sem, ↓reduceIte]
    with_reducible refine hK _ ?_
    clear hK K
    refine nx_then ?_
    refine awp_seqP rfl ?_
    refine awp_regP (Γ := envL [(54, .pure true lenG), (55, .pure true lgG)]) [0, 3] (envOK_cons ok54 (envOK_cons ok55 envOK_nil)) rfl rfl rfl (fun K hK => ?_)
    simp only [Tryd.f41, bodyOf, Option.getD_some, cl, cr, rOps, lights, light, rN, List.size_toArray, List.length_cons, List.length_nil, Nat.reduceAdd, Nat.zero_add, List.map_cons, List.map_nil, Option.map_none]
    simp (maxSteps := 300000) (disch := omega) only [go_sem, Nat.reduceAdd, ↓reduceIte, Int.toNat_natCast, e1]
    with_reducible refine hK _ ?_
    clear hK K
    refine nx_then ?_
    refine awp_seqP rfl ?_
    refine awp_regP (Γ := envL [(56, .pure true b2G)]) [2] (envOK_cons ok56 envOK_nil) rfl rfl rfl (fun K hK => ?_)
    simp only [Tryd.f41, bodyOf, Option.getD_some, cl, cr, rOps, lights, light, rN, List.size_toArray, List.length_cons, List.length_nil, Nat.reduceAdd, Nat.zero_add, List.map_cons, List.map_nil, Option.map_none]
    simp (maxSteps := 300000) (disch := omega) only [go_sem, Nat.reduceAdd, ↓reduceIte, w64_ge, hpm, Int.toNat_natCast]
    with_reducible refine hK _ ?_
    clear hK K
    refine nx_then ?_
    trace_state
    refine awp_retP rfl ?_
    simp (disch := omega) only [pureQ, resA, resAL, resA1, Tryd.f41, go_sem, ↓reduceIte, he]
  · cases hg
theorem ok41 : EntOK Tryd.prog GLh 41 (.pure true numG) := ⟨⟨_, Tryd.func41, rfl, rfl⟩, num_ok⟩
end Go.AX

namespace Go.AX
open Go Go.Proofs

def smalL : List B8 := [48#8, 48#8, 48#8, 49#8, 48#8, 50#8, 48#8, 51#8, 48#8, 52#8, 48#8, 53#8, 48#8, 54#8, 48#8, 55#8, 48#8, 56#8, 48#8, 57#8, 49#8, 48#8, 49#8, 49#8, 49#8, 50#8, 49#8, 51#8, 49#8, 52#8, 49#8, 53#8, 49#8, 54#8, 49#8, 55#8, 49#8, 56#8, 49#8, 57#8, 50#8, 48#8, 50#8, 49#8, 50#8, 50#8, 50#8, 51#8, 50#8, 52#8, 50#8, 53#8, 50#8, 54#8, 50#8, 55#8, 50#8, 56#8, 50#8, 57#8, 51#8, 48#8, 51#8, 49#8, 51#8, 50#8, 51#8, 51#8, 51#8, 52#8, 51#8, 53#8, 51#8, 54#8, 51#8, 55#8, 51#8, 56#8, 51#8, 57#8, 52#8, 48#8, 52#8, 49#8, 52#8, 50#8, 52#8, 51#8, 52#8, 52#8, 52#8, 53#8, 52#8, 54#8, 52#8, 55#8, 52#8, 56#8, 52#8, 57#8, 53#8, 48#8, 53#8, 49#8, 53#8, 50#8, 53#8, 51#8, 53#8, 52#8, 53#8, 53#8, 53#8, 54#8, 53#8, 55#8, 53#8, 56#8, 53#8, 57#8, 54#8, 48#8, 54#8, 49#8, 54#8, 50#8, 54#8, 51#8, 54#8, 52#8, 54#8, 53#8, 54#8, 54#8, 54#8, 55#8, 54#8, 56#8, 54#8, 57#8, 55#8, 48#8, 55#8, 49#8, 55#8, 50#8, 55#8, 51#8, 55#8, 52#8, 55#8, 53#8, 55#8, 54#8, 55#8, 55#8, 55#8, 56#8, 55#8, 57#8, 56#8, 48#8, 56#8, 49#8, 56#8, 50#8, 56#8, 51#8, 56#8, 52#8, 56#8, 53#8, 56#8, 54#8, 56#8, 55#8, 56#8, 56#8, 56#8, 57#8, 57#8, 48#8, 57#8, 49#8, 57#8, 50#8, 57#8, 51#8, 57#8, 52#8, 57#8, 53#8, 57#8, 54#8, 57#8, 55#8, 57#8, 56#8, 57#8, 57#8]
theorem skSm : ofV (Value.string { data := ((List.append [48, 48, 48, 49, 48, 50, 48, 51, 48, 52, 48, 53, 48, 54, 48, 55, 48, 56, 48, 57, 49, 48, 49, 49, 49, 50, 49, 51, 49, 52, 49, 53, 49, 54, 49, 55, 49, 56, 49, 57, 50, 48, 50, 49, 50, 50, 50, 51, 50, 52] [50, 53, 50, 54, 50, 55, 50, 56, 50, 57, 51, 48, 51, 49, 51, 50, 51, 51, 51, 52, 51, 53, 51, 54, 51, 55, 51, 56, 51, 57, 52, 48, 52, 49, 52, 50, 52, 51, 52, 52, 52, 53, 52, 54, 52, 55, 52, 56, 52, 57]).append (List.append [53, 48, 53, 49, 53, 50, 53, 51, 53, 52, 53, 53, 53, 54, 53, 55, 53, 56, 53, 57, 54, 48, 54, 49, 54, 50, 54, 51, 54, 52, 54, 53, 54, 54, 54, 55, 54, 56, 54, 57, 55, 48, 55, 49, 55, 50, 55, 51, 55, 52] [55, 53, 55, 54, 55, 55, 55, 56, 55, 57, 56, 48, 56, 49, 56, 50, 56, 51, 56, 52, 56, 53, 56, 54, 56, 55, 56, 56, 56, 57, 57, 48, 57, 49, 57, 50, 57, 51, 57, 52, 57, 53, 57, 54, 57, 55, 57, 56, 57, 57])).toArray }) = .s smalL := (rfl)
theorem smal_len : smalL.length = 200 := (rfl)
theorem smal_two : ∀ k, k < 100 → (smalL.drop (k * 2)).take 2 = [BitVec.ofNat 8 (48 + k / 10), BitVec.ofNat 8 (48 + k % 10)] := by decide
theorem smal_fst {k : Nat} (h : k < 100) : smalL[k * 2]? = some (BitVec.ofNat 8 (48 + k / 10)) := by
  have := smal_two k h
  have h2 := congrArg List.head? this
  rw [List.head?_take, if_neg (by decide), List.head?_drop] at h2
  exact h2
theorem smal_snd {k : Nat} (h : k < 100) : smalL[k * 2 + 1]? = some (BitVec.ofNat 8 (48 + k % 10)) := by
  have := smal_two k h
  have h2 := congrArg (fun l => l[1]?) this
  simp only [List.getElem?_take, List.getElem?_drop] at h2
  exact h2
attribute [go_sem] skSm smal_len
theorem dec_two {k : Nat} (h : 10 ≤ k) (h2 : k < 100) : decD k = [BitVec.ofNat 8 (48 + k / 10), BitVec.ofNat 8 (48 + k % 10)] := by
  rw [decD, if_neg (by omega), decD_one (by omega)]; rfl

def smG : List AV → Option AV
  | [.i x] => guardO (0 ≤ x ∧ x < 100) (some (.s (decD x.toNat)))
  | _ => none
theorem smG_eq (x : Int) : smG [.i x] = guardO (0 ≤ x ∧ x < 100) (some (.s (decD x.toNat))) := (rfl)
attribute [go_sem] smG_eq
set_option maxHeartbeats 2000000 in
theorem sm_ok : PureOK Tryd.prog GLh 40 smG := by
  refine pure_of_awp Tryd.func40 (bodyOf_some rfl) ?_
  intro args r hg
  unfold smG at hg
  split at hg
  · rename_i x
    replace hg := guardO_inv hg; obtain ⟨⟨h0, h1⟩, hg⟩ := hg
    obtain rfl := Option.some.inj hg
    obtain ⟨k, rfl⟩ := Int.eq_ofNat_of_zero_le h0
    refine ⟨Nat.le_of_ble_eq_true rfl, fun nx => ?_⟩
    clear hg
    simp only [Int.toNat_natCast] at *
    refine awp_seqP rfl ?_
    refine awp_regP (Γ := noEnv) [0] (noEnv_ok _ _) rfl rfl rfl (fun K hK => ?_)
    simp only [Tryd.f40, bodyOf, Option.getD_some, cl, rOps, lights, light, rN, List.size_toArray, List.length_cons, List.length_nil, Nat.zero_add, List.map_cons, List.map_nil, Option.map_none]
    simp (maxSteps := 300000) (disch := omega) only [go_sem, ↓reduceIte]
    with_reducible refine hK _ ?_
    clear hK K
    refine nx_then ?_
    refine awp_seqP rfl ?_
    refine awp_seqP rfl ?_
    refine awp_regP (Γ := noEnv) [4, 0] (noEnv_ok _ _) rfl rfl rfl (fun K hK => ?_)
    simp only [Tryd.f40, bodyOf, Option.getD_some, cl, cr, rOps, lights, light, rN, List.size_toArray, List.length_cons, List.length_nil, Nat.reduceAdd, Nat.zero_add, List.map_cons, List.map_nil, Option.map_none]
    simp (maxSteps := 300000) (disch := omega) only [go_sem, Nat.reduceAdd, ↓reduceIte]
    with_reducible refine hK _ ?_
    clear hK K
    refine nx_then ?_
    refine awp_ifD (.tmp 4) rfl rfl rfl (fun h => ?_) (fun h => ?_)
    · skip
      refine awp_drop rfl ?_
      have hk : k < 10 := by omega
      have e1 := d36_at k hk
      have e2 : k + 1 - k = 1 := by omega
      have e3 : ((k : Int) + 1).toNat = k + 1 := by omega
      have e4 := decD_one hk
      refine awp_seqP rfl ?_
      refine awp_regP (Γ := noEnv) [2] (noEnv_ok _ _) rfl rfl rfl (fun K hK => ?_)
      simp only [Tryd.f40, bodyOf, Option.getD_some, cl, cr, rOps, lights, light, rN, List.size_toArray, List.length_cons, List.length_nil, Nat.reduceAdd, Nat.zero_add, List.map_cons, List.map_nil, Option.map_none]
      simp (maxSteps := 300000) (disch := omega) only [go_sem, Nat.reduceAdd, ↓reduceIte, Int.toNat_natCast, e3, e2, e1]
      with_reducible refine hK _ ?_
      clear hK K
      refine nx_then ?_
      refine awp_retP rfl ?_
      refine nx_ret_then ?_
      simp (disch := omega) only [pureQ, resA, resAL, resA1, Tryd.f40, go_sem, ↓reduceIte, e4]
    · skip
      refine awp_drop rfl ?_
      have e1 := smal_two k (by omega)
      have e2 : k * 2 + 2 - k * 2 = 2 := by omega
      have e3 : ((k : Int) * 2 + 2).toNat = k * 2 + 2 := by omega
      have e5 : ((k : Int) * 2).toNat = k * 2 := by omega
      have e4 := dec_two (k := k) (by omega) (by omega)
      refine awp_skipP rfl ?_
      refine nx_then ?_
      refine awp_seqP rfl ?_
      refine awp_regP (Γ := noEnv) [2] (noEnv_ok _ _) rfl rfl rfl (fun K hK => ?_)
      simp only [Tryd.f40, bodyOf, Option.getD_some, cl, cr, rOps, lights, light, rN, List.size_toArray, List.length_cons, List.length_nil, Nat.reduceAdd, Nat.zero_add, List.map_cons, List.map_nil, Option.map_none]
      simp (maxSteps := 300000) (disch := omega) only [go_sem, Nat.reduceAdd, ↓reduceIte, e5, e3, e2, e1]
      with_reducible refine hK _ ?_
      clear hK K
      refine nx_then ?_
      refine awp_retP rfl ?_
      simp (disch := omega) only [pureQ, resA, resAL, resA1, Tryd.f40, go_sem, ↓reduceIte, e4]
  · cases hg
theorem ok40 : EntOK Tryd.prog GLh 40 (.pure true smG) := ⟨⟨_, Tryd.func40, rfl, rfl⟩, sm_ok⟩

def z24 : List B8 := List.replicate 24 0#8
def txL (n : Nat) : List B8 := 0#8 :: decD n ++ List.replicate (23 - (decD n).length) 0#8
def fmtG : List AV → List AV → Option (AV × List AV)
  | [.os _ 1 n 1 _, .w64 x], xs => obind (unW8 xs) fun l => guardO (l = z24 ∧ n = ndL x.toNat ∧ 100 ≤ x.toNat ∧ x.toNat < 65536) (some (.tup [], c8 (txL x.toNat)))
  | _, _ => none
theorem fmtG_eq (id n : Nat) (gg : Bool) (x : BitVec 64) (xs : List AV) : fmtG [.os id 1 n 1 gg, .w64 x] xs = obind (unW8 xs) fun l => guardO (l = z24 ∧ n = ndL x.toNat ∧ 100 ≤ x.toNat ∧ x.toNat < 65536) (some (.tup [], c8 (txL x.toNat))) := (rfl)
attribute [go_sem] fmtG_eq
theorem w32_100 : (100#32 = 0#32) = False := by decide
theorem w32_1e4 : (10000#32 = 0#32) = False := by decide
theorem w32_m (X : BitVec 32) : (X % 100#32).toNat = X.toNat % 100 := by rw [BitVec.toNat_umod]; rfl
theorem w32_d (X : BitVec 32) : (X / 100#32).toNat = X.toNat / 100 := by rw [BitVec.toNat_udiv]; rfl
theorem w32_tw (Y : BitVec 32) (h : Y.toNat < 100) : (Y * 2#32).toNat = Y.toNat * 2 := by
  rw [BitVec.toNat_mul]; show (Y.toNat * 2) % 4294967296 = _; omega
theorem w32_tw1 (Y : BitVec 32) (h : Y.toNat < 100) : (Y * 2#32 + 1#32).toNat = Y.toNat * 2 + 1 := by
  rw [BitVec.toNat_add, w32_tw Y h]; show (Y.toNat * 2 + 1) % 4294967296 = _; omega
theorem sm_lo (Y : BitVec 32) {k : Nat} (hY : Y.toNat = k) (h : k < 100) : smalL[(Y * 2#32).toNat]? = some (BitVec.ofNat 8 (48 + k / 10)) := by
  subst hY; rw [w32_tw Y h, smal_fst h]
theorem sm_hi (Y : BitVec 32) {k : Nat} (hY : Y.toNat = k) (h : k < 100) : smalL[(Y * 2#32 + 1#32).toNat]? = some (BitVec.ofNat 8 (48 + k % 10)) := by
  subst hY; rw [w32_tw1 Y h, smal_snd h]
theorem w32_c (Y : BitVec 32) {k : Nat} (hY : Y.toNat = k) (_ : k < 10) : (48#32 + Y).setWidth 8 = BitVec.ofNat 8 (48 + k) := by
  apply BitVec.eq_of_toNat_eq
  rw [BitVec.toNat_setWidth, BitVec.toNat_add, BitVec.toNat_ofNat, BitVec.toNat_ofNat, hY]
  omega
theorem w32_dk (X : BitVec 32) : (X / 10000#32).toNat = X.toNat / 10000 := by rw [BitVec.toNat_udiv]; rfl
theorem w32_mk (X : BitVec 32) : (X % 10000#32).toNat = X.toNat % 10000 := by rw [BitVec.toNat_umod]; rfl
theorem decD_dig3 (u : Nat) (h1 : 100 ≤ u) (h2 : u < 1000) : decD u = [BitVec.ofNat 8 (48 + u / 100), BitVec.ofNat 8 (48 + u / 10 % 10), BitVec.ofNat 8 (48 + u % 10)] := by
  rw [decD_more (by omega), dec_two (by omega) (by omega), decD_one (by omega), show u / 10 / 10 = u / 100 by omega]; rfl
theorem decD_dig4 (u : Nat) (h1 : 1000 ≤ u) (h2 : u < 10000) : decD u = [BitVec.ofNat 8 (48 + u / 1000), BitVec.ofNat 8 (48 + u / 100 % 10), BitVec.ofNat 8 (48 + u / 10 % 10), BitVec.ofNat 8 (48 + u % 10)] := by
  rw [decD_more (by omega), decD_dig3 _ (by omega) (by omega), decD_one (by omega), show u / 10 / 100 = u / 1000 by omega, show u / 10 / 10 = u / 100 by omega]; rfl
theorem decD_dig5 (u : Nat) (h1 : 10000 ≤ u) (h2 : u < 100000) : decD u = [BitVec.ofNat 8 (48 + u / 10000), BitVec.ofNat 8 (48 + u / 1000 % 10), BitVec.ofNat 8 (48 + u / 100 % 10), BitVec.ofNat 8 (48 + u / 10 % 10), BitVec.ofNat 8 (48 + u % 10)] := by
  rw [decD_more (by omega), decD_dig4 _ (by omega) (by omega), decD_one (by omega), show u / 10 / 1000 = u / 10000 by omega, show u / 10 / 100 = u / 1000 by omega, show u / 10 / 10 = u / 100 by omega]; rfl
set_option maxHeartbeats 4000000 in
theorem fmt_ok : HeapOK Tryd.prog GLh 42 (mutH fmtG) := by
  refine mut_of_awp Tryd.func42 (bodyOf_some rfl) ?_
  intro id off n e gg rest nx xs r ys hg
  unfold fmtG at hg
  split at hg
  · rename_i id2 n2 gg2 x heq
    simp only [List.cons.injEq, AV.os.injEq] at heq
    obtain ⟨⟨rfl, rfl, rfl, rfl, rfl⟩, rfl⟩ := heq
    replace hg := obind_inv hg; obtain ⟨l, hl, hg⟩ := hg
    replace hg := guardO_inv hg; obtain ⟨⟨rfl, hn, h1, h2⟩, hg⟩ := hg
    simp only [Option.some.injEq, Prod.mk.injEq] at hg; obtain ⟨rfl, rfl⟩ := hg
    have := unW8_inv hl; subst this
    refine ⟨Nat.le_of_ble_eq_true rfl, fun hid => ?_⟩
    clear hl
    obtain ⟨X, hX⟩ : ∃ X : BitVec 32, x.setWidth 32 = X := ⟨_, rfl⟩
    have hXu : X.toNat = x.toNat := by rw [← hX, BitVec.toNat_setWidth]; omega
    have hzl : z24.length = 24 := rfl
    obtain ⟨u, hu⟩ : ∃ u, x.toNat = u := ⟨_, rfl⟩
    rw [hu] at h1 h2 hXu hn ⊢
    clear hu
    have hn3 : n = 3 ∨ n = 4 ∨ n = 5 := by rw [hn]; unfold ndL; (repeat' split) <;> omega
    refine awp_seqP rfl ?_
    refine awp_regP (Γ := noEnv) [0, 1, 4] (noEnv_ok _ _) rfl rfl rfl (fun K hK => ?_)
    simp only [Tryd.f42, bodyOf, Option.getD_some, cl, rOps, lights, light, rN, List.size_toArray, List.length_cons, List.length_nil, Nat.reduceAdd, Nat.zero_add, List.map_cons, List.map_nil, Option.map_none]
    simp (maxSteps := 300000) (disch := omega) only [go_sem, Nat.reduceAdd, ↓reduceIte]
    with_reducible refine hK _ ?_
    clear hK K
    refine nx_then ?_
    refine awp_seqP rfl ?_
    refine awp_blockN 0 rfl rfl ?_
    refine awp_loopP (fun p : Nat => { fr := [(0, .os id 1 n 1 gg), (1, .w64 x), (4, .i (n : Int))], hp := upd (fun _ => none) id (.cells (c8 z24) true), nx := 0, cx := p }) (fun p => id < p) (fun p => 0) rfl ⟨_, by omega, sub_same rfl rfl (Nat.le_refl _)⟩ ?_
    rintro c hc n0
    simp only at hc ⊢
    refine awp_seqP rfl ?_
    refine awp_seqP rfl ?_
    refine awp_regP (Γ := noEnv) [20, 0, 1, 4] (noEnv_ok _ _) rfl rfl rfl (fun K hK => ?_)
    simp only [Tryd.f42, bodyOf, Option.getD_some, cl, cr, rOps, lights, light, rN, List.size_toArray, List.length_cons, List.length_nil, Nat.reduceAdd, Nat.zero_add, List.map_cons, List.map_nil, Option.map_none]
    simp (maxSteps := 300000) (disch := omega) only [go_sem, Nat.reduceAdd, ↓reduceIte]
    with_reducible refine hK _ ?_
    clear hK K
    refine nx_then ?_
    refine awp_ifD (.tmp 20) rfl rfl rfl (fun h => ?_) (fun h => ?_)
    · skip
      refine awp_drop rfl ?_
      omega
    · skip
      refine awp_drop rfl ?_
      refine awp_exitN 0 rfl rfl ?_
      refine nx_ex_then (nx_ex_loop (nx_ex_blk ?_))
      refine nx_then ?_
      refine awp_seqP rfl ?_
      refine awp_regP (Γ := noEnv) [0, 4, 12] (noEnv_ok _ _) rfl rfl rfl (fun K hK => ?_)
      simp only [Tryd.f42, bodyOf, Option.getD_some, cl, cr, rOps, lights, light, rN, List.size_toArray, List.length_cons, List.length_nil, Nat.reduceAdd, Nat.zero_add, List.map_cons, List.map_nil, Option.map_none]
      simp (maxSteps := 300000) (disch := omega) only [go_sem, Nat.reduceAdd, ↓reduceIte, hX]
      with_reducible refine hK _ ?_
      clear hK K
      refine nx_then ?_
      rcases hn3 with rfl | rfl | rfl
      · skip
        have hu3 : u < 1000 := by unfold ndL at hn; (repeat' split at hn) <;> omega
        rw [show ((3 : Nat) : Int) = 3 from rfl]
        refine awp_seqP rfl ?_
        refine awp_seqP rfl ?_
        refine awp_regP (Γ := noEnv) [99, 0, 4, 12] (noEnv_ok _ _) rfl rfl rfl (fun K hK => ?_)
        simp only [Tryd.f42, bodyOf, Option.getD_some, cl, cr, rOps, lights, light, rN, List.size_toArray, List.length_cons, List.length_nil, Nat.reduceAdd, Nat.zero_add, List.map_cons, List.map_nil, Option.map_none]
        simp (maxSteps := 300000) (disch := omega) only [go_sem, Nat.reduceAdd, Int.reduceLE, ↓reduceIte]
        with_reducible refine hK _ ?_
        clear hK K
        refine nx_then ?_
        refine awp_ifB (.tmp 99) rfl rfl rfl (fun h => ?_) (fun h => ?_)
        · skip
          refine awp_drop rfl ?_
          cases h
        · skip
          refine awp_drop rfl ?_
          refine awp_skipP rfl ?_
          refine nx_then ?_
          refine awp_seqP rfl ?_
          refine awp_seqP rfl ?_
          refine awp_regP (Γ := noEnv) [139, 0, 4, 12] (noEnv_ok _ _) rfl rfl rfl (fun K hK => ?_)
          simp only [Tryd.f42, bodyOf, Option.getD_some, cl, cr, rOps, lights, light, rN, List.size_toArray, List.length_cons, List.length_nil, Nat.reduceAdd, Nat.zero_add, List.map_cons, List.map_nil, Option.map_none]
          simp (maxSteps := 300000) (disch := omega) only [go_sem, Nat.reduceAdd, Int.reduceLE, ↓reduceIte]
          with_reducible refine hK _ ?_
          clear hK K
          refine nx_then ?_
          refine awp_ifB (.tmp 139) rfl rfl rfl (fun h => ?_) (fun h => ?_)
          · skip
            refine awp_drop rfl ?_
            have hm : (X % 100#32).toNat = u % 100 := by rw [w32_m, hXu]
            have hd : (X / 100#32).toNat = u / 100 := by rw [w32_d, hXu]
            have hlo := sm_lo (X % 100#32) hm (by omega)
            have hhi := sm_hi (X % 100#32) hm (by omega)
            have hch := w32_c (X / 100#32) hd (by omega)
            refine awp_seqP rfl ?_
            refine awp_regP (Γ := noEnv) [0, 4, 12, 16] (noEnv_ok _ _) rfl rfl rfl (fun K hK => ?_)
            simp only [Tryd.f42, bodyOf, Option.getD_some, cl, cr, rOps, lights, light, rN, List.size_toArray, List.length_cons, List.length_nil, Nat.reduceAdd, Nat.zero_add, List.map_cons, List.map_nil, Option.map_none]
            simp (maxSteps := 300000) (disch := omega) only [go_sem, Nat.reduceAdd, Int.reduceLE, Int.reduceLT, BitVec.reduceOfInt, ↓reduceIte, w32_100]
            with_reducible refine hK _ ?_
            clear hK K
            refine nx_then ?_
            refine awp_seqP rfl ?_
            refine awp_regP (Γ := noEnv) [0, 4, 12, 16] (noEnv_ok _ _) rfl rfl rfl (fun K hK => ?_)
            simp only [Tryd.f42, bodyOf, Option.getD_some, cl, cr, rOps, lights, light, rN, List.size_toArray, List.length_cons, List.length_nil, Nat.reduceAdd, Nat.zero_add, List.map_cons, List.map_nil, Option.map_none]
            simp (maxSteps := 300000) (disch := omega) only [go_sem, Nat.reduceAdd, Int.reduceLE, Int.reduceLT, BitVec.reduceOfInt, ↓reduceIte, w32_100]
            with_reducible refine hK _ ?_
            clear hK K
            refine nx_then ?_
            refine awp_seqP rfl ?_
            refine awp_drwP (Γ := noEnv) (fun _ => 2) [0, 4, 12] mixed (noEnv_ok _ _) rfl rfl rfl (by kernel_rfl) (fun K hK => ?_)
            simp only [Tryd.f42, bodyOf, Option.getD_some, cl, cr, rOps, lights, light, rN, List.size_toArray, List.length_cons, List.length_nil, Nat.reduceAdd, Nat.zero_add, List.map_cons, List.map_nil, Option.map_none]
            simp (maxSteps := 300000) (disch := omega) only [go_sem, Nat.reduceAdd, Nat.reduceLeDiff, Int.reduceLE, Int.reduceLT, Int.reduceToNat, Int.reduceSub, BitVec.reduceOfInt, ↓reduceIte, hlo, hhi, hzl]
            with_reducible refine hK _ ?_
            clear hK K
            refine nx_then ?_
            refine awp_regP (Γ := noEnv) [0, 4, 12] (noEnv_ok _ _) rfl rfl rfl (fun K hK => ?_)
            simp only [Tryd.f42, bodyOf, Option.getD_some, cl, cr, rOps, lights, light, rN, List.size_toArray, List.length_cons, List.length_nil, Nat.reduceAdd, Nat.zero_add, List.map_cons, List.map_nil, Option.map_none]
            simp (maxSteps := 300000) (disch := omega) only [go_sem, Nat.reduceAdd, Int.reduceSub, ↓reduceIte]
            with_reducible refine hK _ ?_
            clear hK K
            refine nx_then ?_
            refine awp_seqP rfl ?_
            refine awp_regP (Γ := noEnv) [161, 0, 12] (noEnv_ok _ _) rfl rfl rfl (fun K hK => ?_)
            simp only [Tryd.f42, bodyOf, Option.getD_some, cl, cr, rOps, lights, light, rN, List.size_toArray, List.length_cons, List.length_nil, Nat.reduceAdd, Nat.zero_add, List.map_cons, List.map_nil, Option.map_none]
            simp (maxSteps := 300000) (disch := omega) only [go_sem, Nat.reduceAdd, Int.reduceLT, ↓reduceIte]
            with_reducible refine hK _ ?_
            clear hK K
            refine nx_then ?_
            refine awp_ifB (.tmp 161) rfl rfl rfl (fun h => ?_) (fun h => ?_)
            · skip
              refine awp_drop rfl ?_
              refine awp_regP (Γ := noEnv) [] (noEnv_ok _ _) rfl rfl rfl (fun K hK => ?_)
              simp only [Tryd.f42, bodyOf, Option.getD_some, cl, cr, rOps, lights, light, rN, List.size_toArray, List.length_cons, List.length_nil, Nat.reduceAdd, Nat.zero_add, List.map_cons, List.map_nil, Option.map_none]
              simp (maxSteps := 300000) (disch := omega) only [go_sem, Nat.reduceAdd, Nat.reduceLeDiff, Int.reduceLE, Int.reduceLT, Int.reduceToNat, BitVec.reduceOfInt, ↓reduceIte, hch, hzl, List.length_set]
              with_reducible refine hK _ ?_
              clear hK K
              have hrow : ((z24.set 3 (BitVec.ofNat 8 (48 + u % 100 % 10))).set 2 (BitVec.ofNat 8 (48 + u % 100 / 10))).set 1 (BitVec.ofNat 8 (48 + u / 100)) = txL u := by
                unfold txL; rw [decD_dig3 u h1 hu3, show u % 100 % 10 = u % 10 by omega, show u % 100 / 10 = u / 10 % 10 by omega]; rfl
              rw [hrow]
              exact ⟨rfl, by simp only [up_app, if_true], rfl, nmL_c8 _⟩
            · skip
              refine awp_drop rfl ?_
              cases h
          · skip
            refine awp_drop rfl ?_
            cases h
      · skip
        have hu3 : 1000 ≤ u ∧ u < 10000 := by unfold ndL at hn; (repeat' split at hn) <;> omega
        rw [show ((4 : Nat) : Int) = 4 from rfl]
        obtain ⟨Y, hY⟩ : ∃ Y : BitVec 32, X % 10000#32 = Y := ⟨_, rfl⟩
        have hYu : Y.toNat = u % 10000 := by rw [← hY, w32_mk, hXu]
        have hm : (Y % 100#32).toNat = u % 100 := by rw [w32_m, hYu]; omega
        have hd : (Y / 100#32).toNat = u % 10000 / 100 := by rw [w32_d, hYu]
        have hlo := sm_lo (Y % 100#32) hm (by omega)
        have hhi := sm_hi (Y % 100#32) hm (by omega)
        have hlo2 := sm_lo (Y / 100#32) hd (by omega)
        have hhi2 := sm_hi (Y / 100#32) hd (by omega)
        have hch := w32_c (X / 10000#32) (k := u / 10000) (by rw [w32_dk, hXu]) (by omega)
        refine awp_seqP rfl ?_
        refine awp_seqP rfl ?_
        refine awp_regP (Γ := noEnv) [99, 0, 4, 12] (noEnv_ok _ _) rfl rfl rfl (fun K hK => ?_)
        simp only [Tryd.f42, bodyOf, Option.getD_some, cl, cr, rOps, lights, light, rN, List.size_toArray, List.length_cons, List.length_nil, Nat.reduceAdd, Nat.zero_add, List.map_cons, List.map_nil, Option.map_none]
        simp (maxSteps := 300000) (disch := omega) only [go_sem, Nat.reduceAdd, Int.reduceLE, ↓reduceIte]
        with_reducible refine hK _ ?_
        clear hK K
        refine nx_then ?_
        refine awp_ifB (.tmp 99) rfl rfl rfl (fun h => ?_) (fun h => ?_)
        · skip
          refine awp_drop rfl ?_
          refine awp_seqP rfl ?_
          refine awp_regP (Γ := noEnv) [0, 4, 12, 13] (noEnv_ok _ _) rfl rfl rfl (fun K hK => ?_)
          simp only [Tryd.f42, bodyOf, Option.getD_some, cl, cr, rOps, lights, light, rN, List.size_toArray, List.length_cons, List.length_nil, Nat.reduceAdd, Nat.zero_add, List.map_cons, List.map_nil, Option.map_none]
          simp (maxSteps := 300000) (disch := omega) only [go_sem, Nat.reduceAdd, Int.reduceLE, Int.reduceLT, BitVec.reduceOfInt, ↓reduceIte, w32_1e4, hY]
          with_reducible refine hK _ ?_
          clear hK K
          refine nx_then ?_
          refine awp_seqP rfl ?_
          refine awp_regP (Γ := noEnv) [0, 4, 12, 13] (noEnv_ok _ _) rfl rfl rfl (fun K hK => ?_)
          simp only [Tryd.f42, bodyOf, Option.getD_some, cl, cr, rOps, lights, light, rN, List.size_toArray, List.length_cons, List.length_nil, Nat.reduceAdd, Nat.zero_add, List.map_cons, List.map_nil, Option.map_none]
          simp (maxSteps := 300000) (disch := omega) only [go_sem, Nat.reduceAdd, Int.reduceLE, Int.reduceLT, BitVec.reduceOfInt, ↓reduceIte, w32_1e4]
          with_reducible refine hK _ ?_
          clear hK K
          refine nx_then ?_
          refine awp_seqP rfl ?_
          refine awp_regP (Γ := noEnv) [0, 4, 12, 14, 15] (noEnv_ok _ _) rfl rfl rfl (fun K hK => ?_)
          simp only [Tryd.f42, bodyOf, Option.getD_some, cl, cr, rOps, lights, light, rN, List.size_toArray, List.length_cons, List.length_nil, Nat.reduceAdd, Nat.zero_add, List.map_cons, List.map_nil, Option.map_none]
          simp (maxSteps := 300000) (disch := omega) only [go_sem, Nat.reduceAdd, Int.reduceLE, Int.reduceLT, BitVec.reduceOfInt, ↓reduceIte, w32_100]
          with_reducible refine hK _ ?_
          clear hK K
          refine nx_then ?_
          refine awp_seqP rfl ?_
          refine awp_drwP (Γ := noEnv) (fun _ => 2) [0, 4, 12, 14] mixed (noEnv_ok _ _) rfl rfl rfl (by kernel_rfl) (fun K hK => ?_)
          simp only [Tryd.f42, bodyOf, Option.getD_some, cl, cr, rOps, lights, light, rN, List.size_toArray, List.length_cons, List.length_nil, Nat.reduceAdd, Nat.zero_add, List.map_cons, List.map_nil, Option.map_none]
          simp (maxSteps := 300000) (disch := omega) only [go_sem, Nat.reduceAdd, Nat.reduceLeDiff, Int.reduceLE, Int.reduceLT, Int.reduceToNat, Int.reduceSub, BitVec.reduceOfInt, ↓reduceIte, hlo, hhi, hzl]
          with_reducible refine hK _ ?_
          clear hK K
          refine nx_then ?_
          refine awp_seqP rfl ?_
          refine awp_drwP (Γ := noEnv) (fun _ => 2) [0, 4, 12] mixed (noEnv_ok _ _) rfl rfl rfl (by kernel_rfl) (fun K hK => ?_)
          simp only [Tryd.f42, bodyOf, Option.getD_some, cl, cr, rOps, lights, light, rN, List.size_toArray, List.length_cons, List.length_nil, Nat.reduceAdd, Nat.zero_add, List.map_cons, List.map_nil, Option.map_none]
          simp (maxSteps := 300000) (disch := omega) only [go_sem, Nat.reduceAdd, Nat.reduceLeDiff, Int.reduceLE, Int.reduceLT, Int.reduceToNat, Int.reduceSub, BitVec.reduceOfInt, ↓reduceIte, hlo2, hhi2, hzl, List.length_set]
          with_reducible refine hK _ ?_
          clear hK K
          refine nx_then ?_
          refine awp_regP (Γ := noEnv) [0, 4, 12] (noEnv_ok _ _) rfl rfl rfl (fun K hK => ?_)
          simp only [Tryd.f42, bodyOf, Option.getD_some, cl, cr, rOps, lights, light, rN, List.size_toArray, List.length_cons, List.length_nil, Nat.reduceAdd, Nat.zero_add, List.map_cons, List.map_nil, Option.map_none]
          simp (maxSteps := 300000) (disch := omega) only [go_sem, Nat.reduceAdd, Int.reduceSub, ↓reduceIte]
          with_reducible refine hK _ ?_
          clear hK K
          refine nx_then ?_
          refine awp_seqP rfl ?_
          refine awp_seqP rfl ?_
          refine awp_regP (Γ := noEnv) [139, 0, 4, 12] (noEnv_ok _ _) rfl rfl rfl (fun K hK => ?_)
          simp only [Tryd.f42, bodyOf, Option.getD_some, cl, cr, rOps, lights, light, rN, List.size_toArray, List.length_cons, List.length_nil, Nat.reduceAdd, Nat.zero_add, List.map_cons, List.map_nil, Option.map_none]
          simp (maxSteps := 300000) (disch := omega) only [go_sem, Nat.reduceAdd, Int.reduceLE, ↓reduceIte]
          with_reducible refine hK _ ?_
          clear hK K
          refine nx_then ?_
          refine awp_ifB (.tmp 139) rfl rfl rfl (fun h => ?_) (fun h => ?_)
          · skip
            refine awp_drop rfl ?_
            cases h
          · skip
            refine awp_drop rfl ?_
            refine awp_skipP rfl ?_
            refine nx_then ?_
            refine awp_seqP rfl ?_
            refine awp_regP (Γ := noEnv) [161, 0, 12] (noEnv_ok _ _) rfl rfl rfl (fun K hK => ?_)
            simp only [Tryd.f42, bodyOf, Option.getD_some, cl, cr, rOps, lights, light, rN, List.size_toArray, List.length_cons, List.length_nil, Nat.reduceAdd, Nat.zero_add, List.map_cons, List.map_nil, Option.map_none]
            simp (maxSteps := 300000) (disch := omega) only [go_sem, Nat.reduceAdd, Int.reduceLT, ↓reduceIte]
            with_reducible refine hK _ ?_
            clear hK K
            refine nx_then ?_
            refine awp_ifB (.tmp 161) rfl rfl rfl (fun h => ?_) (fun h => ?_)
            · skip
              refine awp_drop rfl ?_
              cases h
            · skip
              refine awp_drop rfl ?_
              refine awp_skipP rfl ?_
              have hrow : (((z24.set 4 (BitVec.ofNat 8 (48 + u % 100 % 10))).set 3 (BitVec.ofNat 8 (48 + u % 100 / 10))).set 2 (BitVec.ofNat 8 (48 + u % 10000 / 100 % 10))).set 1 (BitVec.ofNat 8 (48 + u % 10000 / 100 / 10)) = txL u := by
                unfold txL; rw [decD_dig4 u hu3.1 hu3.2, show u % 100 % 10 = u % 10 by omega, show u % 100 / 10 = u / 10 % 10 by omega, show u % 10000 / 100 % 10 = u / 100 % 10 by omega, show u % 10000 / 100 / 10 = u / 1000 by omega]; rfl
              rw [hrow]
              exact ⟨rfl, by simp only [up_app, if_true], rfl, nmL_c8 _⟩
        · skip
          refine awp_drop rfl ?_
          cases h
      · skip
        have hu3 : 10000 ≤ u ∧ u < 100000 := by unfold ndL at hn; (repeat' split at hn) <;> omega
        rw [show ((5 : Nat) : Int) = 5 from rfl]
        obtain ⟨Y, hY⟩ : ∃ Y : BitVec 32, X % 10000#32 = Y := ⟨_, rfl⟩
        have hYu : Y.toNat = u % 10000 := by rw [← hY, w32_mk, hXu]
        have hm : (Y % 100#32).toNat = u % 100 := by rw [w32_m, hYu]; omega
        have hd : (Y / 100#32).toNat = u % 10000 / 100 := by rw [w32_d, hYu]
        have hlo := sm_lo (Y % 100#32) hm (by omega)
        have hhi := sm_hi (Y % 100#32) hm (by omega)
        have hlo2 := sm_lo (Y / 100#32) hd (by omega)
        have hhi2 := sm_hi (Y / 100#32) hd (by omega)
        have hch := w32_c (X / 10000#32) (k := u / 10000) (by rw [w32_dk, hXu]) (by omega)
        refine awp_seqP rfl ?_
        refine awp_seqP rfl ?_
        refine awp_regP (Γ := noEnv) [99, 0, 4, 12] (noEnv_ok _ _) rfl rfl rfl (fun K hK => ?_)
        simp only [Tryd.f42, bodyOf, Option.getD_some, cl, cr, rOps, lights, light, rN, List.size_toArray, List.length_cons, List.length_nil, Nat.reduceAdd, Nat.zero_add, List.map_cons, List.map_nil, Option.map_none]
        simp (maxSteps := 300000) (disch := omega) only [go_sem, Nat.reduceAdd, Int.reduceLE, ↓reduceIte]
        with_reducible refine hK _ ?_
        clear hK K
        refine nx_then ?_
        refine awp_ifB (.tmp 99) rfl rfl rfl (fun h => ?_) (fun h => ?_)
        · skip
          refine awp_drop rfl ?_
          refine awp_seqP rfl ?_
          refine awp_regP (Γ := noEnv) [0, 4, 12, 13] (noEnv_ok _ _) rfl rfl rfl (fun K hK => ?_)
          simp only [Tryd.f42, bodyOf, Option.getD_some, cl, cr, rOps, lights, light, rN, List.size_toArray, List.length_cons, List.length_nil, Nat.reduceAdd, Nat.zero_add, List.map_cons, List.map_nil, Option.map_none]
          simp (maxSteps := 300000) (disch := omega) only [go_sem, Nat.reduceAdd, Int.reduceLE, Int.reduceLT, BitVec.reduceOfInt, ↓reduceIte, w32_1e4, hY]
          with_reducible refine hK _ ?_
          clear hK K
          refine nx_then ?_
          refine awp_seqP rfl ?_
          refine awp_regP (Γ := noEnv) [0, 4, 12, 13] (noEnv_ok _ _) rfl rfl rfl (fun K hK => ?_)
          simp only [Tryd.f42, bodyOf, Option.getD_some, cl, cr, rOps, lights, light, rN, List.size_toArray, List.length_cons, List.length_nil, Nat.reduceAdd, Nat.zero_add, List.map_cons, List.map_nil, Option.map_none]
          simp (maxSteps := 300000) (disch := omega) only [go_sem, Nat.reduceAdd, Int.reduceLE, Int.reduceLT, BitVec.reduceOfInt, ↓reduceIte, w32_1e4]
          with_reducible refine hK _ ?_
          clear hK K
          refine nx_then ?_
          refine awp_seqP rfl ?_
          refine awp_regP (Γ := noEnv) [0, 4, 12, 14, 15] (noEnv_ok _ _) rfl rfl rfl (fun K hK => ?_)
          simp only [Tryd.f42, bodyOf, Option.getD_some, cl, cr, rOps, lights, light, rN, List.size_toArray, List.length_cons, List.length_nil, Nat.reduceAdd, Nat.zero_add, List.map_cons, List.map_nil, Option.map_none]
          simp (maxSteps := 300000) (disch := omega) only [go_sem, Nat.reduceAdd, Int.reduceLE, Int.reduceLT, BitVec.reduceOfInt, ↓reduceIte, w32_100]
          with_reducible refine hK _ ?_
          clear hK K
          refine nx_then ?_
          refine awp_seqP rfl ?_
          refine awp_drwP (Γ := noEnv) (fun _ => 2) [0, 4, 12, 14] mixed (noEnv_ok _ _) rfl rfl rfl (by kernel_rfl) (fun K hK => ?_)
          simp only [Tryd.f42, bodyOf, Option.getD_some, cl, cr, rOps, lights, light, rN, List.size_toArray, List.length_cons, List.length_nil, Nat.reduceAdd, Nat.zero_add, List.map_cons, List.map_nil, Option.map_none]
          simp (maxSteps := 300000) (disch := omega) only [go_sem, Nat.reduceAdd, Nat.reduceLeDiff, Int.reduceLE, Int.reduceLT, Int.reduceToNat, Int.reduceSub, BitVec.reduceOfInt, ↓reduceIte, hlo, hhi, hzl]
          with_reducible refine hK _ ?_
          clear hK K
          refine nx_then ?_
          refine awp_seqP rfl ?_
          refine awp_drwP (Γ := noEnv) (fun _ => 2) [0, 4, 12] mixed (noEnv_ok _ _) rfl rfl rfl (by kernel_rfl) (fun K hK => ?_)
          simp only [Tryd.f42, bodyOf, Option.getD_some, cl, cr, rOps, lights, light, rN, List.size_toArray, List.length_cons, List.length_nil, Nat.reduceAdd, Nat.zero_add, List.map_cons, List.map_nil, Option.map_none]
          simp (maxSteps := 300000) (disch := omega) only [go_sem, Nat.reduceAdd, Nat.reduceLeDiff, Int.reduceLE, Int.reduceLT, Int.reduceToNat, Int.reduceSub, BitVec.reduceOfInt, ↓reduceIte, hlo2, hhi2, hzl, List.length_set]
          with_reducible refine hK _ ?_
          clear hK K
          refine nx_then ?_
          refine awp_regP (Γ := noEnv) [0, 4, 12] (noEnv_ok _ _) rfl rfl rfl (fun K hK => ?_)
          simp only [Tryd.f42, bodyOf, Option.getD_some, cl, cr, rOps, lights, light, rN, List.size_toArray, List.length_cons, List.length_nil, Nat.reduceAdd, Nat.zero_add, List.map_cons, List.map_nil, Option.map_none]
          simp (maxSteps := 300000) (disch := omega) only [go_sem, Nat.reduceAdd, Int.reduceSub, ↓reduceIte]
          with_reducible refine hK _ ?_
          clear hK K
          refine nx_then ?_
          refine awp_seqP rfl ?_
          refine awp_seqP rfl ?_
          refine awp_regP (Γ := noEnv) [139, 0, 4, 12] (noEnv_ok _ _) rfl rfl rfl (fun K hK => ?_)
          simp only [Tryd.f42, bodyOf, Option.getD_some, cl, cr, rOps, lights, light, rN, List.size_toArray, List.length_cons, List.length_nil, Nat.reduceAdd, Nat.zero_add, List.map_cons, List.map_nil, Option.map_none]
          simp (maxSteps := 300000) (disch := omega) only [go_sem, Nat.reduceAdd, Int.reduceLE, ↓reduceIte]
          with_reducible refine hK _ ?_
          clear hK K
          refine nx_then ?_
          refine awp_ifB (.tmp 139) rfl rfl rfl (fun h => ?_) (fun h => ?_)
          · skip
            refine awp_drop rfl ?_
            cases h
          · skip
            refine awp_drop rfl ?_
            refine awp_skipP rfl ?_
            refine nx_then ?_
            refine awp_seqP rfl ?_
            refine awp_regP (Γ := noEnv) [161, 0, 12] (noEnv_ok _ _) rfl rfl rfl (fun K hK => ?_)
            simp only [Tryd.f42, bodyOf, Option.getD_some, cl, cr, rOps, lights, light, rN, List.size_toArray, List.length_cons, List.length_nil, Nat.reduceAdd, Nat.zero_add, List.map_cons, List.map_nil, Option.map_none]
            simp (maxSteps := 300000) (disch := omega) only [go_sem, Nat.reduceAdd, Int.reduceLT, ↓reduceIte]
            with_reducible refine hK _ ?_
            clear hK K
            refine nx_then ?_
            refine awp_ifB (.tmp 161) rfl rfl rfl (fun h => ?_) (fun h => ?_)
            · skip
              refine awp_drop rfl ?_
              refine awp_regP (Γ := noEnv) [] (noEnv_ok _ _) rfl rfl rfl (fun K hK => ?_)
              simp only [Tryd.f42, bodyOf, Option.getD_some, cl, cr, rOps, lights, light, rN, List.size_toArray, List.length_cons, List.length_nil, Nat.reduceAdd, Nat.zero_add, List.map_cons, List.map_nil, Option.map_none]
              simp (maxSteps := 300000) (disch := omega) only [go_sem, Nat.reduceAdd, Nat.reduceLeDiff, Int.reduceLE, Int.reduceLT, Int.reduceToNat, BitVec.reduceOfInt, ↓reduceIte, hch, hzl, List.length_set]
              with_reducible refine hK _ ?_
              clear hK K
              have hrow : ((((z24.set 5 (BitVec.ofNat 8 (48 + u % 100 % 10))).set 4 (BitVec.ofNat 8 (48 + u % 100 / 10))).set 3 (BitVec.ofNat 8 (48 + u % 10000 / 100 % 10))).set 2 (BitVec.ofNat 8 (48 + u % 10000 / 100 / 10))).set 1 (BitVec.ofNat 8 (48 + u / 10000)) = txL u := by
                unfold txL; rw [decD_dig5 u hu3.1 hu3.2, show u % 100 % 10 = u % 10 by omega, show u % 100 / 10 = u / 10 % 10 by omega, show u % 10000 / 100 % 10 = u / 100 % 10 by omega, show u % 10000 / 100 / 10 = u / 1000 % 10 by omega]; rfl
              rw [hrow]
              exact ⟨rfl, by simp only [up_app, if_true], rfl, nmL_c8 _⟩
            · skip
              refine awp_drop rfl ?_
              cases h
        · skip
          refine awp_drop rfl ?_
          cases h
  · cases hg
theorem ok42 : EntOK Tryd.prog GLh 42 (.heap (mutH fmtG)) := ⟨⟨_, Tryd.func42, rfl, rfl⟩, fmt_ok⟩

def fiG : List AV → Option AV
  | [.i x, .i 10] => guardO (0 ≤ x ∧ x < 65536) (some (.s (decD x.toNat)))
  | _ => none
theorem fiG_eq (x : Int) : fiG [.i x, .i 10] = guardO (0 ≤ x ∧ x < 65536) (some (.s (decD x.toNat))) := (rfl)
theorem nd_len (u : Nat) (h1 : 100 ≤ u) (h2 : u < 65536) : (decD u).length = ndL u ∧ ndL u ≤ 5 := by
  unfold ndL
  rw [if_neg (by omega), if_neg (by omega)]
  split
  · rw [decD_dig3 u h1 (by omega)]; exact ⟨rfl, by omega⟩
  · split
    · rw [decD_dig4 u (by omega) (by omega)]; exact ⟨rfl, by omega⟩
    · rw [decD_dig5 u (by omega) (by omega)]; exact ⟨rfl, by omega⟩
theorem zr24 : List.replicate 24 0#8 = z24 := (rfl)
theorem txL_cut (u : Nat) (h1 : 100 ≤ u) (h2 : u < 65536) : ((txL u).drop 1).take (ndL u) = decD u := by
  obtain ⟨e, _⟩ := nd_len u h1 h2
  unfold txL
  rw [← e]
  show ((decD u ++ _).take _) = _
  rw [List.take_left]
attribute [go_sem] fiG_eq
set_option maxHeartbeats 2000000 in
theorem fi_ok : PureOK Tryd.prog GLh 35 fiG := by
  refine pure_of_awp Tryd.func35 (bodyOf_some rfl) ?_
  intro args r hg
  unfold fiG at hg
  split at hg
  · rename_i x
    replace hg := guardO_inv hg; obtain ⟨⟨h0, h1⟩, hg⟩ := hg
    obtain rfl := Option.some.inj hg
    obtain ⟨u, rfl⟩ := Int.eq_ofNat_of_zero_le h0
    simp only [Int.toNat_natCast] at *
    refine ⟨Nat.le_of_ble_eq_true rfl, fun nx => ?_⟩
    clear hg
    have hx : (BitVec.ofInt 64 (u : Int)).toNat = u := by rw [BitVec.toNat_ofInt]; omega
    obtain ⟨X, hX⟩ : ∃ X, BitVec.ofInt 64 (u : Int) = X := ⟨_, rfl⟩
    rw [hX] at hx
    refine awp_seqP rfl ?_
    refine awp_regP (Γ := noEnv) [0, 1] (noEnv_ok _ _) rfl rfl rfl (fun K hK => ?_)
    simp only [Tryd.f35, bodyOf, Option.getD_some, cl, rOps, lights, light, rN, List.size_toArray, List.length_cons, List.length_nil, Nat.zero_add, List.map_cons, List.map_nil, Option.map_none]
    simp (maxSteps := 300000) (disch := omega) only [go_sem, ↓reduceIte]
    with_reducible refine hK _ ?_
    clear hK K
    refine nx_then ?_
    refine awp_seqP rfl ?_
    refine awp_seqP rfl ?_
    refine awp_regP (Γ := noEnv) [11, 0, 1] (noEnv_ok _ _) rfl rfl rfl (fun K hK => ?_)
    simp only [Tryd.f35, bodyOf, Option.getD_some, cl, cr, rOps, lights, light, rN, List.size_toArray, List.length_cons, List.length_nil, Nat.reduceAdd, Nat.zero_add, List.map_cons, List.map_nil, Option.map_none]
    simp (maxSteps := 300000) (disch := omega) only [go_sem, Nat.reduceAdd, ↓reduceIte]
    with_reducible refine hK _ ?_
    clear hK K
    refine nx_then ?_
    refine awp_ifB (.tmp 11) rfl rfl rfl (fun h => ?_) (fun h => ?_)
    · skip
      refine awp_drop rfl ?_
      have h0 : decide (0 ≤ (u : Int)) = true := decide_eq_true (by omega)
      by_cases h100 : u < 100
      · skip
        have hd : decide ((u : Int) < 100) = true := decide_eq_true (by omega)
        refine awp_seqP rfl ?_
        refine awp_seqP rfl ?_
        refine awp_regP (Γ := noEnv) [17, 0] (noEnv_ok _ _) rfl rfl rfl (fun K hK => ?_)
        simp only [Tryd.f35, bodyOf, Option.getD_some, cl, cr, rOps, lights, light, rN, List.size_toArray, List.length_cons, List.length_nil, Nat.reduceAdd, Nat.zero_add, List.map_cons, List.map_nil, Option.map_none, Option.map_some, List.getElem?_toArray, List.getElem?_cons_zero, List.getElem?_cons_succ, Option.bind_some]
        simp (maxSteps := 300000) (disch := omega) only [go_sem, Nat.reduceAdd, ↓reduceIte, h0, hd]
        with_reducible refine hK _ ?_
        clear hK K
        refine nx_then ?_
        refine awp_ifB (.tmp 17) rfl rfl rfl (fun h => ?_) (fun h => ?_)
        · skip
          refine awp_drop rfl ?_
          refine awp_seqP rfl ?_
          refine awp_regP (Γ := envL [(40, .pure true smG)]) [4] (envOK_cons ok40 envOK_nil) rfl rfl rfl (fun K hK => ?_)
          simp only [Tryd.f35, bodyOf, Option.getD_some, cl, cr, rOps, lights, light, rN, List.size_toArray, List.length_cons, List.length_nil, Nat.reduceAdd, Nat.zero_add, List.map_cons, List.map_nil, Option.map_none]
          simp (maxSteps := 300000) (disch := omega) only [go_sem, Nat.reduceAdd, ↓reduceIte, Int.toNat_natCast]
          with_reducible refine hK _ ?_
          clear hK K
          refine nx_then ?_
          refine awp_retP rfl ?_
          refine nx_ret_then (nx_ret_then ?_)
          simp (disch := omega) only [pureQ, resA, resAL, resA1, Tryd.f35, go_sem, ↓reduceIte]
        · skip
          refine awp_drop rfl ?_
          cases h
      · skip
        have hd : decide ((u : Int) < 100) = false := decide_eq_false (by omega)
        have hcut := txL_cut u (by omega) (by omega)
        have hnd := nd_len u (by omega) (by omega)
        have htl : (txL u).length = 24 := by unfold txL; simp only [List.length_append, List.length_cons, List.length_replicate]; omega
        refine awp_seqP rfl ?_
        refine awp_seqP rfl ?_
        refine awp_regP (Γ := noEnv) [17, 0] (noEnv_ok _ _) rfl rfl rfl (fun K hK => ?_)
        simp only [Tryd.f35, bodyOf, Option.getD_some, cl, cr, rOps, lights, light, rN, List.size_toArray, List.length_cons, List.length_nil, Nat.reduceAdd, Nat.zero_add, List.map_cons, List.map_nil, Option.map_none, Option.map_some, List.getElem?_toArray, List.getElem?_cons_zero, List.getElem?_cons_succ, Option.bind_some]
        simp (maxSteps := 300000) (disch := omega) only [go_sem, Nat.reduceAdd, ↓reduceIte, h0, hd]
        with_reducible refine hK _ ?_
        clear hK K
        refine nx_then ?_
        refine awp_ifB (.tmp 17) rfl rfl rfl (fun h => ?_) (fun h => ?_)
        · skip
          refine awp_drop rfl ?_
          cases h
        · skip
          refine awp_drop rfl ?_
          refine awp_skipP rfl ?_
          refine nx_then ?_
          refine awp_seqP rfl ?_
          refine awp_regP (Γ := noEnv) [0, 5] (noEnv_ok _ _) rfl rfl rfl (fun K hK => ?_)
          simp only [Tryd.f35, bodyOf, Option.getD_some, cl, cr, rOps, lights, light, rN, List.size_toArray, List.length_cons, List.length_nil, Nat.zero_add, List.map_cons, List.map_nil, Option.map_none]
          simp (maxSteps := 300000) (disch := omega) only [go_sem, ↓reduceIte]
          with_reducible refine hK _ ?_
          clear hK K
          refine nx_then ?_
          refine awp_seqP rfl ?_
          refine awp_regP (Γ := noEnv) [0, 5, 6] (noEnv_ok _ _) rfl rfl rfl (fun K hK => ?_)
          simp only [Tryd.f35, bodyOf, Option.getD_some, cl, cr, rOps, lights, light, rN, List.size_toArray, List.length_cons, List.length_nil, Nat.reduceAdd, Nat.zero_add, List.map_cons, List.map_nil, Option.map_none]
          simp (maxSteps := 300000) (disch := omega) only [go_sem, Nat.reduceAdd, ↓reduceIte, hX]
          with_reducible refine hK _ ?_
          clear hK K
          refine nx_then ?_
          refine awp_seqP rfl ?_
          refine awp_seqP rfl ?_
          refine awp_regP (Γ := noEnv) [23, 0, 5, 6] (noEnv_ok _ _) rfl rfl rfl (fun K hK => ?_)
          simp only [Tryd.f35, bodyOf, Option.getD_some, cl, cr, rOps, lights, light, rN, List.size_toArray, List.length_cons, List.length_nil, Nat.reduceAdd, Nat.zero_add, List.map_cons, List.map_nil, Option.map_none]
          simp (maxSteps := 300000) (disch := omega) only [go_sem, Nat.reduceAdd, ↓reduceIte]
          with_reducible refine hK _ ?_
          clear hK K
          refine nx_then ?_
          refine awp_ifD (.tmp 23) rfl rfl rfl (fun h => ?_) (fun h => ?_)
          · skip
            refine awp_drop rfl ?_
            omega
          · skip
            refine awp_drop rfl ?_
            refine awp_skipP rfl ?_
            refine nx_then ?_
            refine awp_seqP rfl ?_
            have e1 : (1 + (ndL u : Int)).toNat = 1 + ndL u := by omega
            have e2 : 1 + ndL u - 1 = ndL u := by omega
            have e3 : 100 ≤ u := by omega
            have e4 : u < 65536 := by omega
            refine awp_regP (Γ := envL [(41, .pure true numG)]) [0, 5, 6, 7] (envOK_cons ok41 envOK_nil) rfl rfl rfl (fun K hK => ?_)
            simp only [Tryd.f35, bodyOf, Option.getD_some, cl, cr, rOps, lights, light, rN, List.size_toArray, List.length_cons, List.length_nil, Nat.reduceAdd, Nat.zero_add, List.map_cons, List.map_nil, Option.map_none]
            simp (maxSteps := 300000) (disch := omega) only [go_sem, Nat.reduceAdd, ↓reduceIte, hx]
            with_reducible refine hK _ ?_
            clear hK K
            refine nx_then ?_
            refine awp_seqP rfl ?_
            refine awp_regP (Γ := envL [(42, .heap (mutH fmtG))]) [0, 5, 7] (envOK_cons ok42 envOK_nil) rfl rfl rfl (fun K hK => ?_)
            simp only [Tryd.f35, bodyOf, Option.getD_some, cl, cr, rOps, lights, light, rN, List.size_toArray, List.length_cons, List.length_nil, Nat.reduceAdd, Nat.zero_add, List.map_cons, List.map_nil, Option.map_none]
            simp (maxSteps := 300000) (disch := omega) only [go_sem, Nat.reduceAdd, Int.reduceLE, Int.reduceToNat, ↓reduceIte, hx, zr24, e1, e2, eq_self, true_and, e3, e4, and_self]
            with_reducible refine hK _ ?_
            clear hK K
            refine nx_then ?_
            refine awp_seqP rfl ?_
            refine awp_seqP rfl ?_
            refine awp_regP (Γ := noEnv) [34, 5, 7] (noEnv_ok _ _) rfl rfl rfl (fun K hK => ?_)
            simp only [Tryd.f35, bodyOf, Option.getD_some, cl, cr, rOps, lights, light, rN, List.size_toArray, List.length_cons, List.length_nil, Nat.reduceAdd, Nat.zero_add, List.map_cons, List.map_nil, Option.map_none]
            simp (maxSteps := 300000) (disch := omega) only [go_sem, Nat.reduceAdd, ↓reduceIte]
            with_reducible refine hK _ ?_
            clear hK K
            refine nx_then ?_
            refine awp_ifD (.tmp 34) rfl rfl rfl (fun h => ?_) (fun h => ?_)
            · skip
              refine awp_drop rfl ?_
              omega
            · skip
              refine awp_drop rfl ?_
              refine awp_skipP rfl ?_
              refine nx_then ?_
              refine awp_seqP rfl ?_
              refine awp_regP (Γ := noEnv) [4] (noEnv_ok _ _) rfl rfl rfl (fun K hK => ?_)
              simp only [Tryd.f35, bodyOf, Option.getD_some, cl, cr, rOps, lights, light, rN, List.size_toArray, List.length_cons, List.length_nil, Nat.reduceAdd, Nat.zero_add, List.map_cons, List.map_nil, Option.map_none]
              simp (maxSteps := 300000) (disch := omega) only [go_sem, Nat.reduceAdd, Int.reduceLE, Int.reduceToNat, ↓reduceIte, e1, e2, hcut, htl]
              with_reducible refine hK _ ?_
              clear hK K
              refine nx_then ?_
              refine awp_retP rfl ?_
              refine nx_ret_then ?_
              simp (disch := omega) only [pureQ, resA, resAL, resA1, Tryd.f35, go_sem, ↓reduceIte]
    · skip
      refine awp_drop rfl ?_
      cases h
  · cases hg
theorem ok35 : EntOK Tryd.prog GLh 35 (.pure true fiG) := ⟨⟨_, Tryd.func35, rfl, rfl⟩, fi_ok⟩

def itG : List AV → Option AV
  | [.i x] => guardO (0 ≤ x ∧ x < 65536) (some (.s (decD x.toNat)))
  | _ => none
theorem itG_eq (x : Int) : itG [.i x] = guardO (0 ≤ x ∧ x < 65536) (some (.s (decD x.toNat))) := (rfl)
attribute [go_sem] itG_eq
set_option maxHeartbeats 2000000 in
theorem it1_ok : PureOK Tryd.prog GLh 30 itG := by
  refine pure_of_awp Tryd.func30 (bodyOf_some rfl) ?_
  intro args r hg
  unfold itG at hg
  split at hg
  · rename_i x
    replace hg := guardO_inv hg; obtain ⟨⟨h0, h1⟩, hg⟩ := hg
    obtain rfl := Option.some.inj hg
    refine ⟨Nat.le_of_ble_eq_true rfl, fun nx => ?_⟩
    clear hg
    refine awp_seqP rfl ?_
    refine awp_regP (Γ := noEnv) [0] (noEnv_ok _ _) rfl rfl rfl (fun K hK => ?_)
    simp only [Tryd.f30, bodyOf, Option.getD_some, cl, rOps, lights, light, rN, List.size_toArray, List.length_cons, List.length_nil, Nat.zero_add, List.map_cons, List.map_nil, Option.map_none]
    simp (maxSteps := 300000) (disch := omega) only [go_sem, ↓reduceIte]
    with_reducible refine hK _ ?_
    clear hK K
    refine nx_then ?_
    refine awp_seqP rfl ?_
    refine awp_regP (Γ := envL [(35, .pure true fiG)]) [2] (envOK_cons ok35 envOK_nil) rfl rfl rfl (fun K hK => ?_)
    simp only [Tryd.f30, bodyOf, Option.getD_some, cl, cr, rOps, lights, light, rN, List.size_toArray, List.length_cons, List.length_nil, Nat.reduceAdd, Nat.zero_add, List.map_cons, List.map_nil, Option.map_none]
    simp (maxSteps := 300000) (disch := omega) only [go_sem, Nat.reduceAdd, ↓reduceIte]
    with_reducible refine hK _ ?_
    clear hK K
    refine nx_then ?_
    refine awp_retP rfl ?_
    simp (disch := omega) only [pureQ, resA, resAL, resA1, Tryd.f30, go_sem, ↓reduceIte]
  · cases hg
theorem ok30 : EntOK Tryd.prog GLh 30 (.pure true itG) := ⟨⟨_, Tryd.func30, rfl, rfl⟩, it1_ok⟩
set_option maxHeartbeats 2000000 in
theorem it_ok : PureOK Tryd.prog GLh 21 itG := by
  refine pure_of_awp Tryd.func21 (bodyOf_some rfl) ?_
  intro args r hg
  unfold itG at hg
  split at hg
  · rename_i x
    replace hg := guardO_inv hg; obtain ⟨⟨h0, h1⟩, hg⟩ := hg
    obtain rfl := Option.some.inj hg
    refine ⟨Nat.le_of_ble_eq_true rfl, fun nx => ?_⟩
    clear hg
    refine awp_seqP rfl ?_
    refine awp_regP (Γ := noEnv) [0] (noEnv_ok _ _) rfl rfl rfl (fun K hK => ?_)
    simp only [Tryd.f21, bodyOf, Option.getD_some, cl, rOps, lights, light, rN, List.size_toArray, List.length_cons, List.length_nil, Nat.zero_add, List.map_cons, List.map_nil, Option.map_none]
    simp (maxSteps := 300000) (disch := omega) only [go_sem, ↓reduceIte]
    with_reducible refine hK _ ?_
    clear hK K
    refine nx_then ?_
    refine awp_seqP rfl ?_
    refine awp_regP (Γ := envL [(30, .pure true itG)]) [2] (envOK_cons ok30 envOK_nil) rfl rfl rfl (fun K hK => ?_)
    simp only [Tryd.f21, bodyOf, Option.getD_some, cl, cr, rOps, lights, light, rN, List.size_toArray, List.length_cons, List.length_nil, Nat.reduceAdd, Nat.zero_add, List.map_cons, List.map_nil, Option.map_none]
    simp (maxSteps := 300000) (disch := omega) only [go_sem, Nat.reduceAdd, ↓reduceIte]
    with_reducible refine hK _ ?_
    clear hK K
    refine nx_then ?_
    refine awp_retP rfl ?_
    simp (disch := omega) only [pureQ, resA, resAL, resA1, Tryd.f21, go_sem, ↓reduceIte]
  · cases hg
theorem ok21 : EntOK Tryd.prog GLh 21 (.pure true itG) := ⟨⟨_, Tryd.func21, rfl, rfl⟩, it_ok⟩
end Go.AX

namespace Go.AX
open Go Go.Proofs

theorem cK_take2' (k : Nat) (h : k < 14) : (cK (tabL.drop k)).take 2 = [.w16 (tabL.getD k (0#16, [])).1, .s (tabL.getD k (0#16, [])).2] := cK_take2 tabL k (by rw [tab_len]; exact h)
theorem stl2 (a b x y : AV) : storeL [a, b] 0 [x, y] = [x, y] := (rfl)
set_option maxHeartbeats 4000000 in
theorem txt_ok : PureOK Tryd.prog GLh 8 txtG := by
  refine pure_of_awp Tryd.func8 (bodyOf_some rfl) ?_
  intro args r hg
  unfold txtG at hg
  split at hg
  · rename_i t
    obtain rfl := Option.some.inj hg
    refine ⟨Nat.le_of_ble_eq_true rfl, fun nx => ?_⟩
    clear hg
    have htl := t.isLt
    refine awp_seqP rfl ?_
    refine awp_regP (Γ := noEnv) [0] (noEnv_ok _ _) rfl rfl rfl (fun K hK => ?_)
    simp only [Tryd.f8, bodyOf, Option.getD_some, cl, rOps, lights, light, rN, List.size_toArray, List.length_cons, List.length_nil, Nat.zero_add, List.map_cons, List.map_nil, Option.map_none]
    simp (maxSteps := 300000) (disch := omega) only [go_sem, ↓reduceIte]
    with_reducible refine hK _ ?_
    clear hK K
    refine nx_then ?_
    refine awp_seqP rfl ?_
    refine awp_seqP rfl ?_
    refine awp_regP (Γ := envL [(20, .fresh true allG)]) [0, 5, 6, 7] (envOK_cons ok20 envOK_nil) rfl rfl rfl (fun K hK => ?_)
    simp only [Tryd.f8, bodyOf, Option.getD_some, cl, cr, rOps, lights, light, rN, List.size_toArray, List.length_cons, List.length_nil, Nat.reduceAdd, Nat.zero_add, List.map_cons, List.map_nil, Option.map_none]
    simp (maxSteps := 300000) (disch := omega) only [go_sem, Nat.reduceAdd, ↓reduceIte]
    with_reducible refine hK _ ?_
    clear hK K
    refine nx_then ?_
    refine awp_blockN 0 rfl rfl ?_
    refine awp_loopP (fun p : KC => { fr := [(0, .w16 t), (5, .os (nx + 1) 0 14 2 true), (6, .i 14), (7, .i p.k)], hp := upd (fun _ => none) (nx + 1) (.cells (cK tabL) true), nx := 0, cx := p.c }) (fun p => (p.k ≤ 14 ∧ ∀ j, j < p.k → (tabL.getD j (0#16, [])).1 ≠ t) ∧ nx + 1 < p.c) (fun p => 14 - p.k) rfl ⟨⟨0, _⟩, ⟨⟨Nat.zero_le _, fun j hj => by simp at hj⟩, by simp only; omega⟩, sub_same rfl rfl (Nat.le_refl _)⟩ ?_
    rintro ⟨k, c⟩ ⟨⟨hk, hn⟩, hc⟩ n0
    simp only at hk hn hc ⊢
    refine awp_seqP rfl ?_
    refine awp_regP (Γ := noEnv) [8, 0, 5, 6, 7] (noEnv_ok _ _) rfl rfl rfl (fun K hK => ?_)
    simp only [Tryd.f8, bodyOf, Option.getD_some, cl, cr, rOps, lights, light, rN, List.size_toArray, List.length_cons, List.length_nil, Nat.zero_add, List.map_cons, List.map_nil, Option.map_none]
    simp (maxSteps := 300000) (disch := omega) only [go_sem, ↓reduceIte]
    with_reducible refine hK _ ?_
    clear hK K
    refine nx_then ?_
    refine awp_seqP rfl ?_
    refine awp_ifD (.tmp 8) rfl rfl rfl (fun h => ?_) (fun h => ?_)
    · skip
      refine awp_drop rfl ?_
      have hkl : k < 14 := by omega
      have h2 := cK_take2' k hkl
      have hdr := cK_drop tabL k
      have hdl : (tabL.drop k).length = 14 - k := by rw [List.length_drop, tab_len]
      refine awp_skipP rfl ?_
      refine nx_then ?_
      refine awp_seqP rfl ?_
      refine awp_blockN 1 rfl rfl ?_
      refine awp_seqP rfl ?_
      refine awp_regP (Γ := noEnv) [0, 4, 5, 6, 7] (noEnv_ok _ _) rfl rfl rfl (fun K hK => ?_)
      simp only [Tryd.f8, bodyOf, Option.getD_some, cl, cr, rOps, lights, light, rN, List.size_toArray, List.length_cons, List.length_nil, Nat.reduceAdd, Nat.zero_add, List.map_cons, List.map_nil, Option.map_none]
      simp (maxSteps := 300000) (disch := omega) only [go_sem, Nat.reduceAdd, Nat.reduceLeDiff, ↓reduceIte, hdr, h2, hdl, stl2]
      with_reducible refine hK _ ?_
      clear hK K
      refine nx_then ?_
      refine awp_seqP rfl ?_
      refine awp_regP (Γ := noEnv) [14, 0, 4, 5, 6, 7] (noEnv_ok _ _) rfl rfl rfl (fun K hK => ?_)
      simp only [Tryd.f8, bodyOf, Option.getD_some, cl, cr, rOps, lights, light, rN, List.size_toArray, List.length_cons, List.length_nil, Nat.reduceAdd, Nat.zero_add, List.map_cons, List.map_nil, Option.map_none]
      simp (maxSteps := 300000) (disch := omega) only [go_sem, Nat.reduceAdd, Nat.reduceLT, ↓reduceIte]
      with_reducible refine hK _ ?_
      clear hK K
      refine nx_then ?_
      refine awp_ifD (.tmp 14) rfl rfl rfl (fun h => ?_) (fun h => ?_)
      · skip
        refine awp_drop rfl ?_
        have ht := text_at t k hkl h hn
        refine awp_seqP rfl ?_
        refine awp_regP (Γ := noEnv) [2] (noEnv_ok _ _) rfl rfl rfl (fun K hK => ?_)
        simp only [Tryd.f8, bodyOf, Option.getD_some, cl, cr, rOps, lights, light, rN, List.size_toArray, List.length_cons, List.length_nil, Nat.reduceAdd, Nat.zero_add, List.map_cons, List.map_nil, Option.map_none]
        simp (maxSteps := 300000) (disch := omega) only [go_sem, Nat.reduceAdd, Nat.reduceLT, ↓reduceIte, List.drop_succ_cons, List.drop_zero, List.head?_cons]
        with_reducible refine hK _ ?_
        clear hK K
        refine nx_then ?_
        refine awp_retP rfl ?_
        refine nx_ret_blk (nx_ret_then (nx_ret_loop (nx_ret_blk (nx_ret_then ?_))))
        simp (disch := omega) only [pureQ, resA, resAL, resA1, Tryd.f8, go_sem, ↓reduceIte, ht]
      · skip
        refine awp_drop rfl ?_
        refine awp_skipP rfl ?_
        refine nx_blk (nx_then ?_)
        refine awp_regP (Γ := noEnv) [0, 5, 6, 7] (noEnv_ok _ _) rfl rfl rfl (fun K hK => ?_)
        simp only [Tryd.f8, bodyOf, Option.getD_some, cl, cr, rOps, lights, light, rN, List.size_toArray, List.length_cons, List.length_nil, Nat.reduceAdd, Nat.zero_add, List.map_cons, List.map_nil, Option.map_none]
        simp (maxSteps := 300000) (disch := omega) only [go_sem, Nat.reduceAdd, ↓reduceIte]
        with_reducible refine hK _ ?_
        clear hK K
        refine nx_loop ?_
        refine ⟨⟨k + 1, _⟩, ⟨⟨by simp only; omega, fun j hj => ?_⟩, by simp only; omega⟩, by simp only; omega, ⟨fun _ => .inr ?_, fun j o h => ?_, Nat.le_refl _⟩⟩
        · by_cases e : j = k
          · subst e; exact h
          · exact hn j (by simp only at hj; omega)
        · simp only [Int.natCast_add, Int.natCast_one]
        · simp only at h
          exact hsub_cons (by simp (disch := omega) only [up_app, nat_ne, ↓reduceIte, eq_self]) (hsub_nil) j o h
    · skip
      refine awp_drop rfl ?_
      obtain rfl : k = 14 := by omega
      have ht := text_no t hn
      have hl := (decD_len t.toNat 5 (by omega) (by omega)).2
      have hl2 : 4 + (decD t.toNat).length ≤ 9223372036854775807 := by omega
      refine awp_exitN 0 rfl rfl ?_
      refine nx_ex_then (nx_ex_loop (nx_ex_blk ?_))
      refine nx_then ?_
      refine awp_seqP rfl ?_
      refine awp_regP (Γ := envL [(21, .pure true itG)]) [2] (envOK_cons ok21 envOK_nil) rfl rfl rfl (fun K hK => ?_)
      simp only [Tryd.f8, bodyOf, Option.getD_some, cl, cr, rOps, lights, light, rN, List.size_toArray, List.length_cons, List.length_nil, Nat.reduceAdd, Nat.zero_add, List.map_cons, List.map_nil, Option.map_none]
      simp (maxSteps := 300000) (disch := omega) only [go_sem, Nat.reduceAdd, ↓reduceIte, hl2, Int.toNat_natCast]
      with_reducible refine hK _ ?_
      clear hK K
      refine nx_then ?_
      refine awp_retP rfl ?_
      simp (disch := omega) only [pureQ, resA, resAL, resA1, Tryd.f8, go_sem, ↓reduceIte, ht]
  · cases hg
theorem ok8 : EntOK Tryd.prog GLh 8 (.pure true txtG) := ⟨⟨_, Tryd.func8, rfl, rfl⟩, txt_ok⟩

theorem lt48 (c : B8) : (c < 48#8) ↔ c.toNat < 48 := BitVec.lt_def
theorem gt57 (c : B8) : (57#8 < c) ↔ 57 < c.toNat := BitVec.lt_def
set_option maxHeartbeats 4000000 in
theorem par_rest (d : List B8) (h5 : 1 ≤ d.length) (h9 : d.length ≤ 5) (hnum : numL d = if (∀ c ∈ d, isD c) ∧ valD 0 d ≤ 65535 then some (BitVec.ofNat 16 (valD 0 d)) else none) (nx cx : Nat) (hp : H) :
    Awp Tryd.prog GLh Tryd.f9.ntmps (cr (cr (cr (cr (bodyOf Tryd.f9))))) { fr := [(6, .s d)], hp := hp, nx := nx, cx := cx } (pureQ Tryd.prog Tryd.f9.results.toList (parT (numL d))) := by
  refine awp_seqP rfl ?_
  refine awp_regP (Γ := noEnv) [6, 8] (noEnv_ok _ _) rfl rfl rfl (fun K hK => ?_)
  simp only [Tryd.f9, bodyOf, Option.getD_some, cl, cr, rOps, lights, light, rN, List.size_toArray, List.length_cons, List.length_nil, Nat.zero_add, List.map_cons, List.map_nil, Option.map_none]
  simp (maxSteps := 300000) (disch := omega) only [go_sem, ↓reduceIte]
  with_reducible refine hK _ ?_
  clear hK K
  refine nx_then ?_
  refine awp_seqP rfl ?_
  refine awp_seqP rfl ?_
  refine awp_regP (Γ := noEnv) [8, 51, 52, 53] (noEnv_ok _ _) rfl rfl rfl (fun K hK => ?_)
  simp only [Tryd.f9, bodyOf, Option.getD_some, cl, cr, rOps, lights, light, rN, List.size_toArray, List.length_cons, List.length_nil, Nat.reduceAdd, Nat.zero_add, List.map_cons, List.map_nil, Option.map_none]
  simp (maxSteps := 300000) (disch := omega) only [go_sem, Nat.reduceAdd, ↓reduceIte]
  with_reducible refine hK _ ?_
  clear hK K
  refine nx_then ?_
  obtain ⟨id, hid⟩ : ∃ id, cx + 1 + 1 = id := ⟨_, rfl⟩
  rw [hid]
  refine awp_blockN 2 rfl rfl ?_
  refine awp_loopP (fun p : KC => { fr := [(8, .i ((valD 0 (d.take p.k) : Nat) : Int)), (51, .os id 0 d.length 1 true), (52, .i (d.length : Int)), (53, .i (p.k : Int))], hp := upd hp id (.cells (c8 d) true), nx := 0, cx := p.c }) (fun p => (p.k ≤ d.length ∧ (∀ j, j < p.k → isD (d.getD j 0#8)) ∧ valD 0 (d.take p.k) < 10 ^ p.k) ∧ id < p.c) (fun p => d.length - p.k) rfl ⟨⟨0, _⟩, ⟨⟨Nat.zero_le _, fun j hj => by simp at hj, by simp [valD]⟩, by simp only; omega⟩, sub_same rfl rfl (Nat.le_refl _)⟩ ?_
  rintro ⟨k, c⟩ ⟨⟨hk, hn, hv⟩, hc⟩ n0
  simp only at hk hn hv hc ⊢
  refine awp_seqP rfl ?_
  refine awp_regP (Γ := noEnv) [54, 8, 51, 52, 53] (noEnv_ok _ _) rfl rfl rfl (fun K hK => ?_)
  simp only [Tryd.f9, bodyOf, Option.getD_some, cl, cr, rOps, lights, light, rN, List.size_toArray, List.length_cons, List.length_nil, Nat.zero_add, List.map_cons, List.map_nil, Option.map_none]
  simp (maxSteps := 300000) (disch := omega) only [go_sem, ↓reduceIte]
  with_reducible refine hK _ ?_
  clear hK K
  refine nx_then ?_
  refine awp_seqP rfl ?_
  refine awp_ifD (.tmp 54) rfl rfl rfl (fun h => ?_) (fun h => ?_)
  · skip
    refine awp_drop rfl ?_
    have hkl : k < d.length := by omega
    have hik := idF4 d k hkl
    have hp5 := pow_le5 k (by omega)
    obtain ⟨b, hb⟩ : ∃ b, d.getD k 0#8 = b := ⟨_, rfl⟩
    rw [hb] at hik
    refine awp_skipP rfl ?_
    refine nx_then ?_
    refine awp_seqP rfl ?_
    refine awp_blockN 3 rfl rfl ?_
    refine awp_seqP rfl ?_
    refine awp_regP (Γ := noEnv) [8, 10, 51, 52, 53] (noEnv_ok _ _) rfl rfl rfl (fun K hK => ?_)
    simp only [Tryd.f9, bodyOf, Option.getD_some, cl, cr, rOps, lights, light, rN, List.size_toArray, List.length_cons, List.length_nil, Nat.reduceAdd, Nat.zero_add, List.map_cons, List.map_nil, Option.map_none]
    simp (maxSteps := 300000) (disch := omega) only [go_sem, Nat.reduceAdd, ↓reduceIte, hb]
    with_reducible refine hK _ ?_
    clear hK K
    refine nx_then ?_
    by_cases hD : isD b
    · skip
      have hD2 := (isD_iff _).1 hD
      have e1 : decide (b < 48#8) = false := decide_eq_false (by rw [lt48]; unfold isD at hD; omega)
      have e3 : decide (57#8 < b) = false := decide_eq_false (by rw [gt57]; unfold isD at hD; omega)
      have e2 := sub48 _ hD2.1
      have hs9 : b.toNat - 48 ≤ 9 := by unfold isD at hD; omega
      have hst := valD_take d k hkl
      rw [hb] at hst
      have hpw := pow_step k _ _ hv hs9
      refine awp_seqP rfl ?_
      refine awp_seqP rfl ?_
      refine awp_regP (Γ := noEnv) [62, 8, 10, 51, 52, 53] (noEnv_ok _ _) rfl rfl rfl (fun K hK => ?_)
      simp only [Tryd.f9, bodyOf, Option.getD_some, cl, cr, rOps, lights, light, rN, List.size_toArray, List.length_cons, List.length_nil, Nat.reduceAdd, Nat.zero_add, List.map_cons, List.map_nil, Option.map_none, Option.map_some, List.getElem?_toArray, List.getElem?_cons_zero, List.getElem?_cons_succ, Option.bind_some]
      simp (maxSteps := 300000) (disch := omega) only [go_sem, Nat.reduceAdd, Int.reduceLE, Int.reduceLT, BitVec.reduceOfInt, reduceCtorEq, ↓reduceIte, e1, e3]
      with_reducible refine hK _ ?_
      clear hK K
      refine nx_then ?_
      refine awp_ifB (.tmp 62) rfl rfl rfl (fun h => ?_) (fun h => ?_)
      · skip
        refine awp_drop rfl ?_
        cases h
      · skip
        refine awp_drop rfl ?_
        clear h
        refine awp_skipP rfl ?_
        refine nx_then ?_
        refine awp_regP (Γ := noEnv) [8, 51, 52, 53] (noEnv_ok _ _) rfl rfl rfl (fun K hK => ?_)
        simp only [Tryd.f9, bodyOf, Option.getD_some, cl, cr, rOps, lights, light, rN, List.size_toArray, List.length_cons, List.length_nil, Nat.reduceAdd, Nat.zero_add, List.map_cons, List.map_nil, Option.map_none]
        simp (maxSteps := 300000) (disch := omega) only [go_sem, Nat.reduceAdd, Int.reduceLE, Int.reduceLT, BitVec.reduceOfInt, ↓reduceIte, e2]
        with_reducible refine hK _ ?_
        clear hK K
        refine nx_blk (nx_then ?_)
        refine awp_regP (Γ := noEnv) [8, 51, 52, 53] (noEnv_ok _ _) rfl rfl rfl (fun K hK => ?_)
        simp only [Tryd.f9, bodyOf, Option.getD_some, cl, cr, rOps, lights, light, rN, List.size_toArray, List.length_cons, List.length_nil, Nat.reduceAdd, Nat.zero_add, List.map_cons, List.map_nil, Option.map_none]
        simp (maxSteps := 300000) (disch := omega) only [go_sem, Nat.reduceAdd, ↓reduceIte]
        with_reducible refine hK _ ?_
        clear hK K
        refine nx_loop ?_
        refine ⟨⟨k + 1, _⟩, ⟨⟨by simp only; omega, fun j hj => ?_, by simp only; rw [hst]; exact hpw⟩, by simp only; omega⟩, by simp only; omega, sub_same ?_ rfl (Nat.le_refl _)⟩
        · by_cases e : j = k
          · subst e; rw [hb]; exact hD
          · exact hn j (by simp only at hj; omega)
        · simp only [hst, Int.natCast_add, Int.natCast_mul, Int.natCast_one]; rfl
    · skip
      have hno : numL d = none := by rw [hnum, if_neg fun ⟨ha, _⟩ => dig_not hkl (by rw [hb]; exact hD) ha]
      by_cases hq : b.toNat < 48
      · skip
        have e1 : decide (b < 48#8) = true := decide_eq_true (by rw [lt48]; exact hq)
        refine awp_seqP rfl ?_
        refine awp_seqP rfl ?_
        refine awp_regP (Γ := noEnv) [62, 8, 10, 51, 52, 53] (noEnv_ok _ _) rfl rfl rfl (fun K hK => ?_)
        simp only [Tryd.f9, bodyOf, Option.getD_some, cl, cr, rOps, lights, light, rN, List.size_toArray, List.length_cons, List.length_nil, Nat.reduceAdd, Nat.zero_add, List.map_cons, List.map_nil, Option.map_none, Option.map_some, List.getElem?_toArray, List.getElem?_cons_zero, List.getElem?_cons_succ, Option.bind_some]
        simp (maxSteps := 300000) (disch := omega) only [go_sem, Nat.reduceAdd, Int.reduceLE, Int.reduceLT, BitVec.reduceOfInt, ↓reduceIte, e1]
        with_reducible refine hK _ ?_
        clear hK K
        refine nx_then ?_
        refine awp_ifB (.tmp 62) rfl rfl rfl (fun h => ?_) (fun h => ?_)
        · skip
          refine awp_drop rfl ?_
          refine awp_seqP rfl ?_
          refine awp_regP (Γ := noEnv) [2, 3] (noEnv_ok _ _) rfl rfl rfl (fun K hK => ?_)
          simp only [Tryd.f9, bodyOf, Option.getD_some, cl, cr, rOps, lights, light, rN, List.size_toArray, List.length_cons, List.length_nil, Nat.reduceAdd, Nat.zero_add, List.map_cons, List.map_nil, Option.map_none]
          simp (maxSteps := 300000) (disch := omega) only [go_sem, Nat.reduceAdd, Int.reduceLE, Int.reduceLT, BitVec.reduceOfInt, ↓reduceIte]
          with_reducible refine hK _ ?_
          clear hK K
          refine nx_then ?_
          refine awp_retP rfl ?_
          refine nx_ret_then (nx_ret_blk (nx_ret_then (nx_ret_loop (nx_ret_blk (nx_ret_then ?_)))))
          simp (disch := omega) only [pureQ, resA, resAL, resA1, Tryd.f9, go_sem, ↓reduceIte, hno]
        · skip
          refine awp_drop rfl ?_
          cases h
      · skip
        have e1 : decide (b < 48#8) = false := decide_eq_false (by rw [lt48]; exact hq)
        have e3 : decide (57#8 < b) = true := decide_eq_true (by rw [gt57]; unfold isD at hD; omega)
        refine awp_seqP rfl ?_
        refine awp_seqP rfl ?_
        refine awp_regP (Γ := noEnv) [62, 8, 10, 51, 52, 53] (noEnv_ok _ _) rfl rfl rfl (fun K hK => ?_)
        simp only [Tryd.f9, bodyOf, Option.getD_some, cl, cr, rOps, lights, light, rN, List.size_toArray, List.length_cons, List.length_nil, Nat.reduceAdd, Nat.zero_add, List.map_cons, List.map_nil, Option.map_none, Option.map_some, List.getElem?_toArray, List.getElem?_cons_zero, List.getElem?_cons_succ, Option.bind_some]
        simp (maxSteps := 300000) (disch := omega) only [go_sem, Nat.reduceAdd, Int.reduceLE, Int.reduceLT, BitVec.reduceOfInt, reduceCtorEq, ↓reduceIte, e1, e3]
        with_reducible refine hK _ ?_
        clear hK K
        refine nx_then ?_
        refine awp_ifB (.tmp 62) rfl rfl rfl (fun h => ?_) (fun h => ?_)
        · skip
          refine awp_drop rfl ?_
          refine awp_seqP rfl ?_
          refine awp_regP (Γ := noEnv) [2, 3] (noEnv_ok _ _) rfl rfl rfl (fun K hK => ?_)
          simp only [Tryd.f9, bodyOf, Option.getD_some, cl, cr, rOps, lights, light, rN, List.size_toArray, List.length_cons, List.length_nil, Nat.reduceAdd, Nat.zero_add, List.map_cons, List.map_nil, Option.map_none]
          simp (maxSteps := 300000) (disch := omega) only [go_sem, Nat.reduceAdd, Int.reduceLE, Int.reduceLT, BitVec.reduceOfInt, ↓reduceIte]
          with_reducible refine hK _ ?_
          clear hK K
          refine nx_then ?_
          refine awp_retP rfl ?_
          refine nx_ret_then (nx_ret_blk (nx_ret_then (nx_ret_loop (nx_ret_blk (nx_ret_then ?_)))))
          simp (disch := omega) only [pureQ, resA, resAL, resA1, Tryd.f9, go_sem, ↓reduceIte, hno]
        · skip
          refine awp_drop rfl ?_
          cases h
  · skip
    refine awp_drop rfl ?_
    obtain rfl : k = d.length := by omega
    have hall := dig_all rfl hn
    have hp5 := pow_le5 d.length (by omega)
    rw [List.take_length] at hv
    refine awp_exitN 2 rfl rfl ?_
    refine nx_ex_then (nx_ex_loop (nx_ex_blk ?_))
    refine nx_then ?_
    refine awp_seqP rfl ?_
    refine awp_seqP rfl ?_
    refine awp_regP (Γ := noEnv) [71, 8] (noEnv_ok _ _) rfl rfl rfl (fun K hK => ?_)
    simp only [Tryd.f9, bodyOf, Option.getD_some, cl, cr, rOps, lights, light, rN, List.size_toArray, List.length_cons, List.length_nil, Nat.reduceAdd, Nat.zero_add, List.map_cons, List.map_nil, Option.map_none]
    simp (maxSteps := 300000) (disch := omega) only [go_sem, Nat.reduceAdd, ↓reduceIte, List.take_length]
    with_reducible refine hK _ ?_
    clear hK K
    refine nx_then ?_
    refine awp_ifD (.tmp 71) rfl rfl rfl (fun h => ?_) (fun h => ?_)
    · skip
      refine awp_drop rfl ?_
      have hno : numL d = none := by rw [hnum, if_neg fun ⟨_, ha⟩ => by omega]
      refine awp_seqP rfl ?_
      refine awp_regP (Γ := noEnv) [2, 3] (noEnv_ok _ _) rfl rfl rfl (fun K hK => ?_)
      simp only [Tryd.f9, bodyOf, Option.getD_some, cl, cr, rOps, lights, light, rN, List.size_toArray, List.length_cons, List.length_nil, Nat.reduceAdd, Nat.zero_add, List.map_cons, List.map_nil, Option.map_none]
      simp (maxSteps := 300000) (disch := omega) only [go_sem, Nat.reduceAdd, Int.reduceLE, Int.reduceLT, BitVec.reduceOfInt, ↓reduceIte]
      with_reducible refine hK _ ?_
      clear hK K
      refine nx_then ?_
      refine awp_retP rfl ?_
      refine nx_ret_then ?_
      simp (disch := omega) only [pureQ, resA, resAL, resA1, Tryd.f9, go_sem, ↓reduceIte, hno]
    · skip
      refine awp_drop rfl ?_
      have hyes : numL d = some (BitVec.ofNat 16 (valD 0 d)) := by rw [hnum, if_pos ⟨hall, by omega⟩]
      refine awp_skipP rfl ?_
      refine nx_then ?_
      refine awp_seqP rfl ?_
      refine awp_regP (Γ := noEnv) [2, 3] (noEnv_ok _ _) rfl rfl rfl (fun K hK => ?_)
      simp only [Tryd.f9, bodyOf, Option.getD_some, cl, cr, rOps, lights, light, rN, List.size_toArray, List.length_cons, List.length_nil, Nat.reduceAdd, Nat.zero_add, List.map_cons, List.map_nil, Option.map_none]
      simp (maxSteps := 300000) (disch := omega) only [go_sem, Nat.reduceAdd, ↓reduceIte]
      with_reducible refine hK _ ?_
      clear hK K
      refine nx_then ?_
      refine awp_retP rfl ?_
      simp (disch := omega) only [pureQ, resA, resAL, resA1, Tryd.f9, go_sem, ↓reduceIte, hyes, BitVec.ofInt_natCast]
set_option maxHeartbeats 4000000 in
theorem par_ok : PureOK Tryd.prog GLh 9 parG := by
  refine pure_of_awp Tryd.func9 (bodyOf_some rfl) ?_
  intro args r hg
  unfold parG at hg
  split at hg
  · rename_i s
    replace hg := guardO_inv hg; obtain ⟨hs, hg⟩ := hg
    obtain rfl := Option.some.inj hg
    refine ⟨Nat.le_of_ble_eq_true rfl, fun nx => ?_⟩
    clear hg
    refine awp_seqP rfl ?_
    refine awp_regP (Γ := noEnv) [0] (noEnv_ok _ _) rfl rfl rfl (fun K hK => ?_)
    simp only [Tryd.f9, bodyOf, Option.getD_some, cl, rOps, lights, light, rN, List.size_toArray, List.length_cons, List.length_nil, Nat.reduceAdd, Nat.zero_add, List.map_cons, List.map_nil, Option.map_none]
    simp (maxSteps := 300000) (disch := omega) only [go_sem, Nat.reduceAdd, Int.reduceLE, Int.reduceLT, BitVec.reduceOfInt, ↓reduceIte]
    with_reducible refine hK _ ?_
    clear hK K
    refine nx_then ?_
    refine awp_seqP rfl ?_
    refine awp_seqP rfl ?_
    refine awp_regP (Γ := envL [(20, .fresh true allG)]) [0, 11, 12, 13] (envOK_cons ok20 envOK_nil) rfl rfl rfl (fun K hK => ?_)
    simp only [Tryd.f9, bodyOf, Option.getD_some, cl, cr, rOps, lights, light, rN, List.size_toArray, List.length_cons, List.length_nil, Nat.reduceAdd, Nat.zero_add, List.map_cons, List.map_nil, Option.map_none]
    simp (maxSteps := 300000) (disch := omega) only [go_sem, Nat.reduceAdd, ↓reduceIte]
    with_reducible refine hK _ ?_
    clear hK K
    refine nx_then ?_
    refine awp_blockN 0 rfl rfl ?_
    refine awp_loopP (fun p : KC => { fr := [(0, .s s), (11, .os (nx + 1 + 1) 0 14 2 true), (12, .i 14), (13, .i p.k)], hp := upd (fun _ => none) (nx + 1 + 1) (.cells (cK tabL) true), nx := 0, cx := p.c }) (fun p => (p.k ≤ 14 ∧ ∀ j, j < p.k → (tabL.getD j (0#16, [])).2 ≠ s) ∧ nx + 1 + 1 < p.c) (fun p => 14 - p.k) rfl ⟨⟨0, _⟩, ⟨⟨Nat.zero_le _, fun j hj => by simp at hj⟩, by simp only; omega⟩, sub_same rfl rfl (Nat.le_refl _)⟩ ?_
    rintro ⟨k, c⟩ ⟨⟨hk, hn⟩, hc⟩ n0
    simp only at hk hn hc ⊢
    refine awp_seqP rfl ?_
    refine awp_regP (Γ := noEnv) [14, 0, 11, 12, 13] (noEnv_ok _ _) rfl rfl rfl (fun K hK => ?_)
    simp only [Tryd.f9, bodyOf, Option.getD_some, cl, cr, rOps, lights, light, rN, List.size_toArray, List.length_cons, List.length_nil, Nat.zero_add, List.map_cons, List.map_nil, Option.map_none]
    simp (maxSteps := 300000) (disch := omega) only [go_sem, ↓reduceIte]
    with_reducible refine hK _ ?_
    clear hK K
    refine nx_then ?_
    refine awp_seqP rfl ?_
    refine awp_ifD (.tmp 14) rfl rfl rfl (fun h => ?_) (fun h => ?_)
    · skip
      refine awp_drop rfl ?_
      have hkl : k < 14 := by omega
      have h2 := cK_take2' k hkl
      have hdr := cK_drop tabL k
      have hdl : (tabL.drop k).length = 14 - k := by rw [List.length_drop, tab_len]
      refine awp_skipP rfl ?_
      refine nx_then ?_
      refine awp_seqP rfl ?_
      refine awp_blockN 1 rfl rfl ?_
      refine awp_seqP rfl ?_
      refine awp_regP (Γ := noEnv) [0, 5, 11, 12, 13] (noEnv_ok _ _) rfl rfl rfl (fun K hK => ?_)
      simp only [Tryd.f9, bodyOf, Option.getD_some, cl, cr, rOps, lights, light, rN, List.size_toArray, List.length_cons, List.length_nil, Nat.reduceAdd, Nat.zero_add, List.map_cons, List.map_nil, Option.map_none]
      simp (maxSteps := 300000) (disch := omega) only [go_sem, Nat.reduceAdd, Nat.reduceLeDiff, ↓reduceIte, hdr, h2, hdl, stl2]
      with_reducible refine hK _ ?_
      clear hK K
      refine nx_then ?_
      refine awp_seqP rfl ?_
      refine awp_regP (Γ := noEnv) [20, 0, 5, 11, 12, 13] (noEnv_ok _ _) rfl rfl rfl (fun K hK => ?_)
      simp only [Tryd.f9, bodyOf, Option.getD_some, cl, cr, rOps, lights, light, rN, List.size_toArray, List.length_cons, List.length_nil, Nat.reduceAdd, Nat.zero_add, List.map_cons, List.map_nil, Option.map_none]
      simp (maxSteps := 300000) (disch := omega) only [go_sem, Nat.reduceAdd, Nat.reduceLT, ↓reduceIte, List.drop_succ_cons, List.drop_zero, List.head?_cons]
      with_reducible refine hK _ ?_
      clear hK K
      refine nx_then ?_
      refine awp_ifD (.tmp 20) rfl rfl rfl (fun h => ?_) (fun h => ?_)
      · skip
        refine awp_drop rfl ?_
        have ht := parse_at s k hkl h hn
        refine awp_seqP rfl ?_
        refine awp_regP (Γ := noEnv) [2, 3] (noEnv_ok _ _) rfl rfl rfl (fun K hK => ?_)
        simp only [Tryd.f9, bodyOf, Option.getD_some, cl, cr, rOps, lights, light, rN, List.size_toArray, List.length_cons, List.length_nil, Nat.reduceAdd, Nat.zero_add, List.map_cons, List.map_nil, Option.map_none]
        simp (maxSteps := 300000) (disch := omega) only [go_sem, Nat.reduceAdd, Nat.reduceLT, ↓reduceIte, List.drop_zero, List.head?_cons]
        with_reducible refine hK _ ?_
        clear hK K
        refine nx_then ?_
        refine awp_retP rfl ?_
        refine nx_ret_blk (nx_ret_then (nx_ret_loop (nx_ret_blk (nx_ret_then ?_))))
        simp (disch := omega) only [pureQ, resA, resAL, resA1, Tryd.f9, go_sem, ↓reduceIte, ht]
      · skip
        refine awp_drop rfl ?_
        refine awp_skipP rfl ?_
        refine nx_blk (nx_then ?_)
        refine awp_regP (Γ := noEnv) [0, 11, 12, 13] (noEnv_ok _ _) rfl rfl rfl (fun K hK => ?_)
        simp only [Tryd.f9, bodyOf, Option.getD_some, cl, cr, rOps, lights, light, rN, List.size_toArray, List.length_cons, List.length_nil, Nat.reduceAdd, Nat.zero_add, List.map_cons, List.map_nil, Option.map_none]
        simp (maxSteps := 300000) (disch := omega) only [go_sem, Nat.reduceAdd, ↓reduceIte]
        with_reducible refine hK _ ?_
        clear hK K
        refine nx_loop ?_
        refine ⟨⟨k + 1, _⟩, ⟨⟨by simp only; omega, fun j hj => ?_⟩, by simp only; omega⟩, by simp only; omega, ⟨fun _ => .inr ?_, fun j o h => ?_, Nat.le_refl _⟩⟩
        · by_cases e : j = k
          · subst e; exact h
          · exact hn j (by simp only at hj; omega)
        · simp only [Int.natCast_add, Int.natCast_one]
        · simp only at h
          exact hsub_cons (by simp (disch := omega) only [up_app, nat_ne, ↓reduceIte, eq_self]) (hsub_nil) j o h
    · skip
      refine awp_drop rfl ?_
      obtain rfl : k = 14 := by omega
      have ht := parse_no s hn
      obtain ⟨d, hd⟩ : ∃ d, s.drop 4 = d := ⟨_, rfl⟩
      have hdl : d.length = s.length - 4 := by rw [← hd, List.length_drop]
      rw [hd] at ht
      refine awp_exitN 0 rfl rfl ?_
      refine nx_ex_then (nx_ex_loop (nx_ex_blk ?_))
      refine nx_then ?_
      refine awp_seqP rfl ?_
      by_cases q3 : s.take 4 = typeW
      · skip
        rw [if_pos q3] at ht
        refine awp_regP (Γ := envL [(22, .pure true cutG)]) [6, 7] (envOK_cons ok22 envOK_nil) rfl rfl rfl (fun K hK => ?_)
        simp only [Tryd.f9, bodyOf, Option.getD_some, cl, cr, rOps, lights, light, rN, List.size_toArray, List.length_cons, List.length_nil, Nat.reduceAdd, Nat.zero_add, List.map_cons, List.map_nil, Option.map_none]
        simp (maxSteps := 300000) (disch := omega) only [go_sem, Nat.reduceAdd, Nat.reduceLeDiff, ↓reduceIte, q3, hd]
        with_reducible refine hK _ ?_
        clear hK K
        refine nx_then ?_
        by_cases q1 : d = []
        · skip
          have d1 : decide (d = []) = true := decide_eq_true q1
          have hno : parseL s = none := by rw [ht]; exact numL_no1 (.inl (by rw [q1]; rfl))
          refine awp_seqP rfl ?_
          refine awp_seqP rfl ?_
          refine awp_regP (Γ := noEnv) [49, 6] (noEnv_ok _ _) rfl rfl rfl (fun K hK => ?_)
          simp only [Tryd.f9, bodyOf, Option.getD_some, cl, cr, rOps, lights, light, rN, List.size_toArray, List.length_cons, List.length_nil, Nat.reduceAdd, Nat.zero_add, List.map_cons, List.map_nil, Option.map_none, Option.map_some, List.getElem?_toArray, List.getElem?_cons_zero, List.getElem?_cons_succ, Option.bind_some]
          simp (maxSteps := 300000) (disch := omega) only [go_sem, Nat.reduceAdd, reduceCtorEq, ↓reduceIte, d1, Bool.not_true]
          with_reducible refine hK _ ?_
          clear hK K
          refine nx_then ?_
          refine awp_ifB (.tmp 49) rfl rfl rfl (fun h => ?_) (fun h => ?_)
          · skip
            refine awp_drop rfl ?_
            refine awp_seqP rfl ?_
            refine awp_regP (Γ := noEnv) [2, 3] (noEnv_ok _ _) rfl rfl rfl (fun K hK => ?_)
            simp only [Tryd.f9, bodyOf, Option.getD_some, cl, cr, rOps, lights, light, rN, List.size_toArray, List.length_cons, List.length_nil, Nat.reduceAdd, Nat.zero_add, List.map_cons, List.map_nil, Option.map_none]
            simp (maxSteps := 300000) (disch := omega) only [go_sem, Nat.reduceAdd, Int.reduceLE, Int.reduceLT, BitVec.reduceOfInt, ↓reduceIte]
            with_reducible refine hK _ ?_
            clear hK K
            refine nx_then ?_
            refine awp_retP rfl ?_
            refine nx_ret_then ?_
            simp (disch := omega) only [pureQ, resA, resAL, resA1, Tryd.f9, go_sem, ↓reduceIte, hno]
          · skip
            refine awp_drop rfl ?_
            cases h
        · skip
          have d1 : decide (d = []) = false := decide_eq_false q1
          have hl1 : 1 ≤ d.length := by cases d with | nil => exact absurd rfl q1 | cons a l => simp
          by_cases q2 : 5 < d.length
          · skip
            have d2 : decide (5 < (d.length : Int)) = true := decide_eq_true (by omega)
            have hno : parseL s = none := by rw [ht]; exact numL_no1 (.inr (.inl q2))
            refine awp_seqP rfl ?_
            refine awp_seqP rfl ?_
            refine awp_regP (Γ := noEnv) [49, 6] (noEnv_ok _ _) rfl rfl rfl (fun K hK => ?_)
            simp only [Tryd.f9, bodyOf, Option.getD_some, cl, cr, rOps, lights, light, rN, List.size_toArray, List.length_cons, List.length_nil, Nat.reduceAdd, Nat.zero_add, List.map_cons, List.map_nil, Option.map_none, Option.map_some, List.getElem?_toArray, List.getElem?_cons_zero, List.getElem?_cons_succ, Option.bind_some]
            simp (maxSteps := 300000) (disch := omega) only [go_sem, Nat.reduceAdd, reduceCtorEq, ↓reduceIte, d1, d2, Bool.not_true]
            with_reducible refine hK _ ?_
            clear hK K
            refine nx_then ?_
            refine awp_ifB (.tmp 49) rfl rfl rfl (fun h => ?_) (fun h => ?_)
            · skip
              refine awp_drop rfl ?_
              refine awp_seqP rfl ?_
              refine awp_regP (Γ := noEnv) [2, 3] (noEnv_ok _ _) rfl rfl rfl (fun K hK => ?_)
              simp only [Tryd.f9, bodyOf, Option.getD_some, cl, cr, rOps, lights, light, rN, List.size_toArray, List.length_cons, List.length_nil, Nat.reduceAdd, Nat.zero_add, List.map_cons, List.map_nil, Option.map_none]
              simp (maxSteps := 300000) (disch := omega) only [go_sem, Nat.reduceAdd, Int.reduceLE, Int.reduceLT, BitVec.reduceOfInt, ↓reduceIte]
              with_reducible refine hK _ ?_
              clear hK K
              refine nx_then ?_
              refine awp_retP rfl ?_
              refine nx_ret_then ?_
              simp (disch := omega) only [pureQ, resA, resAL, resA1, Tryd.f9, go_sem, ↓reduceIte, hno]
            · skip
              refine awp_drop rfl ?_
              cases h
          · skip
            have d2 : decide (5 < (d.length : Int)) = false := decide_eq_false (by omega)
            by_cases q4 : 1 < d.length
            · skip
              have d4 : decide (1 < (d.length : Int)) = true := decide_eq_true (by omega)
              have hi4 := idF4 d 0 (by omega)
              by_cases q5 : d.getD 0 0#8 = 48#8
              · skip
                have d5 : decide (d.getD 0 0#8 = 48#8) = true := decide_eq_true q5
                have hno : parseL s = none := by rw [ht]; exact numL_no1 (.inr (.inr ⟨by omega, q5⟩))
                refine awp_seqP rfl ?_
                refine awp_seqP rfl ?_
                refine awp_regP (Γ := noEnv) [49, 6] (noEnv_ok _ _) rfl rfl rfl (fun K hK => ?_)
                simp only [Tryd.f9, bodyOf, Option.getD_some, cl, cr, rOps, lights, light, rN, List.size_toArray, List.length_cons, List.length_nil, Nat.reduceAdd, Nat.zero_add, List.map_cons, List.map_nil, Option.map_none, Option.map_some, List.getElem?_toArray, List.getElem?_cons_zero, List.getElem?_cons_succ, Option.bind_some]
                simp (maxSteps := 300000) (disch := omega) only [go_sem, Nat.reduceAdd, Int.reduceLE, Int.reduceLT, Int.reduceToNat, BitVec.reduceOfInt, reduceCtorEq, ↓reduceIte, d1, d2, d4, hi4, d5, Bool.not_true]
                with_reducible refine hK _ ?_
                clear hK K
                refine nx_then ?_
                refine awp_ifB (.tmp 49) rfl rfl rfl (fun h => ?_) (fun h => ?_)
                · skip
                  refine awp_drop rfl ?_
                  refine awp_seqP rfl ?_
                  refine awp_regP (Γ := noEnv) [2, 3] (noEnv_ok _ _) rfl rfl rfl (fun K hK => ?_)
                  simp only [Tryd.f9, bodyOf, Option.getD_some, cl, cr, rOps, lights, light, rN, List.size_toArray, List.length_cons, List.length_nil, Nat.reduceAdd, Nat.zero_add, List.map_cons, List.map_nil, Option.map_none]
                  simp (maxSteps := 300000) (disch := omega) only [go_sem, Nat.reduceAdd, Int.reduceLE, Int.reduceLT, BitVec.reduceOfInt, ↓reduceIte]
                  with_reducible refine hK _ ?_
                  clear hK K
                  refine nx_then ?_
                  refine awp_retP rfl ?_
                  refine nx_ret_then ?_
                  simp (disch := omega) only [pureQ, resA, resAL, resA1, Tryd.f9, go_sem, ↓reduceIte, hno]
                · skip
                  refine awp_drop rfl ?_
                  cases h
              · skip
                have d5 : decide (d.getD 0 0#8 = 48#8) = false := decide_eq_false q5
                have hnum := numL_if (d := d) (by rintro (h | h | ⟨h, h2⟩) <;> first | omega | exact q5 h2)
                refine awp_seqP rfl ?_
                refine awp_seqP rfl ?_
                refine awp_regP (Γ := noEnv) [49, 6] (noEnv_ok _ _) rfl rfl rfl (fun K hK => ?_)
                simp only [Tryd.f9, bodyOf, Option.getD_some, cl, cr, rOps, lights, light, rN, List.size_toArray, List.length_cons, List.length_nil, Nat.reduceAdd, Nat.zero_add, List.map_cons, List.map_nil, Option.map_none, Option.map_some, List.getElem?_toArray, List.getElem?_cons_zero, List.getElem?_cons_succ, Option.bind_some]
                simp (maxSteps := 300000) (disch := omega) only [go_sem, Nat.reduceAdd, Int.reduceLE, Int.reduceLT, Int.reduceToNat, BitVec.reduceOfInt, reduceCtorEq, ↓reduceIte, d1, d2, d4, hi4, d5, Bool.not_true]
                with_reducible refine hK _ ?_
                clear hK K
                refine nx_then ?_
                refine awp_ifB (.tmp 49) rfl rfl rfl (fun h => ?_) (fun h => ?_)
                · skip
                  refine awp_drop rfl ?_
                  cases h
                · skip
                  refine awp_drop rfl ?_
                  clear h
                  refine awp_skipP rfl ?_
                  refine nx_then ?_
                  rw [ht]
                  exact par_rest d hl1 (by omega) hnum _ _ _
            · skip
              have d4 : decide (1 < (d.length : Int)) = false := decide_eq_false (by omega)
              have hnum := numL_if (d := d) (by rintro (h | h | ⟨h, h2⟩) <;> omega)
              refine awp_seqP rfl ?_
              refine awp_seqP rfl ?_
              refine awp_regP (Γ := noEnv) [49, 6] (noEnv_ok _ _) rfl rfl rfl (fun K hK => ?_)
              simp only [Tryd.f9, bodyOf, Option.getD_some, cl, cr, rOps, lights, light, rN, List.size_toArray, List.length_cons, List.length_nil, Nat.reduceAdd, Nat.zero_add, List.map_cons, List.map_nil, Option.map_none, Option.map_some, List.getElem?_toArray, List.getElem?_cons_zero, List.getElem?_cons_succ, Option.bind_some]
              simp (maxSteps := 300000) (disch := omega) only [go_sem, Nat.reduceAdd, reduceCtorEq, ↓reduceIte, d1, d2, d4, Bool.not_true]
              with_reducible refine hK _ ?_
              clear hK K
              refine nx_then ?_
              refine awp_ifB (.tmp 49) rfl rfl rfl (fun h => ?_) (fun h => ?_)
              · skip
                refine awp_drop rfl ?_
                cases h
              · skip
                refine awp_drop rfl ?_
                clear h
                refine awp_skipP rfl ?_
                refine nx_then ?_
                rw [ht]
                exact par_rest d hl1 (by omega) hnum _ _ _
      · skip
        rw [if_neg q3] at ht
        refine awp_regP (Γ := envL [(22, .pure true cutG)]) [6, 7] (envOK_cons ok22 envOK_nil) rfl rfl rfl (fun K hK => ?_)
        simp only [Tryd.f9, bodyOf, Option.getD_some, cl, cr, rOps, lights, light, rN, List.size_toArray, List.length_cons, List.length_nil, Nat.reduceAdd, Nat.zero_add, List.map_cons, List.map_nil, Option.map_none]
        simp (maxSteps := 300000) (disch := omega) only [go_sem, Nat.reduceAdd, Nat.reduceLeDiff, ↓reduceIte, q3]
        with_reducible refine hK _ ?_
        clear hK K
        refine nx_then ?_
        refine awp_seqP rfl ?_
        refine awp_seqP rfl ?_
        refine awp_regP (Γ := noEnv) [49, 6] (noEnv_ok _ _) rfl rfl rfl (fun K hK => ?_)
        simp only [Tryd.f9, bodyOf, Option.getD_some, cl, cr, rOps, lights, light, rN, List.size_toArray, List.length_cons, List.length_nil, Nat.reduceAdd, Nat.zero_add, List.map_cons, List.map_nil, Option.map_none, Option.map_some, List.getElem?_toArray, List.getElem?_cons_zero, List.getElem?_cons_succ, Option.bind_some]
        simp (maxSteps := 300000) (disch := omega) only [go_sem, Nat.reduceAdd, ↓reduceIte, Bool.not_false]
        with_reducible refine hK _ ?_
        clear hK K
        refine nx_then ?_
        refine awp_ifB (.tmp 49) rfl rfl rfl (fun h => ?_) (fun h => ?_)
        · skip
          refine awp_drop rfl ?_
          refine awp_seqP rfl ?_
          refine awp_regP (Γ := noEnv) [2, 3] (noEnv_ok _ _) rfl rfl rfl (fun K hK => ?_)
          simp only [Tryd.f9, bodyOf, Option.getD_some, cl, cr, rOps, lights, light, rN, List.size_toArray, List.length_cons, List.length_nil, Nat.reduceAdd, Nat.zero_add, List.map_cons, List.map_nil, Option.map_none]
          simp (maxSteps := 300000) (disch := omega) only [go_sem, Nat.reduceAdd, Int.reduceLE, Int.reduceLT, BitVec.reduceOfInt, ↓reduceIte]
          with_reducible refine hK _ ?_
          clear hK K
          refine nx_then ?_
          refine awp_retP rfl ?_
          refine nx_ret_then ?_
          simp (disch := omega) only [pureQ, resA, resAL, resA1, Tryd.f9, go_sem, ↓reduceIte, ht]
        · skip
          refine awp_drop rfl ?_
          cases h
  · cases hg
theorem ok9 : EntOK Tryd.prog GLh 9 (.pure true parG) := ⟨⟨_, Tryd.func9, rfl, rfl⟩, par_ok⟩
end Go.AX
