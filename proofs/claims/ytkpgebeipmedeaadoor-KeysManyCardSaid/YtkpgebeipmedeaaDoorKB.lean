/-
  Keys, part E: a key signs; its DNSKEY. Keys, part F: a key's DNSKEY. Keys, part G: known. Keys, part H: the statement KeysLeaves.
-/
import Derived.Test.YtkpgebeipmedeaaDoorKA
namespace Go.AX
open Go Go.Proofs
set_option maxRecDepth 8000

/-- The bytes that a slice shows; it is not written any more. -/
def xFo (hp : H) (i off n : Nat) : AO → Option (List B8 × H)
  | .cells ys _ => obind (un8 ys) fun l => guardO (off + n ≤ l.length) (some ((l.drop off).take n, upd hp i (.cells ys false)))
  | .mapo _ _ => none
def xF (hp : H) : AV → Option (List B8 × H)
  | .sl n xs => obind (un8 xs) fun b => guardO (b.length = n) (some (b, hp))
  | .v (.slice none 0 0) => some ([], hp)
  | .os i off n e _ => guardO (e = 1) (obind (hp i) (xFo hp i off n))
  | _ => none
theorem xF_sl (hp : H) (n : Nat) (xs : List AV) : xF hp (.sl n xs) = obind (un8 xs) fun b => guardO (b.length = n) (some (b, hp)) := (rfl)
theorem xF_nil (hp : H) : xF hp (.v (.slice none 0 0)) = some ([], hp) := (rfl)
theorem xF_os (hp : H) (i off n e : Nat) (g : Bool) : xF hp (.os i off n e g) = guardO (e = 1) (obind (hp i) (xFo hp i off n)) := (rfl)
theorem xFo_c (hp : H) (i off n : Nat) (ys : List AV) (mt : Bool) : xFo hp i off n (.cells ys mt) = obind (un8 ys) fun l => guardO (off + n ≤ l.length) (some ((l.drop off).take n, upd hp i (.cells ys false))) := (rfl)
attribute [go_sem] xF_sl xF_nil xF_os xFo_c
theorem upd_comm (hp : H) (i j : Nat) (a b : AO) (h : i ≠ j) : upd (upd hp i a) j b = upd (upd hp j b) i a := by
  funext k
  simp only [upd_apply]
  by_cases h1 : k = i
  · subst h1; simp [h]
  · simp [h1]
theorem xF_ok {hp hp1 : H} {x : AV} {b : List B8} {nx d s m : Nat} {C : RC} (h : xF hp x = some (b, hp1)) (hD : RHas hp d s m C) (hn : ∀ id, nx ≤ id → hp id = none) (C' : RC) (j : Nat) (a : AO) (hj : nx ≤ j) :
    frzArg (setR d s m C' (upd hp j a)) x = some (.sl b.length (c8 b), setR d s m C' (upd hp1 j a)) := by
  unfold xF at h
  split at h
  · rename_i n xs
    replace h := obind_inv h; obtain ⟨l, hl, h⟩ := h
    replace h := guardO_inv h; obtain ⟨hn, h⟩ := h
    simp only [Option.some.injEq, Prod.mk.injEq] at h
    obtain ⟨rfl, rfl⟩ := h
    have := un8_inv _ hl
    subst this; subst hn
    rfl
  · simp only [Option.some.injEq, Prod.mk.injEq] at h
    obtain ⟨rfl, rfl⟩ := h
    rfl
  · rename_i i off n e g
    replace h := guardO_inv h; obtain ⟨rfl, h⟩ := h
    replace h := obind_inv h; obtain ⟨o, ho, h⟩ := h
    cases o with
    | mapo es mt => cases h
    | cells ys mt =>
      simp only [xFo] at h
      replace h := obind_inv h; obtain ⟨l, hl, h⟩ := h
      replace h := guardO_inv h; obtain ⟨hfit, h⟩ := h
      simp only [Option.some.injEq, Prod.mk.injEq] at h
      obtain ⟨rfl, rfl⟩ := h
      have hys := un8_inv _ hl
      subst hys
      have hi : i < nx := lt_of_none2 hn ho
      have hlen : ((l.drop off).take n).length = n := by simp; omega
      have i1 : i ≠ d := by
        intro e; subst e
        have := ho.symm.trans hD.hd
        have := (AO.cells.inj (Option.some.inj this)).1
        cases l with
        | nil => cases this
        | cons a r => cases (List.cons.inj this).1
      have i2 : i ≠ s := by
        intro e; subst e
        have := ho.symm.trans hD.hs
        cases this
      have i3 : i ≠ m := by
        intro e; subst e
        have := ho.symm.trans hD.hm
        cases this
      have e0 : setR d s m C' (upd hp j a) i = some (.cells (c8 l) mt) := by
        rw [setR_app _ _ _ _ _ _ i1 i2 i3, upd_apply, if_neg (by omega)]; exact ho
      rw [fz_os, e0, obind_some, fzO_c, guardO_true _ (by rw [c8_len]; omega), Nat.mul_one, c8_drop, c8_take, hlen, setR_upd _ _ _ _ _ _ _ i1 i2 i3, upd_comm _ j i _ _ (by omega)]
  · cases h
theorem xF_none {hp hp1 : H} {x : AV} {b : List B8} {nx : Nat} (h : xF hp x = some (b, hp1)) (hn : ∀ id, nx ≤ id → hp id = none) : ∀ id, nx ≤ id → hp1 id = none := by
  unfold xF at h
  split at h
  · rename_i n xs
    replace h := obind_inv h; obtain ⟨l, hl, h⟩ := h
    replace h := guardO_inv h; obtain ⟨_, h⟩ := h
    simp only [Option.some.injEq, Prod.mk.injEq] at h
    obtain ⟨_, rfl⟩ := h
    exact hn
  · simp only [Option.some.injEq, Prod.mk.injEq] at h
    obtain ⟨_, rfl⟩ := h
    exact hn
  · rename_i i off n e g
    replace h := guardO_inv h; obtain ⟨rfl, h⟩ := h
    replace h := obind_inv h; obtain ⟨o, ho, h⟩ := h
    cases o with
    | mapo es mt => cases h
    | cells ys mt =>
      simp only [xFo] at h
      replace h := obind_inv h; obtain ⟨l, hl, h⟩ := h
      replace h := guardO_inv h; obtain ⟨hfit, h⟩ := h
      simp only [Option.some.injEq, Prod.mk.injEq] at h
      obtain ⟨_, rfl⟩ := h
      have hi : i < nx := lt_of_none2 hn ho
      intro id hid
      rw [upd_apply, if_neg (by omega)]
      exact hn id hid
  · cases h
def selH (x : Option (List B8)) (a b : H) : H := match x with
  | none => a
  | some _ => b
theorem selH_n (a b : H) : selH none a b = a := rfl
theorem selH_y (x : List B8) (a b : H) : selH (some x) a b = b := rfl
def bA : Option (List B8) → AV
  | none => .v (.slice none 0 0)
  | some b => .sl b.length (c8 b)
theorem bA_n : bA none = .v (.slice none 0 0) := rfl
theorem bA_y (b : List B8) : bA (some b) = .sl b.length (c8 b) := rfl
def sgC (C : RC) (id : W32) (k : KY) : RC := { C with tr := trP C k, by' := putK id { k with next := k.next + 1#32 } C.by' }
def sgV (C : RC) (id : W32) (msg : List B8) : Option (List B8) × Int × RC := match getK id C.by' with
  | none => (none, 130, C)
  | some k => if nlv k.h - k.next = 0#32 then (none, 132, C) else (some (tsignL k.seed.l k.h k.next msg), 0, sgC C id k)
theorem sgV_n {C : RC} {id : W32} {msg : List B8} (h : getK id C.by' = none) : sgV C id msg = (none, 130, C) := by rw [sgV, h]
theorem sgV_y {C : RC} {id : W32} {msg : List B8} {k : KY} (h : getK id C.by' = some k) : sgV C id msg = if nlv k.h - k.next = 0#32 then (none, 132, C) else (some (tsignL k.seed.l k.h k.next msg), 0, sgC C id k) := by rw [sgV, h]
theorem sub_ne {h : Nat} {n : W32} (hh : h ≤ 10) (hn : n.toNat ≤ 2 ^ h) : (nlv h - n = 0#32) ↔ n.toNat = 2 ^ h := by
  have e := nlv_nat hh
  have := (pow_le10 hh).1
  rw [← BitVec.toNat_inj, BitVec.toNat_sub, e]
  show (2 ^ 32 - n.toNat + 2 ^ h) % 2 ^ 32 = 0 ↔ _
  omega
theorem suc_nat {h : Nat} {n : W32} (hh : h ≤ 10) (hn : n.toNat ≤ 2 ^ h) : (n + 1#32).toNat = n.toNat + 1 := by
  have := (pow_le10 hh).1
  rw [BitVec.toNat_add]
  show (n.toNat + 1) % 2 ^ 32 = _
  omega
theorem ROk.sgC {C : RC} (h : ROk C) {id : W32} {k : KY} (hk : getK id C.by' = some k) (hn : ¬ nlv k.h - k.next = 0#32) : ROk (sgC C id k) := by
  obtain ⟨b1, b2, b3, b4⟩ := h.key _ _ hk
  have h2 : ROk { C with tr := AX.trP C k } := h.trP (by rw [b1]; exact hk)
  have e1 := suc_nat b2 b3
  have e2 := sub_ne b2 b3
  have e3 : k.next.toNat ≠ 2 ^ k.h := fun e => hn (e2.2 e)
  exact h2.skC (id := id) (n := k.next + 1#32) hk (by omega)
theorem ROk.sgV {C : RC} (h : ROk C) (id : W32) (msg : List B8) : ROk (sgV C id msg).2.2 := by
  rcases hk : getK id C.by' with _ | k
  · rw [sgV_n hk]; exact h
  · rw [sgV_y hk]
    split
    · exact h
    · rename_i hn; exact h.sgC hk hn
noncomputable def ksignG : List AV → H → Nat → Option (AV × H × Nat)
  | [.op d 0, .w32 id, x], hp, nx => obind (rngOf hp d) fun t => obind (xF hp x) fun mh => guardO (ROk t.C ∧ mh.1.length ≤ 900000000) (some (.tup [bA (sgV t.C id mh.1).1, .i (sgV t.C id mh.1).2.1], setR d t.s t.m (sgV t.C id mh.1).2.2 (selH (sgV t.C id mh.1).1 hp mh.2), nx + 300))
  | _, _, _ => none
theorem ksignG_eq (d : Nat) (id : W32) (x : AV) (hp : H) (nx : Nat) : ksignG [.op d 0, .w32 id, x] hp nx = obind (rngOf hp d) fun t => obind (xF hp x) fun mh => guardO (ROk t.C ∧ mh.1.length ≤ 900000000) (some (.tup [bA (sgV t.C id mh.1).1, .i (sgV t.C id mh.1).2.1], setR d t.s t.m (sgV t.C id mh.1).2.2 (selH (sgV t.C id mh.1).1 hp mh.2), nx + 300)) := (rfl)
attribute [go_sem] ksignG_eq
theorem rng_upd {hp : H} {d s m : Nat} {C : RC} (h : RHas hp d s m C) (j : Nat) (a : AO) (h1 : j ≠ d) (h2 : j ≠ s) (h3 : j ≠ m) : rngOf (upd hp j a) d = some ⟨s, m, C⟩ :=
  rngOf_has ⟨by rw [upd_apply, if_neg (Ne.symm h1)]; exact h.hd, by rw [upd_apply, if_neg (Ne.symm h2)]; exact h.hs, by rw [upd_apply, if_neg (Ne.symm h3)]; exact h.hm, h.ne⟩
set_option maxHeartbeats 1000000 in
theorem ksign_ok : HeapOK Tryd.prog GLh 12 ksignG := by
  refine heap_of_awp Tryd.func12 (bodyOf_some rfl) ?_
  intro args hp nx r hp' nx' hg
  unfold ksignG at hg
  split at hg
  · rename_i d id x
    replace hg := obind_inv hg; obtain ⟨⟨s, m, C⟩, hD0, hg⟩ := hg
    have hD := rngOf_inv hD0
    replace hg := obind_inv hg; obtain ⟨⟨msg, hp1⟩, hx, hg⟩ := hg
    replace hg := guardO_inv hg; obtain ⟨⟨hok, hml⟩, hg⟩ := hg
    simp only [Option.some.injEq, Prod.mk.injEq] at hg hD hok hml; obtain ⟨rfl, rfl, rfl⟩ := hg
    refine ⟨Nat.le_of_ble_eq_true rfl, by omega, fun hnone => ?_⟩
    have h1 := hD.hd; have h2 := hD.hs; have h3 := hD.hm
    obtain ⟨n1, n2, n3, n4, n5, n6⟩ := hD.ne
    have hlt : ∀ k o, hp k = some o → k < nx := fun k o hk => lt_of_none2 hnone hk
    have hd := hlt _ _ h1
    have hs := hlt _ _ h2
    have hm := hlt _ _ h3
    refine awp_seqP rfl ?_
    refine awp_regP (Γ := noEnv) [0, 1, 2] (noEnv_ok _ _) rfl rfl rfl (fun K hK => ?_)
    simp (disch := omega) only [Tryd.f12, go_sem, Nat.reduceAdd, ↓reduceIte]
    refine hK _ ?_
    clear hK K
    refine nx_then ?_
    rcases hk : getK id C.by' with _ | k
    · skip
      rw [sgV_n hk]
      refine awp_seqP rfl ?_
      refine awp_regP (Γ := noEnv) [0, 1, 2, 8, 9] (noEnv_ok _ _) rfl rfl rfl (fun K hK => ?_)
      simp (disch := omega) only [Tryd.f12, go_sem, Nat.reduceAdd, Nat.reduceLeDiff, Nat.reduceLT, ↓reduceIte, h1, h2, hk, rgC_eq, List.head?_cons, List.drop_succ_cons, List.drop_zero]
      refine hK _ ?_
      clear hK K
      refine nx_then ?_
      refine awp_seqP rfl ?_
      refine awp_blockN 0 rfl rfl ?_
      refine awp_seqP rfl ?_
      refine awp_regP (Γ := noEnv) [21, 0, 1, 2, 8] (noEnv_ok _ _) rfl rfl rfl (fun K hK => ?_)
      simp (disch := omega) only [Tryd.f12, go_sem, Nat.reduceAdd, ↓reduceIte]
      refine hK _ ?_
      clear hK K
      refine nx_then ?_
      refine awp_ifB (.tmp 21) rfl rfl rfl (fun h => ?_) (fun h => ?_)
      · skip
        refine awp_drop rfl ?_
        refine awp_seqP rfl ?_
        refine awp_regP (Γ := noEnv) [6, 7] (noEnv_ok _ _) rfl rfl rfl (fun K hK => ?_)
        simp (disch := omega) only [Tryd.f12, go_sem, Nat.reduceAdd, ↓reduceIte]
        refine hK _ ?_
        clear hK K
        refine nx_then ?_
        refine awp_retP rfl ?_
        refine nx_ret_blk (nx_ret_then ?_)
        rw [selH_n, setR_same hD]
        exact ⟨rfl, fun j o h => hsub_new hnone (by omega) j o h, by simp only; omega⟩
      · skip
        refine awp_drop rfl ?_
        cases h
    · skip
      obtain ⟨k1, k2, k3, k4⟩ := hok.key _ _ hk
      have e1 := shl_nlv k2
      have ek := sgV_y (msg := msg) hk
      refine awp_seqP rfl ?_
      refine awp_regP (Γ := noEnv) [0, 1, 2, 8, 9] (noEnv_ok _ _) rfl rfl rfl (fun K hK => ?_)
      simp (disch := omega) only [Tryd.f12, go_sem, Nat.reduceAdd, Nat.reduceLeDiff, Nat.reduceLT, ↓reduceIte, h1, h2, hk, rgC_eq, encK_eq, List.head?_cons, List.drop_succ_cons, List.drop_zero]
      refine hK _ ?_
      clear hK K
      refine nx_then ?_
      refine awp_seqP rfl ?_
      refine awp_blockN 0 rfl rfl ?_
      refine awp_seqP rfl ?_
      refine awp_regP (Γ := noEnv) [21, 0, 1, 2, 8] (noEnv_ok _ _) rfl rfl rfl (fun K hK => ?_)
      simp (disch := omega) only [Tryd.f12, go_sem, Nat.reduceAdd, ↓reduceIte]
      refine hK _ ?_
      clear hK K
      refine nx_then ?_
      refine awp_ifB (.tmp 21) rfl rfl rfl (fun h => ?_) (fun h => ?_)
      · skip
        refine awp_drop rfl ?_
        cases h
      · skip
        refine awp_drop rfl ?_
        clear h
        have elf := lfV_y hk
        have hru := rng_upd hD
        have hno1 := xF_none hx hnone
        have hx2 := xF_ok hx hD hnone
        have hki : getK k.id C.by' = some k := by rw [k1]; exact hk
        have hky : kyOf [.w32 k.id, .i k.role, .i k.st, .w8 k.seed.a, .w8 k.seed.b, .w8 k.seed.c, .w8 k.seed.d, .w8 k.seed.e, .w8 k.seed.f, .w8 k.seed.g, .w8 k.seed.h, .i k.h, .w32 k.next, .w32 k.since, .w32 k.seen] = some k := kyOf_kyC k
        refine awp_seqP rfl ?_
        refine awp_regP (Γ := envL [(14, .heap leftG)]) [24, 0, 1, 2, 8] (envOK_cons okd14 envOK_nil) rfl rfl rfl (fun K hK => ?_)
        simp (disch := omega) only [Tryd.f12, go_sem, Nat.reduceAdd, Int.reduceLE, Int.reduceLT, BitVec.reduceOfInt, ↓reduceIte, hru, hok, elf]
        refine hK _ ?_
        clear hK K
        refine nx_then ?_
        refine awp_ifD (.tmp 24) rfl rfl rfl (fun h => ?_) (fun h => ?_)
        · skip
          refine awp_drop rfl ?_
          rw [if_pos h] at ek
          rw [ek]
          refine awp_seqP rfl ?_
          refine awp_regP (Γ := noEnv) [6, 7] (noEnv_ok _ _) rfl rfl rfl (fun K hK => ?_)
          simp (disch := omega) only [Tryd.f12, go_sem, Nat.reduceAdd, ↓reduceIte]
          refine hK _ ?_
          clear hK K
          refine nx_then ?_
          refine awp_retP rfl ?_
          refine nx_ret_blk (nx_ret_then ?_)
          rw [selH_n, setR_same hD]
          exact ⟨rfl, fun j o h => hsub_new hnone (by omega) j o h, by simp only; omega⟩
        · skip
          refine awp_drop rfl ?_
          rw [if_neg h] at ek
          rw [ek]
          have hun := unT_trC k.seed.l k.h k.seed.len k2
          have hsb := sub_ne k2 k3
          have hlt2 : k.next.toNat < 2 ^ k.h := by have : k.next.toNat ≠ 2 ^ k.h := fun e => h (hsb.2 e); omega
          have htr : tsignR k.seed.l k.h k.next msg = .tup [.sl (tsignL k.seed.l k.h k.next msg).length (c8 (tsignL k.seed.l k.h k.next msg)), .i 0] := by rw [tsignR_y _ _ _ _ hlt2, tsignL_len]
          refine awp_skipP rfl ?_
          refine nx_blk (nx_then ?_)
          refine awp_seqP rfl ?_
          refine awp_dr2 (Γ := envL [(28, .heap treeG), (31, .pure false tsignG)]) 2 4 [0, 1, 2, 3, 4, 5, 6, 7, 8, 9, 10, 11] [3, 4, 0, 1, 2, 5, 6, 7, 8, 9, 10, 11] (fun k => if k = 2 then 0 else if k = 6 then 0 else 2) [0, 1, 8, 10] mixed (envOK_cons okd28 (envOK_cons ok55 envOK_nil)) (by decide) rfl rfl rfl (by kernel_rfl) (fun K hK => ?_) (fun K hK => ?_)
          · skip
            simp (disch := omega) only [Tryd.f12, go_sem, runM_nil, runM_cons, stepI_some, List.getElem?_cons_zero, List.getElem?_cons_succ, Nat.reduceAdd, Nat.reduceLeDiff, Nat.reduceLT, ↓reduceIte, hru, hok, hki, hky, hx2, hun, htr, List.head?_cons, List.take_succ_cons, List.take_zero, List.drop_succ_cons, List.drop_zero]
            refine hK _ ?_
            clear hK K
            refine nx_then ?_
            refine awp_seqP rfl ?_
            refine awp_regP (Γ := noEnv) [0, 1, 8, 10] (noEnv_ok _ _) rfl rfl rfl (fun K hK => ?_)
            simp (disch := omega) only [Tryd.f12, go_sem, Nat.reduceAdd, Nat.reduceLeDiff, Nat.reduceLT, Int.reduceLE, Int.reduceLT, BitVec.reduceOfInt, ↓reduceIte, List.head?_cons, List.set_cons_succ, List.set_cons_zero, List.drop_succ_cons, List.drop_zero]
            refine hK _ ?_
            clear hK K
            refine nx_then ?_
            refine awp_seqP rfl ?_
            refine awp_drwP (Γ := noEnv) (fun _ => 2) [10] mixed (noEnv_ok _ _) rfl rfl rfl (by kernel_rfl) (fun K hK => ?_)
            simp (disch := omega) only [Tryd.f12, go_sem, Nat.reduceAdd, Nat.reduceLeDiff, Nat.reduceLT, ↓reduceIte, setR_d, setR_s, rgC_eq, List.head?_cons, List.take_succ_cons, List.take_zero, List.drop_succ_cons, List.drop_zero]
            refine hK _ ?_
            clear hK K
            refine nx_then ?_
            refine awp_seqP rfl ?_
            refine awp_regP (Γ := noEnv) [6, 7] (noEnv_ok _ _) rfl rfl rfl (fun K hK => ?_)
            simp (disch := omega) only [Tryd.f12, go_sem, Nat.reduceAdd, ↓reduceIte]
            refine hK _ ?_
            clear hK K
            refine nx_then ?_
            refine awp_retP rfl ?_
            exact ⟨rfl, fun j o h => setR_mono (fun j2 o2 h2 => hsub_new hno1 (by omega) j2 o2 h2) j o h, by simp only; omega⟩
          · skip
            simp (disch := omega) only [Tryd.f12, go_sem, runM_nil, runM_cons, stepI_some, List.getElem?_cons_zero, List.getElem?_cons_succ, Nat.reduceAdd, Nat.reduceLeDiff, Nat.reduceLT, ↓reduceIte, hru, hok, hki, hky, hx2, hun, htr, List.head?_cons, List.take_succ_cons, List.take_zero, List.drop_succ_cons, List.drop_zero]
            refine hK _ ?_
            clear hK K
            refine nx_then ?_
            refine awp_seqP rfl ?_
            refine awp_regP (Γ := noEnv) [0, 1, 8, 10] (noEnv_ok _ _) rfl rfl rfl (fun K hK => ?_)
            simp (disch := omega) only [Tryd.f12, go_sem, Nat.reduceAdd, Nat.reduceLeDiff, Nat.reduceLT, Int.reduceLE, Int.reduceLT, BitVec.reduceOfInt, ↓reduceIte, List.head?_cons, List.set_cons_succ, List.set_cons_zero, List.drop_succ_cons, List.drop_zero]
            refine hK _ ?_
            clear hK K
            refine nx_then ?_
            refine awp_seqP rfl ?_
            refine awp_drwP (Γ := noEnv) (fun _ => 2) [10] mixed (noEnv_ok _ _) rfl rfl rfl (by kernel_rfl) (fun K hK => ?_)
            simp (disch := omega) only [Tryd.f12, go_sem, Nat.reduceAdd, Nat.reduceLeDiff, Nat.reduceLT, ↓reduceIte, setR_d, setR_s, rgC_eq, List.head?_cons, List.take_succ_cons, List.take_zero, List.drop_succ_cons, List.drop_zero]
            refine hK _ ?_
            clear hK K
            refine nx_then ?_
            refine awp_seqP rfl ?_
            refine awp_regP (Γ := noEnv) [6, 7] (noEnv_ok _ _) rfl rfl rfl (fun K hK => ?_)
            simp (disch := omega) only [Tryd.f12, go_sem, Nat.reduceAdd, ↓reduceIte]
            refine hK _ ?_
            clear hK K
            refine nx_then ?_
            refine awp_retP rfl ?_
            exact ⟨rfl, fun j o h => setR_mono (fun j2 o2 h2 => hsub_new hno1 (by omega) j2 o2 h2) j o h, by simp only; omega⟩
  · cases hg
theorem okd12 : EntOK Tryd.prog GLh 12 (.heap ksignG) := ⟨⟨_, Tryd.func12, rfl, rfl⟩, ksign_ok⟩
end Go.AX

namespace Go.AX
open Go Go.Proofs
set_option maxRecDepth 8000

def flK (k : KY) : BitVec 16 := if k.role = 1 then 257#16 else 256#16
/-- A key's DNSKEY. -/
def dkB (k : KY) : List B8 := keyB (flK k) 3#8 253#8 (nodeL k.seed.l k.h 0)
theorem dkB_len (k : KY) : (dkB k).length = 12 := by
  rw [dkB, keyB, List.length_append, nodeL_len]; rfl
def dtN (k : KY) : Nat := if k.role = 1 then 135 else 130
theorem dtN_y {k : KY} (h : k.role = 1) : dtN k = 135 := if_pos h
theorem dtN_n {k : KY} (h : ¬ k.role = 1) : dtN k = 130 := if_neg h
theorem hsub_row {hp t : H} {i : Nat} {a : AO} (ht : t i = some a) (hs : ∀ j o, j ≠ i → hp j = some o → t j = some o) : ∀ j o, upd hp i a j = some o → t j = some o := by
  intro j o h
  rw [upd_apply] at h
  split at h
  · rename_i e; subst e; rw [ht]; exact h
  · rename_i e; exact hs j o e h
noncomputable def datR (d s m : Nat) (C : RC) (hp : H) (nx : Nat) : Option KY → Option (AV × H × Nat)
  | none => some (.tup [.v (.slice none 0 0), .b false], setR d s m C hp, nx + 400)
  | some k => some (.tup [.os (nx + dtN k) 0 12 1 true, .b true], setR d s m { C with tr := trP C k } (upd hp (nx + dtN k) (.cells (c8 (dkB k)) true)), nx + 400)
theorem datR_n (d s m : Nat) (C : RC) (hp : H) (nx : Nat) : datR d s m C hp nx none = some (.tup [.v (.slice none 0 0), .b false], setR d s m C hp, nx + 400) := rfl
theorem datR_y (d s m : Nat) (C : RC) (hp : H) (nx : Nat) (k : KY) : datR d s m C hp nx (some k) = some (.tup [.os (nx + dtN k) 0 12 1 true, .b true], setR d s m { C with tr := trP C k } (upd hp (nx + dtN k) (.cells (c8 (dkB k)) true)), nx + 400) := rfl
noncomputable def datG : List AV → H → Nat → Option (AV × H × Nat)
  | [.op d 0, .w32 id], hp, nx => obind (rngOf hp d) fun t => guardO (ROk t.C) (datR d t.s t.m t.C hp nx (getK id t.C.by'))
  | _, _, _ => none
theorem datG_eq (d : Nat) (id : W32) (hp : H) (nx : Nat) : datG [.op d 0, .w32 id] hp nx = obind (rngOf hp d) fun t => guardO (ROk t.C) (datR d t.s t.m t.C hp nx (getK id t.C.by')) := (rfl)
attribute [go_sem] datG_eq datR_n datR_y
set_option maxHeartbeats 1000000 in
theorem dat_ok : HeapOK Tryd.prog GLh 11 datG := by
  refine heap_of_awp Tryd.func11 (bodyOf_some rfl) ?_
  intro args hp nx r hp' nx' hg
  unfold datG at hg
  split at hg
  · rename_i d id
    replace hg := obind_inv hg; obtain ⟨⟨s, m, C⟩, hD0, hg⟩ := hg
    have hD := rngOf_inv hD0
    replace hg := guardO_inv hg; obtain ⟨hok, hg⟩ := hg
    simp only at hg hD hok
    rcases hk : getK id C.by' with _ | k
    · rw [hk, datR_n] at hg
      simp only [Option.some.injEq, Prod.mk.injEq] at hg; obtain ⟨rfl, rfl, rfl⟩ := hg
      refine ⟨Nat.le_of_ble_eq_true rfl, by omega, fun hnone => ?_⟩
      have h1 := hD.hd; have h2 := hD.hs; have h3 := hD.hm
      refine awp_seqP rfl ?_
      refine awp_regP (Γ := noEnv) [0, 1] (noEnv_ok _ _) rfl rfl rfl (fun K hK => ?_)
      simp (disch := omega) only [Tryd.f11, go_sem, Nat.reduceAdd, ↓reduceIte]
      refine hK _ ?_
      clear hK K
      refine nx_then ?_
      refine awp_seqP rfl ?_
      refine awp_regP (Γ := noEnv) [0, 6, 7] (noEnv_ok _ _) rfl rfl rfl (fun K hK => ?_)
      simp (disch := omega) only [Tryd.f11, go_sem, Nat.reduceAdd, Nat.reduceLeDiff, Nat.reduceLT, ↓reduceIte, h1, h2, hk, rgC_eq, List.head?_cons, List.drop_succ_cons, List.drop_zero]
      refine hK _ ?_
      clear hK K
      refine nx_then ?_
      refine awp_seqP rfl ?_
      refine awp_seqP rfl ?_
      refine awp_regP (Γ := noEnv) [20, 0, 6] (noEnv_ok _ _) rfl rfl rfl (fun K hK => ?_)
      simp (disch := omega) only [Tryd.f11, go_sem, Nat.reduceAdd, ↓reduceIte]
      refine hK _ ?_
      clear hK K
      refine nx_then ?_
      refine awp_ifB (.tmp 20) rfl rfl rfl (fun h => ?_) (fun h => ?_)
      · skip
        refine awp_drop rfl ?_
        refine awp_seqP rfl ?_
        refine awp_regP (Γ := noEnv) [4, 5] (noEnv_ok _ _) rfl rfl rfl (fun K hK => ?_)
        simp (disch := omega) only [Tryd.f11, go_sem, Nat.reduceAdd, ↓reduceIte]
        refine hK _ ?_
        clear hK K
        refine nx_then ?_
        refine awp_retP rfl ?_
        refine nx_ret_then ?_
        rw [setR_same hD]
        exact ⟨rfl, fun j o h => hsub_new hnone (by omega) j o h, by simp only; omega⟩
      · skip
        refine awp_drop rfl ?_
        cases h
    · rw [hk, datR_y] at hg
      simp only [Option.some.injEq, Prod.mk.injEq] at hg; obtain ⟨rfl, rfl, rfl⟩ := hg
      refine ⟨Nat.le_of_ble_eq_true rfl, by omega, fun hnone => ?_⟩
      have h1 := hD.hd; have h2 := hD.hs; have h3 := hD.hm
      obtain ⟨n1, n2, n3, n4, n5, n6⟩ := hD.ne
      have hlt : ∀ k o, hp k = some o → k < nx := fun k o hk => lt_of_none2 hnone hk
      have hd := hlt _ _ h1
      have hs := hlt _ _ h2
      have hm := hlt _ _ h3
      obtain ⟨k1, k2, k3, k4⟩ := hok.key _ _ hk
      have hki : getK k.id C.by' = some k := by rw [k1]; exact hk
      have hky : kyOf [.w32 k.id, .i k.role, .i k.st, .w8 k.seed.a, .w8 k.seed.b, .w8 k.seed.c, .w8 k.seed.d, .w8 k.seed.e, .w8 k.seed.f, .w8 k.seed.g, .w8 k.seed.h, .i k.h, .w32 k.next, .w32 k.since, .w32 k.seen] = some k := kyOf_kyC k
      have hun := unT_trC k.seed.l k.h k.seed.len k2
      have hru := rng_upd hD
      have hnl := nodeL_len k.seed.l k.h 0
      have hdl := dkB_len k
      refine awp_seqP rfl ?_
      refine awp_regP (Γ := noEnv) [0, 1] (noEnv_ok _ _) rfl rfl rfl (fun K hK => ?_)
      simp (disch := omega) only [Tryd.f11, go_sem, Nat.reduceAdd, ↓reduceIte]
      refine hK _ ?_
      clear hK K
      refine nx_then ?_
      refine awp_seqP rfl ?_
      refine awp_regP (Γ := noEnv) [0, 6, 7] (noEnv_ok _ _) rfl rfl rfl (fun K hK => ?_)
      simp (disch := omega) only [Tryd.f11, go_sem, Nat.reduceAdd, Nat.reduceLeDiff, Nat.reduceLT, ↓reduceIte, h1, h2, hk, rgC_eq, encK_eq, List.head?_cons, List.drop_succ_cons, List.drop_zero]
      refine hK _ ?_
      clear hK K
      refine nx_then ?_
      refine awp_seqP rfl ?_
      refine awp_seqP rfl ?_
      refine awp_regP (Γ := noEnv) [20, 0, 6] (noEnv_ok _ _) rfl rfl rfl (fun K hK => ?_)
      simp (disch := omega) only [Tryd.f11, go_sem, Nat.reduceAdd, ↓reduceIte]
      refine hK _ ?_
      clear hK K
      refine nx_then ?_
      refine awp_ifB (.tmp 20) rfl rfl rfl (fun h => ?_) (fun h => ?_)
      · skip
        refine awp_drop rfl ?_
        cases h
      · skip
        refine awp_drop rfl ?_
        clear h
        refine awp_skipP rfl ?_
        refine nx_then ?_
        refine awp_seqP rfl ?_
        refine awp_regP (Γ := envL [(28, .heap treeG), (29, .pure true rootG)]) [6, 8] (envOK_cons okd28 (envOK_cons ok52 envOK_nil)) rfl rfl rfl (fun K hK => ?_)
        simp (disch := omega) only [Tryd.f11, go_sem, Nat.reduceAdd, Nat.reduceLeDiff, ↓reduceIte, hru, hok, hki, hky, hun, List.take_succ_cons, List.take_zero, List.drop_zero]
        refine hK _ ?_
        clear hK K
        refine nx_then ?_
        refine awp_seqP rfl ?_
        refine awp_regP (Γ := noEnv) [6, 9] (noEnv_ok _ _) rfl rfl rfl (fun K hK => ?_)
        simp (disch := omega) only [Tryd.f11, go_sem, Nat.reduceAdd, Nat.reduceSub, Nat.reduceLeDiff, Int.reduceLE, Int.reduceLT, Int.reduceToNat, BitVec.reduceOfInt, ↓reduceIte, List.all_cons, List.all_nil, Option.isSome_some, Bool.and_self]
        refine hK _ ?_
        clear hK K
        refine nx_then ?_
        refine awp_seqP rfl ?_
        refine awp_seqP rfl ?_
        refine awp_regP (Γ := noEnv) [29, 9] (noEnv_ok _ _) rfl rfl rfl (fun K hK => ?_)
        simp (disch := omega) only [Tryd.f11, go_sem, Nat.reduceAdd, Nat.reduceLT, ↓reduceIte, List.head?_cons, List.drop_succ_cons, List.drop_zero]
        refine hK _ ?_
        clear hK K
        refine nx_then ?_
        refine awp_ifD (.tmp 29) rfl rfl rfl (fun h => ?_) (fun h => ?_)
        · skip
          refine awp_drop rfl ?_
          have edk : keyB 257#16 3#8 253#8 (nodeL k.seed.l k.h 0) = dkB k := by unfold dkB flK; rw [if_pos h]
          refine awp_regP (Γ := noEnv) [9] (noEnv_ok _ _) rfl rfl rfl (fun K hK => ?_)
          simp (disch := omega) only [Tryd.f11, go_sem, Nat.reduceAdd, Nat.reduceLeDiff, Nat.reduceLT, Int.reduceLE, Int.reduceLT, BitVec.reduceOfInt, ↓reduceIte, BitVec.reduceOr, List.head?_cons, List.set_cons_zero, List.drop_zero]
          refine hK _ ?_
          clear hK K
          refine nx_then ?_
          refine awp_seqP rfl ?_
          refine awp_regP (Γ := envL [(30, .fresh true keyBG)]) [4, 5] (envOK_cons okd30 envOK_nil) rfl rfl rfl (fun K hK => ?_)
          simp (disch := omega) only [Tryd.f11, go_sem, Nat.reduceAdd, Nat.reduceLeDiff, ↓reduceIte, hnl, edk, hdl, List.take_succ_cons, List.take_zero, List.drop_zero]
          refine hK _ ?_
          clear hK K
          refine nx_then ?_
          refine awp_retP rfl ?_
          have edn := dtN_y h
          rw [edn]
          refine ⟨by simp only [Nat.add_assoc, Nat.reduceAdd]; rfl, fun j o h => setR_mono (fun j2 o2 h2 => ?_) j o h, by simp only; omega⟩
          refine hsub_row ?_ ?_ j2 o2 h2
          · simp only [Nat.add_assoc, Nat.reduceAdd, upd_apply, if_true]
          · intro j3 o3 hne h3
            have := hlt j3 o3 h3
            simp (disch := omega) only [up_app, nat_ne, ↓reduceIte]
            exact h3
        · skip
          refine awp_drop rfl ?_
          have edk : keyB 256#16 3#8 253#8 (nodeL k.seed.l k.h 0) = dkB k := by unfold dkB flK; rw [if_neg h]
          refine awp_skipP rfl ?_
          refine nx_then ?_
          refine awp_seqP rfl ?_
          refine awp_regP (Γ := envL [(30, .fresh true keyBG)]) [4, 5] (envOK_cons okd30 envOK_nil) rfl rfl rfl (fun K hK => ?_)
          simp (disch := omega) only [Tryd.f11, go_sem, Nat.reduceAdd, Nat.reduceLeDiff, ↓reduceIte, hnl, edk, hdl, List.take_succ_cons, List.take_zero, List.drop_zero]
          refine hK _ ?_
          clear hK K
          refine nx_then ?_
          refine awp_retP rfl ?_
          have edn := dtN_n h
          rw [edn]
          refine ⟨by simp only [Nat.add_assoc, Nat.reduceAdd]; rfl, fun j o h => setR_mono (fun j2 o2 h2 => ?_) j o h, by simp only; omega⟩
          refine hsub_row ?_ ?_ j2 o2 h2
          · simp only [Nat.add_assoc, Nat.reduceAdd, upd_apply, if_true]
          · intro j3 o3 hne h3
            have := hlt j3 o3 h3
            simp (disch := omega) only [up_app, nat_ne, ↓reduceIte]
            exact h3
  · cases hg
theorem okd11 : EntOK Tryd.prog GLh 11 (.heap datG) := ⟨⟨_, Tryd.func11, rfl, rfl⟩, dat_ok⟩
end Go.AX

namespace Go.AX
open Go Go.Proofs
set_option maxRecDepth 8000

def cfg2 : CF := { cfg0 with h := 2 }
/-- A ring's one key. -/
def kq (sd : S8) (role st : Int) (n since : W32) : KY := ⟨1#32, role, st, sd, 2, n, since, 0#32⟩
/-- A ring of one key, whose tree wasn't made, or was. -/
def R0 (k : KY) : RC := ⟨cfg2, [(1#32, k)], 1#32, []⟩
def R1 (k : KY) : RC := ⟨cfg2, [(1#32, k)], 1#32, [(1#32, ⟨k.seed, k.h⟩)]⟩
section
variable (sd : S8) (role st : Int) (n since : W32)
theorem getR0 : getK 1#32 (R0 (kq sd role st n since)).by' = some (kq sd role st n since) := rfl
theorem getR1 : getK 1#32 (R1 (kq sd role st n since)).by' = some (kq sd role st n since) := rfl
theorem get1 {β : Type} (id : W32) (x y : β) (h : getK id [(1#32, x)] = some y) : id = 1#32 ∧ y = x := by
  simp only [getK] at h
  split at h
  · rename_i e; exact ⟨e, (Option.some.inj h).symm⟩
  · cases h
theorem rok0 (hn : n.toNat ≤ 4) : ROk (R0 (kq sd role st n since)) := by
  refine ⟨fun id k hk => ?_, fun id t ht => (nomatch ht), by simp [R0], List.nodup_nil⟩
  obtain ⟨rfl, rfl⟩ := get1 _ _ _ hk
  exact ⟨rfl, Nat.le_of_ble_eq_true rfl, hn, Nat.le_refl _⟩
theorem rok1 (hn : n.toNat ≤ 4) : ROk (R1 (kq sd role st n since)) := by
  refine ⟨fun id k hk => ?_, fun id t ht => ?_, by simp [R1], by simp [R1]⟩
  · obtain ⟨rfl, rfl⟩ := get1 _ _ _ hk
    exact ⟨rfl, Nat.le_of_ble_eq_true rfl, hn, Nat.le_refl _⟩
  · obtain ⟨rfl, rfl⟩ := get1 _ _ _ ht
    exact ⟨_, rfl, rfl⟩
theorem nlv2 (hn : n.toNat < 4) : ¬ nlv 2 - n = 0#32 := by
  rw [sub_ne (by omega) (by omega)]
  omega
theorem sgA0 (msg : List B8) (hn : n.toNat < 4) : sgV (R0 (kq sd role st n since)) 1#32 msg = (some (tsignL sd.l 2 n msg), 0, R1 (kq sd role st (n + 1#32) since)) := by
  rw [sgV_y (getR0 sd role st n since)]
  exact (if_neg (nlv2 n hn)).trans rfl
theorem sgA9 (msg : List B8) : sgV (R1 (kq sd role st n since)) 9#32 msg = (none, 130, R1 (kq sd role st n since)) := sgV_n rfl
theorem lf1 : lfV (R1 (kq sd role st n since)) 1#32 = 4#32 - n := lfV_y (getR1 sd role st n since)
theorem trP1 : { R1 (kq sd role st n since) with tr := trP (R1 (kq sd role st n since)) (kq sd role st n since) } = R1 (kq sd role st n since) := rfl
theorem dk_root : List.take 8 (List.drop 4 (dkB (kq sd role st n since))) = nodeL sd.l 2 0 := by
  have e : dkB (kq sd role st n since) = [((flK (kq sd role st n since)) >>> 8).setWidth 8, (flK (kq sd role st n since)).setWidth 8, 3#8, 253#8] ++ nodeL sd.l 2 0 := rfl
  have h := nodeL_len sd.l 2 0
  rw [e, List.drop_append, List.take_of_length_le] <;> simp [h]
end
theorem mk0 (role st : Int) (sd : S8) (since : W32) (h1 : role = 0 ∨ role = 1) (h2 : 0 ≤ st ∧ st ≤ 3) : mkV ⟨cfg2, [], 0#32, []⟩ role sd st since = (1#32, 0, R0 (kq sd role st 0#32 since)) := by
  unfold mkV
  rw [if_neg (by omega), if_neg (by show ¬ 16 ≤ 0; omega)]
  rfl
def known20G : List AV → Option AV
  | [] => some (.b true)
  | _ => none
theorem known20G_eq : known20G [] = some (.b true) := (rfl)
attribute [go_sem] known20G_eq
def sd7 : S8 := ⟨7#8, 0#8, 0#8, 0#8, 0#8, 0#8, 0#8, 0#8⟩
set_option maxHeartbeats 2000000 in
theorem known20_ok : PureOK Tryd.prog GLh 6 known20G := by
  refine pure_of_awp Tryd.func6 (bodyOf_some rfl) ?_
  intro args r hg
  unfold known20G at hg
  split at hg
  · obtain rfl := Option.some.inj hg
    refine ⟨Nat.le_of_ble_eq_true rfl, fun nx => ?_⟩
    have ec : cfOf (cfC { cfg0 with h := 2 }) = some cfg2 := cfOf_cfC cfg2
    have hr := ROk.new cfg2
    have hm0 := mk0 0 1 sd7 5#32 (.inl rfl) (by omega)
    have hr0 := rok0 sd7 0 1 0#32 5#32 (Nat.le_of_ble_eq_true rfl)
    have hr1 := rok1 sd7 0 1 1#32 5#32 (Nat.le_of_ble_eq_true rfl)
    have hs0 := sgA0 sd7 0 1 0#32 5#32 [104#8, 105#8] (by decide)
    refine awp_seqP rfl ?_
    refine awp_regP (Γ := noEnv) [] (noEnv_ok _ _) rfl rfl rfl (fun K hK => ?_)
    simp (disch := omega) only [Tryd.f6, go_sem]
    refine hK _ ?_
    clear hK K
    refine nx_then ?_
    refine awp_seqP rfl ?_
    refine awp_regP (Γ := envL [(8, .pure false setG), (7, .heap rnewG)]) [1] (envOK_cons okd8 (envOK_cons okd7 envOK_nil)) rfl rfl rfl (fun K hK => ?_)
    simp (disch := omega) only [Tryd.f6, go_sem, Nat.reduceAdd, ↓reduceIte, ec]
    refine hK _ ?_
    clear hK K
    refine nx_then ?_
    refine awp_seqP rfl ?_
    refine awp_seqP rfl ?_
    refine awp_regP (Γ := noEnv) [13, 1] (noEnv_ok _ _) rfl rfl rfl (fun K hK => ?_)
    simp (disch := omega) only [Tryd.f6, go_sem, Nat.reduceAdd, ↓reduceIte]
    refine hK _ ?_
    clear hK K
    refine nx_then ?_
    refine awp_ifB (.tmp 13) rfl rfl rfl (fun h => ?_) (fun h => ?_)
    · skip
      refine awp_drop rfl ?_
      cases h
    · skip
      refine awp_drop rfl ?_
      clear h
      refine awp_skipP rfl ?_
      refine nx_then ?_
      refine awp_seqP rfl ?_
      have h8 : s8L sd7.l = some sd7 := rfl
      have hc2 : cfg2.h ≤ 10 := Nat.le_of_ble_eq_true rfl
      have hsp : splice (c8 (List.replicate 8 0#8)) 0 [.w8 7#8] = c8 sd7.l := rfl
      refine awp_regP (Γ := envL [(9, .heap makeG)]) [1, 2, 3] (envOK_cons okd9 envOK_nil) rfl rfl rfl (fun K hK => ?_)
      simp (disch := omega) only [Tryd.f6, go_sem, Nat.reduceAdd, Nat.reduceLeDiff, Int.reduceLE, Int.reduceLT, BitVec.reduceOfInt, BitVec.reduceToNat, ↓reduceIte, hr, hm0, h8, hc2, hsp]
      refine hK _ ?_
      clear hK K
      refine nx_then ?_
      refine awp_seqP rfl ?_
      refine awp_regP (Γ := envL [(12, .heap ksignG)]) [1, 2, 3, 4, 5] (envOK_cons okd12 envOK_nil) rfl rfl rfl (fun K hK => ?_)
      simp (disch := omega) only [Tryd.f6, go_sem, Nat.reduceAdd, Nat.reduceLeDiff, Nat.reduceLT, Int.reduceLE, Int.reduceLT, BitVec.reduceOfInt, ↓reduceIte, hr0, hs0, bA_y, selH_y, List.take_succ_cons, List.take_zero, List.drop_zero, List.length_cons, List.length_nil]
      refine hK _ ?_
      clear hK K
      refine nx_then ?_
      have hg1 := getR1 sd7 0 1 1#32 5#32
      have hdn : dtN (kq sd7 0 1 1#32 5#32) = 130 := rfl
      have htp := trP1 sd7 0 1 1#32 5#32
      have hs9 := sgA9 sd7 0 1 1#32 5#32 []
      rw [show (0#32 + 1#32 : W32) = 1#32 from rfl]
      refine awp_seqP rfl ?_
      refine awp_regP (Γ := envL [(11, .heap datG)]) [1, 2, 3, 4, 5, 6, 7] (envOK_cons okd11 envOK_nil) rfl rfl rfl (fun K hK => ?_)
      simp (disch := omega) only [Tryd.f6, go_sem, Nat.reduceAdd, ↓reduceIte, hr1, hg1, hdn, htp]
      refine hK _ ?_
      clear hK K
      refine nx_then ?_
      refine awp_seqP rfl ?_
      refine awp_regP (Γ := envL [(12, .heap ksignG)]) [1, 2, 3, 4, 5, 6, 7, 9] (envOK_cons okd12 envOK_nil) rfl rfl rfl (fun K hK => ?_)
      simp (disch := omega) only [Tryd.f6, go_sem, Nat.reduceAdd, Nat.reduceLeDiff, Int.reduceLE, Int.reduceLT, BitVec.reduceOfInt, ↓reduceIte, hr1, hs9, bA_n, selH_n, List.length_nil]
      refine hK _ ?_
      clear hK K
      refine nx_then ?_
      have htl : (tsignL sd7.l 2 0#32 [104#8, 105#8]).length = 532 := tsignL_len sd7.l 2 0#32 [104#8, 105#8]
      have hdl := dkB_len (kq sd7 0 1 1#32 5#32)
      have hrt := dk_root sd7 0 1 1#32 5#32
      have hnl := nodeL_len sd7.l 2 0
      have hv : verB (nodeL sd7.l 2 0) 2 [104#8, 105#8] (tsignL sd7.l 2 0#32 [104#8, 105#8]) = true := ver_sign sd7.l 2 0#32 [104#8, 105#8] (by omega) (by decide)
      have hlf := lf1 sd7 0 1 1#32 5#32
      refine awp_seqP rfl ?_
      refine awp_regP (Γ := envL [(13, .pure true verG), (14, .heap leftG)]) [0] (envOK_cons ok58 (envOK_cons okd14 envOK_nil)) rfl rfl rfl (fun K hK => ?_)
      simp (disch := omega) only [Tryd.f6, go_sem, Nat.reduceAdd, Nat.reduceSub, Nat.reduceLeDiff, Nat.reduceLT, Int.reduceLE, Int.reduceLT, Int.reduceToNat, Int.reduceAdd, BitVec.reduceOfInt, BitVec.reduceSub, ↓reduceIte, htl, hdl, hrt, hnl, hv, hlf, hr1, List.take_succ_cons, List.take_zero, List.drop_zero, List.length_cons, List.length_nil, Int.cast_ofNat_Int]
      refine hK _ ?_
      clear hK K
      refine nx_then ?_
      refine awp_retP rfl ?_
      simp (disch := omega) only [pureQ, resA, resAL, resA1, Tryd.f6, go_sem, ↓reduceIte]
  · cases hg
theorem okd6 : EntOK Tryd.prog GLh 6 (.pure true known20G) := ⟨⟨_, Tryd.func6, rfl, rfl⟩, known20_ok⟩
end Go.AX

namespace Go.AX
open Go Go.Proofs
set_option maxRecDepth 8000

theorem ofn_suc (g : Nat) : BitVec.ofNat 32 g + 1#32 = BitVec.ofNat 32 (g + 1) := by
  rw [BitVec.ofNat_add]
end Go.AX
