/-
  Rolls, part H: all that is due is turned. Rolls, part I: a new key is begun. AX, part AyP: a region that draws its order, where a few orders stand for all: each other order is one of them but for operations that don't touch one another. Rolls, part J: settings; first keys. Rolls, part K: what the first rolls come to, in plain. Rolls, part L: times that don't overflow; what the statements ask ahead of all. Rolls, part M: the statement RollBusy, walked. Rolls, part N: the statement RollLate, walked.
-/
import Derived.Test.YthemkfbedajmpaaBF
import Derived.Test.YthemkfbedajmpaaBC
namespace Go.AX
open Go Go.Proofs
set_option maxRecDepth 8000

/-- The keys of a row that sign are retired. -/
def actV : List KY → RC → W32 → List KY → Option (List KY × RC)
  | [], C, _, out => some (out, C)
  | x :: r, C, now, out => if x.st = 1 then obind (getK x.id C.by') fun k => actV r (tnV C x.id 3 now).2 now (out ++ [tkV k 3 now]) else actV r C now out
/-- What a step tells, and the ring behind it (with so many turns to go at most). -/
def stepV (c : CF) : Nat → RC → W32 → List KY → Option (List KY × RC)
  | 0, _, _, _ => none
  | f + 1, C, now, out =>
    if (nxV (allL C) c).id = 0#32 ∨ ¬ (nxV (allL C) c).w ≤ now then some (out, C)
    else obind (if (nxV (allL C) c).st = 1 then actV (roleL 0 (allL C)) C now out else some (out, C)) fun p =>
      obind (getK (nxV (allL C) c).id p.2.by') fun k => stepV c f (tnV p.2 (nxV (allL C) c).id (nxV (allL C) c).st now).2 now (p.1 ++ [tkV k (nxV (allL C) c).st now])
theorem putK_len {β : Type} (a : W32) (v : β) : ∀ (l : List (W32 × β)) (w : β), getK a l = some w → (putK a v l).length = l.length
  | [], _, h => by cases h
  | p :: r, w, h => by
    simp only [getK] at h
    simp only [putK]
    split
    · rfl
    · rename_i e
      rw [if_neg e] at h
      rw [List.length_cons, List.length_cons, putK_len a v r w h]
theorem delK_len {β : Type} (a : W32) : ∀ l : List (W32 × β), (delK a l).length ≤ l.length
  | [] => Nat.le_refl _
  | p :: r => by
    simp only [delK]
    split
    · simp
    · simp only [List.length_cons]
      have := delK_len a r
      omega
theorem tnV_len (C : RC) (id : W32) (st : Int) (now : W32) : (tnV C id st now).2.by'.length ≤ C.by'.length := by
  rcases hk : getK id C.by' with _ | k
  · rw [tnV_n hk]; exact Nat.le_refl _
  · rw [tnV_y hk]
    split
    · exact Nat.le_refl _
    · split
      · exact delK_len _ _
      · exact Nat.le_of_eq (putK_len _ _ _ _ hk)
@[irreducible] def stepN : Nat := 10000000
theorem stepN_eq : stepN = 10000000 := by unfold stepN; rfl
noncomputable def stepG : List AV → H → Nat → Option (AV × H × Nat)
  | [.op d 0, .agg cs, .w32 now], hp, nx => obind (rngOf hp d) fun t => obind (cfOf cs) fun c => guardO (t.C.by'.length ≤ 100) (obind (stepV c 100 t.C now []) fun R => some (.sl R.1.length (kysC R.1), setR d t.s t.m R.2 hp, nx + stepN))
  | _, _, _ => none
theorem stepG_eq (d : Nat) (cs : List AV) (now : W32) (hp : H) (nx : Nat) : stepG [.op d 0, .agg cs, .w32 now] hp nx = obind (rngOf hp d) fun t => obind (cfOf cs) fun c => guardO (t.C.by'.length ≤ 100) (obind (stepV c 100 t.C now []) fun R => some (.sl R.1.length (kysC R.1), setR d t.s t.m R.2 hp, nx + stepN)) := (rfl)
attribute [go_sem] stepG_eq
structure SIX where
  f : Nat
  C : RC
  out : List KY
  o : Nat
  c : Nat
structure AIX where
  q : Nat
  C : RC
  out : List KY
  o : Nat
  c : Nat
set_option maxHeartbeats 2000000 in
theorem step_ok : HeapOK Try.prog GLh 12 stepG := by
  refine heap_of_awp Try.func12 (bodyOf_some rfl) ?_
  intro args hp nx r hp' nx' hg
  unfold stepG at hg
  split at hg
  · rename_i d cs now
    replace hg := obind_inv hg; obtain ⟨⟨s, m, C0⟩, hD0, hg⟩ := hg
    have hD := rngOf_inv hD0
    replace hg := obind_inv hg; obtain ⟨cf, hcf, hg⟩ := hg
    have := cfOf_inv hcf; subst this
    replace hg := guardO_inv hg; obtain ⟨hC0, hg⟩ := hg
    replace hg := obind_inv hg; obtain ⟨R, hR, hg⟩ := hg
    simp only [Option.some.injEq, Prod.mk.injEq] at hg hD hC0 hR; obtain ⟨rfl, rfl, rfl⟩ := hg
    refine ⟨Nat.le_of_ble_eq_true rfl, Nat.le_add_right _ _, fun hnone => ?_⟩
    have h1 := hD.hd; have h2 := hD.hs; have h3 := hD.hm
    obtain ⟨n1, n2, n3, n4, n5, n6⟩ := hD.ne
    have hlt : ∀ k o, hp k = some o → k < nx := fun k o hk => lt_of_none2 hnone hk
    have hd := hlt _ _ h1
    have hs := hlt _ _ h2
    have hm := hlt _ _ h3
    have hno : noOwn (cfC cf) = true := rfl
    have hcl : 13 ≤ (cfC cf).length := Nat.le_of_ble_eq_true rfl
    have hct : List.take 13 (cfC cf) = cfC cf := rfl
    have hset := setR_same hD
    have hN := stepN_eq
    rw [← hset, setR_set]
    refine awp_seqP rfl ?_
    refine awp_regP (Γ := noEnv) [3, 4, 5] (noEnv_ok _ _) rfl rfl rfl (fun K hK => ?_)
    simp (disch := omega) only [Try.f12, go_sem, Nat.reduceAdd, ↓reduceIte]
    refine hK _ ?_
    clear hK K
    refine nx_then ?_
    refine awp_rp 4 (nx + 1) 0 rfl (by simp (disch := omega) only [setR_app, up_app, nat_ne, ↓reduceIte, eq_self] <;> rfl) ?_
    refine awp_rp 5 (nx + 2) 0 rfl (by simp (disch := omega) only [setR_app, up_app, nat_ne, ↓reduceIte, eq_self] <;> rfl) ?_
    refine awp_keep [3, 4, 5] ?_
    simp only [kf_nil, kf_cons, look_cons, ↓reduceIte, Nat.reduceEqDiff, List.drop_zero]
    refine awp_seqP rfl ?_
    refine awp_regP (Γ := noEnv) [3, 4, 5, 7] (noEnv_ok _ _) rfl rfl rfl (fun K hK => ?_)
    simp (disch := omega) only [Try.f12, go_sem, ↓reduceIte]
    refine hK _ ?_
    clear hK K
    refine nx_then ?_
    refine awp_ownC (nx + 4) 15 [] [] true (by simp (disch := omega) only [setR_app, up_app, ↓reduceIte, eq_self] <;> rfl) (by omega) ?_
    simp (disch := omega) only [setR_upd, List.nil_append]
    refine awp_seqP rfl ?_
    refine awp_regP (Γ := noEnv) [3, 4, 5, 7, 8] (noEnv_ok _ _) rfl rfl rfl (fun K hK => ?_)
    simp (disch := omega) only [Try.f12, go_sem, Nat.reduceAdd, ↓reduceIte]
    refine hK _ ?_
    clear hK K
    refine nx_then ?_
    refine awp_blockN 0 rfl rfl ?_
    refine awp_loopP (fun p : SIX => { fr := [(3, .op nx 0), (4, .rp (cfC cf)), (5, .rp [.w32 now]), (7, .op (nx + 4) 0), (8, .fn 24 [.op nx 0, .rp [.w32 now], .op (nx + 4) 0])], hp := setR d s m p.C (upd (upd (upd hp nx (.cells [.op d 0] true)) p.o (.cells (kysC p.out) true)) (nx + 4) (.cells [.os p.o 0 p.out.length 15 true] true)), nx := 0, cx := p.c }) (fun p => stepV cf p.f p.C now p.out = some R ∧ p.C.by'.length ≤ 100 ∧ p.f ≤ 100 ∧ p.out.length ≤ (100 - p.f) * 101 ∧ nx + 4 < p.o ∧ p.o < p.c ∧ p.c ≤ nx + 100 + 90000 * (100 - p.f)) (fun p => p.f) rfl ⟨⟨100, C0, [], nx + 4 + 1, _⟩, ⟨hR, hC0, Nat.le_refl _, Nat.zero_le _, by simp only; omega, by simp only; omega, by simp only; omega⟩, ⟨fun x => .inr rfl, fun j o hj => setR_mono (fun j o hj => by { simp only [upd_apply] at hj ⊢; by_cases q1 : j = nx + 4; · { rw [if_pos q1] at hj ⊢; exact hj }; rw [if_neg q1] at hj ⊢; by_cases q2 : j = nx + 4 + 1; · { rw [if_pos q2] at hj ⊢; exact hj }; rw [if_neg q2] at hj; rw [if_neg q2, if_neg q1]; by_cases q3 : j = nx; · { rw [if_pos q3] at hj; rw [if_neg (by omega), if_neg (by omega), if_neg (by omega), if_neg (by omega), if_pos q3]; exact hj }; rw [if_neg q3] at hj; have := hlt j o hj; rw [if_neg (by omega), if_neg (by omega), if_neg (by omega), if_neg (by omega), if_neg q3]; exact hj }) j o hj, Nat.le_refl _⟩⟩ ?_
    rintro ⟨f, C, out, o, c⟩ ⟨hst, hC, hf, hout, ho1, ho2, hcc⟩ n0
    simp only at hst hC hf hout ho1 ho2 hcc ⊢
    have hal := allL_len C
    have hC2 : C.by'.length ≤ 1000 := by omega
    obtain ⟨f, rfl⟩ : ∃ f', f = f' + 1 := by
      cases f with
      | zero => cases hst
      | succ f => exact ⟨f, rfl⟩
    obtain ⟨B, hB⟩ : ∃ B, nxV (allL C) cf = B := ⟨_, rfl⟩
    rw [stepV, hB] at hst
    have hol : out.length ≤ 20000 := by omega
    refine awp_blockN 1 rfl rfl ?_
    refine awp_seqP rfl ?_
    refine awp_drwP (Γ := envL [(9, .heap allG), (14, .pure true nxG)]) (fun k => if k = 2 then 1 else if k = 1 then 0 else 2) [3, 4, 5, 7, 8, 9, 10, 11] mixed (envOK_cons okd15 (envOK_cons okh14 envOK_nil)) rfl rfl rfl (by kernel_rfl) (fun K hK => ?_)
    simp (disch := omega) only [Try.f12, go_sem, Nat.reduceAdd, ↓reduceIte, hC, hC2, hal, hcf, hno, hcl, hct, hB, duC, List.head?_cons, List.drop_zero, Bool.and_self]
    refine hK _ ?_
    clear hK K
    refine nx_then ?_
    by_cases hid : B.id = 0#32
    · skip
      have d1 : decide (B.id = 0#32) = true := decide_eq_true hid
      rw [if_pos (.inl hid)] at hst
      obtain rfl := Option.some.inj hst
      refine awp_seqP rfl ?_
      refine awp_seqP rfl ?_
      refine awp_regP (Γ := envL [(26, .pure true dueG)]) [30, 3, 4, 5, 7, 8, 9, 10] (envOK_cons okh26 envOK_nil) rfl rfl rfl (fun K hK => ?_)
      simp (disch := omega) only [Try.f12, go_sem, Nat.reduceAdd, Int.reduceLE, Int.reduceLT, BitVec.reduceOfInt, ↓reduceIte, d1]
      refine hK _ ?_
      clear hK K
      refine nx_then ?_
      refine awp_ifB (.tmp 30) rfl rfl rfl (fun h => ?_) (fun h => ?_)
      · skip
        refine awp_drop rfl ?_
        refine awp_seqP rfl ?_
        refine awp_regP (Γ := noEnv) [6] (noEnv_ok _ _) rfl rfl rfl (fun K hK => ?_)
        simp (disch := omega) only [Try.f12, go_sem, Nat.reduceAdd, ↓reduceIte]
        refine hK _ ?_
        clear hK K
        refine nx_then ?_
        refine awp_sl 6 o 0 out.length 15 rfl (by simp (disch := omega) only [setR_app, up_app, nat_ne, ↓reduceIte, eq_self] <;> rfl) (by rw [kysC_len]; omega) ?_
        rw [List.drop_zero, List.take_of_length_le (by rw [kysC_len]; omega)]
        refine awp_retP rfl ?_
        refine nx_ret_then (nx_ret_blk (nx_ret_loop (nx_ret_blk ?_)))
        refine ⟨rfl, fun j oo hj => ?_, by simp only; omega⟩
        simp (disch := omega) only [setR_upd]
        refine setR_mono (fun j oo hj => ?_) j oo hj
        have := hlt j oo hj
        simp (disch := omega) only [up_app, nat_ne, ↓reduceIte]
        exact hj
      · skip
        refine awp_drop rfl ?_
        cases h
    · skip
      have d1 : decide (B.id = 0#32) = false := decide_eq_false hid
      by_cases hw : B.w ≤ now
      · skip
        have d2 : decide (B.w ≤ now) = true := decide_eq_true hw
        rw [if_neg (fun e => e.elim hid (fun e => e hw))] at hst
        have hpos : 0 < C.by'.length := by
          rcases Nat.eq_zero_or_pos C.by'.length with e | e
          · have : allL C = [] := List.eq_nil_of_length_eq_zero (by omega)
            rw [this] at hB
            exact absurd (by rw [← hB]; rfl) hid
          · exact e
        refine awp_seqP rfl ?_
        refine awp_seqP rfl ?_
        refine awp_regP (Γ := envL [(26, .pure true dueG)]) [30, 3, 4, 5, 7, 8, 9, 10] (envOK_cons okh26 envOK_nil) rfl rfl rfl (fun K hK => ?_)
        simp (disch := omega) only [Try.f12, go_sem, Nat.reduceAdd, Int.reduceLE, Int.reduceLT, BitVec.reduceOfInt, reduceCtorEq, ↓reduceIte, d1, d2, Bool.not_true, List.head?_cons]
        refine hK _ ?_
        clear hK K
        refine nx_then ?_
        refine awp_ifB (.tmp 30) rfl rfl rfl (fun h => ?_) (fun h => ?_)
        · skip
          refine awp_drop rfl ?_
          cases h
        · skip
          refine awp_drop rfl ?_
          refine awp_skipP rfl ?_
          refine nx_then ?_
          refine awp_seqP rfl ?_
          refine awp_seqP rfl ?_
          refine awp_regP (Γ := noEnv) [33, 3, 4, 5, 7, 8, 9, 10] (noEnv_ok _ _) rfl rfl rfl (fun K hK => ?_)
          simp (disch := omega) only [Try.f12, go_sem, Nat.reduceAdd, ↓reduceIte]
          refine hK _ ?_
          clear hK K
          refine nx_then ?_
          refine awp_ifD (.tmp 33) rfl rfl rfl (fun h => ?_) (fun h => ?_)
          · skip
            refine awp_drop rfl ?_
            rw [if_pos h] at hst
            replace hst := obind_inv hst; obtain ⟨P1, hP1, hst⟩ := hst
            replace hst := obind_inv hst; obtain ⟨k, hk, hst⟩ := hst
            obtain ⟨Z, hZ⟩ : ∃ Z, roleL 0 (allL C) = Z := ⟨_, rfl⟩
            have hZl : Z.length ≤ 100 := by have := roleL_le 0 (allL C); rw [hZ] at this; omega
            rw [hZ] at hP1
            have hcx : ∃ c0, c + 11 + 200 + 100 * C.by'.length = c0 := ⟨_, rfl⟩
            refine awp_seqP rfl ?_
            refine awp_regP (Γ := envL [(9, .heap allG), (21, .pure false ofG)]) [3, 4, 5, 7, 8, 9, 10, 36, 37, 38] (envOK_cons okd15 (envOK_cons okh21 envOK_nil)) rfl rfl rfl (fun K hK => ?_)
            simp (disch := omega) only [Try.f12, go_sem, Nat.reduceAdd, ↓reduceIte, hC2, hal, hpos, hZ]
            refine hK _ ?_
            clear hK K
            refine nx_then ?_
            refine awp_blockN 2 rfl rfl ?_
            refine awp_loopP (fun p : AIX => { fr := [(3, .op nx 0), (4, .rp (cfC cf)), (5, .rp [.w32 now]), (7, .op (nx + 4) 0), (8, .fn 24 [.op nx 0, .rp [.w32 now], .op (nx + 4) 0]), (9, .w32 B.id), (10, .i B.st), (36, .sl Z.length (kysC Z)), (37, .i Z.length), (38, .i p.q)], hp := setR d s m p.C (upd (upd (upd hp nx (.cells [.op d 0] true)) p.o (.cells (kysC p.out) true)) (nx + 4) (.cells [.os p.o 0 p.out.length 15 true] true)), nx := 0, cx := p.c }) (fun p => actV (Z.drop p.q) p.C now p.out = some P1 ∧ p.q ≤ Z.length ∧ p.C.by'.length ≤ 100 ∧ p.out.length ≤ out.length + p.q ∧ nx + 4 < p.o ∧ p.o < p.c ∧ p.c ≤ c + 30000 + 400 * p.q) (fun p => Z.length - p.q) rfl ⟨⟨0, C, out, o, _⟩, ⟨hP1, Nat.zero_le _, hC, Nat.le_refl _, by simp only; omega, by simp only; omega, by simp only; omega⟩, ⟨fun x => .inr rfl, fun j o hj => hj, Nat.le_refl _⟩⟩ ?_
            rintro ⟨q, C1, out1, o1, c1⟩ ⟨hac, hq, hC1, hout1, ho3, ho4, hcc1⟩ n0
            simp only at hac hq hC1 hout1 ho3 ho4 hcc1 ⊢
            refine awp_seqP rfl ?_
            refine awp_regP (Γ := noEnv) [39, 3, 4, 5, 7, 8, 9, 10, 36, 37, 38] (noEnv_ok _ _) rfl rfl rfl (fun K hK => ?_)
            simp (disch := omega) only [Try.f12, go_sem, ↓reduceIte]
            refine hK _ ?_
            clear hK K
            refine nx_then ?_
            refine awp_seqP rfl ?_
            refine awp_ifD (.tmp 39) rfl rfl rfl (fun h => ?_) (fun h => ?_)
            · skip
              refine awp_drop rfl ?_
              have hqZ : q < Z.length := by omega
              have hrow := kys_row Z q hqZ
              have hkl := kysC_len Z
              have hdl : 15 ≤ (List.drop (15 * q) (kysC Z)).length := by rw [List.length_drop]; omega
              have e15 : q * 15 = 15 * q := by omega
              have hdr : Z.drop q = kyA Z q :: Z.drop (q + 1) := by rw [List.drop_eq_getElem_cons hqZ, kyA_get Z q hqZ]
              obtain ⟨X, hX⟩ : ∃ X, kyA Z q = X := ⟨_, rfl⟩
              rw [hX] at hrow hdr
              rw [hdr, actV] at hac
              have hol1 : out1.length ≤ 20000 := by omega
              refine awp_skipP rfl ?_
              refine nx_then ?_
              refine awp_seqP rfl ?_
              refine awp_blockN 3 rfl rfl ?_
              refine awp_seqP rfl ?_
              refine awp_regP (Γ := noEnv) [3, 4, 5, 7, 8, 9, 10, 13, 36, 37, 38] (noEnv_ok _ _) rfl rfl rfl (fun K hK => ?_)
              simp (disch := omega) only [Try.f12, go_sem, Nat.reduceAdd, Nat.reduceLeDiff, ↓reduceIte, hrow, hdl, e15]
              refine hK _ ?_
              clear hK K
              refine nx_then ?_
              refine awp_seqP rfl ?_
              refine awp_regP (Γ := noEnv) [44, 3, 4, 5, 7, 8, 9, 10, 13, 36, 37, 38] (noEnv_ok _ _) rfl rfl rfl (fun K hK => ?_)
              simp (disch := omega) only [Try.f12, go_sem, Nat.reduceAdd, Nat.reduceLT, ↓reduceIte, kyC, List.head?_cons, List.drop_succ_cons, List.drop_zero]
              refine hK _ ?_
              clear hK K
              refine nx_then ?_
              refine awp_ifD (.tmp 44) rfl rfl rfl (fun h => ?_) (fun h => ?_)
              · skip
                refine awp_drop rfl ?_
                rw [if_pos h] at hac
                replace hac := obind_inv hac; obtain ⟨k1, hk1, hac⟩ := hac
                refine awp_regP (Γ := envL [(24, .heap stG)]) [3, 4, 5, 7, 8, 9, 10, 36, 37, 38] (envOK_cons okh24 envOK_nil) rfl rfl rfl (fun K hK => ?_)
                simp (disch := omega) only [Try.f12, go_sem, Nat.reduceAdd, Nat.reduceLT, ↓reduceIte, hk1, hol1, true_and, List.head?_cons, List.drop_zero]
                refine hK _ ?_
                clear hK K
                refine nx_blk (nx_then ?_)
                refine awp_regP (Γ := noEnv) [3, 4, 5, 7, 8, 9, 10, 36, 37, 38] (noEnv_ok _ _) rfl rfl rfl (fun K hK => ?_)
                simp (disch := omega) only [Try.f12, go_sem, Nat.reduceAdd, ↓reduceIte]
                refine hK _ ?_
                clear hK K
                refine nx_loop ?_
                have hll : (out1 ++ [tkV k1 3 now]).length = out1.length + 1 := by rw [List.length_append]; rfl
                have htl := tnV_len C1 X.id 3 now
                refine ⟨⟨q + 1, (tnV C1 X.id 3 now).2, out1 ++ [tkV k1 3 now], c1 + 1 + 4 + 3 + 4 + 173, _⟩, ⟨hac, by simp only; omega, by simp only; omega, by simp only [hll]; omega, by simp only; omega, by simp only; omega, by simp only; omega⟩, by simp only; omega, ⟨fun x => .inr (by simp only [Int.natCast_add, Int.natCast_one]), fun j oo hj => setR_mono (fun j oo hj => ?_) j oo hj, Nat.le_refl _⟩⟩
                simp only [upd_apply, del_apply, hll] at hj ⊢
                by_cases q1 : j = nx + 4
                · rw [if_pos q1] at hj ⊢; exact hj
                · rw [if_neg q1] at hj ⊢
                  by_cases q2 : j = c1 + 1 + 4 + 3 + 4 + 173
                  · rw [if_pos q2] at hj ⊢; exact hj
                  · rw [if_neg q2] at hj ⊢
                    by_cases q3 : j = nx
                    · rw [if_pos q3] at hj; rw [if_neg (by omega), if_neg (by omega), if_neg (by omega), if_neg (by omega), if_pos q3]; exact hj
                    · rw [if_neg q3] at hj
                      have := hlt j oo hj
                      rw [if_neg (by omega), if_neg (by omega), if_neg (by omega), if_neg (by omega), if_neg q3]; exact hj
              · skip
                refine awp_drop rfl ?_
                rw [if_neg h] at hac
                refine awp_skipP rfl ?_
                refine nx_blk (nx_then ?_)
                refine awp_regP (Γ := noEnv) [3, 4, 5, 7, 8, 9, 10, 36, 37, 38] (noEnv_ok _ _) rfl rfl rfl (fun K hK => ?_)
                simp (disch := omega) only [Try.f12, go_sem, Nat.reduceAdd, ↓reduceIte]
                refine hK _ ?_
                clear hK K
                refine nx_loop ?_
                refine ⟨⟨q + 1, C1, out1, o1, _⟩, ⟨hac, by simp only; omega, hC1, by simp only; omega, by simp only; omega, by simp only; omega, by simp only; omega⟩, by simp only; omega, ⟨fun x => .inr (by simp only [Int.natCast_add, Int.natCast_one]), fun j oo hj => setR_mono (fun j oo hj => ?_) j oo hj, Nat.le_refl _⟩⟩
                simp only [upd_apply] at hj ⊢
                by_cases q1 : j = nx + 4
                · rw [if_pos q1] at hj; rw [if_neg (by omega), if_pos q1]; exact hj
                · rw [if_neg q1] at hj
                  by_cases q2 : j = o1
                  · rw [if_pos q2] at hj; rw [if_neg (by omega), if_neg q1, if_pos q2]; exact hj
                  · rw [if_neg q2] at hj
                    by_cases q3 : j = nx
                    · rw [if_pos q3] at hj; rw [if_neg (by omega), if_neg q1, if_neg q2, if_pos q3]; exact hj
                    · rw [if_neg q3] at hj
                      have := hlt j oo hj
                      rw [if_neg (by omega), if_neg q1, if_neg q2, if_neg q3]; exact hj
            · skip
              refine awp_drop rfl ?_
              refine awp_exitN 2 rfl rfl ?_
              refine nx_ex_then (nx_ex_loop (nx_ex_blk ?_))
              refine nx_then ?_
              obtain rfl : q = Z.length := by omega
              rw [List.drop_length, actV] at hac
              obtain rfl := Option.some.inj hac
              have hol : out1.length ≤ 20000 := by omega
              refine awp_regP (Γ := envL [(24, .heap stG)]) [3, 4, 5, 7, 8] (envOK_cons okh24 envOK_nil) rfl rfl rfl (fun K hK => ?_)
              simp (disch := omega) only [Try.f12, go_sem, Nat.reduceAdd, ↓reduceIte, hk, hol, true_and]
              refine hK _ ?_
              clear hK K
              refine nx_blk (nx_loop ?_)
              have hll : (out1 ++ [tkV k B.st now]).length = out1.length + 1 := by rw [List.length_append]; rfl
              have htl := tnV_len C1 B.id B.st now
              refine ⟨⟨f, (tnV C1 B.id B.st now).2, out1 ++ [tkV k B.st now], c1 + 1 + 4 + 173, _⟩, ⟨hst, by simp only; omega, by simp only; omega, by simp only [hll]; omega, by simp only; omega, by simp only; omega, by simp only; omega⟩, by simp only; omega, ⟨fun x => .inr rfl, fun j oo hj => setR_mono (fun j oo hj => ?_) j oo hj, Nat.le_refl _⟩⟩
              simp only [upd_apply, del_apply, hll] at hj ⊢
              by_cases q1 : j = nx + 4
              · rw [if_pos q1] at hj ⊢; exact hj
              · rw [if_neg q1] at hj ⊢
                by_cases q2 : j = c1 + 1 + 4 + 173
                · rw [if_pos q2] at hj ⊢; exact hj
                · rw [if_neg q2] at hj ⊢
                  by_cases q3 : j = nx
                  · rw [if_pos q3] at hj; rw [if_neg (by omega), if_neg (by omega), if_neg (by omega), if_pos q3]; exact hj
                  · rw [if_neg q3] at hj
                    have := hlt j oo hj
                    rw [if_neg (by omega), if_neg (by omega), if_neg (by omega), if_neg q3]; exact hj
          · skip
            refine awp_drop rfl ?_
            rw [if_neg h] at hst
            rw [obind_some] at hst
            replace hst := obind_inv hst; obtain ⟨k, hk, hst⟩ := hst
            refine awp_skipP rfl ?_
            refine nx_then ?_
            refine awp_regP (Γ := envL [(24, .heap stG)]) [3, 4, 5, 7, 8] (envOK_cons okh24 envOK_nil) rfl rfl rfl (fun K hK => ?_)
            simp (disch := omega) only [Try.f12, go_sem, Nat.reduceAdd, ↓reduceIte, hk, hol, true_and]
            refine hK _ ?_
            clear hK K
            refine nx_blk (nx_loop ?_)
            have hll : (out ++ [tkV k B.st now]).length = out.length + 1 := by rw [List.length_append]; rfl
            have htl := tnV_len C B.id B.st now
            refine ⟨⟨f, (tnV C B.id B.st now).2, out ++ [tkV k B.st now], c + 11 + 200 + 100 * C.by'.length + 8 + 2 + 4 + 173, _⟩, ⟨hst, by simp only; omega, by simp only; omega, by simp only [hll]; omega, by simp only; omega, by simp only; omega, by simp only; omega⟩, by simp only; omega, ⟨fun x => .inr rfl, fun j oo hj => setR_mono (fun j oo hj => ?_) j oo hj, Nat.le_refl _⟩⟩
            simp only [upd_apply, del_apply, hll] at hj ⊢
            by_cases q1 : j = nx + 4
            · rw [if_pos q1] at hj ⊢; exact hj
            · rw [if_neg q1] at hj ⊢
              by_cases q2 : j = c + 11 + 200 + 100 * C.by'.length + 8 + 2 + 4 + 173
              · rw [if_pos q2] at hj ⊢; exact hj
              · rw [if_neg q2] at hj ⊢
                by_cases q3 : j = nx
                · rw [if_pos q3] at hj; rw [if_neg (by omega), if_neg (by omega), if_neg (by omega), if_pos q3]; exact hj
                · rw [if_neg q3] at hj
                  have := hlt j oo hj
                  rw [if_neg (by omega), if_neg (by omega), if_neg (by omega), if_neg q3]; exact hj
      · skip
        have d2 : decide (B.w ≤ now) = false := decide_eq_false hw
        rw [if_pos (.inr hw)] at hst
        obtain rfl := Option.some.inj hst
        refine awp_seqP rfl ?_
        refine awp_seqP rfl ?_
        refine awp_regP (Γ := envL [(26, .pure true dueG)]) [30, 3, 4, 5, 7, 8, 9, 10] (envOK_cons okh26 envOK_nil) rfl rfl rfl (fun K hK => ?_)
        simp (disch := omega) only [Try.f12, go_sem, Nat.reduceAdd, Int.reduceLE, Int.reduceLT, BitVec.reduceOfInt, reduceCtorEq, ↓reduceIte, d1, d2, Bool.not_false, List.head?_cons]
        refine hK _ ?_
        clear hK K
        refine nx_then ?_
        refine awp_ifB (.tmp 30) rfl rfl rfl (fun h => ?_) (fun h => ?_)
        · skip
          refine awp_drop rfl ?_
          refine awp_seqP rfl ?_
          refine awp_regP (Γ := noEnv) [6] (noEnv_ok _ _) rfl rfl rfl (fun K hK => ?_)
          simp (disch := omega) only [Try.f12, go_sem, Nat.reduceAdd, ↓reduceIte]
          refine hK _ ?_
          clear hK K
          refine nx_then ?_
          refine awp_sl 6 o 0 out.length 15 rfl (by simp (disch := omega) only [setR_app, up_app, nat_ne, ↓reduceIte, eq_self] <;> rfl) (by rw [kysC_len]; omega) ?_
          rw [List.drop_zero, List.take_of_length_le (by rw [kysC_len]; omega)]
          refine awp_retP rfl ?_
          refine nx_ret_then (nx_ret_blk (nx_ret_loop (nx_ret_blk ?_)))
          refine ⟨rfl, fun j oo hj => ?_, by simp only; omega⟩
          simp (disch := omega) only [setR_upd]
          refine setR_mono (fun j oo hj => ?_) j oo hj
          have := hlt j oo hj
          simp (disch := omega) only [up_app, nat_ne, ↓reduceIte]
          exact hj
        · skip
          refine awp_drop rfl ?_
          cases h
  · cases hg
theorem okh12 : EntOK Try.prog GLh 12 (.heap stepG) := ⟨⟨_, Try.func12, rfl, rfl⟩, step_ok⟩
end Go.AX

namespace Go.AX
open Go Go.Proofs
set_option maxRecDepth 8000

/-- The state of a new key of a role that has so many. -/
def bgS (role : Int) (n : Nat) : Option Int := if n = 0 then some (if role = 0 then 1 else 2) else if n = 1 then some (if role = 0 then 0 else 1) else none
def bgV (C : RC) (role : Int) (seed : S8) (now : W32) : W32 × Int × RC :=
  if role ≠ 0 ∧ role ≠ 1 then (0#32, 131, C) else
  match bgS role (roleL role (allL C)).length with
  | none => (0#32, 140, C)
  | some st => if (mkV C role seed st now).2.1 ≠ 0 then (0#32, (mkV C role seed st now).2.1, (mkV C role seed st now).2.2)
    else ((mkV C role seed st now).1, 0, if st = 2 then (snV (mkV C role seed st now).2.2 (mkV C role seed st now).1 now).2 else (mkV C role seed st now).2.2)
noncomputable def bgG : List AV → H → Nat → Option (AV × H × Nat)
  | [.op d 0, .agg cs, .i role, .agg xs, .w32 now], hp, nx => obind (rngOf hp d) fun t => obind (cfOf cs) fun _ => obind (un8 xs) fun l => obind (s8L l) fun sd => guardO (ROk t.C ∧ t.C.last.toNat < 1000000 ∧ t.C.c.h ≤ 10 ∧ 0 < t.C.by'.length ∧ t.C.by'.length ≤ 100)
      (some (.tup [.w32 (bgV t.C role sd now).1, .i (bgV t.C role sd now).2.1], setR d t.s t.m (bgV t.C role sd now).2.2 hp, nx + 20000))
  | _, _, _ => none
theorem bgG_eq (d : Nat) (cs : List AV) (role : Int) (now : W32) (xs : List AV) (hp : H) (nx : Nat) : bgG [.op d 0, .agg cs, .i role, .agg xs, .w32 now] hp nx = obind (rngOf hp d) fun t => obind (cfOf cs) fun _ => obind (un8 xs) fun l => obind (s8L l) fun sd => guardO (ROk t.C ∧ t.C.last.toNat < 1000000 ∧ t.C.c.h ≤ 10 ∧ 0 < t.C.by'.length ∧ t.C.by'.length ≤ 100)
      (some (.tup [.w32 (bgV t.C role sd now).1, .i (bgV t.C role sd now).2.1], setR d t.s t.m (bgV t.C role sd now).2.2 hp, nx + 20000)) := (rfl)
attribute [go_sem] bgG_eq
set_option maxHeartbeats 2000000 in
theorem bg_ok : HeapOK Try.prog GLh 8 bgG := by
  refine heap_of_awp Try.func8 (bodyOf_some rfl) ?_
  intro args hp nx r hp' nx' hg
  unfold bgG at hg
  split at hg
  · rename_i d cs role xs now
    replace hg := obind_inv hg; obtain ⟨⟨s, m, C⟩, hD0, hg⟩ := hg
    have hD := rngOf_inv hD0
    replace hg := obind_inv hg; obtain ⟨cf, hcf, hg⟩ := hg
    have := cfOf_inv hcf; subst this
    replace hg := obind_inv hg; obtain ⟨l8, hl8, hg⟩ := hg
    have := un8_inv _ hl8; subst this
    replace hg := obind_inv hg; obtain ⟨S, hS8, hg⟩ := hg
    have := s8L_inv hS8; subst this
    have e0 : c8 S.l = [.w8 S.a, .w8 S.b, .w8 S.c, .w8 S.d, .w8 S.e, .w8 S.f, .w8 S.g, .w8 S.h] := rfl
    rw [e0]
    replace hg := guardO_inv hg; obtain ⟨⟨hok, hla, hh, hpos, hC⟩, hg⟩ := hg
    simp only [Option.some.injEq, Prod.mk.injEq] at hg hD hok hla hh hpos hC; obtain ⟨rfl, rfl, rfl⟩ := hg
    refine ⟨Nat.le_of_ble_eq_true rfl, by omega, fun hnone => ?_⟩
    have h1 := hD.hd; have h2 := hD.hs; have h3 := hD.hm
    obtain ⟨n1, n2, n3, n4, n5, n6⟩ := hD.ne
    have hlt : ∀ k o, hp k = some o → k < nx := fun k o hk => lt_of_none2 hnone hk
    have hd := hlt _ _ h1
    have hs := hlt _ _ h2
    have hm := hlt _ _ h3
    have hset := setR_same hD
    have hC2 : C.by'.length ≤ 1000 := by omega
    have hal := allL_len C
    have hs8 : s8L [S.a, S.b, S.c, S.d, S.e, S.f, S.g, S.h] = some S := rfl
    rw [← hset, setR_set]
    refine awp_seqP rfl ?_
    refine awp_regP (Γ := noEnv) [0, 2, 4, 8] (noEnv_ok _ _) rfl rfl rfl (fun K hK => ?_)
    simp (disch := omega) only [Try.f8, go_sem, Nat.reduceAdd, Int.reduceLE, Int.reduceLT, BitVec.reduceOfInt, ↓reduceIte]
    refine hK _ ?_
    clear hK K
    refine nx_then ?_
    rcases (by omega : role = 0 ∨ role = 1 ∨ (role ≠ 0 ∧ role ≠ 1)) with hr | hr | ⟨hr0, hr1⟩
    · skip
      subst hr
      obtain ⟨Z, hZ⟩ : ∃ Z, roleL 0 (allL C) = Z := ⟨_, rfl⟩
      refine awp_seqP rfl ?_
      refine awp_seqP rfl ?_
      refine awp_regP (Γ := noEnv) [20, 0, 2, 4, 8] (noEnv_ok _ _) rfl rfl rfl (fun K hK => ?_)
      simp (disch := omega) only [Try.f8, go_sem, Nat.reduceAdd, reduceCtorEq, ↓reduceIte, decide_true, Bool.not_true]
      refine hK _ ?_
      clear hK K
      refine nx_then ?_
      refine awp_ifB (.tmp 20) rfl rfl rfl (fun h => ?_) (fun h => ?_)
      · skip
        refine awp_drop rfl ?_
        cases h
      · skip
        refine awp_drop rfl ?_
        refine awp_skipP rfl ?_
        refine nx_then ?_
        refine awp_seqP rfl ?_
        refine awp_regP (Γ := noEnv) [0, 2, 4, 8, 12] (noEnv_ok _ _) rfl rfl rfl (fun K hK => ?_)
        simp (disch := omega) only [Try.f8, go_sem, Nat.reduceAdd, Nat.reduceLeDiff, Nat.reduceLT, Int.reduceLE, Int.reduceToNat, ↓reduceIte, List.head?_cons, List.drop_zero]
        refine hK _ ?_
        clear hK K
        refine nx_then ?_
        refine awp_seqP rfl ?_
        refine awp_seqP rfl ?_
        refine awp_regP (Γ := envL [(9, .heap allG), (21, .pure false ofG)]) [0, 2, 4, 8, 12, 29] (envOK_cons okd15 (envOK_cons okh21 envOK_nil)) rfl rfl rfl (fun K hK => ?_)
        simp (disch := omega) only [Try.f8, go_sem, Nat.reduceAdd, ↓reduceIte, hC2, hal, hpos, hZ]
        refine hK _ ?_
        clear hK K
        refine nx_then ?_
        rcases (by omega : Z.length = 0 ∨ Z.length = 1 ∨ 2 ≤ Z.length) with hz | hz | hz
        · skip
          have hzi : ((Z.length : Nat) : Int) = 0 := by rw [hz]; rfl
          have es : bgS 0 Z.length = some 1 := by rw [hz]; rfl
          have eb : bgV C 0 S now = (if (mkV C 0 S 1 now).2.1 ≠ 0 then (0#32, (mkV C 0 S 1 now).2.1, (mkV C 0 S 1 now).2.2) else ((mkV C 0 S 1 now).1, 0, if (1 : Int) = 2 then (snV (mkV C 0 S 1 now).2.2 (mkV C 0 S 1 now).1 now).2 else (mkV C 0 S 1 now).2.2)) := by
            unfold bgV
            rw [if_neg (by omega), hZ, es]
          obtain ⟨⟨mi, me, mC⟩, hM⟩ : ∃ p, mkV C 0 S 1 now = p := ⟨_, rfl⟩
          rw [hM] at eb
          simp only at eb
          refine awp_blockN 0 rfl rfl ?_
          refine awp_seqP rfl ?_
          refine awp_regP (Γ := noEnv) [30, 0, 2, 4, 8, 12, 29] (noEnv_ok _ _) rfl rfl rfl (fun K hK => ?_)
          simp (disch := omega) only [Try.f8, go_sem, Nat.reduceAdd, ↓reduceIte, hzi, decide_true]
          refine hK _ ?_
          clear hK K
          refine nx_then ?_
          refine awp_ifB (.tmp 30) rfl rfl rfl (fun h => ?_) (fun h => ?_)
          · skip
            refine awp_drop rfl ?_
            refine awp_regP (Γ := noEnv) [0, 2, 4, 8, 12] (noEnv_ok _ _) rfl rfl rfl (fun K hK => ?_)
            simp (disch := omega) only [Try.f8, go_sem, Nat.reduceAdd, Nat.reduceLeDiff, Nat.reduceLT, Int.reduceLE, Int.reduceToNat, ↓reduceIte, List.head?_cons, List.drop_zero]
            refine hK _ ?_
            clear hK K
            refine nx_blk (nx_then ?_)
            refine awp_seqP rfl ?_
            refine awp_regP (Γ := envL [(17, .heap makeG)]) [0, 4, 12, 13, 14] (envOK_cons okd9 envOK_nil) rfl rfl rfl (fun K hK => ?_)
            simp (disch := omega) only [Try.f8, go_sem, Nat.reduceAdd, Nat.reduceLeDiff, ↓reduceIte, hok, hla, hh, hs8, hM, true_and]
            refine hK _ ?_
            clear hK K
            refine nx_then ?_
            refine awp_seqP rfl ?_
            refine awp_seqP rfl ?_
            refine awp_regP (Γ := noEnv) [48, 0, 4, 12, 13, 14] (noEnv_ok _ _) rfl rfl rfl (fun K hK => ?_)
            simp (disch := omega) only [Try.f8, go_sem, Nat.reduceAdd, ↓reduceIte]
            refine hK _ ?_
            clear hK K
            refine nx_then ?_
            refine awp_ifE (.tmp 48) rfl rfl rfl (fun h => ?_) (fun h => ?_)
            · skip
              refine awp_drop rfl ?_
              rw [if_pos h] at eb
              rw [eb]
              refine awp_seqP rfl ?_
              refine awp_regP (Γ := noEnv) [10, 11] (noEnv_ok _ _) rfl rfl rfl (fun K hK => ?_)
              simp (disch := omega) only [Try.f8, go_sem, Nat.reduceAdd, Int.reduceLE, Int.reduceLT, BitVec.reduceOfInt, ↓reduceIte]
              refine hK _ ?_
              clear hK K
              refine nx_then ?_
              refine awp_retP rfl ?_
              refine nx_ret_then ?_
              exact ⟨rfl, fun j o hj => setR_mono (fun j o hj => by { have := hlt j o hj; simp (disch := omega) only [up_app, nat_ne, ↓reduceIte]; exact hj }) j o hj, by simp only; omega⟩
            · skip
              refine awp_drop rfl ?_
              rw [if_neg (fun e => e h)] at eb
              rw [eb, if_neg (by decide)]
              refine awp_skipP rfl ?_
              refine nx_then ?_
              refine awp_seqP rfl ?_
              refine awp_seqP rfl ?_
              refine awp_regP (Γ := noEnv) [51, 0, 4, 13] (noEnv_ok _ _) rfl rfl rfl (fun K hK => ?_)
              simp (disch := omega) only [Try.f8, go_sem, Nat.reduceAdd, Int.reduceEq, ↓reduceIte, decide_false, Int.reduceEq]
              refine hK _ ?_
              clear hK K
              refine nx_then ?_
              refine awp_ifB (.tmp 51) rfl rfl rfl (fun h => ?_) (fun h => ?_)
              · skip
                refine awp_drop rfl ?_
                cases h
              · skip
                refine awp_drop rfl ?_
                refine awp_skipP rfl ?_
                refine nx_then ?_
                refine awp_seqP rfl ?_
                refine awp_regP (Γ := noEnv) [10, 11] (noEnv_ok _ _) rfl rfl rfl (fun K hK => ?_)
                simp (disch := omega) only [Try.f8, go_sem, Nat.reduceAdd, ↓reduceIte]
                refine hK _ ?_
                clear hK K
                refine nx_then ?_
                refine awp_retP rfl ?_
                exact ⟨rfl, fun j o hj => setR_mono (fun j o hj => by { have := hlt j o hj; simp (disch := omega) only [up_app, nat_ne, ↓reduceIte]; exact hj }) j o hj, by simp only; omega⟩
          · skip
            refine awp_drop rfl ?_
            cases h
        · skip
          have hzi : ((Z.length : Nat) : Int) = 1 := by rw [hz]; rfl
          have es : bgS 0 Z.length = some 0 := by rw [hz]; rfl
          have eb : bgV C 0 S now = (if (mkV C 0 S 0 now).2.1 ≠ 0 then (0#32, (mkV C 0 S 0 now).2.1, (mkV C 0 S 0 now).2.2) else ((mkV C 0 S 0 now).1, 0, if (0 : Int) = 2 then (snV (mkV C 0 S 0 now).2.2 (mkV C 0 S 0 now).1 now).2 else (mkV C 0 S 0 now).2.2)) := by
            unfold bgV
            rw [if_neg (by omega), hZ, es]
          obtain ⟨⟨mi, me, mC⟩, hM⟩ : ∃ p, mkV C 0 S 0 now = p := ⟨_, rfl⟩
          rw [hM] at eb
          simp only at eb
          refine awp_blockN 0 rfl rfl ?_
          refine awp_seqP rfl ?_
          refine awp_regP (Γ := noEnv) [30, 0, 2, 4, 8, 12, 29] (noEnv_ok _ _) rfl rfl rfl (fun K hK => ?_)
          simp (disch := omega) only [Try.f8, go_sem, Nat.reduceAdd, Int.reduceEq, ↓reduceIte, hzi, decide_false, Int.reduceEq]
          refine hK _ ?_
          clear hK K
          refine nx_then ?_
          refine awp_ifB (.tmp 30) rfl rfl rfl (fun h => ?_) (fun h => ?_)
          · skip
            refine awp_drop rfl ?_
            cases h
          · skip
            refine awp_drop rfl ?_
            refine awp_seqP rfl ?_
            refine awp_regP (Γ := noEnv) [36, 0, 2, 4, 8, 12] (noEnv_ok _ _) rfl rfl rfl (fun K hK => ?_)
            simp (disch := omega) only [Try.f8, go_sem, Nat.reduceAdd, ↓reduceIte, decide_true]
            refine hK _ ?_
            clear hK K
            refine nx_then ?_
            refine awp_ifB (.tmp 36) rfl rfl rfl (fun h => ?_) (fun h => ?_)
            · skip
              refine awp_drop rfl ?_
              refine awp_skipP rfl ?_
              refine nx_blk (nx_then ?_)
              refine awp_seqP rfl ?_
              refine awp_regP (Γ := envL [(17, .heap makeG)]) [0, 4, 12, 13, 14] (envOK_cons okd9 envOK_nil) rfl rfl rfl (fun K hK => ?_)
              simp (disch := omega) only [Try.f8, go_sem, Nat.reduceAdd, Nat.reduceLeDiff, ↓reduceIte, hok, hla, hh, hs8, hM, true_and]
              refine hK _ ?_
              clear hK K
              refine nx_then ?_
              refine awp_seqP rfl ?_
              refine awp_seqP rfl ?_
              refine awp_regP (Γ := noEnv) [48, 0, 4, 12, 13, 14] (noEnv_ok _ _) rfl rfl rfl (fun K hK => ?_)
              simp (disch := omega) only [Try.f8, go_sem, Nat.reduceAdd, ↓reduceIte]
              refine hK _ ?_
              clear hK K
              refine nx_then ?_
              refine awp_ifE (.tmp 48) rfl rfl rfl (fun h => ?_) (fun h => ?_)
              · skip
                refine awp_drop rfl ?_
                rw [if_pos h] at eb
                rw [eb]
                refine awp_seqP rfl ?_
                refine awp_regP (Γ := noEnv) [10, 11] (noEnv_ok _ _) rfl rfl rfl (fun K hK => ?_)
                simp (disch := omega) only [Try.f8, go_sem, Nat.reduceAdd, Int.reduceLE, Int.reduceLT, BitVec.reduceOfInt, ↓reduceIte]
                refine hK _ ?_
                clear hK K
                refine nx_then ?_
                refine awp_retP rfl ?_
                refine nx_ret_then ?_
                exact ⟨rfl, fun j o hj => setR_mono (fun j o hj => by { have := hlt j o hj; simp (disch := omega) only [up_app, nat_ne, ↓reduceIte]; exact hj }) j o hj, by simp only; omega⟩
              · skip
                refine awp_drop rfl ?_
                rw [if_neg (fun e => e h)] at eb
                rw [eb, if_neg (by decide)]
                refine awp_skipP rfl ?_
                refine nx_then ?_
                refine awp_seqP rfl ?_
                refine awp_seqP rfl ?_
                refine awp_regP (Γ := noEnv) [51, 0, 4, 13] (noEnv_ok _ _) rfl rfl rfl (fun K hK => ?_)
                simp (disch := omega) only [Try.f8, go_sem, Nat.reduceAdd, Int.reduceEq, ↓reduceIte, decide_false, Int.reduceEq]
                refine hK _ ?_
                clear hK K
                refine nx_then ?_
                refine awp_ifB (.tmp 51) rfl rfl rfl (fun h => ?_) (fun h => ?_)
                · skip
                  refine awp_drop rfl ?_
                  cases h
                · skip
                  refine awp_drop rfl ?_
                  refine awp_skipP rfl ?_
                  refine nx_then ?_
                  refine awp_seqP rfl ?_
                  refine awp_regP (Γ := noEnv) [10, 11] (noEnv_ok _ _) rfl rfl rfl (fun K hK => ?_)
                  simp (disch := omega) only [Try.f8, go_sem, Nat.reduceAdd, ↓reduceIte]
                  refine hK _ ?_
                  clear hK K
                  refine nx_then ?_
                  refine awp_retP rfl ?_
                  exact ⟨rfl, fun j o hj => setR_mono (fun j o hj => by { have := hlt j o hj; simp (disch := omega) only [up_app, nat_ne, ↓reduceIte]; exact hj }) j o hj, by simp only; omega⟩
            · skip
              refine awp_drop rfl ?_
              cases h
        · skip
          have dz0 : decide (((Z.length : Nat) : Int) = 0) = false := decide_eq_false (by omega)
          have dz1 : decide (((Z.length : Nat) : Int) = 1) = false := decide_eq_false (by omega)
          have es : bgS 0 Z.length = none := by unfold bgS; rw [if_neg (by omega), if_neg (by omega)]
          have eb : bgV C 0 S now = (0#32, 140, C) := by
            unfold bgV
            rw [if_neg (by omega), hZ, es]
          rw [eb]
          refine awp_blockN 0 rfl rfl ?_
          refine awp_seqP rfl ?_
          refine awp_regP (Γ := noEnv) [30, 0, 2, 4, 8, 12, 29] (noEnv_ok _ _) rfl rfl rfl (fun K hK => ?_)
          simp (disch := omega) only [Try.f8, go_sem, Nat.reduceAdd, ↓reduceIte, dz0]
          refine hK _ ?_
          clear hK K
          refine nx_then ?_
          refine awp_ifB (.tmp 30) rfl rfl rfl (fun h => ?_) (fun h => ?_)
          · skip
            refine awp_drop rfl ?_
            cases h
          · skip
            refine awp_drop rfl ?_
            refine awp_seqP rfl ?_
            refine awp_regP (Γ := noEnv) [36, 0, 2, 4, 8, 12] (noEnv_ok _ _) rfl rfl rfl (fun K hK => ?_)
            simp (disch := omega) only [Try.f8, go_sem, Nat.reduceAdd, ↓reduceIte, dz1]
            refine hK _ ?_
            clear hK K
            refine nx_then ?_
            refine awp_ifB (.tmp 36) rfl rfl rfl (fun h => ?_) (fun h => ?_)
            · skip
              refine awp_drop rfl ?_
              cases h
            · skip
              refine awp_drop rfl ?_
              refine awp_seqP rfl ?_
              refine awp_regP (Γ := noEnv) [10, 11] (noEnv_ok _ _) rfl rfl rfl (fun K hK => ?_)
              simp (disch := omega) only [Try.f8, go_sem, Nat.reduceAdd, Int.reduceLE, Int.reduceLT, BitVec.reduceOfInt, ↓reduceIte]
              refine hK _ ?_
              clear hK K
              refine nx_then ?_
              refine awp_retP rfl ?_
              refine nx_ret_blk (nx_ret_then ?_)
              exact ⟨rfl, fun j o hj => setR_mono (fun j o hj => by { have := hlt j o hj; simp (disch := omega) only [up_app, nat_ne, ↓reduceIte]; exact hj }) j o hj, by simp only; omega⟩
    · skip
      subst hr
      obtain ⟨Z, hZ⟩ : ∃ Z, roleL 1 (allL C) = Z := ⟨_, rfl⟩
      refine awp_seqP rfl ?_
      refine awp_seqP rfl ?_
      refine awp_regP (Γ := noEnv) [20, 0, 2, 4, 8] (noEnv_ok _ _) rfl rfl rfl (fun K hK => ?_)
      simp (disch := omega) only [Try.f8, go_sem, Nat.reduceAdd, Int.reduceEq, ↓reduceIte, decide_true, decide_false, Int.reduceEq, Bool.not_true, Bool.not_false]
      refine hK _ ?_
      clear hK K
      refine nx_then ?_
      refine awp_ifB (.tmp 20) rfl rfl rfl (fun h => ?_) (fun h => ?_)
      · skip
        refine awp_drop rfl ?_
        cases h
      · skip
        refine awp_drop rfl ?_
        refine awp_skipP rfl ?_
        refine nx_then ?_
        refine awp_seqP rfl ?_
        refine awp_regP (Γ := noEnv) [0, 2, 4, 8, 12] (noEnv_ok _ _) rfl rfl rfl (fun K hK => ?_)
        simp (disch := omega) only [Try.f8, go_sem, Nat.reduceAdd, Nat.reduceLeDiff, Nat.reduceLT, Int.reduceLE, Int.reduceToNat, ↓reduceIte, List.head?_cons, List.drop_succ_cons, List.drop_zero]
        refine hK _ ?_
        clear hK K
        refine nx_then ?_
        refine awp_seqP rfl ?_
        refine awp_seqP rfl ?_
        refine awp_regP (Γ := envL [(9, .heap allG), (21, .pure false ofG)]) [0, 2, 4, 8, 12, 29] (envOK_cons okd15 (envOK_cons okh21 envOK_nil)) rfl rfl rfl (fun K hK => ?_)
        simp (disch := omega) only [Try.f8, go_sem, Nat.reduceAdd, ↓reduceIte, hC2, hal, hpos, hZ]
        refine hK _ ?_
        clear hK K
        refine nx_then ?_
        rcases (by omega : Z.length = 0 ∨ Z.length = 1 ∨ 2 ≤ Z.length) with hz | hz | hz
        · skip
          have hzi : ((Z.length : Nat) : Int) = 0 := by rw [hz]; rfl
          have es : bgS 1 Z.length = some 2 := by rw [hz]; rfl
          have eb : bgV C 1 S now = (if (mkV C 1 S 2 now).2.1 ≠ 0 then (0#32, (mkV C 1 S 2 now).2.1, (mkV C 1 S 2 now).2.2) else ((mkV C 1 S 2 now).1, 0, if (2 : Int) = 2 then (snV (mkV C 1 S 2 now).2.2 (mkV C 1 S 2 now).1 now).2 else (mkV C 1 S 2 now).2.2)) := by
            unfold bgV
            rw [if_neg (by omega), hZ, es]
          obtain ⟨⟨mi, me, mC⟩, hM⟩ : ∃ p, mkV C 1 S 2 now = p := ⟨_, rfl⟩
          rw [hM] at eb
          simp only at eb
          refine awp_blockN 0 rfl rfl ?_
          refine awp_seqP rfl ?_
          refine awp_regP (Γ := noEnv) [30, 0, 2, 4, 8, 12, 29] (noEnv_ok _ _) rfl rfl rfl (fun K hK => ?_)
          simp (disch := omega) only [Try.f8, go_sem, Nat.reduceAdd, ↓reduceIte, hzi, decide_true]
          refine hK _ ?_
          clear hK K
          refine nx_then ?_
          refine awp_ifB (.tmp 30) rfl rfl rfl (fun h => ?_) (fun h => ?_)
          · skip
            refine awp_drop rfl ?_
            refine awp_regP (Γ := noEnv) [0, 2, 4, 8, 12] (noEnv_ok _ _) rfl rfl rfl (fun K hK => ?_)
            simp (disch := omega) only [Try.f8, go_sem, Nat.reduceAdd, Nat.reduceLeDiff, Nat.reduceLT, Int.reduceLE, Int.reduceToNat, ↓reduceIte, List.head?_cons, List.drop_succ_cons, List.drop_zero]
            refine hK _ ?_
            clear hK K
            refine nx_blk (nx_then ?_)
            refine awp_seqP rfl ?_
            refine awp_regP (Γ := envL [(17, .heap makeG)]) [0, 4, 12, 13, 14] (envOK_cons okd9 envOK_nil) rfl rfl rfl (fun K hK => ?_)
            simp (disch := omega) only [Try.f8, go_sem, Nat.reduceAdd, Nat.reduceLeDiff, ↓reduceIte, hok, hla, hh, hs8, hM, true_and]
            refine hK _ ?_
            clear hK K
            refine nx_then ?_
            refine awp_seqP rfl ?_
            refine awp_seqP rfl ?_
            refine awp_regP (Γ := noEnv) [48, 0, 4, 12, 13, 14] (noEnv_ok _ _) rfl rfl rfl (fun K hK => ?_)
            simp (disch := omega) only [Try.f8, go_sem, Nat.reduceAdd, ↓reduceIte]
            refine hK _ ?_
            clear hK K
            refine nx_then ?_
            refine awp_ifE (.tmp 48) rfl rfl rfl (fun h => ?_) (fun h => ?_)
            · skip
              refine awp_drop rfl ?_
              rw [if_pos h] at eb
              rw [eb]
              refine awp_seqP rfl ?_
              refine awp_regP (Γ := noEnv) [10, 11] (noEnv_ok _ _) rfl rfl rfl (fun K hK => ?_)
              simp (disch := omega) only [Try.f8, go_sem, Nat.reduceAdd, Int.reduceLE, Int.reduceLT, BitVec.reduceOfInt, ↓reduceIte]
              refine hK _ ?_
              clear hK K
              refine nx_then ?_
              refine awp_retP rfl ?_
              refine nx_ret_then ?_
              exact ⟨rfl, fun j o hj => setR_mono (fun j o hj => by { have := hlt j o hj; simp (disch := omega) only [up_app, nat_ne, ↓reduceIte]; exact hj }) j o hj, by simp only; omega⟩
            · skip
              refine awp_drop rfl ?_
              rw [if_neg (fun e => e h)] at eb
              rw [eb, if_pos trivial]
              refine awp_skipP rfl ?_
              refine nx_then ?_
              refine awp_seqP rfl ?_
              refine awp_seqP rfl ?_
              refine awp_regP (Γ := noEnv) [51, 0, 4, 13] (noEnv_ok _ _) rfl rfl rfl (fun K hK => ?_)
              simp (disch := omega) only [Try.f8, go_sem, Nat.reduceAdd, ↓reduceIte, decide_true]
              refine hK _ ?_
              clear hK K
              refine nx_then ?_
              refine awp_ifB (.tmp 51) rfl rfl rfl (fun h => ?_) (fun h => ?_)
              · skip
                refine awp_drop rfl ?_
                refine awp_regP (Γ := envL [(19, .heap seenG)]) [13] (envOK_cons okd21 envOK_nil) rfl rfl rfl (fun K hK => ?_)
                simp (disch := omega) only [Try.f8, go_sem, Nat.reduceAdd, ↓reduceIte]
                refine hK _ ?_
                clear hK K
                refine nx_then ?_
                refine awp_seqP rfl ?_
                refine awp_regP (Γ := noEnv) [10, 11] (noEnv_ok _ _) rfl rfl rfl (fun K hK => ?_)
                simp (disch := omega) only [Try.f8, go_sem, Nat.reduceAdd, ↓reduceIte]
                refine hK _ ?_
                clear hK K
                refine nx_then ?_
                refine awp_retP rfl ?_
                exact ⟨rfl, fun j o hj => setR_mono (fun j o hj => by { have := hlt j o hj; simp (disch := omega) only [up_app, nat_ne, ↓reduceIte]; exact hj }) j o hj, by simp only; omega⟩
              · skip
                refine awp_drop rfl ?_
                cases h
          · skip
            refine awp_drop rfl ?_
            cases h
        · skip
          have hzi : ((Z.length : Nat) : Int) = 1 := by rw [hz]; rfl
          have es : bgS 1 Z.length = some 1 := by rw [hz]; rfl
          have eb : bgV C 1 S now = (if (mkV C 1 S 1 now).2.1 ≠ 0 then (0#32, (mkV C 1 S 1 now).2.1, (mkV C 1 S 1 now).2.2) else ((mkV C 1 S 1 now).1, 0, if (1 : Int) = 2 then (snV (mkV C 1 S 1 now).2.2 (mkV C 1 S 1 now).1 now).2 else (mkV C 1 S 1 now).2.2)) := by
            unfold bgV
            rw [if_neg (by omega), hZ, es]
          obtain ⟨⟨mi, me, mC⟩, hM⟩ : ∃ p, mkV C 1 S 1 now = p := ⟨_, rfl⟩
          rw [hM] at eb
          simp only at eb
          refine awp_blockN 0 rfl rfl ?_
          refine awp_seqP rfl ?_
          refine awp_regP (Γ := noEnv) [30, 0, 2, 4, 8, 12, 29] (noEnv_ok _ _) rfl rfl rfl (fun K hK => ?_)
          simp (disch := omega) only [Try.f8, go_sem, Nat.reduceAdd, Int.reduceEq, ↓reduceIte, hzi, decide_false, Int.reduceEq]
          refine hK _ ?_
          clear hK K
          refine nx_then ?_
          refine awp_ifB (.tmp 30) rfl rfl rfl (fun h => ?_) (fun h => ?_)
          · skip
            refine awp_drop rfl ?_
            cases h
          · skip
            refine awp_drop rfl ?_
            refine awp_seqP rfl ?_
            refine awp_regP (Γ := noEnv) [36, 0, 2, 4, 8, 12] (noEnv_ok _ _) rfl rfl rfl (fun K hK => ?_)
            simp (disch := omega) only [Try.f8, go_sem, Nat.reduceAdd, ↓reduceIte, decide_true]
            refine hK _ ?_
            clear hK K
            refine nx_then ?_
            refine awp_ifB (.tmp 36) rfl rfl rfl (fun h => ?_) (fun h => ?_)
            · skip
              refine awp_drop rfl ?_
              refine awp_skipP rfl ?_
              refine nx_blk (nx_then ?_)
              refine awp_seqP rfl ?_
              refine awp_regP (Γ := envL [(17, .heap makeG)]) [0, 4, 12, 13, 14] (envOK_cons okd9 envOK_nil) rfl rfl rfl (fun K hK => ?_)
              simp (disch := omega) only [Try.f8, go_sem, Nat.reduceAdd, Nat.reduceLeDiff, ↓reduceIte, hok, hla, hh, hs8, hM, true_and]
              refine hK _ ?_
              clear hK K
              refine nx_then ?_
              refine awp_seqP rfl ?_
              refine awp_seqP rfl ?_
              refine awp_regP (Γ := noEnv) [48, 0, 4, 12, 13, 14] (noEnv_ok _ _) rfl rfl rfl (fun K hK => ?_)
              simp (disch := omega) only [Try.f8, go_sem, Nat.reduceAdd, ↓reduceIte]
              refine hK _ ?_
              clear hK K
              refine nx_then ?_
              refine awp_ifE (.tmp 48) rfl rfl rfl (fun h => ?_) (fun h => ?_)
              · skip
                refine awp_drop rfl ?_
                rw [if_pos h] at eb
                rw [eb]
                refine awp_seqP rfl ?_
                refine awp_regP (Γ := noEnv) [10, 11] (noEnv_ok _ _) rfl rfl rfl (fun K hK => ?_)
                simp (disch := omega) only [Try.f8, go_sem, Nat.reduceAdd, Int.reduceLE, Int.reduceLT, BitVec.reduceOfInt, ↓reduceIte]
                refine hK _ ?_
                clear hK K
                refine nx_then ?_
                refine awp_retP rfl ?_
                refine nx_ret_then ?_
                exact ⟨rfl, fun j o hj => setR_mono (fun j o hj => by { have := hlt j o hj; simp (disch := omega) only [up_app, nat_ne, ↓reduceIte]; exact hj }) j o hj, by simp only; omega⟩
              · skip
                refine awp_drop rfl ?_
                rw [if_neg (fun e => e h)] at eb
                rw [eb, if_neg (by decide)]
                refine awp_skipP rfl ?_
                refine nx_then ?_
                refine awp_seqP rfl ?_
                refine awp_seqP rfl ?_
                refine awp_regP (Γ := noEnv) [51, 0, 4, 13] (noEnv_ok _ _) rfl rfl rfl (fun K hK => ?_)
                simp (disch := omega) only [Try.f8, go_sem, Nat.reduceAdd, Int.reduceEq, ↓reduceIte, decide_false, Int.reduceEq]
                refine hK _ ?_
                clear hK K
                refine nx_then ?_
                refine awp_ifB (.tmp 51) rfl rfl rfl (fun h => ?_) (fun h => ?_)
                · skip
                  refine awp_drop rfl ?_
                  cases h
                · skip
                  refine awp_drop rfl ?_
                  refine awp_skipP rfl ?_
                  refine nx_then ?_
                  refine awp_seqP rfl ?_
                  refine awp_regP (Γ := noEnv) [10, 11] (noEnv_ok _ _) rfl rfl rfl (fun K hK => ?_)
                  simp (disch := omega) only [Try.f8, go_sem, Nat.reduceAdd, ↓reduceIte]
                  refine hK _ ?_
                  clear hK K
                  refine nx_then ?_
                  refine awp_retP rfl ?_
                  exact ⟨rfl, fun j o hj => setR_mono (fun j o hj => by { have := hlt j o hj; simp (disch := omega) only [up_app, nat_ne, ↓reduceIte]; exact hj }) j o hj, by simp only; omega⟩
            · skip
              refine awp_drop rfl ?_
              cases h
        · skip
          have dz0 : decide (((Z.length : Nat) : Int) = 0) = false := decide_eq_false (by omega)
          have dz1 : decide (((Z.length : Nat) : Int) = 1) = false := decide_eq_false (by omega)
          have es : bgS 1 Z.length = none := by unfold bgS; rw [if_neg (by omega), if_neg (by omega)]
          have eb : bgV C 1 S now = (0#32, 140, C) := by
            unfold bgV
            rw [if_neg (by omega), hZ, es]
          rw [eb]
          refine awp_blockN 0 rfl rfl ?_
          refine awp_seqP rfl ?_
          refine awp_regP (Γ := noEnv) [30, 0, 2, 4, 8, 12, 29] (noEnv_ok _ _) rfl rfl rfl (fun K hK => ?_)
          simp (disch := omega) only [Try.f8, go_sem, Nat.reduceAdd, ↓reduceIte, dz0]
          refine hK _ ?_
          clear hK K
          refine nx_then ?_
          refine awp_ifB (.tmp 30) rfl rfl rfl (fun h => ?_) (fun h => ?_)
          · skip
            refine awp_drop rfl ?_
            cases h
          · skip
            refine awp_drop rfl ?_
            refine awp_seqP rfl ?_
            refine awp_regP (Γ := noEnv) [36, 0, 2, 4, 8, 12] (noEnv_ok _ _) rfl rfl rfl (fun K hK => ?_)
            simp (disch := omega) only [Try.f8, go_sem, Nat.reduceAdd, ↓reduceIte, dz1]
            refine hK _ ?_
            clear hK K
            refine nx_then ?_
            refine awp_ifB (.tmp 36) rfl rfl rfl (fun h => ?_) (fun h => ?_)
            · skip
              refine awp_drop rfl ?_
              cases h
            · skip
              refine awp_drop rfl ?_
              refine awp_seqP rfl ?_
              refine awp_regP (Γ := noEnv) [10, 11] (noEnv_ok _ _) rfl rfl rfl (fun K hK => ?_)
              simp (disch := omega) only [Try.f8, go_sem, Nat.reduceAdd, Int.reduceLE, Int.reduceLT, BitVec.reduceOfInt, ↓reduceIte]
              refine hK _ ?_
              clear hK K
              refine nx_then ?_
              refine awp_retP rfl ?_
              refine nx_ret_blk (nx_ret_then ?_)
              exact ⟨rfl, fun j o hj => setR_mono (fun j o hj => by { have := hlt j o hj; simp (disch := omega) only [up_app, nat_ne, ↓reduceIte]; exact hj }) j o hj, by simp only; omega⟩
    · skip
      have d0 : decide (role = 0) = false := decide_eq_false hr0
      have d1 : decide (role = 1) = false := decide_eq_false hr1
      have eb : bgV C role S now = (0#32, 131, C) := by unfold bgV; exact if_pos ⟨hr0, hr1⟩
      rw [eb]
      refine awp_seqP rfl ?_
      refine awp_seqP rfl ?_
      refine awp_regP (Γ := noEnv) [20, 0, 2, 4, 8] (noEnv_ok _ _) rfl rfl rfl (fun K hK => ?_)
      simp (disch := omega) only [Try.f8, go_sem, Nat.reduceAdd, ↓reduceIte, d0, d1, Bool.not_false]
      refine hK _ ?_
      clear hK K
      refine nx_then ?_
      refine awp_ifB (.tmp 20) rfl rfl rfl (fun h => ?_) (fun h => ?_)
      · skip
        refine awp_drop rfl ?_
        refine awp_seqP rfl ?_
        refine awp_regP (Γ := noEnv) [10, 11] (noEnv_ok _ _) rfl rfl rfl (fun K hK => ?_)
        simp (disch := omega) only [Try.f8, go_sem, Nat.reduceAdd, Int.reduceLE, Int.reduceLT, BitVec.reduceOfInt, ↓reduceIte]
        refine hK _ ?_
        clear hK K
        refine nx_then ?_
        refine awp_retP rfl ?_
        refine nx_ret_then ?_
        exact ⟨rfl, fun j o hj => setR_mono (fun j o hj => by { have := hlt j o hj; simp (disch := omega) only [up_app, nat_ne, ↓reduceIte]; exact hj }) j o hj, by simp only; omega⟩
      · skip
        refine awp_drop rfl ?_
        cases h
  · cases hg
theorem okh8 : EntOK Try.prog GLh 8 (.heap bgG) := ⟨⟨_, Try.func8, rfl, rfl⟩, bg_ok⟩
end Go.AX

namespace Go.AX
open Go

/-- May operation i be run first out of what is left of an order? -/
def okC (P : Program) (Γ : Env) (md : Nat → Nat) (ops : Array Oper) (i : Nat) : List Nat → Bool
  | [] => false
  | j :: r => j == i || ((match ops[j]?, ops[i]? with
    | some y, some x => y.apart ops x && compat j i (dcOf P Γ (md j) y.op) (dcOf P Γ (md i) x.op)
    | _, _ => false) && okC P Γ md ops i r)
def readyB (ops : Array Oper) (rem : List Nat) (i : Nat) : Bool := match ops[i]? with
  | some x => x.after.all fun e => !Region.binds .any e || !rem.contains e.on
  | none => false
def nextC (P : Program) (Γ : Env) (md : Nat → Nat) (ops : Array Oper) (i : Nat) (cs : List (List Nat)) : List (List Nat) := (cs.filter (okC P Γ md ops i)).map fun l => l.erase i
/-- Whatever is drawn, one of the orders goes on standing for it. -/
def okT (P : Program) (Γ : Env) (md : Nat → Nat) (ops : Array Oper) : Nat → List Nat → List (List Nat) → Bool
  | 0, _, cs => cs.any List.isEmpty
  | n + 1, rem, cs => !cs.isEmpty && (!rem.isEmpty || cs.any List.isEmpty) && rem.all fun i => !readyB ops rem i || okT P Γ md ops n (rem.filter fun k => k != i) (nextC P Γ md ops i cs)

theorem okC_split {P : Program} {Γ : Env} {md : Nat → Nat} {ops : Array Oper} {i : Nat} : ∀ {l : List Nat}, okC P Γ md ops i l = true → ∃ p q, l = p ++ i :: q ∧ l.erase i = p ++ q ∧
    ∀ j ∈ p, j ≠ i ∧ ∃ y x, ops[j]? = some y ∧ ops[i]? = some x ∧ y.apart ops x = true ∧ compat j i (dcOf P Γ (md j) y.op) (dcOf P Γ (md i) x.op) = true
  | [], h => by cases h
  | j :: r, h => by
    by_cases e : j = i
    · subst e
      exact ⟨[], r, rfl, by simp, fun j hj => nomatch hj⟩
    · have e2 : (j == i) = false := by simp [e]
      simp only [okC, e2, Bool.false_or, Bool.and_eq_true] at h
      obtain ⟨h1, h2⟩ := h
      obtain ⟨p, q, g1, g2, g3⟩ := okC_split h2
      refine ⟨j :: p, q, by rw [g1]; rfl, by rw [List.erase_cons, e2]; simp [g2], fun k hk => ?_⟩
      rcases List.mem_cons.1 hk with rfl | hk
      · refine ⟨e, ?_⟩
        split at h1
        · rename_i y x hy hx
          simp only [Bool.and_eq_true] at h1
          exact ⟨y, x, hy, hx, h1.1, h1.2⟩
        · cases h1
      · exact g3 k hk

section
variable {P : Program} {Γ : Env} {c : Ctx} {σ0 : Nat → Loc} {I0 : Nat → Prop} {w0 : World} {md : Nat → Nat} {ops : Array Oper}

theorem okT_ne {n : Nat} {rem : List Nat} {cs : List (List Nat)} (h : okT P Γ md ops n rem cs = true) : cs ≠ [] := by
  rintro rfl
  cases n <;> simp [okT] at h

theorem drawnT_sound (hΓ : EnvOK P c.GL Γ) {Q : Exit → Act → World → Prop} (hdst : okDst c.nt ops.toList = true) (he : okEdges ops = true) {G : S → Prop} (hG : ∀ s t, G s → Seqv s t → G t)
    (hQ : ∀ s a' w', G s → R c σ0 I0 w0 (fun _ => False) s a' w' → Q .normal a' w') :
    ∀ (fuel : Nat) (listed : Array Bool) (s : S) (a : Act) (w : World) (cs : List (List Nat)), listed.size = ops.size → (unl ops.size listed).length ≤ fuel →
      okT P Γ md ops fuel (unl ops.size listed) cs = true → (∀ l ∈ cs, ∃ sf, runIx P Γ c.GL md ops l s = some sf ∧ G sf) → R c σ0 I0 w0 (fun k => k ∈ unl ops.size listed) s a w → wpAny P .any ops Q fuel listed a w := by
  have fin : ∀ (listed : Array Bool) (s : S) (a : Act) (w : World) (cs : List (List Nat)), cs.any List.isEmpty = true → (∀ l ∈ cs, ∃ sf, runIx P Γ c.GL md ops l s = some sf ∧ G sf) → R c σ0 I0 w0 (fun k => k ∈ unl ops.size listed) s a w → Q .normal a w := by
    intro listed s a w cs hcs hrun hR
    obtain ⟨l, hl, hl2⟩ := List.any_eq_true.1 hcs
    obtain rfl := List.isEmpty_iff.1 hl2
    obtain ⟨sf, h1, h2⟩ := hrun _ hl
    obtain rfl := Option.some.inj h1
    exact hQ _ _ _ h2 (hR.un fun k hk => hk.elim)
  have unl_nil : ∀ (listed : Array Bool), listed.size = ops.size → Region.ready .any ops listed = [] → unl ops.size listed = [] := by
    intro listed hsz hr
    have hall := noready_of he listed hsz hr
    unfold unl
    refine List.filter_eq_nil_iff.2 fun i hi => ?_
    rw [hall i (List.mem_range.1 hi)]; simp
  intro fuel
  induction fuel with
  | zero =>
    intro listed s a w cs hsz hlen hok hrun hR
    have hun0 : unl ops.size listed = [] := List.eq_nil_of_length_eq_zero (by omega)
    have hr : Region.ready .any ops listed = [] := by
      refine List.eq_nil_iff_forall_not_mem.2 fun i hi => ?_
      obtain ⟨h1, o, ho, _⟩ := mem_ready.1 hi
      have : i ∈ unl ops.size listed := by unfold unl; rw [List.mem_filter, List.mem_range]; exact ⟨(Array.getElem?_eq_some_iff.1 ho).1, by rw [h1]; rfl⟩
      rw [hun0] at this; cases this
    exact ⟨hr, fin listed s a w cs hok hrun hR⟩
  | succ fuel ih =>
    intro listed s a w cs hsz hlen hok hrun hR
    simp only [okT, Bool.and_eq_true, List.all_eq_true] at hok
    obtain ⟨⟨_, hemp⟩, hstepT⟩ := hok
    refine ⟨fun hr => ?_, fun i hi => ?_⟩
    · have hz := unl_nil listed hsz hr
      rw [hz] at hemp
      exact fin listed s a w cs (by simpa using hemp) hrun hR
    obtain ⟨hun, x, hx, hall⟩ := mem_ready.1 hi
    have hlt := (Array.getElem?_eq_some_iff.1 hx).1
    have hmem : i ∈ unl ops.size listed := by unfold unl; rw [List.mem_filter, List.mem_range]; exact ⟨hlt, by rw [hun]; rfl⟩
    have hrd : readyB ops (unl ops.size listed) i = true := by
      unfold readyB
      simp only [hx]
      refine Array.all_eq_true_iff_forall_mem.2 fun e hem => ?_
      cases hb : Region.binds .any e with
      | false => rfl
      | true =>
        have h1 := hall e hem hb
        simp only [Bool.not_true, Bool.false_or, Bool.not_eq_true']
        rw [← Bool.not_eq_true]
        intro hc
        have hc2 := List.contains_iff_mem.1 hc
        unfold unl at hc2
        rw [List.mem_filter, List.mem_range] at hc2
        obtain ⟨hc3, hc4⟩ := hc2
        have hs2 : e.on < listed.size := by omega
        rw [Array.getD_eq_getD_getElem?, Array.getElem?_eq_getElem hs2] at h1 hc4
        simp only [Option.getD_some] at h1 hc4
        rw [h1] at hc4; cases hc4
    have hT := hstepT i hmem
    rw [hrd] at hT
    simp only [Bool.not_true, Bool.false_or] at hT
    have hsub : ∀ k, k ∈ unl ops.size (listed.setIfInBounds i true) → k ∈ unl ops.size listed ∧ k ≠ i := by
      intro k hk
      simp only [unl, List.mem_filter, List.mem_range] at hk ⊢
      by_cases hki : k = i
      · subst hki
        rw [Array.getD_eq_getD_getElem?, Array.getElem?_setIfInBounds_self_of_lt (by omega)] at hk
        simp at hk
      · rw [getD_set_ne true (Ne.symm hki)] at hk
        exact ⟨hk, hki⟩
    have e0 : unl ops.size (listed.setIfInBounds i true) = (unl ops.size listed).filter (fun k => k != i) := by
      unfold unl
      rw [List.filter_filter]
      refine List.filter_congr fun k hk => ?_
      by_cases hki : k = i
      · subst hki
        rw [Array.getD_eq_getD_getElem?, Array.getElem?_setIfInBounds_self_of_lt (by omega)]; simp
      · rw [getD_set_ne true (Ne.symm hki)]
        simp [hki]
    have hlen2 : (unl ops.size (listed.setIfInBounds i true)).length < (unl ops.size listed).length := by
      rw [e0]
      refine Nat.lt_of_le_of_ne (List.length_filter_le _ _) fun e => ?_
      have := List.length_filter_eq_length_iff.1 e i hmem
      simp at this
    have hfw : ∀ l, l ∈ cs → okC P Γ md ops i l = true → ∃ s1 sf, stepO P Γ c.GL md ops i x s = some s1 ∧ runIx P Γ c.GL md ops (l.erase i) s1 = some sf ∧ G sf := by
      intro l hl hc
      obtain ⟨p, q, g1, g2, g3⟩ := okC_split hc
      obtain ⟨sf, r1, r2⟩ := hrun l hl
      rw [g1] at r1
      obtain ⟨s1, sf', f1, f2, f3⟩ := forward hx p q (fun j hj => by
        obtain ⟨a1, y, x', a2, a3, a4, a5⟩ := g3 j hj
        rw [hx] at a3; obtain rfl := Option.some.inj a3
        exact ⟨a1, y, a2, a4, a5⟩) r1
      exact ⟨s1, sf', f1, by rw [g2]; exact f2, hG _ _ r2 f3⟩
    have hcs := okT_ne hT
    obtain ⟨s1, hs1⟩ : ∃ s1, stepO P Γ c.GL md ops i x s = some s1 := by
      unfold nextC at hcs
      cases hf : cs.filter (okC P Γ md ops i) with
      | nil => rw [hf] at hcs; exact absurd rfl hcs
      | cons l r =>
        have hm := List.mem_filter.1 (show l ∈ cs.filter (okC P Γ md ops i) by rw [hf]; simp)
        obtain ⟨s1, _, f1, _⟩ := hfw l hm.1 hm.2
        exact ⟨s1, f1⟩
    have hstep := step_sound (K := wpAny P .any ops Q fuel (listed.setIfInBounds i true)) (Q := Q) (ops := ops) hΓ hs1 (okDst_mem hdst (Array.mem_toList_iff.2 (Array.mem_of_getElem? hx))) (rem := fun k => k ∈ unl ops.size listed) hmem hR (fun a' w' hR' =>
      ih (listed.setIfInBounds i true) s1 a' w' (nextC P Γ md ops i cs) (by simpa using hsz) (by omega) (by rw [e0]; exact hT) (fun l hl => by
        unfold nextC at hl
        obtain ⟨l0, hl0, rfl⟩ := List.mem_map.1 hl
        obtain ⟨h1, h2⟩ := List.mem_filter.1 hl0
        obtain ⟨s1', sf, f1, f2, f3⟩ := hfw l0 h1 h2
        rw [hs1] at f1; obtain rfl := Option.some.inj f1
        exact ⟨sf, f2, f3⟩) (hR'.un fun k hk => hsub k hk))
    unfold wpOp
    simp only [hx]
    split
    · rename_i hw; rw [if_pos hw] at hstep; exact .inl hstep
    · rename_i hw; rw [if_neg hw] at hstep; exact hstep
end

def okTC (P : Program) (Γ : Env) (md : Nat → Nat) (L : List (List Nat)) (c : Code) : Bool := okEdges (rOps c) && okT P Γ md (rOps c) (rOps c).size (List.range (rOps c).size) L
theorem awp_drT {P : Program} {GL : Nat → Option (List AV)} {nt : Nat} {Q : Exit → S → Prop} {s : S} {code : Code} {Γ : Env} (L : List (List Nat)) (md : Nat → Nat) (ks : List Nat) (hm : P.follows .mixedOrders = true) (hΓ : EnvOK P GL Γ) (hc : isReg code = true) (hd : rDraw code = true) (ho : okDst nt (rOps code).toList = true) (hk : okTC P Γ md L code = true)
    (h : ∀ K : S → Prop, (∀ t, Q .normal t → K t) → allO (fun l => someP (runM P Γ GL md (rN code) (lights code) l (enterR (rN code) s)) fun t => K { t with fr := keepF ks t.fr }) L) : Awp P GL nt code s Q := by
  have h' := allO_mem (h (Q .normal) fun _ h => h)
  clear h
  refine Q_keep ?_
  cases code <;> first | (cases hc; done) | skip
  rename_i id ops d
  simp only [rDraw] at hd
  subst hd
  intro c h1 h2 σ0 I0 w0 a w hR
  subst h1; subst h2
  simp only [rOps, okTC, Bool.and_eq_true] at ho hk
  have h0 : unl ops.size (Array.replicate ops.size false) = List.range ops.size := by
    unfold unl
    refine List.filter_eq_self.2 fun k hk => ?_
    rw [List.mem_range] at hk
    rw [Array.getD_eq_getD_getElem?, Array.getElem?_replicate, if_pos hk]; rfl
  have hrun : ∀ (l : List Nat) (s : S), runM P Γ c.GL md (rN (.region id ops true)) (lights (.region id ops true)) l s = runIx P Γ c.GL md ops l s := by
    intro l
    induction l with
    | nil => intro s; rfl
    | cons i r ih =>
      intro s
      have hl : (lights (.region id ops true))[i]? = (ops[i]?).map (light ops) := by simp only [lights, rOps, List.getElem?_map, Array.getElem?_toList]
      simp only [runM, runIx, hl]
      cases ops[i]? with
      | none => rfl
      | some o =>
        simp only [Option.map_some, stepI, step_eq]
        congr 1
        funext s'
        exact ih s'
  refine wp_region_any hm (drawnT_sound (σ0 := σ0) (I0 := I0) (w0 := w0) (md := md) (G := fun sf => ∃ s', Seqv s' sf ∧ Q .normal { s' with fr := keepF ks s'.fr }) hΓ ho hk.1
    (fun s t hs he => by obtain ⟨s', e1, e2⟩ := hs; exact ⟨s', e1.trans he, e2⟩)
    (fun s a' w' hs hR' => by obtain ⟨s', e1, e2⟩ := hs; exact ⟨s', ⟨_, e2, sub_keep ks s', rfl⟩, hR'.eqv e1.symm⟩)
    ops.size _ (enterR ops.size s) a _ L (by simp) (by rw [h0]; simp) (by rw [h0]; exact hk.2) (fun l hl => ?_) ?_)
  · obtain ⟨t, e1, e2⟩ := someP_inv (h' l hl)
    rw [hrun] at e1
    exact ⟨t, e1, t, Seqv.refl _, e2⟩
  · exact ((hR.enter ops.size).un fun k hk => by rw [h0] at hk; exact List.mem_range.1 hk).world rfl rfl rfl rfl
end Go.AX

namespace Go.AX
open Go Go.Proofs
set_option maxRecDepth 8000

/-- Settings of few numbers, with small trees. -/
def setV (k : BitVec 16) : CF := { cfgV k with h := 1 }
def setG21 : List AV → Option AV
  | [.w16 k] => some (.agg (cfC (setV k)))
  | _ => none
theorem setG21_eq (k : BitVec 16) : setG21 [.w16 k] = some (.agg (cfC (setV k))) := (rfl)
attribute [go_sem] setG21_eq
theorem set21_ok : PureOK Try.prog GLh 6 setG21 := by
  refine pure_of_awp Try.func6 (bodyOf_some rfl) ?_
  intro args r hg
  unfold setG21 at hg
  split at hg
  · rename_i k
    obtain rfl := Option.some.inj hg
    refine ⟨Nat.le_of_ble_eq_true rfl, fun nx => ?_⟩
    refine awp_seqP rfl ?_
    refine awp_regP (Γ := noEnv) [0, 2] (noEnv_ok _ _) rfl rfl rfl (fun K hK => ?_)
    simp (disch := omega) only [Try.f6, go_sem, ↓reduceIte]
    refine hK _ ?_
    clear hK K
    refine nx_then ?_
    refine awp_seqP rfl ?_
    refine awp_regP (Γ := envL [(15, .pure false cfgG21)]) [2, 3] (envOK_cons okh15 envOK_nil) rfl rfl rfl (fun K hK => ?_)
    simp (disch := omega) only [Try.f6, go_sem, Nat.reduceAdd, Nat.reduceLeDiff, ↓reduceIte, cfC_eq, List.nil_append, List.cons_append]
    refine hK _ ?_
    clear hK K
    refine nx_then ?_
    refine awp_seqP rfl ?_
    refine awp_regP (Γ := noEnv) [2, 3] (noEnv_ok _ _) rfl rfl rfl (fun K hK => ?_)
    simp (disch := omega) only [Try.f6, go_sem, Nat.reduceAdd, Nat.reduceLeDiff, Nat.reduceLT, ↓reduceIte, List.set_cons_succ, List.set_cons_zero]
    refine hK _ ?_
    clear hK K
    refine nx_then ?_
    refine awp_seqP rfl ?_
    refine awp_regP (Γ := noEnv) [2] (noEnv_ok _ _) rfl rfl rfl (fun K hK => ?_)
    simp (disch := omega) only [Try.f6, go_sem, Nat.reduceAdd, Nat.reduceLeDiff, ↓reduceIte, List.take_succ_cons, List.take_zero, List.drop_zero]
    refine hK _ ?_
    clear hK K
    refine nx_then ?_
    refine awp_retP rfl ?_
    simp (maxSteps := 400000) (disch := omega) only [pureQ, resA, resAL, resA1, Try.f6, go_sem, Nat.reduceAdd, Nat.reduceLeDiff, ↓reduceIte, cfC_eq, ldV, List.take_succ_cons, List.take_zero, List.drop_zero]
    rfl
  · cases hg
theorem okh6 : EntOK Try.prog GLh 6 (.pure false setG21) := ⟨⟨_, Try.func6, rfl, rfl⟩, set21_ok⟩

theorem mrg_setR (hp : H) (d s m : Nat) (C : RC) (e l : Nat) (M : MC) (h1 : e ≠ l) (h2 : e ≠ d) (h3 : e ≠ s) (h4 : e ≠ m) (h5 : l ≠ d) (h6 : l ≠ s) (h7 : l ≠ m) : mrgOf (setR d s m C (setM e l M hp)) e = some ⟨l, M⟩ :=
  mrgOf_has ⟨by rw [setR_app _ _ _ _ _ _ h2 h3 h4]; exact (setM_has h1).hd, by rw [setR_app _ _ _ _ _ _ h5 h6 h7]; exact (setM_has h1).hl, ⟨h1, Ne.symm h1⟩⟩
theorem setM_setR (hp : H) (d s m : Nat) (C : RC) (e l : Nat) (M : MC) (h2 : e ≠ d) (h3 : e ≠ s) (h4 : e ≠ m) (h5 : l ≠ d) (h6 : l ≠ s) (h7 : l ≠ m) : setM e l M (setR d s m C hp) = setR d s m C (setM e l M hp) := by
  unfold setM
  rw [setR_upd _ _ _ _ _ _ _ h5 h6 h7, setR_upd _ _ _ _ _ _ _ h2 h3 h4]
theorem setM_delM (hp : H) (e l l' : Nat) (M M' : MC) (_ : e ≠ l) : setM e l' M' (del (setM e l M hp) l) = setM e l' M' (del hp l) := by
  funext k
  simp only [setM, upd_apply, del_apply]
  by_cases q1 : k = e
  · simp [q1]
  · by_cases q2 : k = l'
    · simp [q2]
    · by_cases q3 : k = l
      · simp [q3]
      · simp [q1, q2, q3]
theorem mmkH_some (d l : Nat) (M M' : MC) (hp : H) (nx : Nat) : mmkH d l M hp nx (some M') = setM d (nx + 51) M' (del hp l) := (rfl)
theorem s8L_8 (a b c d e f g h : B8) : s8L [a, b, c, d, e, f, g, h] = some ⟨a, b, c, d, e, f, g, h⟩ := (rfl)
attribute [go_sem] mrg_setR setM_setR setM_delM mmkH_some s8L_8
/-- The first keys, and the rings that hold them. -/
def fsK (c : CF) (now : W32) : KY := ⟨1#32, 0, 1, ⟨0#8, 0#8, 0#8, 0#8, 0#8, 0#8, 0#8, 0#8⟩, c.h, 0#32, now, 0#32⟩
def scK (c : CF) (now seen : W32) : KY := ⟨2#32, 1, 2, ⟨1#8, 0#8, 0#8, 0#8, 0#8, 0#8, 0#8, 0#8⟩, c.h, 0#32, now, seen⟩
def bgnC (c : CF) (now : W32) : Nat → RC
  | 0 => ⟨c, [], 0#32, []⟩
  | 1 => ⟨c, [(1#32, fsK c now)], 1#32, []⟩
  | _ => ⟨c, [(1#32, fsK c now), (2#32, scK c now (mx1 now))], 2#32, []⟩
def bgnM (c : CF) (q : Nat) (now : W32) : Nat → MC
  | 0 => ⟨c, q, [], 0#32⟩
  | 1 => ⟨c, q, [fsK c now], 1#32⟩
  | _ => ⟨c, q, [fsK c now, scK c now (mx1 now)], 2#32⟩
theorem bgn_ok (c : CF) (now : W32) (hh : c.h ≤ 10) : ∀ i, ROk (bgnC c now i)
  | 0 => ROk.new c
  | 1 => (ROk.new c).mk' (by show (0#32 : W32).toNat < _; decide) hh 0 ⟨0#8, 0#8, 0#8, 0#8, 0#8, 0#8, 0#8, 0#8⟩ 1 now
  | i + 2 => by
    have h := ((bgn_ok c now hh 1).mk' (by show (1#32 : W32).toNat < _; decide) hh 1 ⟨1#8, 0#8, 0#8, 0#8, 0#8, 0#8, 0#8, 0#8⟩ 2 now).snV 2#32 now
    exact h
def bgnCx (c : CF) (now : W32) : RC := ⟨c, [(1#32, fsK c now), (2#32, scK c now 0#32)], 2#32, []⟩
def bgnMx (c : CF) (q : Nat) (now : W32) : MC := ⟨c, q, [fsK c now, scK c now 0#32], 2#32⟩
theorem bgn_m0 (c : CF) (now : W32) : mkV (bgnC c now 0) 0 ⟨0#8, 0#8, 0#8, 0#8, 0#8, 0#8, 0#8, 0#8⟩ 1 now = (1#32, 0, bgnC c now 1) := rfl
theorem bgn_m1 (c : CF) (now : W32) : mkV (bgnC c now 1) 1 ⟨1#8, 0#8, 0#8, 0#8, 0#8, 0#8, 0#8, 0#8⟩ 2 now = (2#32, 0, bgnCx c now) := rfl
theorem bgn_mm0 (c : CF) (q : Nat) (now : W32) : mmkV (bgnM c q now 0) 0 ⟨0#8, 0#8, 0#8, 0#8, 0#8, 0#8, 0#8, 0#8⟩ 1 now = (1#32, 0, some (bgnM c q now 1)) := rfl
theorem bgn_mm1 (c : CF) (q : Nat) (now : W32) : mmkV (bgnM c q now 1) 1 ⟨1#8, 0#8, 0#8, 0#8, 0#8, 0#8, 0#8, 0#8⟩ 2 now = (2#32, 0, some (bgnMx c q now)) := rfl
theorem bgn_s (c : CF) (now : W32) : snV (bgnCx c now) 2#32 now = (0, bgnC c now 2) := rfl
theorem bgn_ms (c : CF) (q : Nat) (now : W32) : msnV (bgnMx c q now) 2#32 now = (0, bgnM c q now 2) := rfl
theorem bgn_l0 (c : CF) (now : W32) : (bgnC c now 0).last.toNat < 1000000 := by show (0#32 : W32).toNat < _; decide
theorem bgn_l1 (c : CF) (now : W32) : (bgnC c now 1).last.toNat < 1000000 := by show (1#32 : W32).toNat < _; decide
theorem bgn_h (c : CF) (now : W32) : ∀ i, (bgnC c now i).c = c
  | 0 => rfl
  | 1 => rfl
  | _ + 2 => rfl
theorem bgn_len (c : CF) (q : Nat) (now : W32) : (bgnMx c q now).L.length ≤ 1000 := Nat.le_of_ble_eq_true rfl
def rts0 : AO := .cells [.v (.slice none 0 0), .v (.slice none 0 0), .v (.slice none 0 0)] true
def begL (nx : Nat) : Nat → Nat
  | 0 => nx + 32
  | 1 => nx + 232
  | _ => nx + 1233
theorem begL_0 (nx : Nat) : begL nx 0 = nx + 32 := rfl
theorem begL_1 (nx : Nat) : begL nx 1 = nx + 232 := rfl
theorem begL_2 (nx : Nat) : begL nx 2 = nx + 1233 := rfl
theorem isP31 : isPtrT Try.prog 31 = true := by kernel_rfl
noncomputable def begG : List AV → H → Nat → Option (AV × H × Nat)
  | [.agg cs, .w32 now], hp, nx => obind (cfOf cs) fun c => guardO (c.h ≤ 10) (some (.tup [.op (nx + 18) 0, .op (nx + 9) 0], setR (nx + 18) (nx + 15) (nx + 16) (bgnC c now 2) (setM (nx + 9) (begL nx 2) (bgnM c (nx + 7) now 2) (upd hp (nx + 7) rts0)), nx + 3000))
  | _, _, _ => none
theorem begG_eq (cs : List AV) (now : W32) (hp : H) (nx : Nat) : begG [.agg cs, .w32 now] hp nx = obind (cfOf cs) fun c => guardO (c.h ≤ 10) (some (.tup [.op (nx + 18) 0, .op (nx + 9) 0], setR (nx + 18) (nx + 15) (nx + 16) (bgnC c now 2) (setM (nx + 9) (begL nx 2) (bgnM c (nx + 7) now 2) (upd hp (nx + 7) rts0)), nx + 3000)) := (rfl)
attribute [go_sem] begG_eq
set_option maxHeartbeats 2000000 in
theorem beg_ok : HeapOK Try.prog GLh 7 begG := by
  refine heap_of_awp Try.func7 (bodyOf_some rfl) ?_
  intro args hp nx r hp' nx' hg
  unfold begG at hg
  split at hg
  · rename_i cs now
    replace hg := obind_inv hg; obtain ⟨c, hcf, hg⟩ := hg
    have := cfOf_inv hcf; subst this
    replace hg := guardO_inv hg; obtain ⟨hh, hg⟩ := hg
    simp only [Option.some.injEq, Prod.mk.injEq] at hg; obtain ⟨rfl, rfl, rfl⟩ := hg
    refine ⟨Nat.le_of_ble_eq_true rfl, by omega, fun hnone => ?_⟩
    have hlt : ∀ k o, hp k = some o → k < nx := fun k o hk => lt_of_none2 hnone hk
    have hcl : 13 ≤ (cfC c).length := Nat.le_of_ble_eq_true rfl
    have hct : List.take 13 (cfC c) = cfC c := rfl
    have hno : noOwn (cfC c) = true := rfl
    have hcfx := hcf
    rw [cfC_eq] at hcfx
    refine awp_seqP rfl ?_
    refine awp_regP (Γ := noEnv) [1, 2] (noEnv_ok _ _) rfl rfl rfl (fun K hK => ?_)
    simp (disch := omega) only [Try.f7, go_sem, Nat.reduceAdd, ↓reduceIte]
    refine hK _ ?_
    clear hK K
    refine nx_then ?_
    refine awp_rp 2 nx 0 rfl (by simp (disch := omega) only [up_app, ↓reduceIte, eq_self] <;> rfl) ?_
    refine awp_keep [1, 2] ?_
    simp only [kf_nil, kf_cons, look_cons, ↓reduceIte, Nat.reduceEqDiff, List.drop_zero]
    refine awp_seqP rfl ?_
    refine awp_drT (Γ := envL [(16, .heap rnewG)]) [[0, 1, 3, 4, 2, 5, 6, 7, 8], [3, 4, 0, 1, 2, 5, 6, 7, 8], [3, 4, 2, 5, 6, 0, 1, 7, 8]] (fun k => if k = 0 then 1 else if k = 2 then 1 else if k = 1 then 0 else 2) [1, 6, 7] mixed (envOK_cons okd7 envOK_nil) rfl rfl rfl (by kernel_rfl) (fun K hK => ?_)
    simp (disch := omega) only [Try.f7, allO_cons, allO_nil, go_sem, runM_nil, runM_cons, stepI_some, List.getElem?_cons_zero, List.getElem?_cons_succ, and_self, and_true, Nat.reduceAdd, Nat.reduceLeDiff, ↓reduceIte, cfC_eq, hcfx, splice, List.nil_append, List.cons_append, List.take_succ_cons, List.take_zero, List.drop_succ_cons, List.drop_zero, List.all_cons, List.all_nil, Option.isSome_some, Bool.and_self]
    refine hK _ ?_
    clear hK K
    refine nx_then ?_
    refine awp_ownC (nx + 3 + 6) 15 (cfC c ++ [.op (nx + 3 + 4) 0]) [.w32 0#32] true (by simp (disch := omega) only [setR_app, up_app, ↓reduceIte, eq_self] <;> rfl) (by omega) ?_
    simp (disch := omega) only [setR_upd]
    refine awp_seqP rfl ?_
    refine awp_seqP rfl ?_
    refine awp_regP (Γ := noEnv) [22, 1, 6, 7] (noEnv_ok _ _) rfl rfl rfl (fun K hK => ?_)
    simp (disch := omega) only [Try.f7, go_sem, Nat.reduceAdd, ↓reduceIte, isP31]
    refine hK _ ?_
    clear hK K
    refine nx_then ?_
    refine awp_ifB (.tmp 22) rfl rfl rfl (fun h => ?_) (fun h => ?_)
    · skip
      refine awp_drop rfl ?_
      cases h
    · skip
      refine awp_drop rfl ?_
      refine awp_skipP rfl ?_
      refine nx_then ?_
      refine awp_seqP rfl ?_
      refine awp_seqP rfl ?_
      refine awp_regP (Γ := noEnv) [1, 6, 7, 8] (noEnv_ok _ _) rfl rfl rfl (fun K hK => ?_)
      simp (disch := omega) only [Try.f7, go_sem, ↓reduceIte]
      refine hK _ ?_
      clear hK K
      refine nx_then ?_
      refine awp_blockN 0 rfl rfl ?_
      refine awp_loopP (fun i : Nat => { fr := [(1, .w32 now), (6, .op (nx + 18) 0), (7, .op (nx + 9) 0), (8, .i i)], hp := setR (nx + 18) (nx + 15) (nx + 16) (bgnC c now i) (setM (nx + 9) (begL nx i) (bgnM c (nx + 7) now i) (upd hp (nx + 7) rts0)), nx := 0, cx := nx + 50 + 1000 * i }) (fun i => i ≤ 2) (fun i => 2 - i) rfl ⟨0, Nat.zero_le _, ⟨fun x => .inr rfl, fun j o hj => setR_mono (fun j o hj => by { simp only [setM, begL_0, upd_apply, Nat.add_assoc, Nat.reduceAdd] at hj ⊢; by_cases q1 : j = nx + 9; · { rw [if_pos q1] at hj ⊢; exact hj }; rw [if_neg q1] at hj ⊢; by_cases q2 : j = nx + 32; · { rw [if_pos q2] at hj ⊢; exact hj }; rw [if_neg q2] at hj ⊢; rw [if_neg q1]; by_cases q3 : j = nx + 7; · { rw [if_pos q3] at hj ⊢; exact hj }; rw [if_neg q3] at hj ⊢; have := hlt j o hj; rw [if_neg (by omega)]; exact hj }) j o hj, by simp only; omega⟩⟩ ?_
      rintro i hi n0
      simp only at hi ⊢
      rcases (by omega : i = 0 ∨ i = 1 ∨ i = 2) with rfl | rfl | rfl
      · skip
        have ok0 := bgn_ok c now hh 0
        have ok1 := bgn_ok c now hh 1
        rw [begL_0, show ((0 : Nat) : Int) = 0 from rfl]
        refine awp_seqP rfl ?_
        refine awp_seqP rfl ?_
        refine awp_regP (Γ := noEnv) [24, 1, 6, 7, 8] (noEnv_ok _ _) rfl rfl rfl (fun K hK => ?_)
        simp (disch := omega) only [Try.f7, go_sem, Nat.reduceAdd, Nat.reduceMul, Int.reduceLT, ↓reduceIte, decide_true]
        refine hK _ ?_
        clear hK K
        refine nx_then ?_
        refine awp_ifB (.tmp 24) rfl rfl rfl (fun h => ?_) (fun h => ?_)
        · skip
          refine awp_drop rfl ?_
          refine awp_skipP rfl ?_
          refine nx_then ?_
          refine awp_seqP rfl ?_
          refine awp_blockN 1 rfl rfl ?_
          refine awp_seqP rfl ?_
          refine awp_regP (Γ := noEnv) [1, 6, 7, 8, 9] (noEnv_ok _ _) rfl rfl rfl (fun K hK => ?_)
          simp (disch := omega) only [Try.f7, go_sem, ↓reduceIte]
          refine hK _ ?_
          clear hK K
          refine nx_then ?_
          refine awp_seqP rfl ?_
          refine awp_seqP rfl ?_
          refine awp_regP (Γ := noEnv) [28, 1, 6, 7, 8, 9] (noEnv_ok _ _) rfl rfl rfl (fun K hK => ?_)
          simp (disch := omega) only [Try.f7, go_sem, Nat.reduceAdd, Int.reduceEq, ↓reduceIte, decide_false]
          refine hK _ ?_
          clear hK K
          refine nx_then ?_
          refine awp_ifB (.tmp 28) rfl rfl rfl (fun h => ?_) (fun h => ?_)
          · skip
            refine awp_drop rfl ?_
            cases h
          · skip
            refine awp_drop rfl ?_
            refine awp_skipP rfl ?_
            refine nx_then ?_
            refine awp_seqP rfl ?_
            refine awp_regP (Γ := envL [(17, .heap makeG)]) [1, 6, 7, 8, 9, 10] (envOK_cons okd9 envOK_nil) rfl rfl rfl (fun K hK => ?_)
            simp (disch := omega) only [Try.f7, go_sem, Nat.reduceAdd, Nat.reduceLeDiff, BitVec.reduceOfInt, ↓reduceIte, bgn_l0, bgn_h, ok0, hh, true_and, BitVec.reduceOfInt]
            refine hK _ ?_
            clear hK K
            refine nx_then ?_
            refine awp_seqP rfl ?_
            refine awp_regP (Γ := envL [(18, .heap mmakeG)]) [1, 6, 7, 8, 10, 12] (envOK_cons okd19 envOK_nil) rfl rfl rfl (fun K hK => ?_)
            simp (disch := omega) only [Try.f7, go_sem, Nat.reduceAdd, Nat.reduceLeDiff, BitVec.reduceOfInt, ↓reduceIte, bgn_m0, true_and, BitVec.reduceOfInt]
            refine hK _ ?_
            clear hK K
            refine nx_then ?_
            refine awp_seqP rfl ?_
            refine awp_regP (Γ := noEnv) [52, 1, 6, 7, 8, 10, 12] (noEnv_ok _ _) rfl rfl rfl (fun K hK => ?_)
            simp (disch := omega) only [Try.f7, go_sem, Nat.reduceAdd, Int.reduceEq, ↓reduceIte, decide_false]
            refine hK _ ?_
            clear hK K
            refine nx_then ?_
            refine awp_ifB (.tmp 52) rfl rfl rfl (fun h => ?_) (fun h => ?_)
            · skip
              refine awp_drop rfl ?_
              cases h
            · skip
              refine awp_drop rfl ?_
              refine awp_skipP rfl ?_
              refine nx_blk (nx_then ?_)
              refine awp_regP (Γ := noEnv) [1, 6, 7, 8] (noEnv_ok _ _) rfl rfl rfl (fun K hK => ?_)
              simp (disch := omega) only [Try.f7, go_sem, Nat.reduceAdd, Int.reduceAdd, ↓reduceIte]
              refine hK _ ?_
              clear hK K
              refine nx_loop ?_
              simp (disch := omega) only [bgn_mm0, mmkH_some, setR_del, setM_setR, setM_delM]
              refine ⟨1, by omega, by omega, ⟨fun x => .inr rfl, fun j o hj => setR_mono (fun j o hj => ?_) j o hj, by simp only; omega⟩⟩
              rw [begL_1] at hj
              simp only [Nat.add_assoc, Nat.reduceAdd] at hj ⊢
              refine setM_mono (fun j o hj => ?_) j o hj
              simp only [upd_apply, del_apply] at hj ⊢
              by_cases q : j = nx + 7
              · rw [if_pos q] at hj; rw [if_neg (by omega), if_pos q]; exact hj
              · rw [if_neg q] at hj; have := hlt j o hj; rw [if_neg (by omega), if_neg q]; exact hj
        · skip
          refine awp_drop rfl ?_
          cases h
      · skip
        have ok0 := bgn_ok c now hh 0
        have ok1 := bgn_ok c now hh 1
        rw [begL_1, show ((1 : Nat) : Int) = 1 from rfl]
        refine awp_seqP rfl ?_
        refine awp_seqP rfl ?_
        refine awp_regP (Γ := noEnv) [24, 1, 6, 7, 8] (noEnv_ok _ _) rfl rfl rfl (fun K hK => ?_)
        simp (disch := omega) only [Try.f7, go_sem, Nat.reduceAdd, Int.reduceLT, ↓reduceIte, decide_true]
        refine hK _ ?_
        clear hK K
        refine nx_then ?_
        refine awp_ifB (.tmp 24) rfl rfl rfl (fun h => ?_) (fun h => ?_)
        · skip
          refine awp_drop rfl ?_
          refine awp_skipP rfl ?_
          refine nx_then ?_
          refine awp_seqP rfl ?_
          refine awp_blockN 1 rfl rfl ?_
          refine awp_seqP rfl ?_
          refine awp_regP (Γ := noEnv) [1, 6, 7, 8, 9] (noEnv_ok _ _) rfl rfl rfl (fun K hK => ?_)
          simp (disch := omega) only [Try.f7, go_sem, ↓reduceIte]
          refine hK _ ?_
          clear hK K
          refine nx_then ?_
          refine awp_seqP rfl ?_
          refine awp_seqP rfl ?_
          refine awp_regP (Γ := noEnv) [28, 1, 6, 7, 8, 9] (noEnv_ok _ _) rfl rfl rfl (fun K hK => ?_)
          simp (disch := omega) only [Try.f7, go_sem, Nat.reduceAdd, ↓reduceIte, decide_true]
          refine hK _ ?_
          clear hK K
          refine nx_then ?_
          refine awp_ifB (.tmp 28) rfl rfl rfl (fun h => ?_) (fun h => ?_)
          · skip
            refine awp_drop rfl ?_
            refine awp_regP (Γ := noEnv) [1, 6, 7, 8, 9] (noEnv_ok _ _) rfl rfl rfl (fun K hK => ?_)
            simp (disch := omega) only [Try.f7, go_sem, ↓reduceIte]
            refine hK _ ?_
            clear hK K
            refine nx_then ?_
            refine awp_seqP rfl ?_
            refine awp_regP (Γ := envL [(17, .heap makeG)]) [1, 6, 7, 8, 9, 10] (envOK_cons okd9 envOK_nil) rfl rfl rfl (fun K hK => ?_)
            simp (disch := omega) only [Try.f7, go_sem, Nat.reduceAdd, Nat.reduceLeDiff, BitVec.reduceOfInt, ↓reduceIte, bgn_l1, bgn_h, ok1, hh, true_and, BitVec.reduceOfInt]
            refine hK _ ?_
            clear hK K
            refine nx_then ?_
            refine awp_seqP rfl ?_
            refine awp_regP (Γ := envL [(18, .heap mmakeG)]) [1, 6, 7, 8, 10, 12] (envOK_cons okd19 envOK_nil) rfl rfl rfl (fun K hK => ?_)
            simp (disch := omega) only [Try.f7, go_sem, Nat.reduceAdd, Nat.reduceLeDiff, BitVec.reduceOfInt, ↓reduceIte, bgn_m1, true_and, BitVec.reduceOfInt]
            refine hK _ ?_
            clear hK K
            refine nx_then ?_
            refine awp_seqP rfl ?_
            refine awp_regP (Γ := noEnv) [52, 1, 6, 7, 8, 10, 12] (noEnv_ok _ _) rfl rfl rfl (fun K hK => ?_)
            simp (disch := omega) only [Try.f7, go_sem, Nat.reduceAdd, ↓reduceIte, decide_true]
            refine hK _ ?_
            clear hK K
            refine nx_then ?_
            refine awp_ifB (.tmp 52) rfl rfl rfl (fun h => ?_) (fun h => ?_)
            · skip
              refine awp_drop rfl ?_
              refine awp_seqP rfl ?_
              refine awp_regP (Γ := envL [(19, .heap seenG)]) [1, 6, 7, 8, 12] (envOK_cons okd21 envOK_nil) rfl rfl rfl (fun K hK => ?_)
              simp (disch := omega) only [Try.f7, go_sem, Nat.reduceAdd, ↓reduceIte, bgn_mm1, bgn_s]
              refine hK _ ?_
              clear hK K
              refine nx_then ?_
              refine awp_regP (Γ := envL [(20, .heap mseenG)]) [1, 6, 7, 8] (envOK_cons okd22 envOK_nil) rfl rfl rfl (fun K hK => ?_)
              simp (disch := omega) only [Try.f7, go_sem, Nat.reduceAdd, ↓reduceIte, bgn_ms, bgn_len]
              refine hK _ ?_
              clear hK K
              refine nx_blk (nx_then ?_)
              refine awp_regP (Γ := noEnv) [1, 6, 7, 8] (noEnv_ok _ _) rfl rfl rfl (fun K hK => ?_)
              simp (disch := omega) only [Try.f7, go_sem, Nat.reduceAdd, Int.reduceAdd, ↓reduceIte]
              refine hK _ ?_
              clear hK K
              refine nx_loop ?_
              have hl2 : (bgnMx c (nx + 7) now).L.length = 2 := rfl
              rw [hl2]
              refine ⟨2, by omega, by omega, ⟨fun x => .inr rfl, fun j o hj => setR_mono (fun j o hj => ?_) j o hj, by simp only; omega⟩⟩
              rw [begL_2] at hj
              simp only [Nat.add_assoc, Nat.reduceAdd] at hj ⊢
              refine setM_mono (fun j o hj => ?_) j o hj
              simp only [upd_apply, del_apply] at hj ⊢
              by_cases q : j = nx + 7
              · rw [if_pos q] at hj; rw [if_neg (by omega), if_pos q]; exact hj
              · rw [if_neg q] at hj; have := hlt j o hj; rw [if_neg (by omega), if_neg q]; exact hj
            · skip
              refine awp_drop rfl ?_
              cases h
          · skip
            refine awp_drop rfl ?_
            cases h
        · skip
          refine awp_drop rfl ?_
          cases h
      · skip
        rw [begL_2, show ((2 : Nat) : Int) = 2 from rfl]
        refine awp_seqP rfl ?_
        refine awp_seqP rfl ?_
        refine awp_regP (Γ := noEnv) [24, 1, 6, 7, 8] (noEnv_ok _ _) rfl rfl rfl (fun K hK => ?_)
        simp (disch := omega) only [Try.f7, go_sem, Nat.reduceAdd, Nat.reduceMul, Int.reduceLT, ↓reduceIte, decide_false]
        refine hK _ ?_
        clear hK K
        refine nx_then ?_
        refine awp_ifB (.tmp 24) rfl rfl rfl (fun h => ?_) (fun h => ?_)
        · skip
          refine awp_drop rfl ?_
          cases h
        · skip
          refine awp_drop rfl ?_
          refine awp_exitN 0 rfl rfl ?_
          refine nx_ex_then (nx_ex_loop (nx_ex_blk ?_))
          refine nx_then ?_
          refine awp_seqP rfl ?_
          refine awp_regP (Γ := noEnv) [4, 5] (noEnv_ok _ _) rfl rfl rfl (fun K hK => ?_)
          simp (disch := omega) only [Try.f7, go_sem, Nat.reduceAdd, ↓reduceIte]
          refine hK _ ?_
          clear hK K
          refine nx_then ?_
          refine awp_retP rfl ?_
          exact ⟨rfl, fun j o hj => hj, by simp only; omega⟩
  · cases hg
theorem okh7 : EntOK Try.prog GLh 7 (.heap begG) := ⟨⟨_, Try.func7, rfl, rfl⟩, beg_ok⟩
end Go.AX

namespace Go.AX
open Go Go.Proofs
set_option maxRecDepth 8000

theorem sortL_id {l : List W32} (h : l.Pairwise fun a b => a.toNat ≤ b.toNat) : sortL l = l :=
  (sortL_perm l).eq_of_pairwise (fun _ _ _ _ h1 h2 => BitVec.eq_of_toNat_eq (Nat.le_antisymm h1 h2)) (sortL_sorted l) h
/-- Rings of two, three, four keys. -/
def r2 (c : CF) (a b : KY) (last : W32) (tr : List (W32 × TK)) : RC := ⟨c, [(1#32, a), (2#32, b)], last, tr⟩
def r3 (c : CF) (a b d : KY) (tr : List (W32 × TK)) : RC := ⟨c, [(1#32, a), (2#32, b), (3#32, d)], 3#32, tr⟩
def r4 (c : CF) (a b d e : KY) : RC := ⟨c, [(1#32, a), (2#32, b), (3#32, d), (4#32, e)], 4#32, []⟩
theorem all_r2 (c : CF) (a b : KY) (last : W32) (tr : List (W32 × TK)) : allL (r2 c a b last tr) = [a, b] := by
  have e : idsL (r2 c a b last tr) = [1#32, 2#32] := by show sortL [1#32, 2#32] = _; exact sortL_id (by decide)
  unfold allL; rw [e]; rfl
theorem all_r3 (c : CF) (a b d : KY) (tr : List (W32 × TK)) : allL (r3 c a b d tr) = [a, b, d] := by
  have e : idsL (r3 c a b d tr) = [1#32, 2#32, 3#32] := by show sortL [1#32, 2#32, 3#32] = _; exact sortL_id (by decide)
  unfold allL; rw [e]; rfl
theorem all_r4 (c : CF) (a b d e : KY) : allL (r4 c a b d e) = [a, b, d, e] := by
  have e : idsL (r4 c a b d e) = [1#32, 2#32, 3#32, 4#32] := by show sortL [1#32, 2#32, 3#32, 4#32] = _; exact sortL_id (by decide)
  unfold allL; rw [e]; rfl
theorem bgn_r2 (c : CF) (now : W32) : bgnC c now 2 = r2 c (fsK c now) (scK c now (mx1 now)) 2#32 [] := rfl
theorem mx1_ne (now : W32) : mx1 now ≠ 0#32 := by
  unfold mx1
  split
  · decide
  · rename_i h
    intro e
    subst e
    exact h (by decide)
def thK (c : CF) (sd : S8) (t : W32) : KY := ⟨3#32, 0, 0, sd, c.h, 0#32, t, 0#32⟩
def foK (c : CF) (sd : S8) (t : W32) : KY := ⟨4#32, 1, 1, sd, c.h, 0#32, t, 0#32⟩
theorem bg_z (c : CF) (now sn t : W32) (sd : S8) (tr : List (W32 × TK)) : bgV (r2 c (fsK c now) (scK c now sn) 2#32 tr) 0 sd t = (3#32, 0, r3 c (fsK c now) (scK c now sn) (thK c sd t) tr) := by
  unfold bgV
  rw [all_r2]
  rfl
theorem bg_k (c : CF) (now sn t : W32) (sd sd2 : S8) : bgV (r3 c (fsK c now) (scK c now sn) (thK c sd t) []) 1 sd2 t = (4#32, 0, r4 c (fsK c now) (scK c now sn) (thK c sd t) (foK c sd2 t)) := by
  unfold bgV
  rw [all_r3]
  rfl
theorem bg_b0 (c : CF) (now sn t : W32) (sd sd2 sd3 : S8) (t2 : W32) : bgV (r4 c (fsK c now) (scK c now sn) (thK c sd t) (foK c sd2 t)) 0 sd3 t2 = (0#32, 140, r4 c (fsK c now) (scK c now sn) (thK c sd t) (foK c sd2 t)) := by
  unfold bgV
  rw [all_r4]
  rfl
theorem bg_b1 (c : CF) (now sn t : W32) (sd sd2 sd3 : S8) (t2 : W32) : bgV (r4 c (fsK c now) (scK c now sn) (thK c sd t) (foK c sd2 t)) 1 sd3 t2 = (0#32, 140, r4 c (fsK c now) (scK c now sn) (thK c sd t) (foK c sd2 t)) := by
  unfold bgV
  rw [all_r4]
  rfl
theorem sg_r4z (c : CF) (now sn t : W32) (sd sd2 : S8) : sgL 0 [fsK c now, scK c now sn, thK c sd t, foK c sd2 t] = [1#32] := rfl
theorem sg_r4k (c : CF) (now sn t : W32) (sd sd2 : S8) : sgL 1 [fsK c now, scK c now sn, thK c sd t, foK c sd2 t] = [2#32, 4#32] := rfl
/-- The first Zsk behind its retirement, the second one behind its turn. -/
def fsR (c : CF) (now at' : W32) : KY := tkV (fsK c now) 3 at'
def thA (c : CF) (sd : S8) (t at' : W32) : KY := tkV (thK c sd t) 1 at'
theorem nx_r3 (c : CF) (now sn t : W32) (sd : S8) (cf : CF) (h : sn ≠ 0#32) : nxV [fsK c now, scK c now sn, thK c sd t] cf = ⟨3#32, 1, bhV t cf.pr cf.kt⟩ := by
  have e2 : dueOf [fsK c now, scK c now sn, thK c sd t] cf (scK c now sn) = [] := by
    unfold dueOf
    rw [if_neg (c := (scK c now sn).role = 0) (show ¬ (1 : Int) = 0 by decide), if_pos (by rfl), if_neg (c := (scK c now sn).st = 1) (show ¬ (2 : Int) = 1 by decide), if_pos ⟨rfl, h⟩]
    rfl
  unfold nxV alD
  rw [List.flatMap_cons, List.flatMap_cons, e2]
  rfl
theorem nx_r3' (c : CF) (now sn t at' : W32) (sd : S8) (cf : CF) (h : sn ≠ 0#32) : nxV [fsR c now at', scK c now sn, thA c sd t at'] cf = ⟨1#32, 4, bhV at' cf.pr cf.mx⟩ := by
  have e2 : dueOf [fsR c now at', scK c now sn, thA c sd t at'] cf (scK c now sn) = [] := by
    unfold dueOf
    rw [if_neg (c := (scK c now sn).role = 0) (show ¬ (1 : Int) = 0 by decide), if_pos (by rfl), if_neg (c := (scK c now sn).st = 1) (show ¬ (2 : Int) = 1 by decide), if_pos ⟨rfl, h⟩]
    rfl
  unfold nxV alD
  rw [List.flatMap_cons, List.flatMap_cons, e2]
  rfl
theorem step_no (cf : CF) (f : Nat) (C : RC) (now : W32) (out : List KY) (h : (nxV (allL C) cf).id = 0#32 ∨ ¬ (nxV (allL C) cf).w ≤ now) : stepV cf (f + 1) C now out = some (out, C) := by
  rw [stepV, if_pos h]
/-- A Zsk takes over. -/
theorem step_take (c : CF) (now sn t at' : W32) (sd : S8) (cf : CF) (tr : List (W32 × TK)) (h : sn ≠ 0#32) (h1 : bhV t cf.pr cf.kt ≤ at') (h2 : ¬ bhV at' cf.pr cf.mx ≤ at') (f : Nat) :
    stepV cf (f + 2) (r3 c (fsK c now) (scK c now sn) (thK c sd t) tr) at' [] = some ([fsR c now at', thA c sd t at'], r3 c (fsR c now at') (scK c now sn) (thA c sd t at') tr) := by
  have e1 := nx_r3 c now sn t sd cf h
  rw [stepV, all_r3, e1, if_neg (fun e => e.elim (fun e => absurd e (show ¬ (3#32 : W32) = 0#32 by decide)) (fun e => e h1))]
  have ea : actV (roleL 0 [fsK c now, scK c now sn, thK c sd t]) (r3 c (fsK c now) (scK c now sn) (thK c sd t) tr) at' [] = some ([fsR c now at'], r3 c (fsR c now at') (scK c now sn) (thK c sd t) tr) := rfl
  rw [if_pos rfl, ea, obind_some]
  have eg : getK 3#32 (r3 c (fsR c now at') (scK c now sn) (thK c sd t) tr).by' = some (thK c sd t) := rfl
  have et : (tnV (r3 c (fsR c now at') (scK c now sn) (thK c sd t) tr) 3#32 1 at').2 = r3 c (fsR c now at') (scK c now sn) (thA c sd t at') tr := rfl
  simp only []
  rw [eg, obind_some, et]
  refine step_no cf f _ at' _ (.inr ?_)
  rw [all_r3, nx_r3' c now sn t at' sd cf h]
  exact h2
end Go.AX

namespace Go.AX
open Go Go.Proofs
set_option maxRecDepth 8000

theorem plV_add {a b : W32} (h : a.toNat + b.toNat < 4294967296) : plV a b = a + b := by
  unfold plV
  rw [if_neg]
  rw [BitVec.lt_def, BitVec.toNat_sub]
  show ¬ (2 ^ 32 - a.toNat + 4294967295) % 2 ^ 32 < b.toNat
  have := a.isLt
  omega
theorem add_nat {a b : W32} (h : a.toNat + b.toNat < 4294967296) : (a + b).toNat = a.toNat + b.toNat := by
  rw [BitVec.toNat_add]
  exact Nat.mod_eq_of_lt h
theorem bhV_add {t a b : W32} (h : t.toNat + a.toNat + b.toNat < 4294967296) : bhV t a b = t + a + b := by
  unfold bhV
  rw [plV_add (a := t) (by omega), plV_add (by rw [add_nat (by omega)]; omega)]
theorem bhV_nat {t a b : W32} (h : t.toNat + a.toNat + b.toNat < 4294967296) : (bhV t a b).toNat = t.toNat + a.toNat + b.toNat := by
  rw [bhV_add h, add_nat (by rw [add_nat (by omega)]; omega), add_nat (by omega)]
theorem and3_le (x : BitVec 16) : (BitVec.setWidth 32 (x &&& 3#16)).toNat ≤ 3 := by
  rcases and3 x with e | e | e | e <;> rw [e] <;> decide
theorem set_pr (k : BitVec 16) : (setV k).pr.toNat ≤ 3 := and3_le _
theorem set_kt (k : BitVec 16) : 10 ≤ (setV k).kt.toNat ∧ (setV k).kt.toNat ≤ 40 := by
  show 10 ≤ (10#32 + BitVec.setWidth 32 (k &&& 3#16) * 10#32).toNat ∧ (10#32 + BitVec.setWidth 32 (k &&& 3#16) * 10#32).toNat ≤ 40
  rcases and3 k with e | e | e | e <;> rw [e] <;> decide
theorem set_mx (k : BitVec 16) : (setV k).mx = 60#32 := rfl
theorem set_h (k : BitVec 16) : (setV k).h ≤ 10 := Nat.le_of_ble_eq_true rfl
theorem cfC_len (c : CF) : 13 ≤ (cfC c).length := Nat.le_of_ble_eq_true rfl
theorem cfC_take (c : CF) : List.take 13 (cfC c) = cfC c := rfl
theorem cfC_noOwn (c : CF) : noOwn (cfC c) = true := rfl
theorem cfC_l (c : CF) : (cfC c).length = 13 := rfl
theorem storeL_cf (a0 a1 a2 a3 a4 a5 a6 a7 a8 a9 a10 a11 a12 : AV) (c : CF) : storeL [a0, a1, a2, a3, a4, a5, a6, a7, a8, a9, a10, a11, a12] 0 (cfC c) = cfC c := (rfl)
theorem cf_d1 (c : CF) : (List.drop 1 (cfC c)).head? = some (.w32 c.kt) := (rfl)
theorem cf_d2 (c : CF) : (List.drop 2 (cfC c)).head? = some (.w32 c.pr) := (rfl)
theorem cf_d3 (c : CF) : (List.drop 3 (cfC c)).head? = some (.w32 c.dt) := (rfl)
theorem cf_d4 (c : CF) : (List.drop 4 (cfC c)).head? = some (.w32 c.dp) := (rfl)
theorem cf_d8 (c : CF) : (List.drop 8 (cfC c)).head? = some (.w32 c.mx) := (rfl)
theorem nI_0 : ((0 : Nat) : Int) = 0 := (rfl)
theorem nI_1 : ((1 : Nat) : Int) = 1 := (rfl)
theorem nI_2 : ((2 : Nat) : Int) = 2 := (rfl)
theorem nI_3 : ((3 : Nat) : Int) = 3 := (rfl)
theorem nI_4 : ((4 : Nat) : Int) = 4 := (rfl)
attribute [go_sem] nI_0 nI_1 nI_2 nI_3 nI_4 cf_d1 cf_d2 cf_d3 cf_d4 cf_d8 cfC_len cfC_take cfC_noOwn cfC_l storeL_cf
theorem ok_r2 (c : CF) (now : W32) (hh : c.h ≤ 10) : ROk (r2 c (fsK c now) (scK c now (mx1 now)) 2#32 []) := bgn_ok c now hh 2
theorem r2_last (c : CF) (a b : KY) (tr : List (W32 × TK)) : (r2 c a b 2#32 tr).last.toNat < 1000000 := by show (2#32 : W32).toNat < _; decide
theorem r3_last (c : CF) (a b d : KY) (tr : List (W32 × TK)) : (r3 c a b d tr).last.toNat < 1000000 := by show (3#32 : W32).toNat < _; decide
theorem r4_last (c : CF) (a b d e : KY) : (r4 c a b d e).last.toNat < 1000000 := by show (4#32 : W32).toNat < _; decide
theorem r2_h (c : CF) (a b : KY) (l : W32) (tr : List (W32 × TK)) : (r2 c a b l tr).c.h = c.h := rfl
theorem r3_h (c : CF) (a b d : KY) (tr : List (W32 × TK)) : (r3 c a b d tr).c.h = c.h := rfl
theorem r4_h (c : CF) (a b d e : KY) : (r4 c a b d e).c.h = c.h := rfl
theorem r2_by (c : CF) (a b : KY) (l : W32) (tr : List (W32 × TK)) : (r2 c a b l tr).by'.length = 2 := rfl
theorem r3_by (c : CF) (a b d : KY) (tr : List (W32 × TK)) : (r3 c a b d tr).by'.length = 3 := rfl
theorem r4_by (c : CF) (a b d e : KY) : (r4 c a b d e).by'.length = 4 := rfl
attribute [go_sem] r2_last r3_last r4_last r2_h r3_h r4_h r2_by r3_by r4_by all_r2 all_r3 all_r4 bgn_r2 bg_z bg_k bg_b0 bg_b1
theorem ok_r3 {c : CF} (now t : W32) (sd : S8) (hh : c.h ≤ 10) : ROk (r3 c (fsK c now) (scK c now (mx1 now)) (thK c sd t) []) := (ok_r2 c now hh).mk' (r2_last _ _ _ _) hh 0 sd 0 t
theorem sg_a (c : CF) (now sn t at' : W32) (sd : S8) : sgL 0 [fsR c now at', scK c now sn, thA c sd t at'] = [3#32] := rfl
theorem step_take100 (c : CF) (now sn t at' : W32) (sd : S8) (cf : CF) (tr : List (W32 × TK)) (h : sn ≠ 0#32) (h1 : bhV t cf.pr cf.kt ≤ at') (h2 : ¬ bhV at' cf.pr cf.mx ≤ at') :
    stepV cf 100 (r3 c (fsK c now) (scK c now sn) (thK c sd t) tr) at' [] = some ([fsR c now at', thA c sd t at'], r3 c (fsR c now at') (scK c now sn) (thA c sd t at') tr) := step_take c now sn t at' sd cf tr h h1 h2 98
def sdN (n : B8) : S8 := ⟨n, 0#8, 0#8, 0#8, 0#8, 0#8, 0#8, 0#8⟩
def kn21G : List AV → Option AV
  | [] => some (.b true)
  | _ => none
theorem kn21G_eq : kn21G [] = some (.b true) := (rfl)
attribute [go_sem] kn21G_eq
set_option maxHeartbeats 1000000 in

theorem kn21_ok : PureOK Try.prog GLh 5 kn21G := by
  refine pure_of_awp Try.func5 (bodyOf_some rfl) ?_
  intro args r hg
  unfold kn21G at hg
  split at hg
  · obtain rfl := Option.some.inj hg
    refine ⟨Nat.le_of_ble_eq_true rfl, fun nx => ?_⟩
    have hpr := set_pr 0#16
    have hkt := set_kt 0#16
    have hmx := set_mx 0#16
    have hh := set_h 0#16
    obtain ⟨c, hc⟩ : ∃ c, setV 0#16 = c := ⟨_, rfl⟩
    rw [hc] at hpr hkt hmx hh
    have ok2 := ok_r2 c 5#32 hh
    have hb1 : bhV 10#32 c.pr c.kt = 10#32 + c.pr + c.kt := bhV_add (by show 10 + _ + _ < _; omega)
    have hb2 : (10#32 + c.pr + c.kt).toNat = 10 + c.pr.toNat + c.kt.toNat := by rw [← hb1]; exact bhV_nat (by show 10 + _ + _ < _; omega)
    have hm60 : c.mx.toNat = 60 := by rw [hmx]; rfl
    have hst := step_take100 c 5#32 (mx1 5#32) 10#32 (10#32 + c.pr + c.kt) (sdN 9#8) c [] (mx1_ne _) (by rw [hb1]; exact BitVec.le_refl _) (by
      rw [BitVec.le_def, bhV_nat (by omega)]; omega)
    have hnx := nx_r3 c 5#32 (mx1 5#32) 10#32 (sdN 9#8) c (mx1_ne _)
    rw [hb1] at hnx
    unfold sdN at hst hnx
    refine awp_seqP rfl ?_
    refine awp_regP (Γ := noEnv) [] (noEnv_ok _ _) rfl rfl rfl (fun K hK => ?_)
    simp (disch := omega) only [Try.f5, go_sem]
    refine hK _ ?_
    clear hK K
    refine nx_then ?_
    refine awp_seqP rfl ?_
    refine awp_regP (Γ := envL [(6, .pure false setG21)]) [1] (envOK_cons okh6 envOK_nil) rfl rfl rfl (fun K hK => ?_)
    simp (disch := omega) only [Try.f5, go_sem, Nat.reduceAdd, Nat.reduceLeDiff, Int.reduceLE, Int.reduceLT, BitVec.reduceOfInt, ↓reduceIte, hc]
    refine hK _ ?_
    clear hK K
    refine nx_then ?_
    refine awp_rp 1 (nx + 1 + 1) 0 rfl (by simp (disch := omega) only [up_app, ↓reduceIte, eq_self] <;> rfl) ?_
    refine awp_keep [1] ?_
    simp only [kf_nil, kf_cons, look_cons, ↓reduceIte, List.drop_zero]
    refine awp_seqP rfl ?_
    refine awp_regP (Γ := envL [(7, .heap begG)]) [1, 2] (envOK_cons okh7 envOK_nil) rfl rfl rfl (fun K hK => ?_)
    simp (disch := omega) only [Try.f5, go_sem, Nat.reduceAdd, Nat.reduceLeDiff, Int.reduceLE, Int.reduceLT, BitVec.reduceOfInt, ↓reduceIte, hh]
    refine hK _ ?_
    clear hK K
    refine nx_then ?_
    refine awp_seqP rfl ?_
    refine awp_seqP rfl ?_
    refine awp_regP (Γ := noEnv) [17, 1, 2] (noEnv_ok _ _) rfl rfl rfl (fun K hK => ?_)
    simp (disch := omega) only [Try.f5, go_sem, Nat.reduceAdd, ↓reduceIte, isP31]
    refine hK _ ?_
    clear hK K
    refine nx_then ?_
    refine awp_ifB (.tmp 17) rfl rfl rfl (fun h => ?_) (fun h => ?_)
    · skip
      refine awp_drop rfl ?_
      cases h
    · skip
      refine awp_drop rfl ?_
      refine awp_skipP rfl ?_
      refine nx_then ?_
      refine awp_seqP rfl ?_
      refine awp_regP (Γ := envL [(8, .heap bgG)]) [1, 2, 4, 5] (envOK_cons okh8 envOK_nil) rfl rfl rfl (fun K hK => ?_)
      simp (disch := omega) only [Try.f5, go_sem, Nat.reduceAdd, Nat.reduceLeDiff, Int.reduceLE, Int.reduceLT, BitVec.reduceOfInt, ↓reduceIte, ok2, hh, true_and]
      refine hK _ ?_
      clear hK K
      refine nx_then ?_
      refine awp_seqP rfl ?_
      refine awp_drwP (Γ := envL [(9, .heap allG), (14, .pure true nxG)]) (fun k => if k = 2 then 1 else if k = 1 then 0 else 2) [1, 2, 4, 5, 6, 7, 8] mixed (envOK_cons okd15 (envOK_cons okh14 envOK_nil)) rfl rfl rfl (by kernel_rfl) (fun K hK => ?_)
      simp (disch := omega) only [Try.f5, go_sem, Nat.reduceAdd, Nat.reduceMul, Nat.reduceLeDiff, ↓reduceIte, hnx, duC]
      refine hK _ ?_
      clear hK K
      refine nx_then ?_
      refine awp_seqP rfl ?_
      refine awp_regP (Γ := envL [(12, .heap stepG)]) [1, 2, 4, 5, 6, 7, 8, 9] (envOK_cons okh12 envOK_nil) rfl rfl rfl (fun K hK => ?_)
      simp (disch := omega) only [Try.f5, go_sem, Nat.reduceAdd, Nat.reduceLeDiff, ↓reduceIte, hst]
      refine hK _ ?_
      clear hK K
      refine nx_then ?_
      refine awp_seqP rfl ?_
      refine awp_regP (Γ := envL [(9, .heap allG), (11, .pure false sgG), (10, .pure true idsG)]) [0] (envOK_cons okd15 (envOK_cons okh11 (envOK_cons okh10 envOK_nil))) rfl rfl rfl (fun K hK => ?_)
      simp (maxSteps := 400000) (disch := omega) only [Try.f5, go_sem, Nat.reduceAdd, Nat.reduceMul, Nat.reduceLeDiff, Nat.reduceLT, Int.reduceLE, Int.reduceLT, BitVec.reduceOfInt, ↓reduceIte, sg_a, decide_true]
      refine hK _ ?_
      clear hK K
      refine nx_then ?_
      refine awp_retP rfl ?_
      simp (disch := omega) only [pureQ, resA, resAL, resA1, Try.f5, go_sem, ↓reduceIte]
  · cases hg
theorem okh5 : EntOK Try.prog GLh 5 (.pure true kn21G) := ⟨⟨_, Try.func5, rfl, rfl⟩, kn21_ok⟩
end Go.AX

namespace Go.AX
open Go Go.Proofs
set_option maxRecDepth 8000

theorem ok_r4 {c : CF} (now t : W32) (sd sd2 : S8) (hh : c.h ≤ 10) : ROk (r4 c (fsK c now) (scK c now (mx1 now)) (thK c sd t) (foK c sd2 t)) := (ok_r3 now t sd hh).mk' (r3_last _ _ _ _ _) hh 1 sd2 1 t
def sdM (n : B8) : S8 := ⟨n, 0#8, 0#8, 0#8, 0#8, 0#8, 0#8, 0#8⟩
/-- The ring behind g rounds. -/
def bsC (c : CF) (now : W32) (g : Nat) : RC := if g = 0 then r2 c (fsK c now) (scK c now (mx1 now)) 2#32 [] else r4 c (fsK c now) (scK c now (mx1 now)) (thK c (sdM 5#8) now) (foK c (sdM 6#8) now)
theorem bsC_0 (c : CF) (now : W32) : bsC c now 0 = r2 c (fsK c now) (scK c now (mx1 now)) 2#32 [] := rfl
theorem bsC_s (c : CF) (now : W32) {g : Nat} (h : 0 < g) : bsC c now g = r4 c (fsK c now) (scK c now (mx1 now)) (thK c (sdM 5#8) now) (foK c (sdM 6#8) now) := if_neg (by omega)
theorem spl_len (a : B8) : (splice (c8 (List.replicate 8 0#8)) 0 [.w8 a]).length = 8 := (rfl)
theorem spl_2 (a b : B8) : splice (splice (c8 (List.replicate 8 0#8)) 0 [.w8 a]) 1 [.w8 b] = [.w8 a, .w8 b, .w8 0#8, .w8 0#8, .w8 0#8, .w8 0#8, .w8 0#8, .w8 0#8] := (rfl)
attribute [go_sem] spl_len spl_2
theorem un32_1 (a : W32) : un32 [.w32 a] = some [a] := un32_c32 [a]
theorem un32_2 (a b : W32) : un32 [.w32 a, .w32 b] = some [a, b] := un32_c32 [a, b]
def busyG : List AV → Option AV
  | [.w16 _, .w32 _, .w8 _] => some (.b true)
  | _ => none
set_option maxHeartbeats 2000000 in
theorem busy_ok : PureOK Try.prog GLh 3 busyG := by
  refine pure_of_awp Try.func3 (bodyOf_some rfl) ?_
  intro args r hg
  unfold busyG at hg
  split at hg
  · rename_i set now n
    obtain rfl := Option.some.inj hg
    clear hg
    refine ⟨Nat.le_of_ble_eq_true rfl, fun nx => ?_⟩
    have hh := set_h set
    obtain ⟨c, hc⟩ : ∃ c, setV set = c := ⟨_, rfl⟩
    rw [hc] at hh
    obtain ⟨N, hNe⟩ : ∃ N, n.toNat % 6 = N := ⟨_, rfl⟩
    have hNl : N < 6 := by omega
    have hN : (n % 6#8).toNat = N := by rw [BitVec.toNat_umod]; exact hNe
    obtain ⟨nw, hnw⟩ : ∃ x, now % 1073741824#32 = x := ⟨_, rfl⟩
    have ok2 := ok_r2 c nw hh
    have ok3 := ok_r3 nw nw (sdM 5#8) hh
    have ok4 := ok_r4 nw nw (sdM 5#8) (sdM 6#8) hh
    unfold sdM at ok3 ok4
    refine awp_seqP rfl ?_
    refine awp_regP (Γ := noEnv) [0, 1, 2] (noEnv_ok _ _) rfl rfl rfl (fun K hK => ?_)
    simp (disch := omega) only [Try.f3, go_sem, Nat.reduceAdd, ↓reduceIte]
    refine hK _ ?_
    clear hK K
    refine nx_then ?_
    refine awp_seqP rfl ?_
    refine awp_seqP rfl ?_
    refine awp_regP (Γ := envL [(5, .pure true kn21G)]) [16, 0, 1, 2] (envOK_cons okh5 envOK_nil) rfl rfl rfl (fun K hK => ?_)
    simp (disch := omega) only [Try.f3, go_sem, Nat.reduceAdd, ↓reduceIte]
    refine hK _ ?_
    clear hK K
    refine nx_then ?_
    refine awp_ifB (.tmp 16) rfl rfl rfl (fun h => ?_) (fun h => ?_)
    · skip
      refine awp_drop rfl ?_
      cases h
    · skip
      refine awp_drop rfl ?_
      clear h
      refine awp_skipP rfl ?_
      refine nx_then ?_
      refine awp_seqP rfl ?_
      refine awp_regP (Γ := envL [(6, .pure false setG21)]) [1, 2, 7] (envOK_cons okh6 envOK_nil) rfl rfl rfl (fun K hK => ?_)
      simp (disch := omega) only [Try.f3, go_sem, Nat.reduceAdd, Nat.reduceLeDiff, ↓reduceIte, hc]
      refine hK _ ?_
      clear hK K
      refine nx_then ?_
      refine awp_rp 7 (nx + 1 + 2 + 2) 0 rfl (by simp (disch := omega) only [up_app, ↓reduceIte, eq_self] <;> rfl) ?_
      refine awp_keep [1, 2, 7] ?_
      simp only [kf_nil, kf_cons, look_cons, ↓reduceIte, Nat.reduceEqDiff, List.drop_zero]
      refine awp_seqP rfl ?_
      refine awp_regP (Γ := noEnv) [1, 2, 7] (noEnv_ok _ _) rfl rfl rfl (fun K hK => ?_)
      simp (disch := omega) only [Try.f3, go_sem, Nat.reduceAdd, Int.reduceLE, Int.reduceLT, BitVec.reduceOfInt, ↓reduceIte, BitVec.reduceEq, hnw]
      refine hK _ ?_
      clear hK K
      refine nx_then ?_
      refine awp_seqP rfl ?_
      refine awp_regP (Γ := envL [(7, .heap begG)]) [1, 2, 7, 8] (envOK_cons okh7 envOK_nil) rfl rfl rfl (fun K hK => ?_)
      simp (disch := omega) only [Try.f3, go_sem, Nat.reduceAdd, Nat.reduceLeDiff, ↓reduceIte, hh]
      refine hK _ ?_
      clear hK K
      refine nx_then ?_
      refine awp_seqP rfl ?_
      refine awp_seqP rfl ?_
      refine awp_regP (Γ := noEnv) [1, 2, 7, 8, 10] (noEnv_ok _ _) rfl rfl rfl (fun K hK => ?_)
      simp (disch := omega) only [Try.f3, go_sem, ↓reduceIte]
      refine hK _ ?_
      clear hK K
      refine nx_then ?_
      obtain ⟨d, hd⟩ : ∃ d, nx + 1 + 2 + 4 + 3 + 8 + 18 = d := ⟨_, rfl⟩
      obtain ⟨s, hs⟩ : ∃ s, nx + 1 + 2 + 4 + 3 + 8 + 15 = s := ⟨_, rfl⟩
      obtain ⟨m, hm⟩ : ∃ m, nx + 1 + 2 + 4 + 3 + 8 + 16 = m := ⟨_, rfl⟩
      rw [hd, hs, hm]
      have n1 : d ≠ s := by omega
      have n2 : d ≠ m := by omega
      have n3 : s ≠ m := by omega
      refine awp_blockN 0 rfl rfl ?_
      refine awp_loopP (fun g : Nat => { fr := [(1, .w32 nw), (2, .w8 n), (7, .rp (cfC c)), (8, .op d 0), (10, .i g)], hp := setR d s m (bsC c nw g) (fun _ => none), nx := 0, cx := nx + 5000 + 50000 * g }) (fun g => g ≤ N + 1) (fun g => N + 1 - g) rfl ⟨0, Nat.zero_le _, ⟨fun _ => .inr rfl, fun j o h => setR_mono (fun j o hj => by cases hj) j o h, by simp only; omega⟩⟩ ?_
      rintro g hg n0
      simp only at hg ⊢
      refine awp_seqP rfl ?_
      refine awp_seqP rfl ?_
      refine awp_regP (Γ := noEnv) [32, 1, 2, 7, 8, 10] (noEnv_ok _ _) rfl rfl rfl (fun K hK => ?_)
      simp (disch := omega) only [Try.f3, go_sem, Nat.reduceAdd, Int.reduceLE, Int.reduceLT, BitVec.reduceOfInt, ↓reduceIte, hN, BitVec.reduceEq]
      refine hK _ ?_
      clear hK K
      refine nx_then ?_
      refine awp_ifD (.tmp 32) rfl rfl rfl (fun h => ?_) (fun h => ?_)
      · skip
        refine awp_drop rfl ?_
        have hgN : g < N + 1 := by omega
        rcases Nat.eq_zero_or_pos g with hg0 | hg0
        · skip
          subst hg0
          rw [bsC_0, nI_0]
          refine awp_skipP rfl ?_
          refine nx_then ?_
          refine awp_seqP rfl ?_
          refine awp_blockN 1 rfl rfl ?_
          refine awp_seqP rfl ?_
          refine awp_regP (Γ := envL [(8, .heap bgG)]) [1, 2, 7, 8, 10, 11, 12] (envOK_cons okh8 envOK_nil) rfl rfl rfl (fun K hK => ?_)
          simp (disch := omega) only [Try.f3, go_sem, Nat.reduceAdd, Nat.reduceMul, Nat.reduceLeDiff, Int.reduceLE, Int.reduceLT, BitVec.reduceOfInt, ↓reduceIte, ok2, hh, true_and]
          refine hK _ ?_
          clear hK K
          refine nx_then ?_
          refine awp_seqP rfl ?_
          refine awp_regP (Γ := envL [(8, .heap bgG)]) [1, 2, 7, 8, 10, 11, 12, 13, 14] (envOK_cons okh8 envOK_nil) rfl rfl rfl (fun K hK => ?_)
          simp (disch := omega) only [Try.f3, go_sem, Nat.reduceAdd, Nat.reduceLeDiff, Int.reduceLE, Int.reduceLT, BitVec.reduceOfInt, ↓reduceIte, ok3, hh, true_and]
          refine hK _ ?_
          clear hK K
          refine nx_then ?_
          refine awp_seqP rfl ?_
          refine awp_regP (Γ := noEnv) [88, 1, 2, 7, 8, 10] (noEnv_ok _ _) rfl rfl rfl (fun K hK => ?_)
          simp (disch := omega) only [Try.f3, go_sem, Nat.reduceAdd, Int.reduceLE, Int.reduceLT, Int.reduceAdd, BitVec.reduceOfInt, reduceCtorEq, ↓reduceIte, decide_true, decide_false]
          refine hK _ ?_
          clear hK K
          refine nx_then ?_
          refine awp_ifB (.tmp 88) rfl rfl rfl (fun h => ?_) (fun h => ?_)
          · skip
            refine awp_drop rfl ?_
            cases h
          · skip
            refine awp_drop rfl ?_
            refine awp_skipP rfl ?_
            refine nx_blk (nx_then ?_)
            refine awp_regP (Γ := noEnv) [1, 2, 7, 8, 10] (noEnv_ok _ _) rfl rfl rfl (fun K hK => ?_)
            simp (disch := omega) only [Try.f3, go_sem, Nat.reduceAdd, Int.reduceAdd, ↓reduceIte]
            refine hK _ ?_
            clear hK K
            refine nx_loop ?_
            exact ⟨1, by omega, by omega, ⟨fun _ => .inr rfl, fun j o h => h, by simp only; omega⟩⟩
        · skip
          rw [bsC_s c nw hg0]
          have d0 : decide ((g : Int) = 0) = false := decide_eq_false (by omega)
          have d1 : decide (0 < (g : Int)) = true := decide_eq_true (by omega)
          unfold sdM
          refine awp_skipP rfl ?_
          refine nx_then ?_
          refine awp_seqP rfl ?_
          refine awp_blockN 1 rfl rfl ?_
          refine awp_seqP rfl ?_
          refine awp_regP (Γ := envL [(8, .heap bgG)]) [1, 2, 7, 8, 10, 11, 12] (envOK_cons okh8 envOK_nil) rfl rfl rfl (fun K hK => ?_)
          simp (disch := omega) only [Try.f3, go_sem, Nat.reduceAdd, Nat.reduceLeDiff, Int.reduceLE, Int.reduceLT, BitVec.reduceOfInt, ↓reduceIte, ok4, hh, true_and]
          refine hK _ ?_
          clear hK K
          refine nx_then ?_
          refine awp_seqP rfl ?_
          refine awp_regP (Γ := envL [(8, .heap bgG)]) [1, 2, 7, 8, 10, 11, 12, 13, 14] (envOK_cons okh8 envOK_nil) rfl rfl rfl (fun K hK => ?_)
          simp (disch := omega) only [Try.f3, go_sem, Nat.reduceAdd, Nat.reduceLeDiff, Int.reduceLE, Int.reduceLT, BitVec.reduceOfInt, ↓reduceIte, ok4, hh, true_and]
          refine hK _ ?_
          clear hK K
          refine nx_then ?_
          refine awp_seqP rfl ?_
          refine awp_regP (Γ := noEnv) [88, 1, 2, 7, 8, 10] (noEnv_ok _ _) rfl rfl rfl (fun K hK => ?_)
          simp (disch := omega) only [Try.f3, go_sem, Nat.reduceAdd, Int.reduceLE, Int.reduceLT, BitVec.reduceOfInt, reduceCtorEq, ↓reduceIte, d0, d1, decide_true]
          refine hK _ ?_
          clear hK K
          refine nx_then ?_
          refine awp_ifB (.tmp 88) rfl rfl rfl (fun h => ?_) (fun h => ?_)
          · skip
            refine awp_drop rfl ?_
            cases h
          · skip
            refine awp_drop rfl ?_
            refine awp_skipP rfl ?_
            refine nx_blk (nx_then ?_)
            refine awp_regP (Γ := noEnv) [1, 2, 7, 8, 10] (noEnv_ok _ _) rfl rfl rfl (fun K hK => ?_)
            simp (disch := omega) only [Try.f3, go_sem, Nat.reduceAdd, ↓reduceIte]
            refine hK _ ?_
            clear hK K
            refine nx_loop ?_
            exact ⟨g + 1, by omega, by omega, ⟨fun _ => .inr (by simp only [Int.natCast_add, Int.natCast_one]), fun j o h => by rw [bsC_s c nw (by omega)] at h; exact h, by simp only; omega⟩⟩
      · skip
        refine awp_drop rfl ?_
        refine awp_exitN 0 rfl rfl ?_
        refine nx_ex_then (nx_ex_loop (nx_ex_blk ?_))
        refine nx_then ?_
        refine awp_seqP rfl ?_
        obtain rfl : g = N + 1 := by omega
        rw [bsC_s c nw (by omega)]
        refine awp_regP (Γ := envL [(9, .heap allG), (11, .pure false sgG), (10, .pure true idsG)]) [6] (envOK_cons okd15 (envOK_cons okh11 (envOK_cons okh10 envOK_nil))) rfl rfl rfl (fun K hK => ?_)
        simp (maxSteps := 400000) (disch := omega) only [Try.f3, go_sem, Nat.reduceAdd, Nat.reduceMul, Nat.reduceLeDiff, Nat.reduceLT, Int.reduceLE, Int.reduceLT, BitVec.reduceOfInt, ↓reduceIte, sg_r4z, sg_r4k, decide_true, un32_c32, un32_1, un32_2, and_self]
        refine hK _ ?_
        clear hK K
        refine nx_then ?_
        refine awp_retP rfl ?_
        simp (disch := omega) only [pureQ, resA, resAL, resA1, Try.f3, go_sem, ↓reduceIte]
  · cases hg
end Go.AX

namespace Go.AX
open Go Go.Proofs
set_option maxRecDepth 8000

theorem r3_g1 (c : CF) (a b d : KY) (tr : List (W32 × TK)) : getK 1#32 (r3 c a b d tr).by' = some a := rfl
theorem r3_g3 (c : CF) (a b d : KY) (tr : List (W32 × TK)) : getK 3#32 (r3 c a b d tr).by' = some d := rfl
theorem step_no100 (c : CF) (now sn t at' t1 : W32) (sd : S8) (cf : CF) (tr : List (W32 × TK)) (h : sn ≠ 0#32) (h2 : ¬ bhV at' cf.pr cf.mx ≤ t1) :
    stepV cf 100 (r3 c (fsR c now at') (scK c now sn) (thA c sd t at') tr) t1 [] = some ([], r3 c (fsR c now at') (scK c now sn) (thA c sd t at') tr) := by
  refine step_no cf 99 _ t1 _ (.inr ?_)
  rw [all_r3, nx_r3' c now sn t at' sd cf h]
  exact h2
theorem fsR_c (c : CF) (now at' : W32) : encK (fsR c now at') = .agg [.w32 1#32, .i 0, .i 3, .w8 0#8, .w8 0#8, .w8 0#8, .w8 0#8, .w8 0#8, .w8 0#8, .w8 0#8, .w8 0#8, .i c.h, .w32 0#32, .w32 at', .w32 0#32] := rfl
theorem thA_c (c : CF) (n : B8) (t at' : W32) : encK (thA c (sdN n) t at') = .agg [.w32 3#32, .i 0, .i 1, .w8 n, .w8 0#8, .w8 0#8, .w8 0#8, .w8 0#8, .w8 0#8, .w8 0#8, .w8 0#8, .i c.h, .w32 0#32, .w32 at', .w32 0#32] := rfl
def lateG : List AV → Option AV
  | [.w16 _, .w32 _, .w16 _] => some (.b true)
  | _ => none
set_option maxHeartbeats 2000000 in
theorem late_ok : PureOK Try.prog GLh 4 lateG := by
  refine pure_of_awp Try.func4 (bodyOf_some rfl) ?_
  intro args r hg
  unfold lateG at hg
  split at hg
  · rename_i set now late
    obtain rfl := Option.some.inj hg
    clear hg
    refine ⟨Nat.le_of_ble_eq_true rfl, fun nx => ?_⟩
    have hpr := set_pr set
    have hkt := set_kt set
    have hmx := set_mx set
    have hh := set_h set
    obtain ⟨c, hc⟩ : ∃ c, setV set = c := ⟨_, rfl⟩
    rw [hc] at hpr hkt hmx hh
    obtain ⟨nw, hnw⟩ : ∃ x, now % 1073741824#32 = x := ⟨_, rfl⟩
    have hnl : nw.toNat < 1073741824 := by
      rw [← hnw, BitVec.toNat_umod]
      exact Nat.mod_lt _ (by decide)
    have ok2 := ok_r2 c nw hh
    have hll : (BitVec.setWidth 32 late).toNat = late.toNat := by rw [BitVec.toNat_setWidth]; have := late.isLt; omega
    have hl16 := late.isLt
    have hm60 : c.mx.toNat = 60 := by rw [hmx]; rfl
    have hb1 : bhV nw c.pr c.kt = nw + c.pr + c.kt := bhV_add (by omega)
    have hb2 : (nw + c.pr + c.kt).toNat = nw.toNat + c.pr.toNat + c.kt.toNat := by rw [← hb1]; exact bhV_nat (by omega)
    obtain ⟨at', hat⟩ : ∃ x, nw + c.pr + c.kt + BitVec.setWidth 32 late = x := ⟨_, rfl⟩
    have hatn : at'.toNat = nw.toNat + c.pr.toNat + c.kt.toNat + late.toNat := by rw [← hat, add_nat (by omega), hb2, hll]
    have hst := step_take100 c nw (mx1 nw) nw at' (sdN 9#8) c [] (mx1_ne _) (by rw [BitVec.le_def, hb1]; omega) (by rw [BitVec.le_def, bhV_nat (by omega)]; omega)
    have hnx := nx_r3' c nw (mx1 nw) nw at' (sdN 9#8) c (mx1_ne _)
    have hb3 : bhV at' c.pr c.mx = at' + c.pr + c.mx := bhV_add (by omega)
    have hb4 : (at' + c.pr + c.mx).toNat = at'.toNat + c.pr.toNat + c.mx.toNat := by rw [← hb3]; exact bhV_nat (by omega)
    obtain ⟨t1, ht1⟩ : ∃ x, at' + c.pr + c.mx - 1#32 = x := ⟨_, rfl⟩
    have ht1n : t1.toNat < (at' + c.pr + c.mx).toNat := by
      rw [← ht1, BitVec.toNat_sub]
      simp only [BitVec.toNat_ofNat]
      have := (at' + c.pr + c.mx).isLt
      omega
    have hst2 := step_no100 c nw (mx1 nw) nw at' t1 (sdN 9#8) c [] (mx1_ne _) (by rw [hb3, BitVec.le_def]; omega)
    have hk1 := fsR_c c nw at'
    have hk3 := thA_c c 9#8 nw at'
    rw [hb3] at hnx
    unfold sdN at hst hnx hst2 hk3
    refine awp_seqP rfl ?_
    refine awp_regP (Γ := noEnv) [0, 1, 2] (noEnv_ok _ _) rfl rfl rfl (fun K hK => ?_)
    simp (disch := omega) only [Try.f4, go_sem, Nat.reduceAdd, ↓reduceIte]
    refine hK _ ?_
    clear hK K
    refine nx_then ?_
    refine awp_seqP rfl ?_
    refine awp_seqP rfl ?_
    refine awp_regP (Γ := envL [(5, .pure true kn21G)]) [22, 0, 1, 2] (envOK_cons okh5 envOK_nil) rfl rfl rfl (fun K hK => ?_)
    simp (disch := omega) only [Try.f4, go_sem, Nat.reduceAdd, ↓reduceIte]
    refine hK _ ?_
    clear hK K
    refine nx_then ?_
    refine awp_ifB (.tmp 22) rfl rfl rfl (fun h => ?_) (fun h => ?_)
    · skip
      refine awp_drop rfl ?_
      cases h
    · skip
      refine awp_drop rfl ?_
      clear h
      refine awp_skipP rfl ?_
      refine nx_then ?_
      refine awp_seqP rfl ?_
      refine awp_regP (Γ := envL [(6, .pure false setG21)]) [1, 2, 7] (envOK_cons okh6 envOK_nil) rfl rfl rfl (fun K hK => ?_)
      simp (disch := omega) only [Try.f4, go_sem, Nat.reduceAdd, Nat.reduceLeDiff, ↓reduceIte, hc]
      refine hK _ ?_
      clear hK K
      refine nx_then ?_
      refine awp_rp 7 (nx + 1 + 2 + 2) 0 rfl (by simp (disch := omega) only [up_app, ↓reduceIte, eq_self] <;> rfl) ?_
      refine awp_keep [1, 2, 7] ?_
      simp only [kf_nil, kf_cons, look_cons, ↓reduceIte, Nat.reduceEqDiff, List.drop_zero]
      refine awp_seqP rfl ?_
      refine awp_regP (Γ := noEnv) [1, 2, 7] (noEnv_ok _ _) rfl rfl rfl (fun K hK => ?_)
      simp (disch := omega) only [Try.f4, go_sem, Nat.reduceAdd, Int.reduceLE, Int.reduceLT, BitVec.reduceOfInt, ↓reduceIte, BitVec.reduceEq, hnw]
      refine hK _ ?_
      clear hK K
      refine nx_then ?_
      refine awp_seqP rfl ?_
      refine awp_regP (Γ := envL [(7, .heap begG)]) [1, 2, 7, 8] (envOK_cons okh7 envOK_nil) rfl rfl rfl (fun K hK => ?_)
      simp (disch := omega) only [Try.f4, go_sem, Nat.reduceAdd, Nat.reduceLeDiff, ↓reduceIte, hh]
      refine hK _ ?_
      clear hK K
      refine nx_then ?_
      refine awp_seqP rfl ?_
      refine awp_regP (Γ := envL [(8, .heap bgG)]) [1, 2, 7, 8, 10] (envOK_cons okh8 envOK_nil) rfl rfl rfl (fun K hK => ?_)
      simp (disch := omega) only [Try.f4, go_sem, Nat.reduceAdd, Nat.reduceLeDiff, Int.reduceLE, Int.reduceLT, BitVec.reduceOfInt, ↓reduceIte, ok2, hh, true_and]
      refine hK _ ?_
      clear hK K
      refine nx_then ?_
      refine awp_seqP rfl ?_
      refine awp_regP (Γ := noEnv) [7, 8, 10, 12] (noEnv_ok _ _) rfl rfl rfl (fun K hK => ?_)
      simp (disch := omega) only [Try.f4, go_sem, Nat.reduceAdd, Nat.reduceLT, ↓reduceIte, hat]
      refine hK _ ?_
      clear hK K
      refine nx_then ?_
      refine awp_seqP rfl ?_
      refine awp_regP (Γ := envL [(12, .heap stepG)]) [7, 8, 10, 12, 13] (envOK_cons okh12 envOK_nil) rfl rfl rfl (fun K hK => ?_)
      simp (disch := omega) only [Try.f4, go_sem, Nat.reduceAdd, Nat.reduceLeDiff, ↓reduceIte, hst]
      refine hK _ ?_
      clear hK K
      refine nx_then ?_
      refine awp_seqP rfl ?_
      refine awp_regP (Γ := envL [(13, .heap keyG20)]) [7, 8, 12, 13, 14, 15] (envOK_cons okd17 envOK_nil) rfl rfl rfl (fun K hK => ?_)
      simp (disch := omega) only [Try.f4, go_sem, Nat.reduceAdd, Nat.reduceLeDiff, ↓reduceIte, r3_g3, kyR_y, hk3]
      refine hK _ ?_
      clear hK K
      refine nx_then ?_
      refine awp_seqP rfl ?_
      refine awp_regP (Γ := envL [(13, .heap keyG20)]) [7, 8, 12, 13, 14, 15, 16, 17] (envOK_cons okd17 envOK_nil) rfl rfl rfl (fun K hK => ?_)
      simp (disch := omega) only [Try.f4, go_sem, Nat.reduceAdd, Nat.reduceLeDiff, Int.reduceLE, Int.reduceLT, BitVec.reduceOfInt, ↓reduceIte, r3_g1, kyR_y, hk1]
      refine hK _ ?_
      clear hK K
      refine nx_then ?_
      refine awp_seqP rfl ?_
      refine awp_seqP rfl ?_
      refine awp_regP (Γ := noEnv) [93, 7, 8, 12] (noEnv_ok _ _) rfl rfl rfl (fun K hK => ?_)
      simp (disch := omega) only [Try.f4, go_sem, Nat.reduceAdd, Nat.reduceLT, reduceCtorEq, ↓reduceIte, decide_true, List.head?_cons, List.drop_succ_cons, List.drop_zero]
      refine hK _ ?_
      clear hK K
      refine nx_then ?_
      refine awp_ifB (.tmp 93) rfl rfl rfl (fun h => ?_) (fun h => ?_)
      · skip
        refine awp_drop rfl ?_
        cases h
      · skip
        refine awp_drop rfl ?_
        refine awp_skipP rfl ?_
        refine nx_then ?_
        refine awp_seqP rfl ?_
        refine awp_drwP (Γ := envL [(9, .heap allG), (14, .pure true nxG)]) (fun k => if k = 2 then 1 else if k = 1 then 0 else 2) [7, 8, 12, 18, 19, 20] mixed (envOK_cons okd15 (envOK_cons okh14 envOK_nil)) rfl rfl rfl (by kernel_rfl) (fun K hK => ?_)
        simp (disch := omega) only [Try.f4, go_sem, Nat.reduceAdd, Nat.reduceMul, Nat.reduceLeDiff, ↓reduceIte, hnx, duC]
        refine hK _ ?_
        clear hK K
        refine nx_then ?_
        refine awp_seqP rfl ?_
        refine awp_regP (Γ := envL [(12, .heap stepG)]) [6] (envOK_cons okh12 envOK_nil) rfl rfl rfl (fun K hK => ?_)
        simp (maxSteps := 400000) (disch := omega) only [Try.f4, go_sem, Nat.reduceAdd, Nat.reduceLeDiff, Nat.reduceLT, Int.reduceLE, Int.reduceLT, BitVec.reduceOfInt, ↓reduceIte, hst2, ht1, decide_true, and_self]
        refine hK _ ?_
        clear hK K
        refine nx_then ?_
        refine awp_retP rfl ?_
        simp (disch := omega) only [pureQ, resA, resAL, resA1, Try.f4, go_sem, ↓reduceIte]
  · cases hg
end Go.AX
