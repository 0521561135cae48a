/-
  Types, part N: bitmaps, as the program writes them. Types, part O: bitmaps, as the document writes them. Types, part P: bitmaps, read by the program. Types, part Q: bitmaps, read by the document.
-/
import Derived.Test.YtlibdmfebcnkjaaDoorBH
namespace Go.AX
open Go Go.Proofs

theorem w256 : (256#16 = 0#16) = False := by decide
theorem i8z : ((8 : Int) = 0) = False := by decide
theorem quo_win (x : T16) : (x / 256#16).toNat = win x := by rw [BitVec.toNat_udiv]; rfl
theorem rem_pos (x : T16) : (x % 256#16).toNat = pos x := by rw [BitVec.toNat_umod]; rfl
theorem quo_eq (x y : T16) : x / 256#16 = y / 256#16 ↔ win x = win y := by
  rw [← quo_win, ← quo_win]; exact ⟨fun h => by rw [h], fun h => BitVec.eq_of_toNat_eq h⟩
theorem tdiv8 (n : Nat) : ((n : Int)).tdiv 8 = ((n / 8 : Nat) : Int) := rfl
theorem tmod8 (n : Nat) : ((n : Int)).tmod 8 = ((n % 8 : Nat) : Int) := rfl
theorem sh64 (n : Nat) : (BitVec.ofInt 64 ((n % 8 : Nat) : Int)).toNat = n % 8 := by
  rw [BitVec.toNat_ofInt]; omega
theorem bit8_eq (k : Nat) : 128#8 >>> k = bit8 k := rfl
theorem win8 (x : T16) : (x / 256#16).setWidth 8 = BitVec.ofNat 8 (win x) := by
  apply BitVec.eq_of_toNat_eq
  rw [BitVec.toNat_setWidth, quo_win, BitVec.toNat_ofNat]
theorem ofI8 (n : Nat) : BitVec.ofInt 8 (n : Int) = BitVec.ofNat 8 n := BitVec.ofInt_natCast ..
theorem szL_snoc (p : List T16) (x : T16) : szL (p ++ [x]) = pos x / 8 + 1 := by unfold szL; simp
theorem bitsL_snoc (p : List T16) (x : T16) : bitsL (p ++ [x]) = stpB (bitsL p) x := by unfold bitsL; rw [List.foldl_append]; rfl
theorem bitsL_nil : bitsL [] = List.replicate 32 0#8 := rfl
theorem take_sub (c : List T16) (j i : Nat) (hj : j ≤ i) (hi : i < c.length) : (c.drop j).take (i + 1 - j) = (c.drop j).take (i - j) ++ [c.getD i 0#16] := by
  have e : i + 1 - j = (i - j) + 1 := by omega
  have hl : i - j < (c.drop j).length := by rw [List.length_drop]; omega
  rw [e, List.take_succ_eq_append_getElem hl, List.getElem_drop, List.getD_eq_getElem?_getD, List.getElem?_eq_getElem hi]
  simp only [Option.getD_some]
  congr 3
  omega
theorem bm_step (c : List T16) (j i : Nat) (hj : j < c.length) (hji : j ≤ i) (hi : i ≤ c.length) (hw : ∀ k, j ≤ k → k < i → win (c.getD k 0#16) = win (c.getD j 0#16)) (he : i = c.length ∨ ¬ win (c.getD i 0#16) = win (c.getD j 0#16)) :
    j < i ∧ bmL (c.drop j) = recL (win (c.getD j 0#16)) ((c.drop j).take (i - j)) ++ bmL (c.drop i) := by
  have hne : j ≠ i := by
    rintro rfl
    rcases he with he | he
    · omega
    · exact he rfl
  refine ⟨by omega, ?_⟩
  have e : c.drop j = c.getD j 0#16 :: c.drop (j + 1) := by
    rw [List.drop_eq_getElem_cons hj, List.getD_eq_getElem?_getD, List.getElem?_eq_getElem hj]; rfl
  have hg : ∀ k, (c.drop j).getD k 0#16 = c.getD (j + k) 0#16 := fun k => by
    rw [List.getD_eq_getElem?_getD, List.getElem?_drop, ← List.getD_eq_getElem?_getD]
  obtain ⟨h1, h2⟩ := takeW_at (fun x => decide (win x = win (c.getD j 0#16))) 0#16 (c.drop j) (i - j) (by rw [List.length_drop]; omega)
    (fun k hk => by rw [hg]; exact decide_eq_true (hw _ (by omega) (by omega)))
    (by
      rcases he with he | he
      · left; rw [List.length_drop]; omega
      · right; rw [hg, show j + (i - j) = i by omega]; exact decide_eq_false he)
  have h3 : grp (c.getD j 0#16) (c.drop (j + 1)) = (c.drop j).take (i - j) := by
    rw [← h1, e, List.takeWhile_cons, if_pos (by simp)]; rfl
  have h4 : rst (c.getD j 0#16) (c.drop (j + 1)) = c.drop i := by
    have : (c.drop j).drop (i - j) = c.drop i := by rw [List.drop_drop]; congr 1; omega
    rw [← this, ← h2, e, List.dropWhile_cons, if_pos (by simp)]; rfl
  rw [← h3, ← h4]
  conv => lhs; rw [e]
  rw [bmL]
theorem recL_len (w : Nat) (p : List T16) : (recL w p).length = szL p + 2 := by
  unfold recL; simp only [List.length_cons, bits_sz]
theorem recL_eq (w : Nat) (p : List T16) (out : List B8) : out ++ [BitVec.ofNat 8 w, BitVec.ofNat 8 (szL p)] ++ (bitsL p).take (szL p) = out ++ recL w p := by
  unfold recL; simp
def bmG : List AV → Option (Nat × Nat × List AV)
  | [.sl n xs] => obind (unA xs) fun l => guardO (l.length = n ∧ n ≤ 1000000) (some ((bmL (cleanL l)).length, 1, c8 (bmL (cleanL l))))
  | _ => none
theorem bmG_eq (n : Nat) (xs : List AV) : bmG [.sl n xs] = obind (unA xs) fun l => guardO (l.length = n ∧ n ≤ 1000000) (some ((bmL (cleanL l)).length, 1, c8 (bmL (cleanL l)))) := (rfl)
attribute [go_sem] bmG_eq
structure SBO where
  j : Nat
  id : Nat
  out : List B8
  c : Nat
set_option maxHeartbeats 4000000 in
theorem bm_ok : FreshOK Tryd.prog GLh 12 bmG := by
  refine fresh_of_awp Tryd.func12 (bodyOf_some rfl) ?_
  intro args r hg
  unfold bmG at hg
  split at hg
  · rename_i n xs
    replace hg := obind_inv hg; obtain ⟨l, hl, hg⟩ := hg
    replace hg := guardO_inv hg; obtain ⟨⟨hn, hbig⟩, hg⟩ := hg
    obtain rfl := Option.some.inj hg
    have := unA_inv16 hl; subst this
    refine ⟨Nat.le_of_ble_eq_true rfl, fun nx => ?_⟩
    clear hl hg
    subst hn
    have hcl := cleanL_len l
    obtain ⟨c, hc⟩ : ∃ c, cleanL l = c := ⟨_, rfl⟩
    rw [hc] at hcl ⊢
    refine awp_seqP rfl ?_
    refine awp_regP (Γ := noEnv) [0] (noEnv_ok _ _) rfl rfl rfl (fun K hK => ?_)
    simp only [Tryd.f12, bodyOf, Option.getD_some, cl, rOps, lights, light, rN, List.size_toArray, List.length_cons, List.length_nil, Nat.zero_add, List.map_cons, List.map_nil, Option.map_none]
    simp (maxSteps := 300000) (disch := omega) only [go_sem, ↓reduceIte]
    with_reducible refine hK _ ?_
    clear hK K
    refine nx_then ?_
    refine awp_seqP rfl ?_
    refine awp_regP (Γ := noEnv) [0, 3] (noEnv_ok _ _) rfl rfl rfl (fun K hK => ?_)
    simp only [Tryd.f12, bodyOf, Option.getD_some, cl, cr, rOps, lights, light, rN, List.size_toArray, List.length_cons, List.length_nil, Nat.zero_add, List.map_cons, List.map_nil, Option.map_none]
    simp (maxSteps := 300000) (disch := omega) only [go_sem, ↓reduceIte]
    with_reducible refine hK _ ?_
    clear hK K
    refine nx_then ?_
    refine awp_seqP rfl ?_
    refine awp_regP (Γ := envL [(18, .fresh true clnG)]) [0, 3] (envOK_cons ok18 envOK_nil) rfl rfl rfl (fun K hK => ?_)
    simp only [Tryd.f12, bodyOf, Option.getD_some, cl, cr, rOps, lights, light, rN, List.size_toArray, List.length_cons, List.length_nil, Nat.reduceAdd, Nat.zero_add, List.map_cons, List.map_nil, Option.map_none]
    simp (maxSteps := 300000) (disch := omega) only [go_sem, Nat.reduceAdd, ↓reduceIte, hc]
    with_reducible refine hK _ ?_
    clear hK K
    refine nx_then ?_
    refine awp_own 3 1 rfl ?_
    refine awp_keep [0, 3] ?_
    simp only [kf_nil, kf_cons, look_cons, ↓reduceIte, Nat.reduceEqDiff]
    refine awp_seqP rfl ?_
    refine awp_blockN 0 rfl rfl ?_
    refine awp_loopP (fun p : SBO => { fr := [(0, .os (nx + 2 + 1) p.j (c.length - p.j) 1 true), (3, .os p.id 0 p.out.length 1 true)], hp := upd (upd (fun _ => none) (nx + 2 + 1) (.cells (c16 c) true)) p.id (.cells (c8 p.out) true), nx := 0, cx := p.c }) (fun p => p.j ≤ c.length ∧ p.out ++ bmL (c.drop p.j) = bmL c ∧ p.out.length ≤ 34 * p.j ∧ p.id < p.c ∧ nx + 2 + 1 < p.id) (fun p => c.length - p.j) rfl ⟨⟨0, _, [], _⟩, ⟨Nat.zero_le _, rfl, Nat.zero_le _, by simp only; omega, by simp only; omega⟩, sub_same rfl rfl (Nat.le_refl _)⟩ ?_
    rintro ⟨j, id, out, cx⟩ ⟨hj, hout, hol, hid, hid2⟩ n0
    simp only at hj hout hol hid hid2 ⊢
    refine awp_seqP rfl ?_
    refine awp_seqP rfl ?_
    refine awp_regP (Γ := noEnv) [12, 0, 3] (noEnv_ok _ _) rfl rfl rfl (fun K hK => ?_)
    simp only [Tryd.f12, bodyOf, Option.getD_some, cl, cr, rOps, lights, light, rN, List.size_toArray, List.length_cons, List.length_nil, Nat.reduceAdd, Nat.zero_add, List.map_cons, List.map_nil, Option.map_none]
    simp (maxSteps := 300000) (disch := omega) only [go_sem, Nat.reduceAdd, ↓reduceIte]
    with_reducible refine hK _ ?_
    clear hK K
    refine nx_then ?_
    refine awp_ifD (.tmp 12) rfl rfl rfl (fun h => ?_) (fun h => ?_)
    · skip
      refine awp_drop rfl ?_
      have hjl : j < c.length := by omega
      refine awp_skipP rfl ?_
      refine nx_then ?_
      refine awp_blockN 1 rfl rfl ?_
      refine awp_seqP rfl ?_
      refine awp_regP (Γ := noEnv) [0, 3, 4] (noEnv_ok _ _) rfl rfl rfl (fun K hK => ?_)
      simp only [Tryd.f12, bodyOf, Option.getD_some, cl, cr, rOps, lights, light, rN, List.size_toArray, List.length_cons, List.length_nil, Nat.reduceAdd, Nat.zero_add, List.map_cons, List.map_nil, Option.map_none]
      simp (maxSteps := 300000) (disch := omega) only [go_sem, Nat.reduceAdd, Int.reduceLE, Int.reduceLT, Int.reduceToNat, BitVec.reduceOfInt, ↓reduceIte, w256, Nat.add_zero]
      with_reducible refine hK _ ?_
      clear hK K
      refine nx_then ?_
      refine awp_seqP rfl ?_
      refine awp_regP (Γ := noEnv) [0, 3, 4, 5] (noEnv_ok _ _) rfl rfl rfl (fun K hK => ?_)
      simp only [Tryd.f12, bodyOf, Option.getD_some, cl, cr, rOps, lights, light, rN, List.size_toArray, List.length_cons, List.length_nil, Nat.zero_add, List.map_cons, List.map_nil, Option.map_none]
      simp (maxSteps := 300000) (disch := omega) only [go_sem, ↓reduceIte, c8_rep]
      with_reducible refine hK _ ?_
      clear hK K
      refine nx_then ?_
      refine awp_seqP rfl ?_
      refine awp_regP (Γ := noEnv) [0, 3, 4, 5, 6] (noEnv_ok _ _) rfl rfl rfl (fun K hK => ?_)
      simp only [Tryd.f12, bodyOf, Option.getD_some, cl, cr, rOps, lights, light, rN, List.size_toArray, List.length_cons, List.length_nil, Nat.zero_add, List.map_cons, List.map_nil, Option.map_none]
      simp (maxSteps := 300000) (disch := omega) only [go_sem, ↓reduceIte]
      with_reducible refine hK _ ?_
      clear hK K
      refine nx_then ?_
      obtain ⟨t, ht⟩ : ∃ t, c.getD j 0#16 = t := ⟨_, rfl⟩
      rw [ht]
      refine awp_seqP rfl ?_
      refine awp_blockN 2 rfl rfl ?_
      refine awp_loopP (fun p : KC => { fr := [(0, .os (nx + 2 + 1) p.k (c.length - p.k) 1 true), (3, .os id 0 out.length 1 true), (4, .w16 (t / 256#16)), (5, .op (cx + 8) 0), (6, .i (szL ((c.drop j).take (p.k - j))))], hp := upd (upd (upd (fun _ => none) (nx + 2 + 1) (.cells (c16 c) true)) id (.cells (c8 out) true)) (cx + 8) (.cells (c8 (bitsL ((c.drop j).take (p.k - j)))) true), nx := 0, cx := p.c }) (fun p => j ≤ p.k ∧ p.k ≤ c.length ∧ (∀ k, j ≤ k → k < p.k → win (c.getD k 0#16) = win t) ∧ cx + 8 < p.c) (fun p => c.length - p.k) rfl ⟨⟨j, _⟩, ⟨Nat.le_refl _, by simp only; omega, fun k h1 h2 => by simp only at h2; omega, by simp only; omega⟩, ⟨fun _ => .inr (by simp only [Nat.sub_self, List.take_zero]; rfl), fun a b h => by simp only [Nat.sub_self, List.take_zero] at h; exact h, Nat.le_refl _⟩⟩ ?_
      rintro ⟨i, cx2⟩ ⟨hji, hic, hwin, hcx2⟩ n0
      simp only at hji hic hwin hcx2 ⊢
      obtain ⟨p, hp⟩ : ∃ p, (c.drop j).take (i - j) = p := ⟨_, rfl⟩
      have hsz := szL_le p
      have hbl := bitsL_len p
      rw [hp]
      by_cases h1 : i < c.length
      · skip
        have hd : decide (0 < ((c.length - i : Nat) : Int)) = true := decide_eq_true (by omega)
        obtain ⟨x, hx⟩ : ∃ x, c.getD i 0#16 = x := ⟨_, rfl⟩
        refine awp_seqP rfl ?_
        refine awp_seqP rfl ?_
        refine awp_regP (Γ := noEnv) [27, 0, 3, 4, 5, 6] (noEnv_ok _ _) rfl rfl rfl (fun K hK => ?_)
        simp only [Tryd.f12, bodyOf, Option.getD_some, cl, cr, rOps, lights, light, rN, List.size_toArray, List.length_cons, List.length_nil, Nat.reduceAdd, Nat.zero_add, List.map_cons, List.map_nil, Option.map_none, Option.map_some, List.getElem?_toArray, List.getElem?_cons_zero, List.getElem?_cons_succ, Option.bind_some]
        simp (maxSteps := 300000) (disch := omega) only [go_sem, Nat.reduceAdd, Int.reduceLE, Int.reduceLT, Int.reduceToNat, BitVec.reduceOfInt, ↓reduceIte, hd, w256, Nat.add_zero, hx]
        with_reducible refine hK _ ?_
        clear hK K
        refine nx_then ?_
        refine awp_ifD (.tmp 27) rfl rfl rfl (fun h => ?_) (fun h => ?_)
        · skip
          refine awp_drop rfl ?_
          rw [quo_eq] at h
          have hsub := take_sub c j i hji h1
          rw [hp, hx] at hsub
          have hpl := pos_lt x
          refine awp_skipP rfl ?_
          refine nx_then ?_
          refine awp_blockN 3 rfl rfl ?_
          refine awp_seqP rfl ?_
          refine awp_regP (Γ := noEnv) [0, 3, 4, 5, 7] (noEnv_ok _ _) rfl rfl rfl (fun K hK => ?_)
          simp only [Tryd.f12, bodyOf, Option.getD_some, cl, cr, rOps, lights, light, rN, List.size_toArray, List.length_cons, List.length_nil, Nat.reduceAdd, Nat.zero_add, List.map_cons, List.map_nil, Option.map_none]
          simp (maxSteps := 300000) (disch := omega) only [go_sem, Nat.reduceAdd, Int.reduceLE, Int.reduceLT, Int.reduceToNat, BitVec.reduceOfInt, ↓reduceIte, w256, Nat.add_zero, hx, rem_pos]
          with_reducible refine hK _ ?_
          clear hK K
          refine nx_then ?_
          refine awp_seqP rfl ?_
          refine awp_regP (Γ := noEnv) [0, 3, 4, 5, 7] (noEnv_ok _ _) rfl rfl rfl (fun K hK => ?_)
          simp only [Tryd.f12, bodyOf, Option.getD_some, cl, cr, rOps, lights, light, rN, List.size_toArray, List.length_cons, List.length_nil, Nat.reduceAdd, Nat.zero_add, List.map_cons, List.map_nil, Option.map_none]
          simp (maxSteps := 300000) (disch := omega) only [go_sem, Nat.reduceAdd, Int.reduceLE, Int.reduceLT, BitVec.reduceOfInt, ↓reduceIte, i8z, tdiv8, tmod8, sh64, bit8_eq, Int.toNat_natCast]
          with_reducible refine hK _ ?_
          clear hK K
          refine nx_then ?_
          refine awp_drwP (Γ := noEnv) (fun _ => 2) [0, 3, 4, 5, 6] mixed (noEnv_ok _ _) rfl rfl rfl (by kernel_rfl) (fun K hK => ?_)
          simp only [Tryd.f12, bodyOf, Option.getD_some, cl, cr, rOps, lights, light, rN, List.size_toArray, List.length_cons, List.length_nil, Nat.reduceAdd, Nat.zero_add, List.map_cons, List.map_nil, Option.map_none]
          simp (maxSteps := 300000) (disch := omega) only [go_sem, Nat.reduceAdd, Int.reduceLE, Int.reduceToNat, ↓reduceIte, i8z, tdiv8]
          with_reducible refine hK _ ?_
          clear hK K
          refine nx_blk (nx_loop ?_)
          have esn := szL_snoc p x
          have ebn : (bitsL p).set (pos x / 8) ((bitsL p).getD (pos x / 8) 0#8 ||| bit8 (pos x % 8)) = bitsL (p ++ [x]) := (bitsL_snoc p x).symm
          have el : c.length - i - 1 = c.length - (i + 1) := by omega
          refine ⟨⟨i + 1, _⟩, ⟨by simp only; omega, by simp only; omega, fun k h1 h2 => ?_, by simp only; omega⟩, by simp only; omega, ⟨fun _ => .inr ?_, fun j o h => ?_, Nat.le_refl _⟩⟩
          · by_cases e : k = i
            · subst e; rw [hx]; exact h
            · exact hwin k h1 (by simp only at h2; omega)
          · simp only [hsub, esn, el, Int.natCast_add, Int.natCast_one]
          · simp only at h
            exact hsub_cons (by simp (disch := omega) only [up_app, ↓reduceIte, eq_self, hsub, ebn]) (hsub_cons (by simp (disch := omega) only [up_app, nat_ne, ↓reduceIte, eq_self, ebn]) (hsub_cons (by simp (disch := omega) only [up_app, nat_ne, ↓reduceIte, eq_self, ebn]) (hsub_nil))) j o h
        · skip
          refine awp_drop rfl ?_
          rw [quo_eq] at h
          refine awp_exitN 2 rfl rfl ?_
          refine nx_ex_then (nx_ex_loop (nx_ex_blk ?_))
          refine nx_then ?_
          obtain ⟨hlt, hbm⟩ := bm_step c j i hjl hji hic (by rw [ht]; exact hwin) (.inr (by rw [hx, ht]; exact h))
          rw [hp, ht] at hbm
          have hrl := recL_len (win t) p
          have hrq := recL_eq (win t) p out
          refine awp_drwP (Γ := noEnv) (fun k => if k = 6 then 66 else if k = 9 then 194 else 2) [0, 3] mixed (noEnv_ok _ _) rfl rfl rfl (by kernel_rfl) (fun K hK => ?_)
          simp only [Tryd.f12, bodyOf, Option.getD_some, cl, cr, rOps, lights, light, rN, List.size_toArray, List.length_cons, List.length_nil, Nat.reduceAdd, Nat.zero_add, List.map_cons, List.map_nil, Option.map_none]
          simp (maxSteps := 300000) (disch := omega) only [go_sem, Nat.reduceAdd, Nat.reduceLeDiff, Nat.reduceLT, Int.reduceLE, Int.reduceToNat, ↓reduceIte, win8, ofI8, Int.toNat_natCast, Nat.sub_zero, List.drop_zero]
          with_reducible refine hK _ ?_
          clear hK K
          refine nx_blk (nx_loop ?_)
          have hbm2 : out ++ recL (win t) p ++ bmL (c.drop i) = bmL c := by rw [List.append_assoc, ← hbm]; exact hout
          have hlen : (out ++ recL (win t) p).length = out.length + 2 + szL p := by rw [List.length_append, hrl]; omega
          refine ⟨⟨i, cx2 + 11 + 9, out ++ recL (win t) p, _⟩, ⟨hic, hbm2, by simp only [hlen]; omega, by simp only; omega, by simp only; omega⟩, by simp only; omega, ⟨fun _ => .inr ?_, fun j o h => ?_, Nat.le_refl _⟩⟩
          · simp only [hlen]
          · simp only at h
            exact hsub_cons (by simp (disch := omega) only [up_app, ↓reduceIte, eq_self, hrq]) (hsub_cons (by simp (disch := omega) only [up_app, de_app, nat_ne, ↓reduceIte, eq_self, hrq]) (hsub_nil)) j o h
      · skip
        have hd : decide (0 < ((c.length - i : Nat) : Int)) = false := decide_eq_false (by omega)
        refine awp_seqP rfl ?_
        refine awp_seqP rfl ?_
        refine awp_regP (Γ := noEnv) [27, 0, 3, 4, 5, 6] (noEnv_ok _ _) rfl rfl rfl (fun K hK => ?_)
        simp only [Tryd.f12, bodyOf, Option.getD_some, cl, cr, rOps, lights, light, rN, List.size_toArray, List.length_cons, List.length_nil, Nat.reduceAdd, Nat.zero_add, List.map_cons, List.map_nil, Option.map_none, Option.map_some, List.getElem?_toArray, List.getElem?_cons_zero, List.getElem?_cons_succ, Option.bind_some]
        simp (maxSteps := 300000) (disch := omega) only [go_sem, Nat.reduceAdd, reduceCtorEq, ↓reduceIte, hd]
        with_reducible refine hK _ ?_
        clear hK K
        refine nx_then ?_
        refine awp_ifB (.tmp 27) rfl rfl rfl (fun h => ?_) (fun h => ?_)
        · skip
          refine awp_drop rfl ?_
          cases h
        · skip
          refine awp_drop rfl ?_
          clear h
          refine awp_exitN 2 rfl rfl ?_
          refine nx_ex_then (nx_ex_loop (nx_ex_blk ?_))
          refine nx_then ?_
          obtain ⟨hlt, hbm⟩ := bm_step c j i hjl hji hic (by rw [ht]; exact hwin) (.inl (by omega))
          rw [hp, ht] at hbm
          have hrl := recL_len (win t) p
          have hrq := recL_eq (win t) p out
          refine awp_drwP (Γ := noEnv) (fun k => if k = 6 then 66 else if k = 9 then 194 else 2) [0, 3] mixed (noEnv_ok _ _) rfl rfl rfl (by kernel_rfl) (fun K hK => ?_)
          simp only [Tryd.f12, bodyOf, Option.getD_some, cl, cr, rOps, lights, light, rN, List.size_toArray, List.length_cons, List.length_nil, Nat.reduceAdd, Nat.zero_add, List.map_cons, List.map_nil, Option.map_none]
          simp (maxSteps := 300000) (disch := omega) only [go_sem, Nat.reduceAdd, Nat.reduceLeDiff, Nat.reduceLT, Int.reduceLE, Int.reduceToNat, ↓reduceIte, win8, ofI8, Int.toNat_natCast, Nat.sub_zero, List.drop_zero]
          with_reducible refine hK _ ?_
          clear hK K
          refine nx_blk (nx_loop ?_)
          have hbm2 : out ++ recL (win t) p ++ bmL (c.drop i) = bmL c := by rw [List.append_assoc, ← hbm]; exact hout
          have hlen : (out ++ recL (win t) p).length = out.length + 2 + szL p := by rw [List.length_append, hrl]; omega
          refine ⟨⟨i, cx2 + 11 + 9, out ++ recL (win t) p, _⟩, ⟨hic, hbm2, by simp only [hlen]; omega, by simp only; omega, by simp only; omega⟩, by simp only; omega, ⟨fun _ => .inr ?_, fun j o h => ?_, Nat.le_refl _⟩⟩
          · simp only [hlen]
          · simp only at h
            exact hsub_cons (by simp (disch := omega) only [up_app, ↓reduceIte, eq_self, hrq]) (hsub_cons (by simp (disch := omega) only [up_app, de_app, nat_ne, ↓reduceIte, eq_self, hrq]) (hsub_nil)) j o h
    · skip
      refine awp_drop rfl ?_
      refine awp_exitN 0 rfl rfl ?_
      refine nx_ex_then (nx_ex_loop (nx_ex_blk ?_))
      refine nx_then ?_
      refine awp_seqP rfl ?_
      obtain rfl : j = c.length := by omega
      have e1 : out = bmL c := by rw [List.drop_length, show bmL [] = [] from by rw [bmL], List.append_nil] at hout; exact hout
      refine awp_regP (Γ := noEnv) [2] (noEnv_ok _ _) rfl rfl rfl (fun K hK => ?_)
      simp only [Tryd.f12, bodyOf, Option.getD_some, cl, cr, rOps, lights, light, rN, List.size_toArray, List.length_cons, List.length_nil, Nat.reduceAdd, Nat.zero_add, List.map_cons, List.map_nil, Option.map_none]
      simp (maxSteps := 300000) (disch := omega) only [go_sem, Nat.reduceAdd, ↓reduceIte, e1]
      with_reducible refine hK _ ?_
      clear hK K
      refine nx_then ?_
      refine awp_retP rfl ?_
      simp (disch := omega) only [freshQ, freshR, resA, resAL, resA1, Tryd.f12, go_sem, ↓reduceIte]
  · cases hg
theorem ok12 : EntOK Tryd.prog GLh 12 (.fresh true bmG) := ⟨⟨_, Tryd.func12, rfl, rfl⟩, bm_ok⟩
end Go.AX

namespace Go.AX
open Go Go.Proofs

theorem shr_win (x : T16) : (x >>> 8).toNat = win x := by rw [BitVec.toNat_ushiftRight, Nat.shiftRight_eq_div_pow]; rfl
theorem shr_eq (x y : T16) : x >>> 8 = y >>> 8 ↔ win x = win y := by
  rw [← shr_win, ← shr_win]; exact ⟨fun h => by rw [h], fun h => BitVec.eq_of_toNat_eq h⟩
theorem and_pos (x : T16) : (x &&& 255#16).toNat = pos x := by
  rw [BitVec.toNat_and]
  exact Nat.and_two_pow_sub_one_eq_mod x.toNat 8
theorem win8s (x : T16) : (x >>> 8).setWidth 8 = BitVec.ofNat 8 (win x) := by
  apply BitVec.eq_of_toNat_eq
  rw [BitVec.toNat_setWidth, shr_win, BitVec.toNat_ofNat]
theorem bits_zero (p : List T16) (s i : Nat) (h : ∀ y ∈ p, pos y / 8 < s) (hs : s ≤ i) (hi : i < 32) : (bitsL p).getD i 0#8 = 0#8 := by
  apply Classical.byContradiction
  intro hne
  obtain ⟨k, hk, hb⟩ := ne_zero_bit _ hne
  obtain ⟨y, hy, he⟩ := (bitsL_bit p i k hi hk).1 hb
  have := h y hy
  omega
theorem pos_le_last (p : List T16) (w : Nat) (hp : Inc p) (hw : InW w p) : ∀ y ∈ p, pos y / 8 < szL p := by
  intro y hy
  cases hm : p.getLast? with
  | none => rw [List.getLast?_eq_none_iff] at hm; subst hm; simp at hy
  | some m =>
    have hs : szL p = pos m / 8 + 1 := by unfold szL; rw [hm]
    have hmem : m ∈ p := List.mem_of_getLast? hm
    have h1 := hw y hy
    have h2 := hw m hmem
    have h3 : pos y ≤ pos m := by
      rcases last_max hp hy hm with rfl | h
      · exact Nat.le_refl _
      · unfold win at h1 h2; unfold pos; omega
    omega
theorem pad_eq (p : List T16) (k : Nat) (h : ∀ y ∈ p, pos y / 8 < szL p) (hk : szL p ≤ k) (hk2 : k ≤ 32) : (bitsL p).take (szL p) ++ List.replicate (k - szL p) 0#8 = (bitsL p).take k := by
  have hl := bitsL_len p
  apply List.ext_getElem
  · simp only [List.length_append, List.length_take, List.length_replicate]; omega
  · intro i h1 h2
    have hi : i < k := by simp only [List.length_take] at h2; omega
    rw [List.getElem_append]
    split
    · simp
    · rename_i hge
      simp only [List.length_take] at hge
      have hz := bits_zero p (szL p) i h (by omega) (by omega)
      rw [List.getD_eq_getElem?_getD, List.getElem?_eq_getElem (by omega)] at hz
      simp only [Option.getD_some] at hz
      simp [hz]
theorem pad_step (p : List T16) (x : T16) (h : ∀ y ∈ p, pos y / 8 < szL p) (hk : szL p ≤ pos x / 8 + 1) :
    ((bitsL p).take (szL p) ++ List.replicate (pos x / 8 + 1 - szL p) 0#8).set (pos x / 8) (((bitsL p).take (szL p) ++ List.replicate (pos x / 8 + 1 - szL p) 0#8).getD (pos x / 8) 0#8 ||| bit8 (pos x % 8)) = (bitsL (p ++ [x])).take (szL (p ++ [x])) := by
  have hx := pos_lt x
  rw [pad_eq p _ h hk (by omega), szL_snoc, bitsL_snoc, stpB, List.take_set]
  congr 2
  have hl := bitsL_len p
  rw [List.getD_eq_getElem?_getD, List.getD_eq_getElem?_getD, List.getElem?_take_of_lt (by omega)]
theorem inc_sub (c : List T16) (hc : Inc c) (j n : Nat) : Inc ((c.drop j).take n) := List.Pairwise.sublist ((List.take_sublist _ _).trans (List.drop_sublist _ _)) hc
theorem inw_sub (c : List T16) (j i w : Nat) (hi : i ≤ c.length) (h : ∀ k, j ≤ k → k < i → win (c.getD k 0#16) = w) : InW w ((c.drop j).take (i - j)) := by
  intro y hy
  obtain ⟨k, hk, rfl⟩ := List.getElem_of_mem hy
  simp only [List.length_take, List.length_drop] at hk
  have := h (j + k) (by omega) (by omega)
  rw [List.getD_eq_getElem?_getD, List.getElem?_eq_getElem (by omega)] at this
  simpa using this
theorem szL_last (p : List T16) (x : T16) (w : Nat) (hp : Inc (p ++ [x])) (hw : InW w p) (hx : win x = w) : szL p ≤ pos x / 8 + 1 := by
  cases hm : p.getLast? with
  | none => unfold szL; rw [hm]; exact Nat.zero_le _
  | some m =>
    have hs : szL p = pos m / 8 + 1 := by unfold szL; rw [hm]
    have hmem : m ∈ p := List.mem_of_getLast? hm
    have h2 := hw m hmem
    obtain ⟨_, _, h3⟩ := inc_app hp
    have h4 := h3 m hmem x (by simp)
    rw [hs]
    unfold win at h2 hx
    unfold pos
    omega
structure SMI where
  m : Nat
  id : Nat
  c : Nat
set_option maxHeartbeats 4000000 in
theorem rbm_ok : FreshOK Tryd.prog GLh 16 bmG := by
  refine fresh_of_awp Tryd.func16 (bodyOf_some rfl) ?_
  intro args r hg
  unfold bmG at hg
  split at hg
  · rename_i n xs
    replace hg := obind_inv hg; obtain ⟨l, hl, hg⟩ := hg
    replace hg := guardO_inv hg; obtain ⟨⟨hn, hbig⟩, hg⟩ := hg
    obtain rfl := Option.some.inj hg
    have := unA_inv16 hl; subst this
    refine ⟨Nat.le_of_ble_eq_true rfl, fun nx => ?_⟩
    clear hl hg
    subst hn
    have hcl := cleanL_len l
    have hinc := cleanL_inc l
    obtain ⟨c, hc⟩ : ∃ c, cleanL l = c := ⟨_, rfl⟩
    rw [hc] at hcl hinc ⊢
    refine awp_seqP rfl ?_
    refine awp_regP (Γ := noEnv) [0] (noEnv_ok _ _) rfl rfl rfl (fun K hK => ?_)
    simp only [Tryd.f16, bodyOf, Option.getD_some, cl, rOps, lights, light, rN, List.size_toArray, List.length_cons, List.length_nil, Nat.zero_add, List.map_cons, List.map_nil, Option.map_none]
    simp (maxSteps := 300000) (disch := omega) only [go_sem, ↓reduceIte]
    with_reducible refine hK _ ?_
    clear hK K
    refine nx_then ?_
    refine awp_seqP rfl ?_
    refine awp_regP (Γ := envL [(14, .fresh true clnG)]) [0] (envOK_cons ok14 envOK_nil) rfl rfl rfl (fun K hK => ?_)
    simp only [Tryd.f16, bodyOf, Option.getD_some, cl, cr, rOps, lights, light, rN, List.size_toArray, List.length_cons, List.length_nil, Nat.reduceAdd, Nat.zero_add, List.map_cons, List.map_nil, Option.map_none]
    simp (maxSteps := 300000) (disch := omega) only [go_sem, Nat.reduceAdd, ↓reduceIte, hc]
    with_reducible refine hK _ ?_
    clear hK K
    refine nx_then ?_
    refine awp_seqP rfl ?_
    refine awp_regP (Γ := noEnv) [0, 3] (noEnv_ok _ _) rfl rfl rfl (fun K hK => ?_)
    simp only [Tryd.f16, bodyOf, Option.getD_some, cl, cr, rOps, lights, light, rN, List.size_toArray, List.length_cons, List.length_nil, Nat.zero_add, List.map_cons, List.map_nil, Option.map_none]
    simp (maxSteps := 300000) (disch := omega) only [go_sem, ↓reduceIte]
    with_reducible refine hK _ ?_
    clear hK K
    refine nx_then ?_
    refine awp_seqP rfl ?_
    refine awp_seqP rfl ?_
    refine awp_regP (Γ := noEnv) [0, 3, 4] (noEnv_ok _ _) rfl rfl rfl (fun K hK => ?_)
    simp only [Tryd.f16, bodyOf, Option.getD_some, cl, cr, rOps, lights, light, rN, List.size_toArray, List.length_cons, List.length_nil, Nat.zero_add, List.map_cons, List.map_nil, Option.map_none]
    simp (maxSteps := 300000) (disch := omega) only [go_sem, ↓reduceIte]
    with_reducible refine hK _ ?_
    clear hK K
    refine nx_then ?_
    refine awp_own 3 1 rfl ?_
    refine awp_keep [0, 3, 4] ?_
    simp only [kf_nil, kf_cons, look_cons, ↓reduceIte, Nat.reduceEqDiff]
    obtain ⟨i0, hi0⟩ : ∃ i, nx + 1 + 1 = i := ⟨_, rfl⟩
    refine awp_blockN 0 rfl rfl ?_
    refine awp_loopP (fun p : SBO => { fr := [(0, .os (nx + 1 + 1) 0 c.length 1 true), (3, .os p.id 0 p.out.length 1 true), (4, .i p.j)], hp := upd (upd (fun _ => none) (nx + 1 + 1) (.cells (c16 c) true)) p.id (.cells (c8 p.out) true), nx := 0, cx := p.c }) (fun p => p.j ≤ c.length ∧ p.out ++ bmL (c.drop p.j) = bmL c ∧ p.out.length ≤ 34 * p.j ∧ p.id < p.c ∧ nx + 1 + 1 < p.id) (fun p => c.length - p.j) rfl ⟨⟨0, _, [], _⟩, ⟨Nat.zero_le _, rfl, Nat.zero_le _, by simp only; omega, by simp only; omega⟩, sub_same rfl rfl (Nat.le_refl _)⟩ ?_
    rintro ⟨j, id, out, cx⟩ ⟨hj, hout, hol, hid, hid2⟩ n0
    simp only at hj hout hol hid hid2 ⊢
    refine awp_seqP rfl ?_
    refine awp_seqP rfl ?_
    refine awp_regP (Γ := noEnv) [13, 0, 3, 4] (noEnv_ok _ _) rfl rfl rfl (fun K hK => ?_)
    simp only [Tryd.f16, bodyOf, Option.getD_some, cl, cr, rOps, lights, light, rN, List.size_toArray, List.length_cons, List.length_nil, Nat.reduceAdd, Nat.zero_add, List.map_cons, List.map_nil, Option.map_none]
    simp (maxSteps := 300000) (disch := omega) only [go_sem, Nat.reduceAdd, ↓reduceIte]
    with_reducible refine hK _ ?_
    clear hK K
    refine nx_then ?_
    refine awp_ifD (.tmp 13) rfl rfl rfl (fun h => ?_) (fun h => ?_)
    · skip
      refine awp_drop rfl ?_
      have hjl : j < c.length := by omega
      refine awp_skipP rfl ?_
      refine nx_then ?_
      refine awp_blockN 1 rfl rfl ?_
      refine awp_seqP rfl ?_
      refine awp_regP (Γ := noEnv) [0, 3, 4, 5] (noEnv_ok _ _) rfl rfl rfl (fun K hK => ?_)
      simp only [Tryd.f16, bodyOf, Option.getD_some, cl, cr, rOps, lights, light, rN, List.size_toArray, List.length_cons, List.length_nil, Nat.reduceAdd, Nat.zero_add, List.map_cons, List.map_nil, Option.map_none]
      simp (maxSteps := 300000) (disch := omega) only [go_sem, Nat.reduceAdd, Int.reduceLE, Int.reduceLT, BitVec.reduceOfInt, BitVec.reduceToNat, ↓reduceIte, Nat.add_zero]
      with_reducible refine hK _ ?_
      clear hK K
      refine nx_then ?_
      obtain ⟨t, ht⟩ : ∃ t, c.getD j 0#16 = t := ⟨_, rfl⟩
      rw [ht]
      refine awp_seqP rfl ?_
      refine awp_regP (Γ := noEnv) [0, 3, 4, 5, 6] (noEnv_ok _ _) rfl rfl rfl (fun K hK => ?_)
      simp only [Tryd.f16, bodyOf, Option.getD_some, cl, cr, rOps, lights, light, rN, List.size_toArray, List.length_cons, List.length_nil, Nat.zero_add, List.map_cons, List.map_nil, Option.map_none]
      simp (maxSteps := 300000) (disch := omega) only [go_sem, ↓reduceIte]
      with_reducible refine hK _ ?_
      clear hK K
      refine nx_then ?_
      refine awp_own 6 1 rfl ?_
      refine awp_keep [0, 3, 4, 5, 6] ?_
      simp only [kf_nil, kf_cons, look_cons, ↓reduceIte, Nat.reduceEqDiff]
      refine awp_seqP rfl ?_
      refine awp_blockN 2 rfl rfl ?_
      refine awp_loopP (fun p : KIC => { fr := [(0, .os (nx + 1 + 1) 0 c.length 1 true), (3, .os id 0 out.length 1 true), (4, .i p.k), (5, .w16 (t >>> 8)), (6, .os p.id 0 (szL ((c.drop j).take (p.k - j))) 1 true)], hp := upd (upd (upd (fun _ => none) (nx + 1 + 1) (.cells (c16 c) true)) id (.cells (c8 out) true)) p.id (.cells (c8 ((bitsL ((c.drop j).take (p.k - j))).take (szL ((c.drop j).take (p.k - j))))) true), nx := 0, cx := p.c }) (fun p => j ≤ p.k ∧ p.k ≤ c.length ∧ (∀ k, j ≤ k → k < p.k → win (c.getD k 0#16) = win t) ∧ p.id < p.c ∧ id < p.id) (fun p => c.length - p.k) rfl ⟨⟨j, cx + 4 + 6 + 1, _⟩, ⟨Nat.le_refl _, by simp only; omega, fun k h1 h2 => by simp only at h2; omega, by simp only; omega, by simp only; omega⟩, ⟨fun _ => .inr (by simp only [Nat.sub_self, List.take_zero]; rfl), fun a b h => by simp only [Nat.sub_self, List.take_zero] at h; exact h, Nat.le_refl _⟩⟩ ?_
      rintro ⟨i, idb, cx2⟩ ⟨hji, hic, hwin, hcx2, hidb⟩ n0
      simp only at hji hic hwin hcx2 hidb ⊢
      obtain ⟨p, hp⟩ : ∃ p, (c.drop j).take (i - j) = p := ⟨_, rfl⟩
      have hsz := szL_le p
      have hbl := bitsL_len p
      have hincp : Inc p := by rw [← hp]; exact inc_sub c hinc _ _
      have hinw : InW (win t) p := by rw [← hp]; exact inw_sub c j i _ hic hwin
      have hbz := bits_sz p
      rw [hp]
      by_cases h1 : i < c.length
      · skip
        have hd : decide ((i : Int) < (c.length : Int)) = true := decide_eq_true (by omega)
        obtain ⟨x, hx⟩ : ∃ x, c.getD i 0#16 = x := ⟨_, rfl⟩
        refine awp_seqP rfl ?_
        refine awp_seqP rfl ?_
        refine awp_regP (Γ := noEnv) [31, 0, 3, 4, 5, 6] (noEnv_ok _ _) rfl rfl rfl (fun K hK => ?_)
        simp only [Tryd.f16, bodyOf, Option.getD_some, cl, cr, rOps, lights, light, rN, List.size_toArray, List.length_cons, List.length_nil, Nat.reduceAdd, Nat.zero_add, List.map_cons, List.map_nil, Option.map_none, Option.map_some, List.getElem?_toArray, List.getElem?_cons_zero, List.getElem?_cons_succ, Option.bind_some]
        simp (maxSteps := 300000) (disch := omega) only [go_sem, Nat.reduceAdd, Int.reduceLE, Int.reduceLT, BitVec.reduceOfInt, BitVec.reduceToNat, ↓reduceIte, hd, Nat.add_zero, hx]
        with_reducible refine hK _ ?_
        clear hK K
        refine nx_then ?_
        refine awp_ifD (.tmp 31) rfl rfl rfl (fun h => ?_) (fun h => ?_)
        · skip
          refine awp_drop rfl ?_
          rw [shr_eq] at h
          have hsub := take_sub c j i hji h1
          rw [hp, hx] at hsub
          have hpl := pos_lt x
          have hincx : Inc (p ++ [x]) := by rw [← hsub]; exact inc_sub c hinc _ _
          have hsl := szL_last p x (win t) hincx hinw h
          have hps := pad_step p x (pos_le_last p (win t) hincp hinw) hsl
          refine awp_skipP rfl ?_
          refine nx_then ?_
          refine awp_blockN 3 rfl rfl ?_
          refine awp_seqP rfl ?_
          refine awp_regP (Γ := noEnv) [0, 3, 4, 5, 6, 7] (noEnv_ok _ _) rfl rfl rfl (fun K hK => ?_)
          simp only [Tryd.f16, bodyOf, Option.getD_some, cl, cr, rOps, lights, light, rN, List.size_toArray, List.length_cons, List.length_nil, Nat.reduceAdd, Nat.zero_add, List.map_cons, List.map_nil, Option.map_none]
          simp (maxSteps := 300000) (disch := omega) only [go_sem, Nat.reduceAdd, Int.reduceLE, Int.reduceLT, BitVec.reduceOfInt, ↓reduceIte, Nat.add_zero, hx, and_pos]
          with_reducible refine hK _ ?_
          clear hK K
          refine nx_then ?_
          refine awp_seqP rfl ?_
          refine awp_blockN 4 rfl rfl ?_
          refine awp_loopP (fun q : SMI => { fr := [(0, .os (nx + 1 + 1) 0 c.length 1 true), (3, .os id 0 out.length 1 true), (4, .i i), (5, .w16 (t >>> 8)), (6, .os q.id 0 (szL p + q.m) 1 true), (7, .i (pos x))], hp := upd (upd (upd (fun _ => none) (nx + 1 + 1) (.cells (c16 c) true)) id (.cells (c8 out) true)) q.id (.cells (c8 ((bitsL p).take (szL p) ++ List.replicate q.m 0#8)) true), nx := 0, cx := q.c }) (fun q => szL p + q.m ≤ pos x / 8 + 1 ∧ q.id < q.c ∧ id < q.id) (fun q => pos x / 8 + 1 - (szL p + q.m)) rfl ⟨⟨0, idb, _⟩, ⟨hsl, by simp only; omega, hidb⟩, ⟨fun _ => .inr rfl, fun a b h => by simp only [List.replicate_zero, List.append_nil] at h; exact h, Nat.le_refl _⟩⟩ ?_
          rintro ⟨m, idq, cx3⟩ ⟨hm, hcx3, hidq⟩ n0
          simp only at hm hcx3 hidq ⊢
          have hql : ((bitsL p).take (szL p) ++ List.replicate m 0#8).length = szL p + m := by rw [List.length_append, hbz, List.length_replicate]
          refine awp_seqP rfl ?_
          refine awp_seqP rfl ?_
          refine awp_regP (Γ := noEnv) [42, 0, 3, 4, 5, 6, 7] (noEnv_ok _ _) rfl rfl rfl (fun K hK => ?_)
          simp only [Tryd.f16, bodyOf, Option.getD_some, cl, cr, rOps, lights, light, rN, List.size_toArray, List.length_cons, List.length_nil, Nat.reduceAdd, Nat.zero_add, List.map_cons, List.map_nil, Option.map_none]
          simp (maxSteps := 300000) (disch := omega) only [go_sem, Nat.reduceAdd, ↓reduceIte, i8z, tdiv8]
          with_reducible refine hK _ ?_
          clear hK K
          refine nx_then ?_
          refine awp_ifD (.tmp 42) rfl rfl rfl (fun h => ?_) (fun h => ?_)
          · skip
            refine awp_drop rfl ?_
            have hrs : (bitsL p).take (szL p) ++ List.replicate m 0#8 ++ [0#8] = (bitsL p).take (szL p) ++ List.replicate (m + 1) 0#8 := by rw [List.append_assoc, List.replicate_succ']
            refine awp_skipP rfl ?_
            refine nx_then ?_
            refine awp_blockN 5 rfl rfl ?_
            refine awp_regP (Γ := noEnv) [0, 3, 4, 5, 6, 7] (noEnv_ok _ _) rfl rfl rfl (fun K hK => ?_)
            simp only [Tryd.f16, bodyOf, Option.getD_some, cl, cr, rOps, lights, light, rN, List.size_toArray, List.length_cons, List.length_nil, Nat.reduceAdd, Nat.zero_add, List.map_cons, List.map_nil, Option.map_none]
            simp (maxSteps := 300000) (disch := omega) only [go_sem, Nat.reduceAdd, Nat.reduceLeDiff, Nat.reduceLT, Int.reduceLE, Int.reduceLT, BitVec.reduceOfInt, ↓reduceIte, hql, app1]
            with_reducible refine hK _ ?_
            clear hK K
            refine nx_blk (nx_loop ?_)
            have hrs2 : ((bitsL p).take (szL p) ++ List.replicate (m + 1) 0#8).length = szL p + (m + 1) := by rw [List.length_append, hbz, List.length_replicate]
            refine ⟨⟨m + 1, cx3 + 5 + 2, _⟩, ⟨by simp only; omega, by simp only; omega, by simp only; omega⟩, by simp only; omega, ⟨fun _ => .inr ?_, fun j o h => ?_, Nat.le_refl _⟩⟩
            · simp only [Nat.add_assoc]
            · simp only at h
              exact hsub_cons (by simp (disch := omega) only [up_app, ↓reduceIte, eq_self, hrs]) (hsub_cons (by simp (disch := omega) only [up_app, de_app, nat_ne, ↓reduceIte, eq_self, hrs]) (hsub_cons (by simp (disch := omega) only [up_app, de_app, nat_ne, ↓reduceIte, eq_self, hrs]) (hsub_nil))) j o h
          · skip
            refine awp_drop rfl ?_
            obtain rfl : m = pos x / 8 + 1 - szL p := by omega
            refine awp_exitN 4 rfl rfl ?_
            refine nx_ex_then (nx_ex_loop (nx_ex_blk ?_))
            refine nx_then ?_
            refine awp_seqP rfl ?_
            refine awp_drwP (Γ := noEnv) (fun k => if k = 4 then 0 else 2) [0, 3, 4, 5, 6] mixed (noEnv_ok _ _) rfl rfl rfl (by kernel_rfl) (fun K hK => ?_)
            simp only [Tryd.f16, bodyOf, Option.getD_some, cl, cr, rOps, lights, light, rN, List.size_toArray, List.length_cons, List.length_nil, Nat.reduceAdd, Nat.zero_add, List.map_cons, List.map_nil, Option.map_none]
            simp (maxSteps := 300000) (disch := omega) only [go_sem, Nat.reduceAdd, Int.reduceLE, Int.reduceLT, BitVec.reduceOfInt, ↓reduceIte, i8z, tdiv8, tmod8, Int.toNat_natCast, bit8_eq, hql, hps]
            with_reducible refine hK _ ?_
            clear hK K
            refine nx_then ?_
            refine awp_regP (Γ := noEnv) [0, 3, 4, 5, 6] (noEnv_ok _ _) rfl rfl rfl (fun K hK => ?_)
            simp only [Tryd.f16, bodyOf, Option.getD_some, cl, cr, rOps, lights, light, rN, List.size_toArray, List.length_cons, List.length_nil, Nat.reduceAdd, Nat.zero_add, List.map_cons, List.map_nil, Option.map_none]
            simp (maxSteps := 300000) (disch := omega) only [go_sem, Nat.reduceAdd, ↓reduceIte]
            with_reducible refine hK _ ?_
            clear hK K
            refine nx_blk (nx_loop ?_)
            have esn := szL_snoc p x
            have el : szL p + (pos x / 8 + 1 - szL p) = pos x / 8 + 1 := by omega
            refine ⟨⟨i + 1, idq, _⟩, ⟨by simp only; omega, by simp only; omega, fun k h1 h2 => ?_, by simp only; omega, hidq⟩, by simp only; omega, ⟨fun _ => .inr ?_, fun j o h => ?_, Nat.le_refl _⟩⟩
            · by_cases e : k = i
              · subst e; rw [hx]; assumption
              · exact hwin k h1 (by simp only at h2; omega)
            · simp only [hsub, esn, el, Int.natCast_add, Int.natCast_one]
            · simp only at h
              exact hsub_cons (by simp (disch := omega) only [up_app, ↓reduceIte, eq_self, hsub]) (hsub_cons (by simp (disch := omega) only [up_app, nat_ne, ↓reduceIte, eq_self]) (hsub_cons (by simp (disch := omega) only [up_app, nat_ne, ↓reduceIte, eq_self]) (hsub_nil))) j o h
        · skip
          refine awp_drop rfl ?_
          rw [shr_eq] at h
          refine awp_exitN 2 rfl rfl ?_
          refine nx_ex_then (nx_ex_loop (nx_ex_blk ?_))
          refine nx_then ?_
          obtain ⟨hlt, hbm⟩ := bm_step c j i hjl hji hic (by rw [ht]; exact hwin) (.inr (by rw [hx, ht]; exact h))
          rw [hp, ht] at hbm
          have hrl := recL_len (win t) p
          have hrq := recL_eq (win t) p out
          refine awp_regP (Γ := noEnv) [0, 3, 4] (noEnv_ok _ _) rfl rfl rfl (fun K hK => ?_)
          simp only [Tryd.f16, bodyOf, Option.getD_some, cl, cr, rOps, lights, light, rN, List.size_toArray, List.length_cons, List.length_nil, Nat.reduceAdd, Nat.zero_add, List.map_cons, List.map_nil, Option.map_none]
          simp (maxSteps := 300000) (disch := omega) only [go_sem, Nat.reduceAdd, Nat.reduceLeDiff, Nat.reduceLT, ↓reduceIte, win8s, ofI8, hbz]
          with_reducible refine hK _ ?_
          clear hK K
          refine nx_blk (nx_loop ?_)
          have hbm2 : out ++ recL (win t) p ++ bmL (c.drop i) = bmL c := by rw [List.append_assoc, ← hbm]; exact hout
          have hlen : (out ++ recL (win t) p).length = out.length + 2 + szL p := by rw [List.length_append, hrl]; omega
          trace_state
          refine ⟨⟨i, cx2 + 13 + 9, out ++ recL (win t) p, _⟩, ⟨hic, hbm2, by simp only [hlen]; omega, by simp only; omega, by simp only; omega⟩, by simp only; omega, ⟨fun _ => .inr ?_, fun j o h => ?_, Nat.le_refl _⟩⟩
          · simp only [hlen]
          · simp only at h
            exact hsub_cons (by simp (disch := omega) only [up_app, ↓reduceIte, eq_self, hrq]) (hsub_cons (by simp (disch := omega) only [up_app, de_app, nat_ne, ↓reduceIte, eq_self, hrq]) (hsub_nil)) j o h
      · skip
        have hd : decide ((i : Int) < (c.length : Int)) = false := decide_eq_false (by omega)
        refine awp_seqP rfl ?_
        refine awp_seqP rfl ?_
        refine awp_regP (Γ := noEnv) [31, 0, 3, 4, 5, 6] (noEnv_ok _ _) rfl rfl rfl (fun K hK => ?_)
        simp only [Tryd.f16, bodyOf, Option.getD_some, cl, cr, rOps, lights, light, rN, List.size_toArray, List.length_cons, List.length_nil, Nat.reduceAdd, Nat.zero_add, List.map_cons, List.map_nil, Option.map_none, Option.map_some, List.getElem?_toArray, List.getElem?_cons_zero, List.getElem?_cons_succ, Option.bind_some]
        simp (maxSteps := 300000) (disch := omega) only [go_sem, Nat.reduceAdd, reduceCtorEq, ↓reduceIte, hd]
        with_reducible refine hK _ ?_
        clear hK K
        refine nx_then ?_
        refine awp_ifB (.tmp 31) rfl rfl rfl (fun h => ?_) (fun h => ?_)
        · skip
          refine awp_drop rfl ?_
          cases h
        · skip
          refine awp_drop rfl ?_
          clear h
          refine awp_exitN 2 rfl rfl ?_
          refine nx_ex_then (nx_ex_loop (nx_ex_blk ?_))
          refine nx_then ?_
          obtain ⟨hlt, hbm⟩ := bm_step c j i hjl hji hic (by rw [ht]; exact hwin) (.inl (by omega))
          rw [hp, ht] at hbm
          have hrl := recL_len (win t) p
          have hrq := recL_eq (win t) p out
          refine awp_regP (Γ := noEnv) [0, 3, 4] (noEnv_ok _ _) rfl rfl rfl (fun K hK => ?_)
          simp only [Tryd.f16, bodyOf, Option.getD_some, cl, cr, rOps, lights, light, rN, List.size_toArray, List.length_cons, List.length_nil, Nat.reduceAdd, Nat.zero_add, List.map_cons, List.map_nil, Option.map_none]
          simp (maxSteps := 300000) (disch := omega) only [go_sem, Nat.reduceAdd, Nat.reduceLeDiff, Nat.reduceLT, ↓reduceIte, win8s, ofI8, hbz]
          with_reducible refine hK _ ?_
          clear hK K
          refine nx_blk (nx_loop ?_)
          have hbm2 : out ++ recL (win t) p ++ bmL (c.drop i) = bmL c := by rw [List.append_assoc, ← hbm]; exact hout
          have hlen : (out ++ recL (win t) p).length = out.length + 2 + szL p := by rw [List.length_append, hrl]; omega
          trace_state
          refine ⟨⟨i, cx2 + 13 + 9, out ++ recL (win t) p, _⟩, ⟨hic, hbm2, by simp only [hlen]; omega, by simp only; omega, by simp only; omega⟩, by simp only; omega, ⟨fun _ => .inr ?_, fun j o h => ?_, Nat.le_refl _⟩⟩
          · simp only [hlen]
          · simp only at h
            exact hsub_cons (by simp (disch := omega) only [up_app, ↓reduceIte, eq_self, hrq]) (hsub_cons (by simp (disch := omega) only [up_app, de_app, nat_ne, ↓reduceIte, eq_self, hrq]) (hsub_nil)) j o h
    · skip
      refine awp_drop rfl ?_
      refine awp_exitN 0 rfl rfl ?_
      refine nx_ex_then (nx_ex_loop (nx_ex_blk ?_))
      refine nx_then ?_
      refine awp_seqP rfl ?_
      obtain rfl : j = c.length := by omega
      have e1 : out = bmL c := by rw [List.drop_length, show bmL [] = [] from by rw [bmL], List.append_nil] at hout; exact hout
      refine awp_regP (Γ := noEnv) [2] (noEnv_ok _ _) rfl rfl rfl (fun K hK => ?_)
      simp only [Tryd.f16, bodyOf, Option.getD_some, cl, cr, rOps, lights, light, rN, List.size_toArray, List.length_cons, List.length_nil, Nat.reduceAdd, Nat.zero_add, List.map_cons, List.map_nil, Option.map_none]
      simp (maxSteps := 300000) (disch := omega) only [go_sem, Nat.reduceAdd, ↓reduceIte, e1]
      with_reducible refine hK _ ?_
      clear hK K
      refine nx_then ?_
      refine awp_retP rfl ?_
      simp (disch := omega) only [freshQ, freshR, resA, resAL, resA1, Tryd.f16, go_sem, ↓reduceIte]
  · cases hg
theorem ok16 : EntOK Tryd.prog GLh 16 (.fresh true bmG) := ⟨⟨_, Tryd.func16, rfl, rfl⟩, rbm_ok⟩
end Go.AX

namespace Go.AX
open Go Go.Proofs

def decP (w : Nat) (bs : List B8) (k : Nat) : List T16 := (List.range k).filterMap fun i => if bs.getD (i / 8) 0#8 &&& bit8 (i % 8) ≠ 0#8 then some (BitVec.ofNat 16 (w * 256 + i)) else none
theorem decP_zero (w : Nat) (bs : List B8) : decP w bs 0 = [] := rfl
theorem decP_all (w : Nat) (bs : List B8) (k : Nat) (h : k = 8 * bs.length) : decP w bs k = decL w bs := by rw [h]; rfl
theorem decP_yes (w : Nat) (bs : List B8) (k : Nat) (h : bs.getD (k / 8) 0#8 &&& bit8 (k % 8) ≠ 0#8) : decP w bs (k + 1) = decP w bs k ++ [BitVec.ofNat 16 (w * 256 + k)] := by
  unfold decP; rw [List.range_succ, List.filterMap_append, List.filterMap_cons, if_pos h]; rfl
theorem decP_no (w : Nat) (bs : List B8) (k : Nat) (h : bs.getD (k / 8) 0#8 &&& bit8 (k % 8) = 0#8) : decP w bs (k + 1) = decP w bs k := by
  unfold decP; rw [List.range_succ, List.filterMap_append, List.filterMap_cons, if_neg (fun hh => hh h)]; simp
theorem decP_len (w : Nat) (bs : List B8) (k : Nat) : (decP w bs k).length ≤ k := by
  have := List.length_filterMap_le (fun i => if bs.getD (i / 8) 0#8 &&& bit8 (i % 8) ≠ 0#8 then some (BitVec.ofNat 16 (w * 256 + i)) else none) (List.range k)
  rw [List.length_range] at this
  exact this
theorem take_getD (r : List B8) (m k : Nat) (h : k < m) : (r.take m).getD k 0#8 = r.getD k 0#8 := by
  rw [List.getD_eq_getElem?_getD, List.getD_eq_getElem?_getD, List.getElem?_take_of_lt h]
theorem drop_getD (r : List B8) (m k : Nat) : (r.drop m).getD k 0#8 = r.getD (m + k) 0#8 := by
  rw [List.getD_eq_getElem?_getD, List.getD_eq_getElem?_getD, List.getElem?_drop]
theorem typ_num (w : B8) (k : Nat) (_ : k < 256) : w.setWidth 16 * 256#16 + BitVec.ofInt 16 (k : Int) = BitVec.ofNat 16 (w.toNat * 256 + k) := by
  apply BitVec.eq_of_toNat_eq
  rw [BitVec.ofInt_natCast, BitVec.toNat_add, BitVec.toNat_mul, BitVec.toNat_setWidth, BitVec.toNat_ofNat, BitVec.toNat_ofNat, BitVec.toNat_ofNat]
  have := w.isLt
  omega
theorem two_head (R : List B8) (h : 2 ≤ R.length) : R = R.getD 0 0#8 :: R.getD 1 0#8 :: R.drop 2 := by
  match R, h with
  | a :: b :: r, _ => rfl
theorem opP_two (f : Nat) (R : List B8) (h : 2 ≤ R.length) : opP (f + 1) R = if (R.getD 1 0#8).toNat ≤ R.length - 2 then (opP f (R.drop (2 + (R.getD 1 0#8).toNat))).map (decL (R.getD 0 0#8).toNat ((R.drop 2).take (min (R.getD 1 0#8).toNat 32)) ++ ·) else none := by
  conv => lhs; rw [two_head R h]
  simp only [opP, List.length_drop, List.drop_drop]
  split
  · cases opP f (R.drop (2 + (R.getD 1 0#8).toNat)) <;> rfl
  · rfl
theorem opP_short (f : Nat) (R : List B8) (h : 0 < R.length) (h2 : R.length < 2) : opP (f + 1) R = none := by
  match R, h, h2 with
  | [a], _, _ => rfl
def opnT : Option (List T16) → AV
  | some l => .tup [.sl l.length (c16 l), .i 0]
  | none => .tup [.sl 0 [], .i 40]
def opnG : List AV → Option AV
  | [.sl n xs] => obind (un8 xs) fun b => guardO (b.length = n ∧ n ≤ 100000) (some (opnT (opR (b.length + 1) (-1) b)))
  | _ => none
theorem opnG_eq (n : Nat) (xs : List AV) : opnG [.sl n xs] = obind (un8 xs) fun b => guardO (b.length = n ∧ n ≤ 100000) (some (opnT (opR (b.length + 1) (-1) b))) := (rfl)
theorem opnT_s (l : List T16) : opnT (some l) = .tup [.sl l.length (c16 l), .i 0] := (rfl)
theorem opnT_n : opnT none = .tup [.sl 0 [], .i 40] := (rfl)
attribute [go_sem] opnG_eq opnT_s opnT_n
theorem opR_none {F : Nat} {last : Int} {b : List B8} (h : opP F b = none) : opR F last b = none := by
  cases e : opR F last b with
  | none => rfl
  | some l => have := (opR_inv F last b l e).2.2.2; rw [h] at this; cases this
theorem opR_ne {F : Nat} {last : Int} {b : List B8} {out : List T16} (h : opP F b = some out) (hne : bmL (cleanL out) ≠ b) : opR F last b = none := by
  cases e : opR F last b with
  | none => rfl
  | some l =>
    obtain ⟨h1, h2, h3, h4⟩ := opR_inv F last b l e
    rw [h] at h4
    obtain rfl := Option.some.inj h4
    rw [cleanL_id h1] at hne
    exact absurd h3 hne
theorem opR_eq {b : List B8} {out : List T16} (h : opP (b.length + 1) b = some out) (he : bmL (cleanL out) = b) : opR (b.length + 1) (-1) b = some out := by
  have h1 := opR_bm (b.length + 1) (cleanL out) (-1) (cleanL_inc out) (fun t _ => by omega) (by rw [he]; omega)
  rw [he] at h1
  have h2 := (opR_inv _ _ _ _ h1).2.2.2
  rw [h] at h2
  obtain h3 := Option.some.inj h2
  rw [h1, ← h3]
theorem min32 (n : Nat) : (if (32 : Int) < (n : Int) then (32 : Int) else (n : Int)) = ((min n 32 : Nat) : Int) := by split <;> omega
structure SOF where
  i : Nat
  f : Nat
  id : Nat
  out : List T16
  c : Nat
structure KOC where
  k : Nat
  id : Nat
  c : Nat
set_option maxHeartbeats 4000000 in
theorem opn_ok : PureOK Tryd.prog GLh 13 opnG := by
  refine pure_of_awp Tryd.func13 (bodyOf_some rfl) ?_
  intro args r hg
  unfold opnG at hg
  split at hg
  · rename_i n xs
    replace hg := obind_inv hg; obtain ⟨b, hb, hg⟩ := hg
    replace hg := guardO_inv hg; obtain ⟨⟨hn, hbig⟩, hg⟩ := hg
    obtain rfl := Option.some.inj hg
    have := un8_inv _ hb; subst this
    refine ⟨Nat.le_of_ble_eq_true rfl, fun nx => ?_⟩
    clear hb hg
    subst hn
    obtain ⟨ans, hans⟩ : ∃ a, opR (b.length + 1) (-1) b = a := ⟨_, rfl⟩
    rw [hans]
    refine awp_seqP rfl ?_
    refine awp_regP (Γ := noEnv) [0] (noEnv_ok _ _) rfl rfl rfl (fun K hK => ?_)
    simp only [Tryd.f13, bodyOf, Option.getD_some, cl, rOps, lights, light, rN, List.size_toArray, List.length_cons, List.length_nil, Nat.reduceAdd, Nat.zero_add, List.map_cons, List.map_nil, Option.map_none]
    simp (maxSteps := 300000) (disch := omega) only [go_sem, Nat.reduceAdd, ↓reduceIte]
    with_reducible refine hK _ ?_
    clear hK K
    refine nx_then ?_
    refine awp_seqP rfl ?_
    refine awp_regP (Γ := noEnv) [0, 4] (noEnv_ok _ _) rfl rfl rfl (fun K hK => ?_)
    simp only [Tryd.f13, bodyOf, Option.getD_some, cl, cr, rOps, lights, light, rN, List.size_toArray, List.length_cons, List.length_nil, Nat.zero_add, List.map_cons, List.map_nil, Option.map_none]
    simp (maxSteps := 300000) (disch := omega) only [go_sem, ↓reduceIte]
    with_reducible refine hK _ ?_
    clear hK K
    refine nx_then ?_
    refine awp_seqP rfl ?_
    refine awp_seqP rfl ?_
    refine awp_regP (Γ := noEnv) [0, 4, 5] (noEnv_ok _ _) rfl rfl rfl (fun K hK => ?_)
    simp only [Tryd.f13, bodyOf, Option.getD_some, cl, cr, rOps, lights, light, rN, List.size_toArray, List.length_cons, List.length_nil, Nat.reduceAdd, Nat.zero_add, List.map_cons, List.map_nil, Option.map_none]
    simp (maxSteps := 300000) (disch := omega) only [go_sem, Nat.reduceAdd, ↓reduceIte]
    with_reducible refine hK _ ?_
    clear hK K
    refine nx_then ?_
    refine awp_own 4 1 rfl ?_
    refine awp_keep [0, 4, 5] ?_
    simp only [kf_nil, kf_cons, look_cons, ↓reduceIte, Nat.reduceEqDiff]
    refine awp_blockN 0 rfl rfl ?_
    refine awp_loopP (fun p : SOF => { fr := [(0, .sl b.length (c8 b)), (4, .os p.id 0 p.out.length 1 true), (5, .sl (b.length - p.i) (c8 (b.drop p.i)))], hp := upd (fun _ => none) p.id (.cells (c16 p.out) true), nx := 0, cx := p.c }) (fun p => p.i ≤ b.length ∧ b.length - p.i < p.f ∧ opP (b.length + 1) b = (opP p.f (b.drop p.i)).map (p.out ++ ·) ∧ p.out.length ≤ 8 * p.i ∧ p.id < p.c) (fun p => b.length - p.i) rfl ⟨⟨0, b.length + 1, _, [], _⟩, ⟨Nat.zero_le _, by simp only; omega, by simp, Nat.zero_le _, by simp only; omega⟩, sub_same rfl rfl (Nat.le_refl _)⟩ ?_
    rintro ⟨i, f, id, out, c⟩ ⟨hi, hf, hop, hol, hid⟩ n0
    simp only at hi hf hop hol hid ⊢
    refine awp_seqP rfl ?_
    refine awp_seqP rfl ?_
    refine awp_regP (Γ := noEnv) [11, 0, 4, 5] (noEnv_ok _ _) rfl rfl rfl (fun K hK => ?_)
    simp only [Tryd.f13, bodyOf, Option.getD_some, cl, cr, rOps, lights, light, rN, List.size_toArray, List.length_cons, List.length_nil, Nat.reduceAdd, Nat.zero_add, List.map_cons, List.map_nil, Option.map_none]
    simp (maxSteps := 300000) (disch := omega) only [go_sem, Nat.reduceAdd, ↓reduceIte]
    with_reducible refine hK _ ?_
    clear hK K
    refine nx_then ?_
    refine awp_ifD (.tmp 11) rfl rfl rfl (fun h => ?_) (fun h => ?_)
    · skip
      refine awp_drop rfl ?_
      have hib : i < b.length := by omega
      obtain ⟨R, hR⟩ : ∃ R, b.drop i = R := ⟨_, rfl⟩
      have hRl : R.length = b.length - i := by rw [← hR, List.length_drop]
      obtain ⟨g, rfl⟩ : ∃ g, f = g + 1 := ⟨f - 1, by omega⟩
      rw [hR] at hop
      by_cases h2 : b.length - i < 2
      · skip
        have hd : decide (((b.length - i : Nat) : Int) < 2) = true := decide_eq_true (by omega)
        rw [opP_short g R (by omega) (by omega)] at hop
        have hno := opR_none (last := -1) hop
        rw [hans] at hno
        refine awp_skipP rfl ?_
        refine nx_then ?_
        refine awp_blockN 1 rfl rfl ?_
        refine awp_seqP rfl ?_
        refine awp_seqP rfl ?_
        refine awp_regP (Γ := noEnv) [24, 0, 4, 5] (noEnv_ok _ _) rfl rfl rfl (fun K hK => ?_)
        simp only [Tryd.f13, bodyOf, Option.getD_some, cl, cr, rOps, lights, light, rN, List.size_toArray, List.length_cons, List.length_nil, Nat.reduceAdd, Nat.zero_add, List.map_cons, List.map_nil, Option.map_none, Option.map_some, List.getElem?_toArray, List.getElem?_cons_zero, List.getElem?_cons_succ, Option.bind_some]
        simp (maxSteps := 300000) (disch := omega) only [go_sem, Nat.reduceAdd, ↓reduceIte, hd]
        with_reducible refine hK _ ?_
        clear hK K
        refine nx_then ?_
        refine awp_ifB (.tmp 24) rfl rfl rfl (fun h => ?_) (fun h => ?_)
        · skip
          refine awp_drop rfl ?_
          refine awp_seqP rfl ?_
          refine awp_regP (Γ := noEnv) [2, 3] (noEnv_ok _ _) rfl rfl rfl (fun K hK => ?_)
          simp only [Tryd.f13, bodyOf, Option.getD_some, cl, cr, rOps, lights, light, rN, List.size_toArray, List.length_cons, List.length_nil, Nat.reduceAdd, Nat.zero_add, List.map_cons, List.map_nil, Option.map_none]
          simp (maxSteps := 300000) (disch := omega) only [go_sem, Nat.reduceAdd, ↓reduceIte]
          with_reducible refine hK _ ?_
          clear hK K
          refine nx_then ?_
          refine awp_retP rfl ?_
          refine nx_ret_then (nx_ret_blk (nx_ret_loop (nx_ret_blk (nx_ret_then ?_))))
          simp (disch := omega) only [pureQ, resA, resAL, resA1, Tryd.f13, go_sem, ↓reduceIte, hno]
        · skip
          refine awp_drop rfl ?_
          cases h
      · skip
        have hd : decide (((b.length - i : Nat) : Int) < 2) = false := decide_eq_false (by omega)
        rw [opP_two g R (by omega)] at hop
        obtain ⟨w, hw⟩ : ∃ w, R.getD 0 0#8 = w := ⟨_, rfl⟩
        obtain ⟨z, hz⟩ : ∃ z, R.getD 1 0#8 = z := ⟨_, rfl⟩
        rw [hw, hz] at hop
        refine awp_skipP rfl ?_
        refine nx_then ?_
        refine awp_blockN 1 rfl rfl ?_
        refine awp_seqP rfl ?_
        refine awp_seqP rfl ?_
        refine awp_regP (Γ := noEnv) [24, 0, 4, 5] (noEnv_ok _ _) rfl rfl rfl (fun K hK => ?_)
        simp only [Tryd.f13, bodyOf, Option.getD_some, cl, cr, rOps, lights, light, rN, List.size_toArray, List.length_cons, List.length_nil, Nat.reduceAdd, Nat.zero_add, List.map_cons, List.map_nil, Option.map_none, Option.map_some, List.getElem?_toArray, List.getElem?_cons_zero, List.getElem?_cons_succ, Option.bind_some]
        simp (maxSteps := 300000) (disch := omega) only [go_sem, Nat.reduceAdd, Int.reduceLE, Int.reduceToNat, reduceCtorEq, ↓reduceIte, hd, hR, hz]
        with_reducible refine hK _ ?_
        clear hK K
        refine nx_then ?_
        refine awp_ifD (.tmp 24) rfl rfl rfl (fun h => ?_) (fun h => ?_)
        · skip
          refine awp_drop rfl ?_
          rw [if_neg (by omega)] at hop
          have hno := opR_none (last := -1) hop
          rw [hans] at hno
          refine awp_seqP rfl ?_
          refine awp_regP (Γ := noEnv) [2, 3] (noEnv_ok _ _) rfl rfl rfl (fun K hK => ?_)
          simp only [Tryd.f13, bodyOf, Option.getD_some, cl, cr, rOps, lights, light, rN, List.size_toArray, List.length_cons, List.length_nil, Nat.reduceAdd, Nat.zero_add, List.map_cons, List.map_nil, Option.map_none]
          simp (maxSteps := 300000) (disch := omega) only [go_sem, Nat.reduceAdd, ↓reduceIte]
          with_reducible refine hK _ ?_
          clear hK K
          refine nx_then ?_
          refine awp_retP rfl ?_
          refine nx_ret_then (nx_ret_blk (nx_ret_loop (nx_ret_blk (nx_ret_then ?_))))
          simp (disch := omega) only [pureQ, resA, resAL, resA1, Tryd.f13, go_sem, ↓reduceIte, hno]
        · skip
          refine awp_drop rfl ?_
          have hzl : z.toNat ≤ R.length - 2 := by omega
          rw [if_pos hzl] at hop
          refine awp_skipP rfl ?_
          refine nx_then ?_
          refine awp_seqP rfl ?_
          refine awp_regP (Γ := noEnv) [0, 4, 5, 6] (noEnv_ok _ _) rfl rfl rfl (fun K hK => ?_)
          simp only [Tryd.f13, bodyOf, Option.getD_some, cl, cr, rOps, lights, light, rN, List.size_toArray, List.length_cons, List.length_nil, Nat.reduceAdd, Nat.zero_add, List.map_cons, List.map_nil, Option.map_none]
          simp (maxSteps := 300000) (disch := omega) only [go_sem, Nat.reduceAdd, Int.reduceLE, Int.reduceToNat, ↓reduceIte, hz]
          with_reducible refine hK _ ?_
          clear hK K
          refine nx_then ?_
          refine awp_seqP rfl ?_
          refine awp_seqP rfl ?_
          refine awp_regP (Γ := noEnv) [0, 4, 5, 6, 31, 32] (noEnv_ok _ _) rfl rfl rfl (fun K hK => ?_)
          simp only [Tryd.f13, bodyOf, Option.getD_some, cl, cr, rOps, lights, light, rN, List.size_toArray, List.length_cons, List.length_nil, Nat.reduceAdd, Nat.zero_add, List.map_cons, List.map_nil, Option.map_none]
          simp (maxSteps := 300000) (disch := omega) only [go_sem, Nat.reduceAdd, ↓reduceIte, min32]
          with_reducible refine hK _ ?_
          clear hK K
          refine nx_then ?_
          refine awp_blockN 2 rfl rfl ?_
          refine awp_loopP (fun p : KOC => { fr := [(0, .sl b.length (c8 b)), (4, .os p.id 0 (out ++ decP w.toNat ((R.drop 2).take (min z.toNat 32)) p.k).length 1 true), (5, .sl (b.length - i) (c8 R)), (6, .i z.toNat), (31, .i ((8 * min z.toNat 32 : Nat) : Int)), (32, .i p.k)], hp := upd (fun _ => none) p.id (.cells (c16 (out ++ decP w.toNat ((R.drop 2).take (min z.toNat 32)) p.k)) true), nx := 0, cx := p.c }) (fun p => p.k ≤ 8 * min z.toNat 32 ∧ p.id < p.c) (fun p => 8 * min z.toNat 32 - p.k) rfl ⟨⟨0, id, _⟩, ⟨Nat.zero_le _, by simp only; omega⟩, ⟨fun _ => .inr (by simp only [decP_zero, List.append_nil, Int.natCast_mul]; rfl), fun a b h => by simp only [decP_zero, List.append_nil] at h; exact h, Nat.le_refl _⟩⟩ ?_
          rintro ⟨k, id2, c2⟩ ⟨hk, hid2⟩ n0
          simp only at hk hid2 ⊢
          have hdl := decP_len w.toNat ((R.drop 2).take (min z.toNat 32)) k
          refine awp_seqP rfl ?_
          refine awp_regP (Γ := noEnv) [33, 0, 4, 5, 6, 31, 32] (noEnv_ok _ _) rfl rfl rfl (fun K hK => ?_)
          simp only [Tryd.f13, bodyOf, Option.getD_some, cl, cr, rOps, lights, light, rN, List.size_toArray, List.length_cons, List.length_nil, Nat.zero_add, List.map_cons, List.map_nil, Option.map_none]
          simp (maxSteps := 300000) (disch := omega) only [go_sem, ↓reduceIte]
          with_reducible refine hK _ ?_
          clear hK K
          refine nx_then ?_
          refine awp_seqP rfl ?_
          refine awp_ifD (.tmp 33) rfl rfl rfl (fun h => ?_) (fun h => ?_)
          · skip
            refine awp_drop rfl ?_
            have hkl : k < 8 * min z.toNat 32 := by omega
            have hgd : ((R.drop 2).take (min z.toNat 32)).getD (k / 8) 0#8 = R.getD (2 + k / 8) 0#8 := by rw [take_getD _ _ _ (by omega), drop_getD]
            refine awp_skipP rfl ?_
            refine nx_then ?_
            refine awp_seqP rfl ?_
            refine awp_blockN 3 rfl rfl ?_
            refine awp_seqP rfl ?_
            refine awp_regP (Γ := noEnv) [0, 4, 5, 6, 7, 31, 32] (noEnv_ok _ _) rfl rfl rfl (fun K hK => ?_)
            simp only [Tryd.f13, bodyOf, Option.getD_some, cl, cr, rOps, lights, light, rN, List.size_toArray, List.length_cons, List.length_nil, Nat.reduceAdd, Nat.zero_add, List.map_cons, List.map_nil, Option.map_none]
            simp (maxSteps := 300000) (disch := omega) only [go_sem, Nat.reduceAdd, ↓reduceIte]
            with_reducible refine hK _ ?_
            clear hK K
            refine nx_then ?_
            have e2k : (2 + ((k / 8 : Nat) : Int)).toNat = 2 + k / 8 := by omega
            refine awp_seqP rfl ?_
            refine awp_regP (Γ := noEnv) [46, 0, 4, 5, 6, 7, 31, 32] (noEnv_ok _ _) rfl rfl rfl (fun K hK => ?_)
            simp only [Tryd.f13, bodyOf, Option.getD_some, cl, cr, rOps, lights, light, rN, List.size_toArray, List.length_cons, List.length_nil, Nat.reduceAdd, Nat.zero_add, List.map_cons, List.map_nil, Option.map_none]
            simp (maxSteps := 300000) (disch := omega) only [go_sem, Nat.reduceAdd, Int.reduceLE, Int.reduceLT, BitVec.reduceOfInt, ↓reduceIte, i8z, tdiv8, tmod8, sh64, bit8_eq, e2k]
            with_reducible refine hK _ ?_
            clear hK K
            refine nx_then ?_
            refine awp_ifE (.tmp 46) rfl rfl rfl (fun h => ?_) (fun h => ?_)
            · skip
              refine awp_drop rfl ?_
              rw [← hgd] at h
              have hst := decP_yes w.toNat ((R.drop 2).take (min z.toNat 32)) k h
              refine awp_regP (Γ := noEnv) [0, 4, 5, 6, 31, 32] (noEnv_ok _ _) rfl rfl rfl (fun K hK => ?_)
              simp only [Tryd.f13, bodyOf, Option.getD_some, cl, cr, rOps, lights, light, rN, List.size_toArray, List.length_cons, List.length_nil, Nat.reduceAdd, Nat.zero_add, List.map_cons, List.map_nil, Option.map_none]
              simp (maxSteps := 300000) (disch := omega) only [go_sem, Nat.reduceAdd, Nat.reduceLeDiff, Nat.reduceLT, Int.reduceLE, Int.reduceLT, Int.reduceToNat, BitVec.reduceOfInt, ↓reduceIte, hw, typ_num, c16_app1]
              with_reducible refine hK _ ?_
              clear hK K
              refine nx_blk (nx_then ?_)
              refine awp_regP (Γ := noEnv) [0, 4, 5, 6, 31, 32] (noEnv_ok _ _) rfl rfl rfl (fun K hK => ?_)
              simp only [Tryd.f13, bodyOf, Option.getD_some, cl, cr, rOps, lights, light, rN, List.size_toArray, List.length_cons, List.length_nil, Nat.reduceAdd, Nat.zero_add, List.map_cons, List.map_nil, Option.map_none]
              simp (maxSteps := 300000) (disch := omega) only [go_sem, Nat.reduceAdd, ↓reduceIte]
              with_reducible refine hK _ ?_
              clear hK K
              refine nx_loop ?_
              have hl2 : (out ++ decP w.toNat ((R.drop 2).take (min z.toNat 32)) (k + 1)).length = out.length + (decP w.toNat ((R.drop 2).take (min z.toNat 32)) k).length + 1 := by rw [hst]; simp only [List.length_append, List.length_cons, List.length_nil]; omega
              have hr2 : out ++ decP w.toNat ((R.drop 2).take (min z.toNat 32)) k ++ [BitVec.ofNat 16 (w.toNat * 256 + k)] = out ++ decP w.toNat ((R.drop 2).take (min z.toNat 32)) (k + 1) := by rw [hst, List.append_assoc]
              refine ⟨⟨k + 1, c2 + 1 + 2 + 12 + 10, _⟩, ⟨by simp only; omega, by simp only; omega⟩, by simp only; omega, ⟨fun _ => .inr ?_, fun j o h => ?_, Nat.le_refl _⟩⟩
              · simp only [hl2, Int.natCast_add, Int.natCast_one]
              · simp only at h
                exact hsub_cons (by simp (disch := omega) only [up_app, ↓reduceIte, eq_self, hr2]) (hsub_nil) j o h
            · skip
              refine awp_drop rfl ?_
              rw [← hgd] at h
              have hst := decP_no w.toNat ((R.drop 2).take (min z.toNat 32)) k h
              refine awp_skipP rfl ?_
              refine nx_blk (nx_then ?_)
              refine awp_regP (Γ := noEnv) [0, 4, 5, 6, 31, 32] (noEnv_ok _ _) rfl rfl rfl (fun K hK => ?_)
              simp only [Tryd.f13, bodyOf, Option.getD_some, cl, cr, rOps, lights, light, rN, List.size_toArray, List.length_cons, List.length_nil, Nat.reduceAdd, Nat.zero_add, List.map_cons, List.map_nil, Option.map_none]
              simp (maxSteps := 300000) (disch := omega) only [go_sem, Nat.reduceAdd, ↓reduceIte]
              with_reducible refine hK _ ?_
              clear hK K
              refine nx_loop ?_
              refine ⟨⟨k + 1, id2, _⟩, ⟨by simp only; omega, by simp only; omega⟩, by simp only; omega, ⟨fun _ => .inr ?_, fun j o h => ?_, Nat.le_refl _⟩⟩
              · simp only [hst, List.length_append, Int.natCast_add, Int.natCast_one]
              · simp only at h
                exact hsub_cons (by simp (disch := omega) only [up_app, ↓reduceIte, eq_self, hst]) (hsub_nil) j o h
          · skip
            refine awp_drop rfl ?_
            obtain rfl : k = 8 * min z.toNat 32 := by omega
            have hall := decP_all w.toNat ((R.drop 2).take (min z.toNat 32)) (8 * min z.toNat 32) (by rw [List.length_take, List.length_drop]; omega)
            have hrd : R.drop (2 + z.toNat) = b.drop (i + (2 + z.toNat)) := by rw [← hR, List.drop_drop]
            have htk : (R.drop (2 + z.toNat)).take (b.length - i - (2 + z.toNat)) = R.drop (2 + z.toNat) := List.take_of_length_le (by rw [List.length_drop]; omega)
            have e2z : (2 + (z.toNat : Int)).toNat = 2 + z.toNat := by omega
            have hln : b.length - i - (2 + z.toNat) = b.length - (i + (2 + z.toNat)) := by omega
            rw [hall] at hdl
            refine awp_exitN 2 rfl rfl ?_
            refine nx_ex_then (nx_ex_loop (nx_ex_blk ?_))
            refine nx_then ?_
            refine awp_regP (Γ := noEnv) [0, 4, 5] (noEnv_ok _ _) rfl rfl rfl (fun K hK => ?_)
            simp only [Tryd.f13, bodyOf, Option.getD_some, cl, cr, rOps, lights, light, rN, List.size_toArray, List.length_cons, List.length_nil, Nat.reduceAdd, Nat.zero_add, List.map_cons, List.map_nil, Option.map_none]
            simp (maxSteps := 300000) (disch := omega) only [go_sem, Nat.reduceAdd, ↓reduceIte, e2z, htk, hall]
            with_reducible refine hK _ ?_
            clear hK K
            refine nx_blk (nx_loop ?_)
            refine ⟨⟨i + (2 + z.toNat), g, id2, out ++ decL w.toNat ((R.drop 2).take (min z.toNat 32)), _⟩, ⟨by simp only; omega, by simp only; omega, ?_, by simp only [List.length_append]; omega, by simp only; omega⟩, by simp only; omega, ⟨fun _ => .inr ?_, fun j o h => ?_, Nat.le_refl _⟩⟩
            · rw [hop, hrd]
              cases opP g (b.drop (i + (2 + z.toNat))) with
              | none => rfl
              | some l => simp
            · simp only [hln, hrd, List.length_append]
            · simp only at h
              exact hsub_cons (by simp (disch := omega) only [up_app, ↓reduceIte, eq_self]) (hsub_nil) j o h
    · skip
      refine awp_drop rfl ?_
      obtain rfl : i = b.length := by omega
      rw [List.drop_length] at hop
      obtain ⟨g, rfl⟩ : ∃ g, f = g + 1 := ⟨f - 1, by omega⟩
      have hop2 : opP (b.length + 1) b = some out := by rw [hop]; simp [opP]
      refine awp_exitN 0 rfl rfl ?_
      refine nx_ex_then (nx_ex_loop (nx_ex_blk ?_))
      refine nx_then ?_
      refine awp_seqP rfl ?_
      refine awp_seqP rfl ?_
      by_cases he : bmL (cleanL out) = b
      · skip
        have hq := opR_eq hop2 he
        rw [hans] at hq
        have hd : decide (b = b) = true := decide_eq_true rfl
        refine awp_regP (Γ := envL [(12, .fresh true bmG), (26, .pure true beqG)]) [67, 4] (envOK_cons ok12 (envOK_cons ok26 envOK_nil)) rfl rfl rfl (fun K hK => ?_)
        simp only [Tryd.f13, bodyOf, Option.getD_some, cl, cr, rOps, lights, light, rN, List.size_toArray, List.length_cons, List.length_nil, Nat.reduceAdd, Nat.zero_add, List.map_cons, List.map_nil, Option.map_none]
        simp (maxSteps := 300000) (disch := omega) only [go_sem, Nat.reduceAdd, ↓reduceIte, he]
        with_reducible refine hK _ ?_
        clear hK K
        refine nx_then ?_
        refine awp_ifB (.tmp 67) rfl rfl rfl (fun h => ?_) (fun h => ?_)
        · skip
          refine awp_drop rfl ?_
          cases h
        · skip
          refine awp_drop rfl ?_
          refine awp_skipP rfl ?_
          refine nx_then ?_
          refine awp_seqP rfl ?_
          refine awp_regP (Γ := noEnv) [2, 3] (noEnv_ok _ _) rfl rfl rfl (fun K hK => ?_)
          simp only [Tryd.f13, bodyOf, Option.getD_some, cl, cr, rOps, lights, light, rN, List.size_toArray, List.length_cons, List.length_nil, Nat.reduceAdd, Nat.zero_add, List.map_cons, List.map_nil, Option.map_none]
          simp (maxSteps := 300000) (disch := omega) only [go_sem, Nat.reduceAdd, ↓reduceIte]
          with_reducible refine hK _ ?_
          clear hK K
          refine nx_then ?_
          refine awp_retP rfl ?_
          simp (disch := omega) only [pureQ, resA, resAL, resA1, Tryd.f13, go_sem, ↓reduceIte, hq]
      · skip
        have hq := opR_ne (last := -1) hop2 he
        rw [hans] at hq
        have hd : decide (bmL (cleanL out) = b) = false := decide_eq_false he
        refine awp_regP (Γ := envL [(12, .fresh true bmG), (26, .pure true beqG)]) [67, 4] (envOK_cons ok12 (envOK_cons ok26 envOK_nil)) rfl rfl rfl (fun K hK => ?_)
        simp only [Tryd.f13, bodyOf, Option.getD_some, cl, cr, rOps, lights, light, rN, List.size_toArray, List.length_cons, List.length_nil, Nat.reduceAdd, Nat.zero_add, List.map_cons, List.map_nil, Option.map_none]
        simp (maxSteps := 300000) (disch := omega) only [go_sem, Nat.reduceAdd, ↓reduceIte, hd]
        with_reducible refine hK _ ?_
        clear hK K
        refine nx_then ?_
        refine awp_ifB (.tmp 67) rfl rfl rfl (fun h => ?_) (fun h => ?_)
        · skip
          refine awp_drop rfl ?_
          refine awp_seqP rfl ?_
          refine awp_regP (Γ := noEnv) [2, 3] (noEnv_ok _ _) rfl rfl rfl (fun K hK => ?_)
          simp only [Tryd.f13, bodyOf, Option.getD_some, cl, cr, rOps, lights, light, rN, List.size_toArray, List.length_cons, List.length_nil, Nat.reduceAdd, Nat.zero_add, List.map_cons, List.map_nil, Option.map_none]
          simp (maxSteps := 300000) (disch := omega) only [go_sem, Nat.reduceAdd, ↓reduceIte]
          with_reducible refine hK _ ?_
          clear hK K
          refine nx_then ?_
          refine awp_retP rfl ?_
          refine nx_ret_then ?_
          simp (disch := omega) only [pureQ, resA, resAL, resA1, Tryd.f13, go_sem, ↓reduceIte, hq]
        · skip
          refine awp_drop rfl ?_
          cases h
  · cases hg
theorem ok13 : EntOK Tryd.prog GLh 13 (.pure false opnG) := ⟨⟨_, Tryd.func13, rfl, rfl⟩, opn_ok⟩
end Go.AX

namespace Go.AX
open Go Go.Proofs

theorem opR_two (f : Nat) (last : Int) (R : List B8) (h : 2 ≤ R.length) : opR (f + 1) last R = if last < ((R.getD 0 0#8).toNat : Int) ∧ 1 ≤ (R.getD 1 0#8).toNat ∧ (R.getD 1 0#8).toNat ≤ 32 ∧ (R.getD 1 0#8).toNat ≤ R.length - 2 ∧ R.getD (1 + (R.getD 1 0#8).toNat) 0#8 ≠ 0#8
    then (opR f ((R.getD 0 0#8).toNat : Int) (R.drop (2 + (R.getD 1 0#8).toNat))).map (decL (R.getD 0 0#8).toNat ((R.drop 2).take (R.getD 1 0#8).toNat) ++ ·) else none := by
  conv => lhs; rw [two_head R h]
  simp only [opR, List.length_drop, List.drop_drop]
  by_cases h1 : 1 ≤ (R.getD 1 0#8).toNat
  · have e : (R.drop 2).getD ((R.getD 1 0#8).toNat - 1) 0#8 = R.getD (1 + (R.getD 1 0#8).toNat) 0#8 := by rw [drop_getD]; congr 1; omega
    rw [e]
    split
    · cases opR f ((R.getD 0 0#8).toNat : Int) (R.drop (2 + (R.getD 1 0#8).toNat)) <;> rfl
    · rfl
  · rw [if_neg (fun hh => h1 hh.2.1), if_neg (fun hh => h1 hh.2.1)]
theorem opR_short (f : Nat) (last : Int) (R : List B8) (h : 0 < R.length) (h2 : R.length < 2) : opR (f + 1) last R = none := by
  match R, h, h2 with
  | [a], _, _ => rfl
theorem typ_num2 (w k j : Nat) : BitVec.ofInt 16 ((w : Int) * 256 + (k : Int) * 8 + (j : Int)) = BitVec.ofNat 16 (w * 256 + (8 * k + j)) := by
  have e : (w : Int) * 256 + (k : Int) * 8 + (j : Int) = ((w * 256 + (8 * k + j) : Nat) : Int) := by omega
  rw [e, BitVec.ofInt_natCast]
structure SLF where
  i : Nat
  f : Nat
  last : Int
  id : Nat
  out : List T16
  c : Nat
set_option maxHeartbeats 8000000 in
theorem ropn_ok : PureOK Tryd.prog GLh 19 opnG := by
  refine pure_of_awp Tryd.func19 (bodyOf_some rfl) ?_
  intro args r hg
  unfold opnG at hg
  split at hg
  · rename_i n xs
    replace hg := obind_inv hg; obtain ⟨b, hb, hg⟩ := hg
    replace hg := guardO_inv hg; obtain ⟨⟨hn, hbig⟩, hg⟩ := hg
    obtain rfl := Option.some.inj hg
    have := un8_inv _ hb; subst this
    refine ⟨Nat.le_of_ble_eq_true rfl, fun nx => ?_⟩
    clear hb hg
    subst hn
    obtain ⟨ans, hans⟩ : ∃ a, opR (b.length + 1) (-1) b = a := ⟨_, rfl⟩
    rw [hans]
    refine awp_seqP rfl ?_
    refine awp_regP (Γ := noEnv) [0] (noEnv_ok _ _) rfl rfl rfl (fun K hK => ?_)
    simp only [Tryd.f19, bodyOf, Option.getD_some, cl, rOps, lights, light, rN, List.size_toArray, List.length_cons, List.length_nil, Nat.reduceAdd, Nat.zero_add, List.map_cons, List.map_nil, Option.map_none]
    simp (maxSteps := 300000) (disch := omega) only [go_sem, Nat.reduceAdd, ↓reduceIte]
    with_reducible refine hK _ ?_
    clear hK K
    refine nx_then ?_
    refine awp_seqP rfl ?_
    refine awp_regP (Γ := noEnv) [0, 4] (noEnv_ok _ _) rfl rfl rfl (fun K hK => ?_)
    simp only [Tryd.f19, bodyOf, Option.getD_some, cl, cr, rOps, lights, light, rN, List.size_toArray, List.length_cons, List.length_nil, Nat.zero_add, List.map_cons, List.map_nil, Option.map_none]
    simp (maxSteps := 300000) (disch := omega) only [go_sem, ↓reduceIte]
    with_reducible refine hK _ ?_
    clear hK K
    refine nx_then ?_
    refine awp_seqP rfl ?_
    refine awp_regP (Γ := noEnv) [0, 4, 5] (noEnv_ok _ _) rfl rfl rfl (fun K hK => ?_)
    simp only [Tryd.f19, bodyOf, Option.getD_some, cl, cr, rOps, lights, light, rN, List.size_toArray, List.length_cons, List.length_nil, Nat.zero_add, List.map_cons, List.map_nil, Option.map_none]
    simp (maxSteps := 300000) (disch := omega) only [go_sem, Int.reduceNeg, ↓reduceIte]
    with_reducible refine hK _ ?_
    clear hK K
    refine nx_then ?_
    refine awp_seqP rfl ?_
    refine awp_seqP rfl ?_
    refine awp_regP (Γ := noEnv) [0, 4, 5, 6] (noEnv_ok _ _) rfl rfl rfl (fun K hK => ?_)
    simp only [Tryd.f19, bodyOf, Option.getD_some, cl, cr, rOps, lights, light, rN, List.size_toArray, List.length_cons, List.length_nil, Nat.zero_add, List.map_cons, List.map_nil, Option.map_none]
    simp (maxSteps := 300000) (disch := omega) only [go_sem, Int.reduceNeg, ↓reduceIte]
    with_reducible refine hK _ ?_
    clear hK K
    refine nx_then ?_
    refine awp_own 4 1 rfl ?_
    refine awp_keep [0, 4, 5, 6] ?_
    simp only [kf_nil, kf_cons, look_cons, ↓reduceIte, Nat.reduceEqDiff]
    refine awp_blockN 0 rfl rfl ?_
    refine awp_loopP (fun p : SLF => { fr := [(0, .sl b.length (c8 b)), (4, .os p.id 0 p.out.length 1 true), (5, .i p.last), (6, .i p.i)], hp := upd (fun _ => none) p.id (.cells (c16 p.out) true), nx := 0, cx := p.c }) (fun p => p.i ≤ b.length ∧ b.length - p.i < p.f ∧ ans = (opR p.f p.last (b.drop p.i)).map (p.out ++ ·) ∧ p.out.length ≤ 8 * p.i ∧ p.id < p.c) (fun p => b.length - p.i) rfl ⟨⟨0, b.length + 1, -1, _, [], _⟩, ⟨Nat.zero_le _, by simp only; omega, by simp [← hans], Nat.zero_le _, by simp only; omega⟩, sub_same rfl rfl (Nat.le_refl _)⟩ ?_
    rintro ⟨i, f, last, id, out, c⟩ ⟨hi, hf, hop, hol, hid⟩ n0
    simp only at hi hf hop hol hid ⊢
    refine awp_seqP rfl ?_
    refine awp_seqP rfl ?_
    refine awp_regP (Γ := noEnv) [14, 0, 4, 5, 6] (noEnv_ok _ _) rfl rfl rfl (fun K hK => ?_)
    simp only [Tryd.f19, bodyOf, Option.getD_some, cl, cr, rOps, lights, light, rN, List.size_toArray, List.length_cons, List.length_nil, Nat.reduceAdd, Nat.zero_add, List.map_cons, List.map_nil, Option.map_none]
    simp (maxSteps := 300000) (disch := omega) only [go_sem, Nat.reduceAdd, ↓reduceIte]
    with_reducible refine hK _ ?_
    clear hK K
    refine nx_then ?_
    refine awp_ifD (.tmp 14) rfl rfl rfl (fun h => ?_) (fun h => ?_)
    · skip
      refine awp_drop rfl ?_
      have hib : i < b.length := by omega
      obtain ⟨R, hR⟩ : ∃ R, b.drop i = R := ⟨_, rfl⟩
      have hRl : R.length = b.length - i := by rw [← hR, List.length_drop]
      obtain ⟨g, rfl⟩ : ∃ g, f = g + 1 := ⟨f - 1, by omega⟩
      rw [hR] at hop
      refine awp_skipP rfl ?_
      refine nx_then ?_
      refine awp_blockN 1 rfl rfl ?_
      refine awp_seqP rfl ?_
      refine awp_seqP rfl ?_
      refine awp_regP (Γ := noEnv) [19, 0, 4, 5, 6] (noEnv_ok _ _) rfl rfl rfl (fun K hK => ?_)
      simp only [Tryd.f19, bodyOf, Option.getD_some, cl, cr, rOps, lights, light, rN, List.size_toArray, List.length_cons, List.length_nil, Nat.reduceAdd, Nat.zero_add, List.map_cons, List.map_nil, Option.map_none]
      simp (maxSteps := 300000) (disch := omega) only [go_sem, Nat.reduceAdd, ↓reduceIte]
      with_reducible refine hK _ ?_
      clear hK K
      refine nx_then ?_
      refine awp_ifD (.tmp 19) rfl rfl rfl (fun h => ?_) (fun h => ?_)
      · skip
        refine awp_drop rfl ?_
        rw [opR_short g last R (by omega) (by omega)] at hop
        refine awp_seqP rfl ?_
        refine awp_regP (Γ := noEnv) [2, 3] (noEnv_ok _ _) rfl rfl rfl (fun K hK => ?_)
        simp only [Tryd.f19, bodyOf, Option.getD_some, cl, cr, rOps, lights, light, rN, List.size_toArray, List.length_cons, List.length_nil, Nat.reduceAdd, Nat.zero_add, List.map_cons, List.map_nil, Option.map_none]
        simp (maxSteps := 300000) (disch := omega) only [go_sem, Nat.reduceAdd, ↓reduceIte]
        with_reducible refine hK _ ?_
        clear hK K
        refine nx_then ?_
        refine awp_retP rfl ?_
        refine nx_ret_then (nx_ret_blk (nx_ret_loop (nx_ret_blk (nx_ret_then ?_))))
        simp (disch := omega) only [pureQ, resA, resAL, resA1, Tryd.f19, go_sem, Int.reduceNeg, ↓reduceIte, hop, Option.map_none]
      · skip
        refine awp_drop rfl ?_
        have hR2 : 2 ≤ R.length := by omega
        rw [opR_two g last R hR2] at hop
        have hgd : ∀ k, b.getD (i + k) 0#8 = R.getD k 0#8 := fun k => by rw [← hR, drop_getD]
        have hg0 := hgd 0
        rw [Nat.add_zero] at hg0
        have hg1 := hgd 1
        obtain ⟨w, hw⟩ : ∃ w, R.getD 0 0#8 = w := ⟨_, rfl⟩
        obtain ⟨z, hz⟩ : ∃ z, R.getD 1 0#8 = z := ⟨_, rfl⟩
        rw [hw] at hg0
        rw [hz] at hg1
        rw [hw, hz] at hop
        have ei1 : ((i : Int) + 1).toNat = i + 1 := by omega
        refine awp_skipP rfl ?_
        refine nx_then ?_
        refine awp_seqP rfl ?_
        refine awp_drwP (Γ := noEnv) (fun _ => 2) [0, 4, 5, 6, 7, 8] mixed (noEnv_ok _ _) rfl rfl rfl (by kernel_rfl) (fun K hK => ?_)
        simp only [Tryd.f19, bodyOf, Option.getD_some, cl, cr, rOps, lights, light, rN, List.size_toArray, List.length_cons, List.length_nil, Nat.reduceAdd, Nat.zero_add, List.map_cons, List.map_nil, Option.map_none]
        simp (maxSteps := 300000) (disch := omega) only [go_sem, Nat.reduceAdd, ↓reduceIte, ei1, hg0, hg1]
        with_reducible refine hK _ ?_
        clear hK K
        refine nx_then ?_
        by_cases q1 : (w.toNat : Int) ≤ last
        · skip
          have d1 : decide ((w.toNat : Int) ≤ last) = true := decide_eq_true q1
          rw [if_neg (fun hh => by omega)] at hop
          refine awp_seqP rfl ?_
          refine awp_seqP rfl ?_
          refine awp_regP (Γ := noEnv) [60, 0, 4, 6, 7, 8] (noEnv_ok _ _) rfl rfl rfl (fun K hK => ?_)
          simp only [Tryd.f19, bodyOf, Option.getD_some, cl, cr, rOps, lights, light, rN, List.size_toArray, List.length_cons, List.length_nil, Nat.reduceAdd, Nat.zero_add, List.map_cons, List.map_nil, Option.map_none, Option.map_some, List.getElem?_toArray, List.getElem?_cons_zero, List.getElem?_cons_succ, Option.bind_some]
          simp (maxSteps := 300000) (disch := omega) only [go_sem, Nat.reduceAdd, ↓reduceIte, d1]
          with_reducible refine hK _ ?_
          clear hK K
          refine nx_then ?_
          refine awp_ifB (.tmp 60) rfl rfl rfl (fun h => ?_) (fun h => ?_)
          · skip
            refine awp_drop rfl ?_
            refine awp_seqP rfl ?_
            refine awp_regP (Γ := noEnv) [2, 3] (noEnv_ok _ _) rfl rfl rfl (fun K hK => ?_)
            simp only [Tryd.f19, bodyOf, Option.getD_some, cl, cr, rOps, lights, light, rN, List.size_toArray, List.length_cons, List.length_nil, Nat.reduceAdd, Nat.zero_add, List.map_cons, List.map_nil, Option.map_none]
            simp (maxSteps := 300000) (disch := omega) only [go_sem, Nat.reduceAdd, ↓reduceIte]
            with_reducible refine hK _ ?_
            clear hK K
            refine nx_then ?_
            refine awp_retP rfl ?_
            refine nx_ret_then (nx_ret_blk (nx_ret_loop (nx_ret_blk (nx_ret_then ?_))))
            simp (disch := omega) only [pureQ, resA, resAL, resA1, Tryd.f19, go_sem, Int.reduceNeg, ↓reduceIte, hop, Option.map_none]
          · skip
            refine awp_drop rfl ?_
            cases h
        · skip
          have d1 : decide ((w.toNat : Int) ≤ last) = false := decide_eq_false q1
          by_cases q2 : (z.toNat : Int) < 1
          · skip
            have d2 : decide ((z.toNat : Int) < 1) = true := decide_eq_true q2
            rw [if_neg (fun hh => by omega)] at hop
            refine awp_seqP rfl ?_
            refine awp_seqP rfl ?_
            refine awp_regP (Γ := noEnv) [60, 0, 4, 6, 7, 8] (noEnv_ok _ _) rfl rfl rfl (fun K hK => ?_)
            simp only [Tryd.f19, bodyOf, Option.getD_some, cl, cr, rOps, lights, light, rN, List.size_toArray, List.length_cons, List.length_nil, Nat.reduceAdd, Nat.zero_add, List.map_cons, List.map_nil, Option.map_none, Option.map_some, List.getElem?_toArray, List.getElem?_cons_zero, List.getElem?_cons_succ, Option.bind_some]
            simp (maxSteps := 300000) (disch := omega) only [go_sem, Nat.reduceAdd, reduceCtorEq, ↓reduceIte, d1, d2]
            with_reducible refine hK _ ?_
            clear hK K
            refine nx_then ?_
            refine awp_ifB (.tmp 60) rfl rfl rfl (fun h => ?_) (fun h => ?_)
            · skip
              refine awp_drop rfl ?_
              refine awp_seqP rfl ?_
              refine awp_regP (Γ := noEnv) [2, 3] (noEnv_ok _ _) rfl rfl rfl (fun K hK => ?_)
              simp only [Tryd.f19, bodyOf, Option.getD_some, cl, cr, rOps, lights, light, rN, List.size_toArray, List.length_cons, List.length_nil, Nat.reduceAdd, Nat.zero_add, List.map_cons, List.map_nil, Option.map_none]
              simp (maxSteps := 300000) (disch := omega) only [go_sem, Nat.reduceAdd, ↓reduceIte]
              with_reducible refine hK _ ?_
              clear hK K
              refine nx_then ?_
              refine awp_retP rfl ?_
              refine nx_ret_then (nx_ret_blk (nx_ret_loop (nx_ret_blk (nx_ret_then ?_))))
              simp (disch := omega) only [pureQ, resA, resAL, resA1, Tryd.f19, go_sem, Int.reduceNeg, ↓reduceIte, hop, Option.map_none]
            · skip
              refine awp_drop rfl ?_
              cases h
          · skip
            have d2 : decide ((z.toNat : Int) < 1) = false := decide_eq_false q2
            by_cases q3 : 32 < (z.toNat : Int)
            · skip
              have d3 : decide (32 < (z.toNat : Int)) = true := decide_eq_true q3
              rw [if_neg (fun hh => by omega)] at hop
              refine awp_seqP rfl ?_
              refine awp_seqP rfl ?_
              refine awp_regP (Γ := noEnv) [60, 0, 4, 6, 7, 8] (noEnv_ok _ _) rfl rfl rfl (fun K hK => ?_)
              simp only [Tryd.f19, bodyOf, Option.getD_some, cl, cr, rOps, lights, light, rN, List.size_toArray, List.length_cons, List.length_nil, Nat.reduceAdd, Nat.zero_add, List.map_cons, List.map_nil, Option.map_none, Option.map_some, List.getElem?_toArray, List.getElem?_cons_zero, List.getElem?_cons_succ, Option.bind_some]
              simp (maxSteps := 300000) (disch := omega) only [go_sem, Nat.reduceAdd, reduceCtorEq, ↓reduceIte, d1, d2, d3]
              with_reducible refine hK _ ?_
              clear hK K
              refine nx_then ?_
              refine awp_ifB (.tmp 60) rfl rfl rfl (fun h => ?_) (fun h => ?_)
              · skip
                refine awp_drop rfl ?_
                refine awp_seqP rfl ?_
                refine awp_regP (Γ := noEnv) [2, 3] (noEnv_ok _ _) rfl rfl rfl (fun K hK => ?_)
                simp only [Tryd.f19, bodyOf, Option.getD_some, cl, cr, rOps, lights, light, rN, List.size_toArray, List.length_cons, List.length_nil, Nat.reduceAdd, Nat.zero_add, List.map_cons, List.map_nil, Option.map_none]
                simp (maxSteps := 300000) (disch := omega) only [go_sem, Nat.reduceAdd, ↓reduceIte]
                with_reducible refine hK _ ?_
                clear hK K
                refine nx_then ?_
                refine awp_retP rfl ?_
                refine nx_ret_then (nx_ret_blk (nx_ret_loop (nx_ret_blk (nx_ret_then ?_))))
                simp (disch := omega) only [pureQ, resA, resAL, resA1, Tryd.f19, go_sem, Int.reduceNeg, ↓reduceIte, hop, Option.map_none]
              · skip
                refine awp_drop rfl ?_
                cases h
            · skip
              have d3 : decide (32 < (z.toNat : Int)) = false := decide_eq_false q3
              by_cases q4 : (b.length : Int) < (i : Int) + 2 + (z.toNat : Int)
              · skip
                have d4 : decide ((b.length : Int) < (i : Int) + 2 + (z.toNat : Int)) = true := decide_eq_true q4
                rw [if_neg (fun hh => by omega)] at hop
                refine awp_seqP rfl ?_
                refine awp_seqP rfl ?_
                refine awp_regP (Γ := noEnv) [60, 0, 4, 6, 7, 8] (noEnv_ok _ _) rfl rfl rfl (fun K hK => ?_)
                simp only [Tryd.f19, bodyOf, Option.getD_some, cl, cr, rOps, lights, light, rN, List.size_toArray, List.length_cons, List.length_nil, Nat.reduceAdd, Nat.zero_add, List.map_cons, List.map_nil, Option.map_none, Option.map_some, List.getElem?_toArray, List.getElem?_cons_zero, List.getElem?_cons_succ, Option.bind_some]
                simp (maxSteps := 300000) (disch := omega) only [go_sem, Nat.reduceAdd, reduceCtorEq, ↓reduceIte, d1, d2, d3, d4]
                with_reducible refine hK _ ?_
                clear hK K
                refine nx_then ?_
                refine awp_ifB (.tmp 60) rfl rfl rfl (fun h => ?_) (fun h => ?_)
                · skip
                  refine awp_drop rfl ?_
                  refine awp_seqP rfl ?_
                  refine awp_regP (Γ := noEnv) [2, 3] (noEnv_ok _ _) rfl rfl rfl (fun K hK => ?_)
                  simp only [Tryd.f19, bodyOf, Option.getD_some, cl, cr, rOps, lights, light, rN, List.size_toArray, List.length_cons, List.length_nil, Nat.reduceAdd, Nat.zero_add, List.map_cons, List.map_nil, Option.map_none]
                  simp (maxSteps := 300000) (disch := omega) only [go_sem, Nat.reduceAdd, ↓reduceIte]
                  with_reducible refine hK _ ?_
                  clear hK K
                  refine nx_then ?_
                  refine awp_retP rfl ?_
                  refine nx_ret_then (nx_ret_blk (nx_ret_loop (nx_ret_blk (nx_ret_then ?_))))
                  simp (disch := omega) only [pureQ, resA, resAL, resA1, Tryd.f19, go_sem, Int.reduceNeg, ↓reduceIte, hop, Option.map_none]
                · skip
                  refine awp_drop rfl ?_
                  cases h
              · skip
                have d4 : decide ((b.length : Int) < (i : Int) + 2 + (z.toNat : Int)) = false := decide_eq_false q4
                have ei2 : ((i : Int) + 1 + (z.toNat : Int)).toNat = i + 1 + z.toNat := by omega
                by_cases q5 : b.getD (i + 1 + z.toNat) 0#8 = 0#8
                · skip
                  have d5 : decide (b.getD (i + 1 + z.toNat) 0#8 = 0#8) = true := decide_eq_true q5
                  rw [if_neg (fun hh => by have h5 := hgd (1 + z.toNat); rw [← Nat.add_assoc, q5] at h5; exact hh.2.2.2.2 h5.symm)] at hop
                  refine awp_seqP rfl ?_
                  refine awp_seqP rfl ?_
                  refine awp_regP (Γ := noEnv) [60, 0, 4, 6, 7, 8] (noEnv_ok _ _) rfl rfl rfl (fun K hK => ?_)
                  simp only [Tryd.f19, bodyOf, Option.getD_some, cl, cr, rOps, lights, light, rN, List.size_toArray, List.length_cons, List.length_nil, Nat.reduceAdd, Nat.zero_add, List.map_cons, List.map_nil, Option.map_none, Option.map_some, List.getElem?_toArray, List.getElem?_cons_zero, List.getElem?_cons_succ, Option.bind_some]
                  simp (maxSteps := 300000) (disch := omega) only [go_sem, Nat.reduceAdd, Int.reduceLE, Int.reduceLT, BitVec.reduceOfInt, reduceCtorEq, ↓reduceIte, d1, d2, d3, d4, d5, ei2]
                  with_reducible refine hK _ ?_
                  clear hK K
                  refine nx_then ?_
                  refine awp_ifB (.tmp 60) rfl rfl rfl (fun h => ?_) (fun h => ?_)
                  · skip
                    refine awp_drop rfl ?_
                    refine awp_seqP rfl ?_
                    refine awp_regP (Γ := noEnv) [2, 3] (noEnv_ok _ _) rfl rfl rfl (fun K hK => ?_)
                    simp only [Tryd.f19, bodyOf, Option.getD_some, cl, cr, rOps, lights, light, rN, List.size_toArray, List.length_cons, List.length_nil, Nat.reduceAdd, Nat.zero_add, List.map_cons, List.map_nil, Option.map_none]
                    simp (maxSteps := 300000) (disch := omega) only [go_sem, Nat.reduceAdd, ↓reduceIte]
                    with_reducible refine hK _ ?_
                    clear hK K
                    refine nx_then ?_
                    refine awp_retP rfl ?_
                    refine nx_ret_then (nx_ret_blk (nx_ret_loop (nx_ret_blk (nx_ret_then ?_))))
                    simp (disch := omega) only [pureQ, resA, resAL, resA1, Tryd.f19, go_sem, Int.reduceNeg, ↓reduceIte, hop, Option.map_none]
                  · skip
                    refine awp_drop rfl ?_
                    cases h
                · skip
                  have d5 : decide (b.getD (i + 1 + z.toNat) 0#8 = 0#8) = false := decide_eq_false q5
                  have q6 : R.getD (1 + z.toNat) 0#8 ≠ 0#8 := by rw [← hgd, ← Nat.add_assoc]; exact q5
                  rw [if_pos ⟨by omega, by omega, by omega, by omega, q6⟩] at hop
                  refine awp_seqP rfl ?_
                  refine awp_seqP rfl ?_
                  refine awp_regP (Γ := noEnv) [60, 0, 4, 6, 7, 8] (noEnv_ok _ _) rfl rfl rfl (fun K hK => ?_)
                  simp only [Tryd.f19, bodyOf, Option.getD_some, cl, cr, rOps, lights, light, rN, List.size_toArray, List.length_cons, List.length_nil, Nat.reduceAdd, Nat.zero_add, List.map_cons, List.map_nil, Option.map_none, Option.map_some, List.getElem?_toArray, List.getElem?_cons_zero, List.getElem?_cons_succ, Option.bind_some]
                  simp (maxSteps := 300000) (disch := omega) only [go_sem, Nat.reduceAdd, Int.reduceLE, Int.reduceLT, BitVec.reduceOfInt, reduceCtorEq, ↓reduceIte, d1, d2, d3, d4, d5, ei2]
                  with_reducible refine hK _ ?_
                  clear hK K
                  refine nx_then ?_
                  refine awp_ifB (.tmp 60) rfl rfl rfl (fun h => ?_) (fun h => ?_)
                  · skip
                    refine awp_drop rfl ?_
                    cases h
                  · skip
                    refine awp_drop rfl ?_
                    clear h
                    refine awp_skipP rfl ?_
                    refine nx_then ?_
                    refine awp_seqP rfl ?_
                    refine awp_seqP rfl ?_
                    refine awp_regP (Γ := noEnv) [0, 4, 6, 7, 8, 9] (noEnv_ok _ _) rfl rfl rfl (fun K hK => ?_)
                    simp only [Tryd.f19, bodyOf, Option.getD_some, cl, cr, rOps, lights, light, rN, List.size_toArray, List.length_cons, List.length_nil, Nat.zero_add, List.map_cons, List.map_nil, Option.map_none]
                    simp (maxSteps := 300000) (disch := omega) only [go_sem, ↓reduceIte]
                    with_reducible refine hK _ ?_
                    clear hK K
                    refine nx_then ?_
                    obtain ⟨bs, hbs⟩ : ∃ bs, (R.drop 2).take z.toNat = bs := ⟨_, rfl⟩
                    have hbl : bs.length = z.toNat := by rw [← hbs, List.length_take, List.length_drop]; omega
                    have hbd : ∀ k, k < z.toNat → b.getD (i + 2 + k) 0#8 = bs.getD k 0#8 := fun k hk => by rw [← hbs, take_getD _ _ _ hk, drop_getD, Nat.add_assoc, hgd]
                    rw [hbs] at hop
                    refine awp_blockN 2 rfl rfl ?_
                    refine awp_loopP (fun p : KOC => { fr := [(0, .sl b.length (c8 b)), (4, .os p.id 0 (out ++ decP w.toNat bs (8 * p.k)).length 1 true), (6, .i i), (7, .i w.toNat), (8, .i z.toNat), (9, .i p.k)], hp := upd (fun _ => none) p.id (.cells (c16 (out ++ decP w.toNat bs (8 * p.k))) true), nx := 0, cx := p.c }) (fun p => p.k ≤ z.toNat ∧ p.id < p.c) (fun p => z.toNat - p.k) rfl ⟨⟨0, id, _⟩, ⟨Nat.zero_le _, by simp only; omega⟩, ⟨fun _ => .inr (by simp only [Nat.mul_zero, decP_zero, List.append_nil]; rfl), fun a b h => by simp only [Nat.mul_zero, decP_zero, List.append_nil] at h; exact h, Nat.le_refl _⟩⟩ ?_
                    rintro ⟨k, id2, c2⟩ ⟨hk, hid2⟩ n0
                    simp only at hk hid2 ⊢
                    refine awp_seqP rfl ?_
                    refine awp_seqP rfl ?_
                    refine awp_regP (Γ := noEnv) [63, 0, 4, 6, 7, 8, 9] (noEnv_ok _ _) rfl rfl rfl (fun K hK => ?_)
                    simp only [Tryd.f19, bodyOf, Option.getD_some, cl, cr, rOps, lights, light, rN, List.size_toArray, List.length_cons, List.length_nil, Nat.reduceAdd, Nat.zero_add, List.map_cons, List.map_nil, Option.map_none]
                    simp (maxSteps := 300000) (disch := omega) only [go_sem, Nat.reduceAdd, ↓reduceIte]
                    with_reducible refine hK _ ?_
                    clear hK K
                    refine nx_then ?_
                    refine awp_ifD (.tmp 63) rfl rfl rfl (fun h => ?_) (fun h => ?_)
                    · skip
                      refine awp_drop rfl ?_
                      have hkz : k < z.toNat := by omega
                      refine awp_skipP rfl ?_
                      refine nx_then ?_
                      refine awp_seqP rfl ?_
                      refine awp_blockN 3 rfl rfl ?_
                      refine awp_seqP rfl ?_
                      refine awp_regP (Γ := noEnv) [0, 4, 6, 7, 8, 9, 10] (noEnv_ok _ _) rfl rfl rfl (fun K hK => ?_)
                      simp only [Tryd.f19, bodyOf, Option.getD_some, cl, cr, rOps, lights, light, rN, List.size_toArray, List.length_cons, List.length_nil, Nat.zero_add, List.map_cons, List.map_nil, Option.map_none]
                      simp (maxSteps := 300000) (disch := omega) only [go_sem, ↓reduceIte]
                      with_reducible refine hK _ ?_
                      clear hK K
                      refine nx_then ?_
                      refine awp_blockN 4 rfl rfl ?_
                      refine awp_loopP (fun p : KOC => { fr := [(0, .sl b.length (c8 b)), (4, .os p.id 0 (out ++ decP w.toNat bs (8 * k + p.k)).length 1 true), (6, .i i), (7, .i w.toNat), (8, .i z.toNat), (9, .i k), (10, .i p.k)], hp := upd (fun _ => none) p.id (.cells (c16 (out ++ decP w.toNat bs (8 * k + p.k))) true), nx := 0, cx := p.c }) (fun p => p.k ≤ 8 ∧ p.id < p.c) (fun p => 8 - p.k) rfl ⟨⟨0, id2, _⟩, ⟨Nat.zero_le _, by simp only; omega⟩, ⟨fun _ => .inr (by simp only [Nat.add_zero, List.length_append]; rfl), fun a b h => h, Nat.le_refl _⟩⟩ ?_
                      rintro ⟨j, id3, c3⟩ ⟨hj, hid3⟩ n0
                      simp only at hj hid3 ⊢
                      have hdl := decP_len w.toNat bs (8 * k + j)
                      refine awp_seqP rfl ?_
                      refine awp_seqP rfl ?_
                      refine awp_regP (Γ := noEnv) [67, 0, 4, 6, 7, 8, 9, 10] (noEnv_ok _ _) rfl rfl rfl (fun K hK => ?_)
                      simp only [Tryd.f19, bodyOf, Option.getD_some, cl, cr, rOps, lights, light, rN, List.size_toArray, List.length_cons, List.length_nil, Nat.reduceAdd, Nat.zero_add, List.map_cons, List.map_nil, Option.map_none]
                      simp (maxSteps := 300000) (disch := omega) only [go_sem, Nat.reduceAdd, ↓reduceIte]
                      with_reducible refine hK _ ?_
                      clear hK K
                      refine nx_then ?_
                      refine awp_ifD (.tmp 67) rfl rfl rfl (fun h => ?_) (fun h => ?_)
                      · skip
                        refine awp_drop rfl ?_
                        have hj8 : j < 8 := by omega
                        have hq1 : (8 * k + j) / 8 = k := by omega
                        have hq2 : (8 * k + j) % 8 = j := by omega
                        have hbk := hbd k hkz
                        have ei3 : ((i : Int) + 2 + (k : Int)).toNat = i + 2 + k := by omega
                        refine awp_skipP rfl ?_
                        refine nx_then ?_
                        refine awp_seqP rfl ?_
                        refine awp_blockN 5 rfl rfl ?_
                        refine awp_seqP rfl ?_
                        refine awp_drwP (Γ := noEnv) (fun k => if k = 6 then 0 else 2) [80, 0, 4, 6, 7, 8, 9, 10] mixed (noEnv_ok _ _) rfl rfl rfl (by kernel_rfl) (fun K hK => ?_)
                        simp only [Tryd.f19, bodyOf, Option.getD_some, cl, cr, rOps, lights, light, rN, List.size_toArray, List.length_cons, List.length_nil, Nat.reduceAdd, Nat.zero_add, List.map_cons, List.map_nil, Option.map_none]
                        simp (maxSteps := 300000) (disch := omega) only [go_sem, Nat.reduceAdd, Int.reduceLE, Int.reduceLT, BitVec.reduceOfInt, ↓reduceIte, ei3, hbk, Int.toNat_natCast, bit8_eq]
                        with_reducible refine hK _ ?_
                        clear hK K
                        refine nx_then ?_
                        refine awp_ifE (.tmp 80) rfl rfl rfl (fun h => ?_) (fun h => ?_)
                        · skip
                          refine awp_drop rfl ?_
                          have hst := decP_yes w.toNat bs (8 * k + j) (by rw [hq1, hq2]; exact h)
                          have hl2 : (out ++ decP w.toNat bs (8 * k + j + 1)).length = out.length + (decP w.toNat bs (8 * k + j)).length + 1 := by rw [hst]; simp only [List.length_append, List.length_cons, List.length_nil]; omega
                          have hr2 : out ++ decP w.toNat bs (8 * k + j) ++ [BitVec.ofNat 16 (w.toNat * 256 + (8 * k + j))] = out ++ decP w.toNat bs (8 * k + j + 1) := by rw [hst, List.append_assoc]
                          refine awp_regP (Γ := noEnv) [0, 4, 6, 7, 8, 9, 10] (noEnv_ok _ _) rfl rfl rfl (fun K hK => ?_)
                          simp only [Tryd.f19, bodyOf, Option.getD_some, cl, cr, rOps, lights, light, rN, List.size_toArray, List.length_cons, List.length_nil, Nat.reduceAdd, Nat.zero_add, List.map_cons, List.map_nil, Option.map_none]
                          simp (maxSteps := 300000) (disch := omega) only [go_sem, Nat.reduceAdd, Nat.reduceLeDiff, Nat.reduceLT, ↓reduceIte, typ_num2, c16_app1]
                          with_reducible refine hK _ ?_
                          clear hK K
                          refine nx_blk (nx_then ?_)
                          refine awp_regP (Γ := noEnv) [0, 4, 6, 7, 8, 9, 10] (noEnv_ok _ _) rfl rfl rfl (fun K hK => ?_)
                          simp only [Tryd.f19, bodyOf, Option.getD_some, cl, cr, rOps, lights, light, rN, List.size_toArray, List.length_cons, List.length_nil, Nat.reduceAdd, Nat.zero_add, List.map_cons, List.map_nil, Option.map_none]
                          simp (maxSteps := 300000) (disch := omega) only [go_sem, Nat.reduceAdd, ↓reduceIte]
                          with_reducible refine hK _ ?_
                          clear hK K
                          refine nx_loop ?_
                          refine ⟨⟨j + 1, c3 + 2 + 11 + 10, _⟩, ⟨by simp only; omega, by simp only; omega⟩, by simp only; omega, ⟨fun _ => .inr ?_, fun j o h => ?_, Nat.le_refl _⟩⟩
                          · simp only [← Nat.add_assoc, hl2, Int.natCast_add, Int.natCast_one]
                          · simp only [← Nat.add_assoc] at h
                            exact hsub_cons (by simp (disch := omega) only [up_app, ↓reduceIte, eq_self, hr2]) (hsub_nil) j o h
                        · skip
                          refine awp_drop rfl ?_
                          have hst := decP_no w.toNat bs (8 * k + j) (by rw [hq1, hq2]; exact h)
                          refine awp_skipP rfl ?_
                          refine nx_blk (nx_then ?_)
                          refine awp_regP (Γ := noEnv) [0, 4, 6, 7, 8, 9, 10] (noEnv_ok _ _) rfl rfl rfl (fun K hK => ?_)
                          simp only [Tryd.f19, bodyOf, Option.getD_some, cl, cr, rOps, lights, light, rN, List.size_toArray, List.length_cons, List.length_nil, Nat.reduceAdd, Nat.zero_add, List.map_cons, List.map_nil, Option.map_none]
                          simp (maxSteps := 300000) (disch := omega) only [go_sem, Nat.reduceAdd, ↓reduceIte]
                          with_reducible refine hK _ ?_
                          clear hK K
                          refine nx_loop ?_
                          refine ⟨⟨j + 1, id3, _⟩, ⟨by simp only; omega, by simp only; omega⟩, by simp only; omega, ⟨fun _ => .inr ?_, fun j o h => ?_, Nat.le_refl _⟩⟩
                          · simp only [← Nat.add_assoc, hst, List.length_append, Int.natCast_add, Int.natCast_one]
                          · simp only [← Nat.add_assoc] at h
                            exact hsub_cons (by simp (disch := omega) only [up_app, ↓reduceIte, eq_self, hst]) (hsub_nil) j o h
                      · skip
                        refine awp_drop rfl ?_
                        obtain rfl : j = 8 := by omega
                        have h88 : 8 * k + 8 = 8 * (k + 1) := by omega
                        refine awp_exitN 4 rfl rfl ?_
                        refine nx_ex_then (nx_ex_loop (nx_ex_blk ?_))
                        refine nx_blk (nx_then ?_)
                        refine awp_regP (Γ := noEnv) [0, 4, 6, 7, 8, 9] (noEnv_ok _ _) rfl rfl rfl (fun K hK => ?_)
                        simp only [Tryd.f19, bodyOf, Option.getD_some, cl, cr, rOps, lights, light, rN, List.size_toArray, List.length_cons, List.length_nil, Nat.reduceAdd, Nat.zero_add, List.map_cons, List.map_nil, Option.map_none]
                        simp (maxSteps := 300000) (disch := omega) only [go_sem, Nat.reduceAdd, ↓reduceIte, h88]
                        with_reducible refine hK _ ?_
                        clear hK K
                        refine nx_loop ?_
                        refine ⟨⟨k + 1, id3, _⟩, ⟨by simp only; omega, by simp only; omega⟩, by simp only; omega, ⟨fun _ => .inr ?_, fun j o h => ?_, Nat.le_refl _⟩⟩
                        · simp only [List.length_append, Int.natCast_add, Int.natCast_one]
                        · simp only at h
                          exact hsub_cons (by simp (disch := omega) only [up_app, ↓reduceIte, eq_self]) (hsub_nil) j o h
                    · skip
                      refine awp_drop rfl ?_
                      obtain rfl : k = z.toNat := by omega
                      have hall := decP_all w.toNat bs (8 * z.toNat) (by omega)
                      have hdl := decP_len w.toNat bs (8 * z.toNat)
                      rw [hall] at hdl
                      have hrd : R.drop (2 + z.toNat) = b.drop (i + (2 + z.toNat)) := by rw [← hR, List.drop_drop]
                      refine awp_exitN 2 rfl rfl ?_
                      refine nx_ex_then (nx_ex_loop (nx_ex_blk ?_))
                      refine nx_then ?_
                      refine awp_seqP rfl ?_
                      refine awp_regP (Γ := noEnv) [0, 4, 5, 6, 8] (noEnv_ok _ _) rfl rfl rfl (fun K hK => ?_)
                      simp only [Tryd.f19, bodyOf, Option.getD_some, cl, cr, rOps, lights, light, rN, List.size_toArray, List.length_cons, List.length_nil, Nat.reduceAdd, Nat.zero_add, List.map_cons, List.map_nil, Option.map_none]
                      simp (maxSteps := 300000) (disch := omega) only [go_sem, Nat.reduceAdd, ↓reduceIte, hall]
                      with_reducible refine hK _ ?_
                      clear hK K
                      refine nx_then ?_
                      refine awp_regP (Γ := noEnv) [0, 4, 5, 6] (noEnv_ok _ _) rfl rfl rfl (fun K hK => ?_)
                      simp only [Tryd.f19, bodyOf, Option.getD_some, cl, cr, rOps, lights, light, rN, List.size_toArray, List.length_cons, List.length_nil, Nat.reduceAdd, Nat.zero_add, List.map_cons, List.map_nil, Option.map_none]
                      simp (maxSteps := 300000) (disch := omega) only [go_sem, Nat.reduceAdd, ↓reduceIte]
                      with_reducible refine hK _ ?_
                      clear hK K
                      refine nx_blk (nx_loop ?_)
                      refine ⟨⟨i + (2 + z.toNat), g, (w.toNat : Int), id2, out ++ decL w.toNat bs, _⟩, ⟨by simp only; omega, by simp only; omega, ?_, by simp only [List.length_append]; omega, by simp only; omega⟩, by simp only; omega, ⟨fun _ => .inr ?_, fun j o h => ?_, Nat.le_refl _⟩⟩
                      · rw [hop, hrd]
                        cases opR g (w.toNat : Int) (b.drop (i + (2 + z.toNat))) with
                        | none => rfl
                        | some l => simp
                      · simp only [List.length_append, Int.natCast_add]
                        rfl
                      · simp only at h
                        exact hsub_cons (by simp (disch := omega) only [up_app, ↓reduceIte, eq_self]) (hsub_nil) j o h
    · skip
      refine awp_drop rfl ?_
      obtain rfl : i = b.length := by omega
      rw [List.drop_length] at hop
      obtain ⟨g, rfl⟩ : ∃ g, f = g + 1 := ⟨f - 1, by omega⟩
      have hop2 : ans = some out := by rw [hop]; simp [opR]
      refine awp_exitN 0 rfl rfl ?_
      refine nx_ex_then (nx_ex_loop (nx_ex_blk ?_))
      refine nx_then ?_
      refine awp_seqP rfl ?_
      refine awp_regP (Γ := noEnv) [2, 3] (noEnv_ok _ _) rfl rfl rfl (fun K hK => ?_)
      simp only [Tryd.f19, bodyOf, Option.getD_some, cl, cr, rOps, lights, light, rN, List.size_toArray, List.length_cons, List.length_nil, Nat.reduceAdd, Nat.zero_add, List.map_cons, List.map_nil, Option.map_none]
      simp (maxSteps := 300000) (disch := omega) only [go_sem, Nat.reduceAdd, ↓reduceIte]
      with_reducible refine hK _ ?_
      clear hK K
      refine nx_then ?_
      refine awp_retP rfl ?_
      simp (disch := omega) only [pureQ, resA, resAL, resA1, Tryd.f19, go_sem, Int.reduceNeg, ↓reduceIte, hop2]
  · cases hg
theorem ok19 : EntOK Tryd.prog GLh 19 (.pure false opnG) := ⟨⟨_, Tryd.func19, rfl, rfl⟩, ropn_ok⟩
end Go.AX
