/-
  Types, part N: bitmaps, as the program writes them. Types, part O: bitmaps, as the document writes them. Types, part P: bitmaps, read by the program.
-/
import Derived.Test.YtndohkbppgmbjaaGreatCH
namespace Go.AX
open Go Go.Proofs
theorem w256 : (256#16 = 0#16) = False := by decide
theorem i8z : ((8 : Int) = 0) = False := by decide
theorem quo_win (x : T16) : (x / 256#16).toNat = win x := by rw [BitVec.toNat_udiv]; rfl
theorem rem_pos (x : T16) : (x % 256#16).toNat = pos x := by rw [BitVec.toNat_umod]; rfl
theorem quo_eq (x y : T16) : x / 256#16 = y / 256#16 ↔ win x = win y := by
 rw [← quo_win, ← quo_win]; exact ⟨fun h => by rw [h], fun h => BitVec.eq_of_toNat_eq h⟩
theorem tdiv8 (n : Nat) : ((n : Int)).tdiv 8 = ((n / 8 : Nat) : Int) := rfl
theorem tmod8 (n : Nat) : ((n : Int)).tmod 8 = ((n % 8 : Nat) : Int) := rfl
theorem sh64 (n : Nat) : (BitVec.ofInt 64 ((n % 8 : Nat) : Int)).toNat = n % 8 := by
 rw [BitVec.toNat_ofInt]; omega
theorem bit8_eq (k : Nat) : 128#8 >>> k = bit8 k := rfl
theorem win8 (x : T16) : (x / 256#16).setWidth 8 = BitVec.ofNat 8 (win x) := by
 apply BitVec.eq_of_toNat_eq
 rw [BitVec.toNat_setWidth, quo_win, BitVec.toNat_ofNat]
theorem ofI8 (n : Nat) : BitVec.ofInt 8 (n : Int) = BitVec.ofNat 8 n := BitVec.ofInt_natCast ..
theorem szL_snoc (p : List T16) (x : T16) : szL (p ++ [x]) = pos x / 8 + 1 := by unfold szL; simp
theorem bitsL_snoc (p : List T16) (x : T16) : dR (p ++ [x]) = stpB (dR p) x := by unfold dR; rw [List.foldl_append]; rfl
theorem bitsL_nil : dR [] = List.replicate 32 0#8 := rfl
theorem take_sub (c : List T16) (j i : Nat) (hj : j ≤ i) (hi : i < c.length) : (c.drop j).take (i + 1 - j) = (c.drop j).take (i - j) ++ [c.getD i 0#16] := by
 have e : i + 1 - j = (i - j) + 1 := by omega
 have hl : i - j < (c.drop j).length := by rw [List.length_drop]; omega
 rw [e, List.take_succ_eq_append_getElem hl, List.getElem_drop, List.getD_eq_getElem?_getD, List.getElem?_eq_getElem hi]
 simp only [Option.getD_some]
 congr 3
 omega
theorem bm_step (c : List T16) (j i : Nat) (hj : j < c.length) (hji : j ≤ i) (hi : i ≤ c.length) (hw : ∀ k, j ≤ k → k < i → win (c.getD k 0#16) = win (c.getD j 0#16)) (he : i = c.length ∨ ¬ win (c.getD i 0#16) = win (c.getD j 0#16)) :
  j < i ∧ bmL (c.drop j) = recL (win (c.getD j 0#16)) ((c.drop j).take (i - j)) ++ bmL (c.drop i) := by
 have hne : j ≠ i := by
  rintro rfl
  rcases he with he | he
  ·omega
  ·exact he rfl
 refine ⟨by omega, ?_⟩
 have e : c.drop j = c.getD j 0#16 :: c.drop (j + 1) := by
  rw [List.drop_eq_getElem_cons hj, List.getD_eq_getElem?_getD, List.getElem?_eq_getElem hj]; rfl
 have hg : ∀ k, (c.drop j).getD k 0#16 = c.getD (j + k) 0#16 := fun k => by
  rw [List.getD_eq_getElem?_getD, List.getElem?_drop, ← List.getD_eq_getElem?_getD]
 obtain ⟨h1, h2⟩ := takeW_at (fun x => decide (win x = win (c.getD j 0#16))) 0#16 (c.drop j) (i - j) (by rw [List.length_drop]; omega)
  (fun k hk => by rw [hg]; exact decide_eq_true (hw _ (by omega) (by omega)))
  (by
   rcases he with he | he
   ·left; rw [List.length_drop]; omega
   ·right; rw [hg, show j + (i - j) = i by omega]; exact decide_eq_false he)
 have h3 : grp (c.getD j 0#16) (c.drop (j + 1)) = (c.drop j).take (i - j) := by
  rw [← h1, e, List.takeWhile_cons, if_pos (by simp)]; rfl
 have h4 : rst (c.getD j 0#16) (c.drop (j + 1)) = c.drop i := by
  have : (c.drop j).drop (i - j) = c.drop i := by rw [List.drop_drop]; congr 1; omega
  rw [← this, ← h2, e, List.dropWhile_cons, if_pos (by simp)]; rfl
 rw [← h3, ← h4]
 conv => lhs; rw [e]
 rw [bmL]
theorem recL_len (w : Nat) (p : List T16) : (recL w p).length = szL p + 2 := by
 unfold recL; simp only [List.length_cons, bits_sz]
theorem recL_eq (w : Nat) (p : List T16) (out : List B8) : out ++ [BitVec.ofNat 8 w, BitVec.ofNat 8 (szL p)] ++ (dR p).take (szL p) = out ++ recL w p := by
 unfold recL; simp
def bmG : List AV → Option (Nat × Nat × List AV)
 | [.sl n xs] => aK (unA xs) fun l => aN (l.length = n ∧ n ≤ 1000000) (some ((bmL (eA l)).length, 1, c8 (bmL (eA l))))
 | _ => none
theorem bmG_eq (n : Nat) (xs : List AV) : bmG [.sl n xs] = aK (unA xs) fun l => aN (l.length = n ∧ n ≤ 1000000) (some ((bmL (eA l)).length, 1, c8 (bmL (eA l)))) := (rfl)
attribute [go_sem] bmG_eq
structure SBO where
 j : Nat
 id : Nat
 out : List B8
 c : Nat
set_option maxHeartbeats 4000000 in
theorem bm_ok : dH Tryz.prog GLh 75 bmG := by
 refine cT Tryz.func75 (aT rfl) ?_
 intro args r hg
 unfold bmG at hg
 split at hg
 ·rename_i n xs
  replace hg := aJ hg; obtain ⟨l, hl, hg⟩ := hg
  replace hg := aP hg; obtain ⟨⟨hn, hbig⟩, hg⟩ := hg
  obtain rfl := Option.some.inj hg
  have := gU hl; subst this
  refine ⟨Nat.le_of_ble_eq_true rfl, fun nx => ?_⟩
  clear hl hg
  subst hn
  have hcl := cleanL_len l
  obtain ⟨c, hc⟩ : ∃ c, eA l = c := ⟨_, rfl⟩
  rw [hc] at hcl ⊢
  refine aA rfl ?_
  refine aC (Γ := aL) [0] (aD _ _) rfl rfl rfl (fun K hK => ?_)
  simp (disch := omega) only [Tryz.f75, go_sem, ↓reduceIte]
  refine hK _ ?_
  refine aB ?_
  refine aA rfl ?_
  refine aC (Γ := aL) [0, 3] (aD _ _) rfl rfl rfl (fun K hK => ?_)
  simp (disch := omega) only [Tryz.f75, go_sem, ↓reduceIte]
  refine hK _ ?_
  refine aB ?_
  refine aA rfl ?_
  refine aC (Γ := bC [(78, .fresh true clnG)]) [0, 3] (aH ok77 aO) rfl rfl rfl (fun K hK => ?_)
  simp (disch := omega) only [Tryz.f75, go_sem, Nat.reduceAdd, ↓reduceIte, hc]
  refine hK _ ?_
  refine aB ?_
  refine iE 3 1 rfl ?_
  refine fF [0, 3] ?_
  simp only [iB, fU, eB, ↓reduceIte, Nat.reduceEqDiff]
  refine aA rfl ?_
  refine aR 0 rfl rfl ?_
  refine bR (fun p : SBO => { fr := [(0, .os (nx + 2 + 1) p.j (c.length - p.j) 1 true), (3, .os p.id 0 p.out.length 1 true)], hp := upd (upd (fun _ => none) (nx + 2 + 1) (.cells (c16 c) true)) p.id (.cells (c8 p.out) true), nx := 0, cx := p.c }) (fun p => p.j ≤ c.length ∧ p.out ++ bmL (c.drop p.j) = bmL c ∧ p.out.length ≤ 34 * p.j ∧ p.id < p.c ∧ nx + 2 + 1 < p.id) (fun p => c.length - p.j) rfl ⟨⟨0, _, [], _⟩, ⟨Nat.zero_le _, rfl, Nat.zero_le _, by simp only; omega, by simp only; omega⟩, bD rfl rfl (Nat.le_refl _)⟩ ?_
  rintro ⟨j, id, out, cx⟩ ⟨hj, hout, hol, hid, hid2⟩ n0
  simp only at hj hout hol hid hid2 ⊢
  refine aA rfl ?_
  refine aA rfl ?_
  refine aC (Γ := aL) [12, 0, 3] (aD _ _) rfl rfl rfl (fun K hK => ?_)
  simp (disch := omega) only [Tryz.f75, go_sem, Nat.reduceAdd, ↓reduceIte]
  refine hK _ ?_
  refine aB ?_
  refine aW (.tmp 12) rfl rfl rfl (fun h => ?_) (fun h => ?_)
  ·skip
   refine aI rfl ?_
   have hjl : j < c.length := by omega
   refine aQ rfl ?_
   refine aB ?_
   refine aR 1 rfl rfl ?_
   refine aA rfl ?_
   refine aC (Γ := aL) [0, 3, 4] (aD _ _) rfl rfl rfl (fun K hK => ?_)
   simp (disch := omega) only [Tryz.f75, go_sem, Nat.reduceAdd, Int.reduceLE, Int.reduceLT, Int.reduceToNat, BitVec.reduceOfInt, ↓reduceIte, w256, Nat.add_zero]
   refine hK _ ?_
   refine aB ?_
   refine aA rfl ?_
   refine aC (Γ := aL) [0, 3, 4, 5] (aD _ _) rfl rfl rfl (fun K hK => ?_)
   simp (disch := omega) only [Tryz.f75, go_sem, ↓reduceIte, c8_rep]
   refine hK _ ?_
   refine aB ?_
   refine aA rfl ?_
   refine aC (Γ := aL) [0, 3, 4, 5, 6] (aD _ _) rfl rfl rfl (fun K hK => ?_)
   simp (disch := omega) only [Tryz.f75, go_sem, ↓reduceIte]
   refine hK _ ?_
   refine aB ?_
   obtain ⟨t, ht⟩ : ∃ t, c.getD j 0#16 = t := ⟨_, rfl⟩
   rw [ht]
   refine aA rfl ?_
   refine aR 2 rfl rfl ?_
   refine bR (fun p : KC => { fr := [(0, .os (nx + 2 + 1) p.k (c.length - p.k) 1 true), (3, .os id 0 out.length 1 true), (4, .w16 (t / 256#16)), (5, .op (cx + 8) 0), (6, .i (szL ((c.drop j).take (p.k - j))))], hp := upd (upd (upd (fun _ => none) (nx + 2 + 1) (.cells (c16 c) true)) id (.cells (c8 out) true)) (cx + 8) (.cells (c8 (dR ((c.drop j).take (p.k - j)))) true), nx := 0, cx := p.c }) (fun p => j ≤ p.k ∧ p.k ≤ c.length ∧ (∀ k, j ≤ k → k < p.k → win (c.getD k 0#16) = win t) ∧ cx + 8 < p.c) (fun p => c.length - p.k) rfl ⟨⟨j, _⟩, ⟨Nat.le_refl _, by simp only; omega, fun k h1 h2 => by simp only at h2; omega, by simp only; omega⟩, ⟨fun _ => .inr (by simp only [Nat.sub_self, List.take_zero]; rfl), fun a b h => by simp only [Nat.sub_self, List.take_zero] at h; exact h, Nat.le_refl _⟩⟩ ?_
   rintro ⟨i, cx2⟩ ⟨hji, hic, hwin, hcx2⟩ n0
   simp only at hji hic hwin hcx2 ⊢
   obtain ⟨p, hp⟩ : ∃ p, (c.drop j).take (i - j) = p := ⟨_, rfl⟩
   have hsz := szL_le p
   have hbl := bitsL_len p
   rw [hp]
   by_cases h1 : i < c.length
   ·skip
    have hd : decide (0 < ((c.length - i : Nat) : Int)) = true := decide_eq_true (by omega)
    obtain ⟨x, hx⟩ : ∃ x, c.getD i 0#16 = x := ⟨_, rfl⟩
    refine aA rfl ?_
    refine aA rfl ?_
    refine aC (Γ := aL) [27, 0, 3, 4, 5, 6] (aD _ _) rfl rfl rfl (fun K hK => ?_)
    simp (disch := omega) only [Tryz.f75, go_sem, Nat.reduceAdd, Int.reduceLE, Int.reduceLT, Int.reduceToNat, BitVec.reduceOfInt, ↓reduceIte, hd, w256, Nat.add_zero, hx]
    refine hK _ ?_
    refine aB ?_
    refine aW (.tmp 27) rfl rfl rfl (fun h => ?_) (fun h => ?_)
    ·skip
     refine aI rfl ?_
     rw [quo_eq] at h
     have hsub := take_sub c j i hji h1
     rw [hp, hx] at hsub
     have hpl := pos_lt x
     refine aQ rfl ?_
     refine aB ?_
     refine aR 3 rfl rfl ?_
     refine aA rfl ?_
     refine aC (Γ := aL) [0, 3, 4, 5, 7] (aD _ _) rfl rfl rfl (fun K hK => ?_)
     simp (disch := omega) only [Tryz.f75, go_sem, Nat.reduceAdd, Int.reduceLE, Int.reduceLT, Int.reduceToNat, BitVec.reduceOfInt, ↓reduceIte, w256, Nat.add_zero, hx, rem_pos]
     refine hK _ ?_
     refine aB ?_
     refine aA rfl ?_
     refine aC (Γ := aL) [0, 3, 4, 5, 7] (aD _ _) rfl rfl rfl (fun K hK => ?_)
     simp (disch := omega) only [Tryz.f75, go_sem, Nat.reduceAdd, Int.reduceLE, Int.reduceLT, BitVec.reduceOfInt, ↓reduceIte, i8z, tdiv8, tmod8, sh64, bit8_eq, Int.toNat_natCast]
     refine hK _ ?_
     refine aB ?_
     refine bB (Γ := aL) (fun _ => 2) [0, 3, 4, 5, 6] bZ (aD _ _) rfl rfl rfl (by kernel_rfl) (fun K hK => ?_)
     simp (disch := omega) only [Tryz.f75, go_sem, Nat.reduceAdd, Int.reduceLE, Int.reduceToNat, ↓reduceIte, i8z, tdiv8]
     refine hK _ ?_
     refine bU (bT ?_)
     have esn := szL_snoc p x
     have ebn : (dR p).set (pos x / 8) ((dR p).getD (pos x / 8) 0#8 ||| bit8 (pos x % 8)) = dR (p ++ [x]) := (bitsL_snoc p x).symm
     have el : c.length - i - 1 = c.length - (i + 1) := by omega
     refine ⟨⟨i + 1, _⟩, ⟨by simp only; omega, by simp only; omega, fun k h1 h2 => ?_, by simp only; omega⟩, by simp only; omega, ⟨fun _ => .inr ?_, fun j o h => ?_, Nat.le_refl _⟩⟩
     ·by_cases e : k = i
      ·subst e; rw [hx]; exact h
      ·exact hwin k h1 (by simp only at h2; omega)
     ·simp only [hsub, esn, el, Int.natCast_add, Int.natCast_one]
     ·simp only at h
      exact bS (by simp (disch := omega) only [aV, ↓reduceIte, eq_self, hsub, ebn]) (bS (by simp (disch := omega) only [aV, bY, ↓reduceIte, eq_self, ebn]) (bS (by simp (disch := omega) only [aV, bY, ↓reduceIte, eq_self, ebn]) (cB))) j o h
    ·skip
     refine aI rfl ?_
     rw [quo_eq] at h
     refine bF 2 rfl rfl ?_
     refine aY (aZ (bE ?_))
     refine aB ?_
     obtain ⟨hlt, hbm⟩ := bm_step c j i hjl hji hic (by rw [ht]; exact hwin) (.inr (by rw [hx, ht]; exact h))
     rw [hp, ht] at hbm
     have hrl := recL_len (win t) p
     have hrq := recL_eq (win t) p out
     refine bB (Γ := aL) (fun k => if k = 6 then 66 else if k = 9 then 194 else 2) [0, 3] bZ (aD _ _) rfl rfl rfl (by kernel_rfl) (fun K hK => ?_)
     simp (disch := omega) only [Tryz.f75, go_sem, Nat.reduceAdd, Nat.reduceLeDiff, Nat.reduceLT, Int.reduceLE, Int.reduceToNat, ↓reduceIte, win8, ofI8, Int.toNat_natCast, Nat.sub_zero, List.drop_zero]
     refine hK _ ?_
     refine bU (bT ?_)
     have hbm2 : out ++ recL (win t) p ++ bmL (c.drop i) = bmL c := by rw [List.append_assoc, ← hbm]; exact hout
     have hlen : (out ++ recL (win t) p).length = out.length + 2 + szL p := by rw [List.length_append, hrl]; omega
     refine ⟨⟨i, cx2 + 11 + 9, out ++ recL (win t) p, _⟩, ⟨hic, hbm2, by simp only [hlen]; omega, by simp only; omega, by simp only; omega⟩, by simp only; omega, ⟨fun _ => .inr ?_, fun j o h => ?_, Nat.le_refl _⟩⟩
     ·simp only [hlen]
     ·simp only at h
      exact bS (by simp (disch := omega) only [aV, ↓reduceIte, eq_self, hrq]) (bS (by simp (disch := omega) only [aV, de_app, bY, ↓reduceIte, eq_self, hrq]) (cB)) j o h
   ·skip
    have hd : decide (0 < ((c.length - i : Nat) : Int)) = false := decide_eq_false (by omega)
    refine aA rfl ?_
    refine aA rfl ?_
    refine aC (Γ := aL) [27, 0, 3, 4, 5, 6] (aD _ _) rfl rfl rfl (fun K hK => ?_)
    simp (disch := omega) only [Tryz.f75, go_sem, Nat.reduceAdd, reduceCtorEq, ↓reduceIte, hd]
    refine hK _ ?_
    refine aB ?_
    refine bA (.tmp 27) rfl rfl rfl (fun h => ?_) (fun h => ?_)
    ·skip
     refine aI rfl ?_
     cases h
    ·skip
     refine aI rfl ?_
     clear h
     refine bF 2 rfl rfl ?_
     refine aY (aZ (bE ?_))
     refine aB ?_
     obtain ⟨hlt, hbm⟩ := bm_step c j i hjl hji hic (by rw [ht]; exact hwin) (.inl (by omega))
     rw [hp, ht] at hbm
     have hrl := recL_len (win t) p
     have hrq := recL_eq (win t) p out
     refine bB (Γ := aL) (fun k => if k = 6 then 66 else if k = 9 then 194 else 2) [0, 3] bZ (aD _ _) rfl rfl rfl (by kernel_rfl) (fun K hK => ?_)
     simp (disch := omega) only [Tryz.f75, go_sem, Nat.reduceAdd, Nat.reduceLeDiff, Nat.reduceLT, Int.reduceLE, Int.reduceToNat, ↓reduceIte, win8, ofI8, Int.toNat_natCast, Nat.sub_zero, List.drop_zero]
     refine hK _ ?_
     refine bU (bT ?_)
     have hbm2 : out ++ recL (win t) p ++ bmL (c.drop i) = bmL c := by rw [List.append_assoc, ← hbm]; exact hout
     have hlen : (out ++ recL (win t) p).length = out.length + 2 + szL p := by rw [List.length_append, hrl]; omega
     refine ⟨⟨i, cx2 + 11 + 9, out ++ recL (win t) p, _⟩, ⟨hic, hbm2, by simp only [hlen]; omega, by simp only; omega, by simp only; omega⟩, by simp only; omega, ⟨fun _ => .inr ?_, fun j o h => ?_, Nat.le_refl _⟩⟩
     ·simp only [hlen]
     ·simp only at h
      exact bS (by simp (disch := omega) only [aV, ↓reduceIte, eq_self, hrq]) (bS (by simp (disch := omega) only [aV, de_app, bY, ↓reduceIte, eq_self, hrq]) (cB)) j o h
  ·skip
   refine aI rfl ?_
   refine bF 0 rfl rfl ?_
   refine aY (aZ (bE ?_))
   refine aB ?_
   refine aA rfl ?_
   obtain rfl : j = c.length := by omega
   have e1 : out = bmL c := by rw [List.drop_length, show bmL [] = [] from by rw [bmL], List.append_nil] at hout; exact hout
   refine aC (Γ := aL) [2] (aD _ _) rfl rfl rfl (fun K hK => ?_)
   simp (disch := omega) only [Tryz.f75, go_sem, Nat.reduceAdd, ↓reduceIte, e1]
   refine hK _ ?_
   refine aB ?_
   refine aS rfl ?_
   simp (disch := omega) only [fE, eO, bV, bK, bQ, Tryz.f75, go_sem, ↓reduceIte]
 ·cases hg
theorem ok64 : bX Tryz.prog GLh 75 (.fresh true bmG) := ⟨⟨_, Tryz.func75, rfl, rfl⟩, bm_ok⟩
end Go.AX
namespace Go.AX
open Go Go.Proofs
theorem shr_win (x : T16) : (x >>> 8).toNat = win x := by rw [BitVec.toNat_ushiftRight, Nat.shiftRight_eq_div_pow]; rfl
theorem shr_eq (x y : T16) : x >>> 8 = y >>> 8 ↔ win x = win y := by
 rw [← shr_win, ← shr_win]; exact ⟨fun h => by rw [h], fun h => BitVec.eq_of_toNat_eq h⟩
theorem and_pos (x : T16) : (x &&& 255#16).toNat = pos x := by
 rw [BitVec.toNat_and]
 exact Nat.and_two_pow_sub_one_eq_mod x.toNat 8
theorem win8s (x : T16) : (x >>> 8).setWidth 8 = BitVec.ofNat 8 (win x) := by
 apply BitVec.eq_of_toNat_eq
 rw [BitVec.toNat_setWidth, shr_win, BitVec.toNat_ofNat]
theorem bits_zero (p : List T16) (s i : Nat) (h : ∀ y ∈ p, pos y / 8 < s) (hs : s ≤ i) (hi : i < 32) : (dR p).getD i 0#8 = 0#8 := by
 apply Classical.byContradiction
 intro hne
 obtain ⟨k, hk, hb⟩ := ne_zero_bit _ hne
 obtain ⟨y, hy, he⟩ := (bitsL_bit p i k hi hk).1 hb
 have := h y hy
 omega
theorem pos_le_last (p : List T16) (w : Nat) (hp : Inc p) (hw : InW w p) : ∀ y ∈ p, pos y / 8 < szL p := by
 intro y hy
 cases hm : p.getLast? with
 | none => rw [List.getLast?_eq_none_iff] at hm; subst hm; simp at hy
 | some m =>
  have hs : szL p = pos m / 8 + 1 := by unfold szL; rw [hm]
  have hmem : m ∈ p := List.mem_of_getLast? hm
  have h1 := hw y hy
  have h2 := hw m hmem
  have h3 : pos y ≤ pos m := by
   rcases last_max hp hy hm with rfl | h
   ·exact Nat.le_refl _
   ·unfold win at h1 h2; unfold pos; omega
  omega
theorem pad_eq (p : List T16) (k : Nat) (h : ∀ y ∈ p, pos y / 8 < szL p) (hk : szL p ≤ k) (hk2 : k ≤ 32) : (dR p).take (szL p) ++ List.replicate (k - szL p) 0#8 = (dR p).take k := by
 have hl := bitsL_len p
 apply List.ext_getElem
 ·simp only [List.length_append, List.length_take, List.length_replicate]; omega
 ·intro i h1 h2
  have hi : i < k := by simp only [List.length_take] at h2; omega
  rw [List.getElem_append]
  split
  ·simp
  ·rename_i hge
   simp only [List.length_take] at hge
   have hz := bits_zero p (szL p) i h (by omega) (by omega)
   rw [List.getD_eq_getElem?_getD, List.getElem?_eq_getElem (by omega)] at hz
   simp only [Option.getD_some] at hz
   simp [hz]
theorem pad_step (p : List T16) (x : T16) (h : ∀ y ∈ p, pos y / 8 < szL p) (hk : szL p ≤ pos x / 8 + 1) :
  ((dR p).take (szL p) ++ List.replicate (pos x / 8 + 1 - szL p) 0#8).set (pos x / 8) (((dR p).take (szL p) ++ List.replicate (pos x / 8 + 1 - szL p) 0#8).getD (pos x / 8) 0#8 ||| bit8 (pos x % 8)) = (dR (p ++ [x])).take (szL (p ++ [x])) := by
 have hx := pos_lt x
 rw [pad_eq p _ h hk (by omega), szL_snoc, bitsL_snoc, stpB, List.take_set]
 congr 2
 have hl := bitsL_len p
 rw [List.getD_eq_getElem?_getD, List.getD_eq_getElem?_getD, List.getElem?_take_of_lt (by omega)]
theorem inc_sub (c : List T16) (hc : Inc c) (j n : Nat) : Inc ((c.drop j).take n) := List.Pairwise.sublist ((List.take_sublist _ _).trans (List.drop_sublist _ _)) hc
theorem inw_sub (c : List T16) (j i w : Nat) (hi : i ≤ c.length) (h : ∀ k, j ≤ k → k < i → win (c.getD k 0#16) = w) : InW w ((c.drop j).take (i - j)) := by
 intro y hy
 obtain ⟨k, hk, rfl⟩ := List.getElem_of_mem hy
 simp only [List.length_take, List.length_drop] at hk
 have := h (j + k) (by omega) (by omega)
 rw [List.getD_eq_getElem?_getD, List.getElem?_eq_getElem (by omega)] at this
 simpa using this
theorem szL_last (p : List T16) (x : T16) (w : Nat) (hp : Inc (p ++ [x])) (hw : InW w p) (hx : win x = w) : szL p ≤ pos x / 8 + 1 := by
 cases hm : p.getLast? with
 | none => unfold szL; rw [hm]; exact Nat.zero_le _
 | some m =>
  have hs : szL p = pos m / 8 + 1 := by unfold szL; rw [hm]
  have hmem : m ∈ p := List.mem_of_getLast? hm
  have h2 := hw m hmem
  obtain ⟨_, _, h3⟩ := inc_app hp
  have h4 := h3 m hmem x (by simp)
  rw [hs]
  unfold win at h2 hx
  unfold pos
  omega
structure SMI where
 m : Nat
 id : Nat
 c : Nat
end Go.AX
namespace Go.AX
open Go Go.Proofs
def decP (w : Nat) (bs : List B8) (k : Nat) : List T16 := (List.range k).filterMap fun i => if bs.getD (i / 8) 0#8 &&& bit8 (i % 8) ≠ 0#8 then some (BitVec.ofNat 16 (w * 256 + i)) else none
theorem decP_zero (w : Nat) (bs : List B8) : decP w bs 0 = [] := rfl
theorem decP_all (w : Nat) (bs : List B8) (k : Nat) (h : k = 8 * bs.length) : decP w bs k = decL w bs := by rw [h]; rfl
theorem decP_yes (w : Nat) (bs : List B8) (k : Nat) (h : bs.getD (k / 8) 0#8 &&& bit8 (k % 8) ≠ 0#8) : decP w bs (k + 1) = decP w bs k ++ [BitVec.ofNat 16 (w * 256 + k)] := by
 unfold decP; rw [List.range_succ, List.filterMap_append, List.filterMap_cons, if_pos h]; rfl
theorem decP_no (w : Nat) (bs : List B8) (k : Nat) (h : bs.getD (k / 8) 0#8 &&& bit8 (k % 8) = 0#8) : decP w bs (k + 1) = decP w bs k := by
 unfold decP; rw [List.range_succ, List.filterMap_append, List.filterMap_cons, if_neg (fun hh => hh h)]; simp
theorem decP_len (w : Nat) (bs : List B8) (k : Nat) : (decP w bs k).length ≤ k := by
 have := List.length_filterMap_le (fun i => if bs.getD (i / 8) 0#8 &&& bit8 (i % 8) ≠ 0#8 then some (BitVec.ofNat 16 (w * 256 + i)) else none) (List.range k)
 rw [List.length_range] at this
 exact this
theorem take_getD (r : List B8) (m k : Nat) (h : k < m) : (r.take m).getD k 0#8 = r.getD k 0#8 := by
 rw [List.getD_eq_getElem?_getD, List.getD_eq_getElem?_getD, List.getElem?_take_of_lt h]
theorem drop_getD (r : List B8) (m k : Nat) : (r.drop m).getD k 0#8 = r.getD (m + k) 0#8 := by
 rw [List.getD_eq_getElem?_getD, List.getD_eq_getElem?_getD, List.getElem?_drop]
theorem typ_num (w : B8) (k : Nat) (_ : k < 256) : w.setWidth 16 * 256#16 + BitVec.ofInt 16 (k : Int) = BitVec.ofNat 16 (w.toNat * 256 + k) := by
 apply BitVec.eq_of_toNat_eq
 rw [BitVec.ofInt_natCast, BitVec.toNat_add, BitVec.toNat_mul, BitVec.toNat_setWidth, BitVec.toNat_ofNat, BitVec.toNat_ofNat, BitVec.toNat_ofNat]
 have := w.isLt
 omega
theorem two_head (R : List B8) (h : 2 ≤ R.length) : R = R.getD 0 0#8 :: R.getD 1 0#8 :: R.drop 2 := by
 match R, h with
 | a :: b :: r, _ => rfl
theorem opP_two (f : Nat) (R : List B8) (h : 2 ≤ R.length) : opP (f + 1) R = if (R.getD 1 0#8).toNat ≤ R.length - 2 then (opP f (R.drop (2 + (R.getD 1 0#8).toNat))).map (decL (R.getD 0 0#8).toNat ((R.drop 2).take (min (R.getD 1 0#8).toNat 32)) ++ ·) else none := by
 conv => lhs; rw [two_head R h]
 simp only [opP, List.length_drop, List.drop_drop]
 split
 ·cases opP f (R.drop (2 + (R.getD 1 0#8).toNat)) <;> rfl
 ·rfl
theorem opP_short (f : Nat) (R : List B8) (h : 0 < R.length) (h2 : R.length < 2) : opP (f + 1) R = none := by
 match R, h, h2 with
 | [a], _, _ => rfl
def opnT : Option (List T16) → AV
 | some l => .tup [.sl l.length (c16 l), .i 0]
 | none => .tup [.sl 0 [], .i 40]
def opnG : List AV → Option AV
 | [.sl n xs] => aK (un8 xs) fun b => aN (b.length = n ∧ n ≤ 100000) (some (opnT (opR (b.length + 1) (-1) b)))
 | _ => none
theorem opnG_eq (n : Nat) (xs : List AV) : opnG [.sl n xs] = aK (un8 xs) fun b => aN (b.length = n ∧ n ≤ 100000) (some (opnT (opR (b.length + 1) (-1) b))) := (rfl)
theorem opnT_s (l : List T16) : opnT (some l) = .tup [.sl l.length (c16 l), .i 0] := (rfl)
theorem opnT_n : opnT none = .tup [.sl 0 [], .i 40] := (rfl)
attribute [go_sem] opnG_eq opnT_s opnT_n
theorem opR_none {F : Nat} {last : Int} {b : List B8} (h : opP F b = none) : opR F last b = none := by
 cases e : opR F last b with
 | none => rfl
 | some l => have := (opR_inv F last b l e).2.2.2; rw [h] at this; cases this
theorem opR_ne {F : Nat} {last : Int} {b : List B8} {out : List T16} (h : opP F b = some out) (hne : bmL (eA out) ≠ b) : opR F last b = none := by
 cases e : opR F last b with
 | none => rfl
 | some l =>
  obtain ⟨h1, h2, h3, h4⟩ := opR_inv F last b l e
  rw [h] at h4
  obtain rfl := Option.some.inj h4
  rw [cleanL_id h1] at hne
  exact absurd h3 hne
theorem opR_eq {b : List B8} {out : List T16} (h : opP (b.length + 1) b = some out) (he : bmL (eA out) = b) : opR (b.length + 1) (-1) b = some out := by
 have h1 := opR_bm (b.length + 1) (eA out) (-1) (cleanL_inc out) (fun t _ => by omega) (by rw [he]; omega)
 rw [he] at h1
 have h2 := (opR_inv _ _ _ _ h1).2.2.2
 rw [h] at h2
 obtain h3 := Option.some.inj h2
 rw [h1, ← h3]
theorem min32 (n : Nat) : (if (32 : Int) < (n : Int) then (32 : Int) else (n : Int)) = ((min n 32 : Nat) : Int) := by split <;> omega
structure SOF where
 i : Nat
 f : Nat
 id : Nat
 out : List T16
 c : Nat
structure KOC where
 k : Nat
 id : Nat
 c : Nat
set_option maxHeartbeats 4000000 in
theorem opn_ok : cL Tryz.prog GLh 61 opnG := by
 refine cC Tryz.func61 (aT rfl) ?_
 intro args r hg
 unfold opnG at hg
 split at hg
 ·rename_i n xs
  replace hg := aJ hg; obtain ⟨b, hb, hg⟩ := hg
  replace hg := aP hg; obtain ⟨⟨hn, hbig⟩, hg⟩ := hg
  obtain rfl := Option.some.inj hg
  have := un8_inv _ hb; subst this
  refine ⟨Nat.le_of_ble_eq_true rfl, fun nx => ?_⟩
  clear hb hg
  subst hn
  obtain ⟨ans, hans⟩ : ∃ a, opR (b.length + 1) (-1) b = a := ⟨_, rfl⟩
  rw [hans]
  refine aA rfl ?_
  refine aC (Γ := aL) [0] (aD _ _) rfl rfl rfl (fun K hK => ?_)
  simp (disch := omega) only [Tryz.f61, go_sem, Nat.reduceAdd, ↓reduceIte]
  refine hK _ ?_
  refine aB ?_
  refine aA rfl ?_
  refine aC (Γ := aL) [0, 4] (aD _ _) rfl rfl rfl (fun K hK => ?_)
  simp (disch := omega) only [Tryz.f61, go_sem, ↓reduceIte]
  refine hK _ ?_
  refine aB ?_
  refine aA rfl ?_
  refine aA rfl ?_
  refine aC (Γ := aL) [0, 4, 5] (aD _ _) rfl rfl rfl (fun K hK => ?_)
  simp (disch := omega) only [Tryz.f61, go_sem, Nat.reduceAdd, ↓reduceIte]
  refine hK _ ?_
  refine aB ?_
  refine iE 4 1 rfl ?_
  refine fF [0, 4, 5] ?_
  simp only [iB, fU, eB, ↓reduceIte, Nat.reduceEqDiff]
  refine aR 0 rfl rfl ?_
  refine bR (fun p : SOF => { fr := [(0, .sl b.length (c8 b)), (4, .os p.id 0 p.out.length 1 true), (5, .sl (b.length - p.i) (c8 (b.drop p.i)))], hp := upd (fun _ => none) p.id (.cells (c16 p.out) true), nx := 0, cx := p.c }) (fun p => p.i ≤ b.length ∧ b.length - p.i < p.f ∧ opP (b.length + 1) b = (opP p.f (b.drop p.i)).map (p.out ++ ·) ∧ p.out.length ≤ 8 * p.i ∧ p.id < p.c) (fun p => b.length - p.i) rfl ⟨⟨0, b.length + 1, _, [], _⟩, ⟨Nat.zero_le _, by simp only; omega, by simp, Nat.zero_le _, by simp only; omega⟩, bD rfl rfl (Nat.le_refl _)⟩ ?_
  rintro ⟨i, f, id, out, c⟩ ⟨hi, hf, hop, hol, hid⟩ n0
  simp only at hi hf hop hol hid ⊢
  refine aA rfl ?_
  refine aA rfl ?_
  refine aC (Γ := aL) [11, 0, 4, 5] (aD _ _) rfl rfl rfl (fun K hK => ?_)
  simp (disch := omega) only [Tryz.f61, go_sem, Nat.reduceAdd, ↓reduceIte]
  refine hK _ ?_
  refine aB ?_
  refine aW (.tmp 11) rfl rfl rfl (fun h => ?_) (fun h => ?_)
  ·skip
   refine aI rfl ?_
   have hib : i < b.length := by omega
   obtain ⟨R, hR⟩ : ∃ R, b.drop i = R := ⟨_, rfl⟩
   have hRl : R.length = b.length - i := by rw [← hR, List.length_drop]
   obtain ⟨g, rfl⟩ : ∃ g, f = g + 1 := ⟨f - 1, by omega⟩
   rw [hR] at hop
   by_cases h2 : b.length - i < 2
   ·skip
    have hd : decide (((b.length - i : Nat) : Int) < 2) = true := decide_eq_true (by omega)
    rw [opP_short g R (by omega) (by omega)] at hop
    have hno := opR_none (last := -1) hop
    rw [hans] at hno
    refine aQ rfl ?_
    refine aB ?_
    refine aR 1 rfl rfl ?_
    refine aA rfl ?_
    refine aA rfl ?_
    refine aC (Γ := aL) [24, 0, 4, 5] (aD _ _) rfl rfl rfl (fun K hK => ?_)
    simp (disch := omega) only [Tryz.f61, go_sem, Nat.reduceAdd, ↓reduceIte, hd]
    refine hK _ ?_
    refine aB ?_
    refine bA (.tmp 24) rfl rfl rfl (fun h => ?_) (fun h => ?_)
    ·skip
     refine aI rfl ?_
     refine aA rfl ?_
     refine aC (Γ := aL) [2, 3] (aD _ _) rfl rfl rfl (fun K hK => ?_)
     simp (disch := omega) only [Tryz.f61, go_sem, Nat.reduceAdd, ↓reduceIte]
     refine hK _ ?_
     refine aB ?_
     refine aS rfl ?_
     refine bI (bN (dF (bN (bI ?_))))
     simp (disch := omega) only [cN, bV, bK, bQ, Tryz.f61, go_sem, ↓reduceIte, hno]
    ·skip
     refine aI rfl ?_
     cases h
   ·skip
    have hd : decide (((b.length - i : Nat) : Int) < 2) = false := decide_eq_false (by omega)
    rw [opP_two g R (by omega)] at hop
    obtain ⟨w, hw⟩ : ∃ w, R.getD 0 0#8 = w := ⟨_, rfl⟩
    obtain ⟨z, hz⟩ : ∃ z, R.getD 1 0#8 = z := ⟨_, rfl⟩
    rw [hw, hz] at hop
    refine aQ rfl ?_
    refine aB ?_
    refine aR 1 rfl rfl ?_
    refine aA rfl ?_
    refine aA rfl ?_
    refine aC (Γ := aL) [24, 0, 4, 5] (aD _ _) rfl rfl rfl (fun K hK => ?_)
    simp (disch := omega) only [Tryz.f61, go_sem, Nat.reduceAdd, Int.reduceLE, Int.reduceToNat, reduceCtorEq, ↓reduceIte, hd, hR, hz]
    refine hK _ ?_
    refine aB ?_
    refine aW (.tmp 24) rfl rfl rfl (fun h => ?_) (fun h => ?_)
    ·skip
     refine aI rfl ?_
     rw [if_neg (by omega)] at hop
     have hno := opR_none (last := -1) hop
     rw [hans] at hno
     refine aA rfl ?_
     refine aC (Γ := aL) [2, 3] (aD _ _) rfl rfl rfl (fun K hK => ?_)
     simp (disch := omega) only [Tryz.f61, go_sem, Nat.reduceAdd, ↓reduceIte]
     refine hK _ ?_
     refine aB ?_
     refine aS rfl ?_
     refine bI (bN (dF (bN (bI ?_))))
     simp (disch := omega) only [cN, bV, bK, bQ, Tryz.f61, go_sem, ↓reduceIte, hno]
    ·skip
     refine aI rfl ?_
     have hzl : z.toNat ≤ R.length - 2 := by omega
     rw [if_pos hzl] at hop
     refine aQ rfl ?_
     refine aB ?_
     refine aA rfl ?_
     refine aC (Γ := aL) [0, 4, 5, 6] (aD _ _) rfl rfl rfl (fun K hK => ?_)
     simp (disch := omega) only [Tryz.f61, go_sem, Nat.reduceAdd, Int.reduceLE, Int.reduceToNat, ↓reduceIte, hz]
     refine hK _ ?_
     refine aB ?_
     refine aA rfl ?_
     refine aA rfl ?_
     refine aC (Γ := aL) [0, 4, 5, 6, 31, 32] (aD _ _) rfl rfl rfl (fun K hK => ?_)
     simp (disch := omega) only [Tryz.f61, go_sem, Nat.reduceAdd, ↓reduceIte, min32]
     refine hK _ ?_
     refine aB ?_
     refine aR 2 rfl rfl ?_
     refine bR (fun p : KOC => { fr := [(0, .sl b.length (c8 b)), (4, .os p.id 0 (out ++ decP w.toNat ((R.drop 2).take (min z.toNat 32)) p.k).length 1 true), (5, .sl (b.length - i) (c8 R)), (6, .i z.toNat), (31, .i ((8 * min z.toNat 32 : Nat) : Int)), (32, .i p.k)], hp := upd (fun _ => none) p.id (.cells (c16 (out ++ decP w.toNat ((R.drop 2).take (min z.toNat 32)) p.k)) true), nx := 0, cx := p.c }) (fun p => p.k ≤ 8 * min z.toNat 32 ∧ p.id < p.c) (fun p => 8 * min z.toNat 32 - p.k) rfl ⟨⟨0, id, _⟩, ⟨Nat.zero_le _, by simp only; omega⟩, ⟨fun _ => .inr (by simp only [decP_zero, List.append_nil, Int.natCast_mul]; rfl), fun a b h => by simp only [decP_zero, List.append_nil] at h; exact h, Nat.le_refl _⟩⟩ ?_
     rintro ⟨k, id2, c2⟩ ⟨hk, hid2⟩ n0
     simp only at hk hid2 ⊢
     have hdl := decP_len w.toNat ((R.drop 2).take (min z.toNat 32)) k
     refine aA rfl ?_
     refine aC (Γ := aL) [33, 0, 4, 5, 6, 31, 32] (aD _ _) rfl rfl rfl (fun K hK => ?_)
     simp (disch := omega) only [Tryz.f61, go_sem, ↓reduceIte]
     refine hK _ ?_
     refine aB ?_
     refine aA rfl ?_
     refine aW (.tmp 33) rfl rfl rfl (fun h => ?_) (fun h => ?_)
     ·skip
      refine aI rfl ?_
      have hkl : k < 8 * min z.toNat 32 := by omega
      have hgd : ((R.drop 2).take (min z.toNat 32)).getD (k / 8) 0#8 = R.getD (2 + k / 8) 0#8 := by rw [take_getD _ _ _ (by omega), drop_getD]
      refine aQ rfl ?_
      refine aB ?_
      refine aA rfl ?_
      refine aR 3 rfl rfl ?_
      refine aA rfl ?_
      refine aC (Γ := aL) [0, 4, 5, 6, 7, 31, 32] (aD _ _) rfl rfl rfl (fun K hK => ?_)
      simp (disch := omega) only [Tryz.f61, go_sem, Nat.reduceAdd, ↓reduceIte]
      refine hK _ ?_
      refine aB ?_
      have e2k : (2 + ((k / 8 : Nat) : Int)).toNat = 2 + k / 8 := by omega
      refine aA rfl ?_
      refine aC (Γ := aL) [46, 0, 4, 5, 6, 7, 31, 32] (aD _ _) rfl rfl rfl (fun K hK => ?_)
      simp (disch := omega) only [Tryz.f61, go_sem, Nat.reduceAdd, Int.reduceLE, Int.reduceLT, BitVec.reduceOfInt, ↓reduceIte, i8z, tdiv8, tmod8, sh64, bit8_eq, e2k]
      refine hK _ ?_
      refine aB ?_
      refine awp_ifE (.tmp 46) rfl rfl rfl (fun h => ?_) (fun h => ?_)
      ·skip
       refine aI rfl ?_
       rw [← hgd] at h
       have hst := decP_yes w.toNat ((R.drop 2).take (min z.toNat 32)) k h
       refine aC (Γ := aL) [0, 4, 5, 6, 31, 32] (aD _ _) rfl rfl rfl (fun K hK => ?_)
       simp (disch := omega) only [Tryz.f61, go_sem, Nat.reduceAdd, Nat.reduceLeDiff, Nat.reduceLT, Int.reduceLE, Int.reduceLT, Int.reduceToNat, BitVec.reduceOfInt, ↓reduceIte, hw, typ_num, c16_app1]
       refine hK _ ?_
       refine bU (aB ?_)
       refine aC (Γ := aL) [0, 4, 5, 6, 31, 32] (aD _ _) rfl rfl rfl (fun K hK => ?_)
       simp (disch := omega) only [Tryz.f61, go_sem, Nat.reduceAdd, ↓reduceIte]
       refine hK _ ?_
       refine bT ?_
       have hl2 : (out ++ decP w.toNat ((R.drop 2).take (min z.toNat 32)) (k + 1)).length = out.length + (decP w.toNat ((R.drop 2).take (min z.toNat 32)) k).length + 1 := by rw [hst]; simp only [List.length_append, List.length_cons, List.length_nil]; omega
       have hr2 : out ++ decP w.toNat ((R.drop 2).take (min z.toNat 32)) k ++ [BitVec.ofNat 16 (w.toNat * 256 + k)] = out ++ decP w.toNat ((R.drop 2).take (min z.toNat 32)) (k + 1) := by rw [hst, List.append_assoc]
       refine ⟨⟨k + 1, c2 + 1 + 2 + 12 + 10, _⟩, ⟨by simp only; omega, by simp only; omega⟩, by simp only; omega, ⟨fun _ => .inr ?_, fun j o h => ?_, Nat.le_refl _⟩⟩
       ·simp only [hl2, Int.natCast_add, Int.natCast_one]
       ·simp only at h
        exact bS (by simp (disch := omega) only [aV, ↓reduceIte, eq_self, hr2]) (cB) j o h
      ·skip
       refine aI rfl ?_
       rw [← hgd] at h
       have hst := decP_no w.toNat ((R.drop 2).take (min z.toNat 32)) k h
       refine aQ rfl ?_
       refine bU (aB ?_)
       refine aC (Γ := aL) [0, 4, 5, 6, 31, 32] (aD _ _) rfl rfl rfl (fun K hK => ?_)
       simp (disch := omega) only [Tryz.f61, go_sem, Nat.reduceAdd, ↓reduceIte]
       refine hK _ ?_
       refine bT ?_
       refine ⟨⟨k + 1, id2, _⟩, ⟨by simp only; omega, by simp only; omega⟩, by simp only; omega, ⟨fun _ => .inr ?_, fun j o h => ?_, Nat.le_refl _⟩⟩
       ·simp only [hst, List.length_append, Int.natCast_add, Int.natCast_one]
       ·simp only at h
        exact bS (by simp (disch := omega) only [aV, ↓reduceIte, eq_self, hst]) (cB) j o h
     ·skip
      refine aI rfl ?_
      obtain rfl : k = 8 * min z.toNat 32 := by omega
      have hall := decP_all w.toNat ((R.drop 2).take (min z.toNat 32)) (8 * min z.toNat 32) (by rw [List.length_take, List.length_drop]; omega)
      have hrd : R.drop (2 + z.toNat) = b.drop (i + (2 + z.toNat)) := by rw [← hR, List.drop_drop]
      have htk : (R.drop (2 + z.toNat)).take (b.length - i - (2 + z.toNat)) = R.drop (2 + z.toNat) := List.take_of_length_le (by rw [List.length_drop]; omega)
      have e2z : (2 + (z.toNat : Int)).toNat = 2 + z.toNat := by omega
      have hln : b.length - i - (2 + z.toNat) = b.length - (i + (2 + z.toNat)) := by omega
      rw [hall] at hdl
      refine bF 2 rfl rfl ?_
      refine aY (aZ (bE ?_))
      refine aB ?_
      refine aC (Γ := aL) [0, 4, 5] (aD _ _) rfl rfl rfl (fun K hK => ?_)
      simp (disch := omega) only [Tryz.f61, go_sem, Nat.reduceAdd, ↓reduceIte, e2z, htk, hall]
      refine hK _ ?_
      refine bU (bT ?_)
      refine ⟨⟨i + (2 + z.toNat), g, id2, out ++ decL w.toNat ((R.drop 2).take (min z.toNat 32)), _⟩, ⟨by simp only; omega, by simp only; omega, ?_, by simp only [List.length_append]; omega, by simp only; omega⟩, by simp only; omega, ⟨fun _ => .inr ?_, fun j o h => ?_, Nat.le_refl _⟩⟩
      ·rw [hop, hrd]
       cases opP g (b.drop (i + (2 + z.toNat))) with
       | none => rfl
       | some l => simp
      ·simp only [hln, hrd, List.length_append]
      ·simp only at h
       exact bS (by simp (disch := omega) only [aV, ↓reduceIte, eq_self]) (cB) j o h
  ·skip
   refine aI rfl ?_
   obtain rfl : i = b.length := by omega
   rw [List.drop_length] at hop
   obtain ⟨g, rfl⟩ : ∃ g, f = g + 1 := ⟨f - 1, by omega⟩
   have hop2 : opP (b.length + 1) b = some out := by rw [hop]; simp [opP]
   refine bF 0 rfl rfl ?_
   refine aY (aZ (bE ?_))
   refine aB ?_
   refine aA rfl ?_
   refine aA rfl ?_
   by_cases he : bmL (eA out) = b
   ·skip
    have hq := opR_eq hop2 he
    rw [hans] at hq
    have hd : decide (b = b) = true := decide_eq_true rfl
    refine aC (Γ := bC [(75, .fresh true bmG), (74, .pure true beqG)]) [67, 4] (aH ok64 (aH ok76 aO)) rfl rfl rfl (fun K hK => ?_)
    simp (disch := omega) only [Tryz.f61, go_sem, Nat.reduceAdd, ↓reduceIte, he]
    refine hK _ ?_
    refine aB ?_
    refine bA (.tmp 67) rfl rfl rfl (fun h => ?_) (fun h => ?_)
    ·skip
     refine aI rfl ?_
     cases h
    ·skip
     refine aI rfl ?_
     refine aQ rfl ?_
     refine aB ?_
     refine aA rfl ?_
     refine aC (Γ := aL) [2, 3] (aD _ _) rfl rfl rfl (fun K hK => ?_)
     simp (disch := omega) only [Tryz.f61, go_sem, Nat.reduceAdd, ↓reduceIte]
     refine hK _ ?_
     refine aB ?_
     refine aS rfl ?_
     simp (disch := omega) only [cN, bV, bK, bQ, Tryz.f61, go_sem, ↓reduceIte, hq]
   ·skip
    have hq := opR_ne (last := -1) hop2 he
    rw [hans] at hq
    have hd : decide (bmL (eA out) = b) = false := decide_eq_false he
    refine aC (Γ := bC [(75, .fresh true bmG), (74, .pure true beqG)]) [67, 4] (aH ok64 (aH ok76 aO)) rfl rfl rfl (fun K hK => ?_)
    simp (disch := omega) only [Tryz.f61, go_sem, Nat.reduceAdd, ↓reduceIte, hd]
    refine hK _ ?_
    refine aB ?_
    refine bA (.tmp 67) rfl rfl rfl (fun h => ?_) (fun h => ?_)
    ·skip
     refine aI rfl ?_
     refine aA rfl ?_
     refine aC (Γ := aL) [2, 3] (aD _ _) rfl rfl rfl (fun K hK => ?_)
     simp (disch := omega) only [Tryz.f61, go_sem, Nat.reduceAdd, ↓reduceIte]
     refine hK _ ?_
     refine aB ?_
     refine aS rfl ?_
     refine bI ?_
     simp (disch := omega) only [cN, bV, bK, bQ, Tryz.f61, go_sem, ↓reduceIte, hq]
    ·skip
     refine aI rfl ?_
     cases h
 ·cases hg
theorem ok61 : bX Tryz.prog GLh 61 (.pure false opnG) := ⟨⟨_, Tryz.func61, rfl, rfl⟩, opn_ok⟩
end Go.AX
