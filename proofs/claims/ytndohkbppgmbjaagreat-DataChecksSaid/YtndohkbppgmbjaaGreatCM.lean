/-
  Types, part Q: bitmaps, read by the document. Data, part yL: the document's numbers and names read. Data, part yM: the document's DNSKEYs and SOAs read. Data, part yN: the document's RRSIGs and NSEC3s read.
-/
import Derived.Test.YtndohkbppgmbjaaGreatCI
import Derived.Test.YtndohkbppgmbjaaGreatCJ
namespace Go.AX
open Go Go.Proofs
theorem opR_two (f : Nat) (last : Int) (R : List B8) (h : 2 ≤ R.length) : opR (f + 1) last R = if last < ((R.getD 0 0#8).toNat : Int) ∧ 1 ≤ (R.getD 1 0#8).toNat ∧ (R.getD 1 0#8).toNat ≤ 32 ∧ (R.getD 1 0#8).toNat ≤ R.length - 2 ∧ R.getD (1 + (R.getD 1 0#8).toNat) 0#8 ≠ 0#8
  then (opR f ((R.getD 0 0#8).toNat : Int) (R.drop (2 + (R.getD 1 0#8).toNat))).map (decL (R.getD 0 0#8).toNat ((R.drop 2).take (R.getD 1 0#8).toNat) ++ ·) else none := by
 conv => lhs; rw [two_head R h]
 simp only [opR, List.length_drop, List.drop_drop]
 by_cases h1 : 1 ≤ (R.getD 1 0#8).toNat
 ·have e : (R.drop 2).getD ((R.getD 1 0#8).toNat - 1) 0#8 = R.getD (1 + (R.getD 1 0#8).toNat) 0#8 := by rw [drop_getD]; congr 1; omega
  rw [e]
  split
  ·cases opR f ((R.getD 0 0#8).toNat : Int) (R.drop (2 + (R.getD 1 0#8).toNat)) <;> rfl
  ·rfl
 ·rw [if_neg (fun hh => h1 hh.2.1), if_neg (fun hh => h1 hh.2.1)]
theorem opR_short (f : Nat) (last : Int) (R : List B8) (h : 0 < R.length) (h2 : R.length < 2) : opR (f + 1) last R = none := by
 match R, h, h2 with
 | [a], _, _ => rfl
theorem typ_num2 (w k j : Nat) : BitVec.ofInt 16 ((w : Int) * 256 + (k : Int) * 8 + (j : Int)) = BitVec.ofNat 16 (w * 256 + (8 * k + j)) := by
 have e : (w : Int) * 256 + (k : Int) * 8 + (j : Int) = ((w * 256 + (8 * k + j) : Nat) : Int) := by omega
 rw [e, BitVec.ofInt_natCast]
structure SLF where
 i : Nat
 f : Nat
 last : Int
 id : Nat
 out : List T16
 c : Nat
set_option maxHeartbeats 8000000 in
theorem ropn_ok : cL Tryz.prog GLh 64 opnG := by
 refine cC Tryz.func64 (aT rfl) ?_
 intro args r hg
 unfold opnG at hg
 split at hg
 ·rename_i n xs
  replace hg := aJ hg; obtain ⟨b, hb, hg⟩ := hg
  replace hg := aP hg; obtain ⟨⟨hn, hbig⟩, hg⟩ := hg
  obtain rfl := Option.some.inj hg
  have := un8_inv _ hb; subst this
  refine ⟨Nat.le_of_ble_eq_true rfl, fun nx => ?_⟩
  clear hb hg
  subst hn
  obtain ⟨ans, hans⟩ : ∃ a, opR (b.length + 1) (-1) b = a := ⟨_, rfl⟩
  rw [hans]
  refine aA rfl ?_
  refine aC (Γ := aL) [0] (aD _ _) rfl rfl rfl (fun K hK => ?_)
  simp (disch := omega) only [Tryz.f64, go_sem, Nat.reduceAdd, ↓reduceIte]
  refine hK _ ?_
  refine aB ?_
  refine aA rfl ?_
  refine aC (Γ := aL) [0, 4] (aD _ _) rfl rfl rfl (fun K hK => ?_)
  simp (disch := omega) only [Tryz.f64, go_sem, ↓reduceIte]
  refine hK _ ?_
  refine aB ?_
  refine aA rfl ?_
  refine aC (Γ := aL) [0, 4, 5] (aD _ _) rfl rfl rfl (fun K hK => ?_)
  simp (disch := omega) only [Tryz.f64, go_sem, Int.reduceNeg, ↓reduceIte]
  refine hK _ ?_
  refine aB ?_
  refine aA rfl ?_
  refine aA rfl ?_
  refine aC (Γ := aL) [0, 4, 5, 6] (aD _ _) rfl rfl rfl (fun K hK => ?_)
  simp (disch := omega) only [Tryz.f64, go_sem, Int.reduceNeg, ↓reduceIte]
  refine hK _ ?_
  refine aB ?_
  refine iE 4 1 rfl ?_
  refine fF [0, 4, 5, 6] ?_
  simp only [iB, fU, eB, ↓reduceIte, Nat.reduceEqDiff]
  refine aR 0 rfl rfl ?_
  refine bR (fun p : SLF => { fr := [(0, .sl b.length (c8 b)), (4, .os p.id 0 p.out.length 1 true), (5, .i p.last), (6, .i p.i)], hp := upd (fun _ => none) p.id (.cells (c16 p.out) true), nx := 0, cx := p.c }) (fun p => p.i ≤ b.length ∧ b.length - p.i < p.f ∧ ans = (opR p.f p.last (b.drop p.i)).map (p.out ++ ·) ∧ p.out.length ≤ 8 * p.i ∧ p.id < p.c) (fun p => b.length - p.i) rfl ⟨⟨0, b.length + 1, -1, _, [], _⟩, ⟨Nat.zero_le _, by simp only; omega, by simp [← hans], Nat.zero_le _, by simp only; omega⟩, bD rfl rfl (Nat.le_refl _)⟩ ?_
  rintro ⟨i, f, last, id, out, c⟩ ⟨hi, hf, hop, hol, hid⟩ n0
  simp only at hi hf hop hol hid ⊢
  refine aA rfl ?_
  refine aA rfl ?_
  refine aC (Γ := aL) [14, 0, 4, 5, 6] (aD _ _) rfl rfl rfl (fun K hK => ?_)
  simp (disch := omega) only [Tryz.f64, go_sem, Nat.reduceAdd, ↓reduceIte]
  refine hK _ ?_
  refine aB ?_
  refine aW (.tmp 14) rfl rfl rfl (fun h => ?_) (fun h => ?_)
  ·skip
   refine aI rfl ?_
   have hib : i < b.length := by omega
   obtain ⟨R, hR⟩ : ∃ R, b.drop i = R := ⟨_, rfl⟩
   have hRl : R.length = b.length - i := by rw [← hR, List.length_drop]
   obtain ⟨g, rfl⟩ : ∃ g, f = g + 1 := ⟨f - 1, by omega⟩
   rw [hR] at hop
   refine aQ rfl ?_
   refine aB ?_
   refine aR 1 rfl rfl ?_
   refine aA rfl ?_
   refine aA rfl ?_
   refine aC (Γ := aL) [19, 0, 4, 5, 6] (aD _ _) rfl rfl rfl (fun K hK => ?_)
   simp (disch := omega) only [Tryz.f64, go_sem, Nat.reduceAdd, ↓reduceIte]
   refine hK _ ?_
   refine aB ?_
   refine aW (.tmp 19) rfl rfl rfl (fun h => ?_) (fun h => ?_)
   ·skip
    refine aI rfl ?_
    rw [opR_short g last R (by omega) (by omega)] at hop
    refine aA rfl ?_
    refine aC (Γ := aL) [2, 3] (aD _ _) rfl rfl rfl (fun K hK => ?_)
    simp (disch := omega) only [Tryz.f64, go_sem, Nat.reduceAdd, ↓reduceIte]
    refine hK _ ?_
    refine aB ?_
    refine aS rfl ?_
    refine bI (bN (dF (bN (bI ?_))))
    simp (disch := omega) only [cN, bV, bK, bQ, Tryz.f64, go_sem, Int.reduceNeg, ↓reduceIte, hop, Option.map_none]
   ·skip
    refine aI rfl ?_
    have hR2 : 2 ≤ R.length := by omega
    rw [opR_two g last R hR2] at hop
    have hgd : ∀ k, b.getD (i + k) 0#8 = R.getD k 0#8 := fun k => by rw [← hR, drop_getD]
    have hg0 := hgd 0
    rw [Nat.add_zero] at hg0
    have hg1 := hgd 1
    obtain ⟨w, hw⟩ : ∃ w, R.getD 0 0#8 = w := ⟨_, rfl⟩
    obtain ⟨z, hz⟩ : ∃ z, R.getD 1 0#8 = z := ⟨_, rfl⟩
    rw [hw] at hg0
    rw [hz] at hg1
    rw [hw, hz] at hop
    have ei1 : ((i : Int) + 1).toNat = i + 1 := by omega
    refine aQ rfl ?_
    refine aB ?_
    refine aA rfl ?_
    refine bB (Γ := aL) (fun _ => 2) [0, 4, 5, 6, 7, 8] bZ (aD _ _) rfl rfl rfl (by kernel_rfl) (fun K hK => ?_)
    simp (disch := omega) only [Tryz.f64, go_sem, Nat.reduceAdd, ↓reduceIte, ei1, hg0, hg1]
    refine hK _ ?_
    refine aB ?_
    by_cases q1 : (w.toNat : Int) ≤ last
    ·skip
     have d1 : decide ((w.toNat : Int) ≤ last) = true := decide_eq_true q1
     rw [if_neg (fun hh => by omega)] at hop
     refine aA rfl ?_
     refine aA rfl ?_
     refine aC (Γ := aL) [60, 0, 4, 6, 7, 8] (aD _ _) rfl rfl rfl (fun K hK => ?_)
     simp (disch := omega) only [Tryz.f64, go_sem, Nat.reduceAdd, ↓reduceIte, d1]
     refine hK _ ?_
     refine aB ?_
     refine bA (.tmp 60) rfl rfl rfl (fun h => ?_) (fun h => ?_)
     ·skip
      refine aI rfl ?_
      refine aA rfl ?_
      refine aC (Γ := aL) [2, 3] (aD _ _) rfl rfl rfl (fun K hK => ?_)
      simp (disch := omega) only [Tryz.f64, go_sem, Nat.reduceAdd, ↓reduceIte]
      refine hK _ ?_
      refine aB ?_
      refine aS rfl ?_
      refine bI (bN (dF (bN (bI ?_))))
      simp (disch := omega) only [cN, bV, bK, bQ, Tryz.f64, go_sem, Int.reduceNeg, ↓reduceIte, hop, Option.map_none]
     ·skip
      refine aI rfl ?_
      cases h
    ·skip
     have d1 : decide ((w.toNat : Int) ≤ last) = false := decide_eq_false q1
     by_cases q2 : (z.toNat : Int) < 1
     ·skip
      have d2 : decide ((z.toNat : Int) < 1) = true := decide_eq_true q2
      rw [if_neg (fun hh => by omega)] at hop
      refine aA rfl ?_
      refine aA rfl ?_
      refine aC (Γ := aL) [60, 0, 4, 6, 7, 8] (aD _ _) rfl rfl rfl (fun K hK => ?_)
      simp (disch := omega) only [Tryz.f64, go_sem, Nat.reduceAdd, reduceCtorEq, ↓reduceIte, d1, d2]
      refine hK _ ?_
      refine aB ?_
      refine bA (.tmp 60) rfl rfl rfl (fun h => ?_) (fun h => ?_)
      ·skip
       refine aI rfl ?_
       refine aA rfl ?_
       refine aC (Γ := aL) [2, 3] (aD _ _) rfl rfl rfl (fun K hK => ?_)
       simp (disch := omega) only [Tryz.f64, go_sem, Nat.reduceAdd, ↓reduceIte]
       refine hK _ ?_
       refine aB ?_
       refine aS rfl ?_
       refine bI (bN (dF (bN (bI ?_))))
       simp (disch := omega) only [cN, bV, bK, bQ, Tryz.f64, go_sem, Int.reduceNeg, ↓reduceIte, hop, Option.map_none]
      ·skip
       refine aI rfl ?_
       cases h
     ·skip
      have d2 : decide ((z.toNat : Int) < 1) = false := decide_eq_false q2
      by_cases q3 : 32 < (z.toNat : Int)
      ·skip
       have d3 : decide (32 < (z.toNat : Int)) = true := decide_eq_true q3
       rw [if_neg (fun hh => by omega)] at hop
       refine aA rfl ?_
       refine aA rfl ?_
       refine aC (Γ := aL) [60, 0, 4, 6, 7, 8] (aD _ _) rfl rfl rfl (fun K hK => ?_)
       simp (disch := omega) only [Tryz.f64, go_sem, Nat.reduceAdd, reduceCtorEq, ↓reduceIte, d1, d2, d3]
       refine hK _ ?_
       refine aB ?_
       refine bA (.tmp 60) rfl rfl rfl (fun h => ?_) (fun h => ?_)
       ·skip
        refine aI rfl ?_
        refine aA rfl ?_
        refine aC (Γ := aL) [2, 3] (aD _ _) rfl rfl rfl (fun K hK => ?_)
        simp (disch := omega) only [Tryz.f64, go_sem, Nat.reduceAdd, ↓reduceIte]
        refine hK _ ?_
        refine aB ?_
        refine aS rfl ?_
        refine bI (bN (dF (bN (bI ?_))))
        simp (disch := omega) only [cN, bV, bK, bQ, Tryz.f64, go_sem, Int.reduceNeg, ↓reduceIte, hop, Option.map_none]
       ·skip
        refine aI rfl ?_
        cases h
      ·skip
       have d3 : decide (32 < (z.toNat : Int)) = false := decide_eq_false q3
       by_cases q4 : (b.length : Int) < (i : Int) + 2 + (z.toNat : Int)
       ·skip
        have d4 : decide ((b.length : Int) < (i : Int) + 2 + (z.toNat : Int)) = true := decide_eq_true q4
        rw [if_neg (fun hh => by omega)] at hop
        refine aA rfl ?_
        refine aA rfl ?_
        refine aC (Γ := aL) [60, 0, 4, 6, 7, 8] (aD _ _) rfl rfl rfl (fun K hK => ?_)
        simp (disch := omega) only [Tryz.f64, go_sem, Nat.reduceAdd, reduceCtorEq, ↓reduceIte, d1, d2, d3, d4]
        refine hK _ ?_
        refine aB ?_
        refine bA (.tmp 60) rfl rfl rfl (fun h => ?_) (fun h => ?_)
        ·skip
         refine aI rfl ?_
         refine aA rfl ?_
         refine aC (Γ := aL) [2, 3] (aD _ _) rfl rfl rfl (fun K hK => ?_)
         simp (disch := omega) only [Tryz.f64, go_sem, Nat.reduceAdd, ↓reduceIte]
         refine hK _ ?_
         refine aB ?_
         refine aS rfl ?_
         refine bI (bN (dF (bN (bI ?_))))
         simp (disch := omega) only [cN, bV, bK, bQ, Tryz.f64, go_sem, Int.reduceNeg, ↓reduceIte, hop, Option.map_none]
        ·skip
         refine aI rfl ?_
         cases h
       ·skip
        have d4 : decide ((b.length : Int) < (i : Int) + 2 + (z.toNat : Int)) = false := decide_eq_false q4
        have ei2 : ((i : Int) + 1 + (z.toNat : Int)).toNat = i + 1 + z.toNat := by omega
        by_cases q5 : b.getD (i + 1 + z.toNat) 0#8 = 0#8
        ·skip
         have d5 : decide (b.getD (i + 1 + z.toNat) 0#8 = 0#8) = true := decide_eq_true q5
         rw [if_neg (fun hh => by have h5 := hgd (1 + z.toNat); rw [← Nat.add_assoc, q5] at h5; exact hh.2.2.2.2 h5.symm)] at hop
         refine aA rfl ?_
         refine aA rfl ?_
         refine aC (Γ := aL) [60, 0, 4, 6, 7, 8] (aD _ _) rfl rfl rfl (fun K hK => ?_)
         simp (disch := omega) only [Tryz.f64, go_sem, Nat.reduceAdd, Int.reduceLE, Int.reduceLT, BitVec.reduceOfInt, reduceCtorEq, ↓reduceIte, d1, d2, d3, d4, d5, ei2]
         refine hK _ ?_
         refine aB ?_
         refine bA (.tmp 60) rfl rfl rfl (fun h => ?_) (fun h => ?_)
         ·skip
          refine aI rfl ?_
          refine aA rfl ?_
          refine aC (Γ := aL) [2, 3] (aD _ _) rfl rfl rfl (fun K hK => ?_)
          simp (disch := omega) only [Tryz.f64, go_sem, Nat.reduceAdd, ↓reduceIte]
          refine hK _ ?_
          refine aB ?_
          refine aS rfl ?_
          refine bI (bN (dF (bN (bI ?_))))
          simp (disch := omega) only [cN, bV, bK, bQ, Tryz.f64, go_sem, Int.reduceNeg, ↓reduceIte, hop, Option.map_none]
         ·skip
          refine aI rfl ?_
          cases h
        ·skip
         have d5 : decide (b.getD (i + 1 + z.toNat) 0#8 = 0#8) = false := decide_eq_false q5
         have q6 : R.getD (1 + z.toNat) 0#8 ≠ 0#8 := by rw [← hgd, ← Nat.add_assoc]; exact q5
         rw [if_pos ⟨by omega, by omega, by omega, by omega, q6⟩] at hop
         refine aA rfl ?_
         refine aA rfl ?_
         refine aC (Γ := aL) [60, 0, 4, 6, 7, 8] (aD _ _) rfl rfl rfl (fun K hK => ?_)
         simp (disch := omega) only [Tryz.f64, go_sem, Nat.reduceAdd, Int.reduceLE, Int.reduceLT, BitVec.reduceOfInt, reduceCtorEq, ↓reduceIte, d1, d2, d3, d4, d5, ei2]
         refine hK _ ?_
         refine aB ?_
         refine bA (.tmp 60) rfl rfl rfl (fun h => ?_) (fun h => ?_)
         ·skip
          refine aI rfl ?_
          cases h
         ·skip
          refine aI rfl ?_
          clear h
          refine aQ rfl ?_
          refine aB ?_
          refine aA rfl ?_
          refine aA rfl ?_
          refine aC (Γ := aL) [0, 4, 6, 7, 8, 9] (aD _ _) rfl rfl rfl (fun K hK => ?_)
          simp (disch := omega) only [Tryz.f64, go_sem, ↓reduceIte]
          refine hK _ ?_
          refine aB ?_
          obtain ⟨bs, hbs⟩ : ∃ bs, (R.drop 2).take z.toNat = bs := ⟨_, rfl⟩
          have hbl : bs.length = z.toNat := by rw [← hbs, List.length_take, List.length_drop]; omega
          have hbd : ∀ k, k < z.toNat → b.getD (i + 2 + k) 0#8 = bs.getD k 0#8 := fun k hk => by rw [← hbs, take_getD _ _ _ hk, drop_getD, Nat.add_assoc, hgd]
          rw [hbs] at hop
          refine aR 2 rfl rfl ?_
          refine bR (fun p : KOC => { fr := [(0, .sl b.length (c8 b)), (4, .os p.id 0 (out ++ decP w.toNat bs (8 * p.k)).length 1 true), (6, .i i), (7, .i w.toNat), (8, .i z.toNat), (9, .i p.k)], hp := upd (fun _ => none) p.id (.cells (c16 (out ++ decP w.toNat bs (8 * p.k))) true), nx := 0, cx := p.c }) (fun p => p.k ≤ z.toNat ∧ p.id < p.c) (fun p => z.toNat - p.k) rfl ⟨⟨0, id, _⟩, ⟨Nat.zero_le _, by simp only; omega⟩, ⟨fun _ => .inr (by simp only [Nat.mul_zero, decP_zero, List.append_nil]; rfl), fun a b h => by simp only [Nat.mul_zero, decP_zero, List.append_nil] at h; exact h, Nat.le_refl _⟩⟩ ?_
          rintro ⟨k, id2, c2⟩ ⟨hk, hid2⟩ n0
          simp only at hk hid2 ⊢
          refine aA rfl ?_
          refine aA rfl ?_
          refine aC (Γ := aL) [63, 0, 4, 6, 7, 8, 9] (aD _ _) rfl rfl rfl (fun K hK => ?_)
          simp (disch := omega) only [Tryz.f64, go_sem, Nat.reduceAdd, ↓reduceIte]
          refine hK _ ?_
          refine aB ?_
          refine aW (.tmp 63) rfl rfl rfl (fun h => ?_) (fun h => ?_)
          ·skip
           refine aI rfl ?_
           have hkz : k < z.toNat := by omega
           refine aQ rfl ?_
           refine aB ?_
           refine aA rfl ?_
           refine aR 3 rfl rfl ?_
           refine aA rfl ?_
           refine aC (Γ := aL) [0, 4, 6, 7, 8, 9, 10] (aD _ _) rfl rfl rfl (fun K hK => ?_)
           simp (disch := omega) only [Tryz.f64, go_sem, ↓reduceIte]
           refine hK _ ?_
           refine aB ?_
           refine aR 4 rfl rfl ?_
           refine bR (fun p : KOC => { fr := [(0, .sl b.length (c8 b)), (4, .os p.id 0 (out ++ decP w.toNat bs (8 * k + p.k)).length 1 true), (6, .i i), (7, .i w.toNat), (8, .i z.toNat), (9, .i k), (10, .i p.k)], hp := upd (fun _ => none) p.id (.cells (c16 (out ++ decP w.toNat bs (8 * k + p.k))) true), nx := 0, cx := p.c }) (fun p => p.k ≤ 8 ∧ p.id < p.c) (fun p => 8 - p.k) rfl ⟨⟨0, id2, _⟩, ⟨Nat.zero_le _, by simp only; omega⟩, ⟨fun _ => .inr (by simp only [Nat.add_zero, List.length_append]; rfl), fun a b h => h, Nat.le_refl _⟩⟩ ?_
           rintro ⟨j, id3, c3⟩ ⟨hj, hid3⟩ n0
           simp only at hj hid3 ⊢
           have hdl := decP_len w.toNat bs (8 * k + j)
           refine aA rfl ?_
           refine aA rfl ?_
           refine aC (Γ := aL) [67, 0, 4, 6, 7, 8, 9, 10] (aD _ _) rfl rfl rfl (fun K hK => ?_)
           simp (disch := omega) only [Tryz.f64, go_sem, Nat.reduceAdd, ↓reduceIte]
           refine hK _ ?_
           refine aB ?_
           refine aW (.tmp 67) rfl rfl rfl (fun h => ?_) (fun h => ?_)
           ·skip
            refine aI rfl ?_
            have hj8 : j < 8 := by omega
            have hq1 : (8 * k + j) / 8 = k := by omega
            have hq2 : (8 * k + j) % 8 = j := by omega
            have hbk := hbd k hkz
            have ei3 : ((i : Int) + 2 + (k : Int)).toNat = i + 2 + k := by omega
            refine aQ rfl ?_
            refine aB ?_
            refine aA rfl ?_
            refine aR 5 rfl rfl ?_
            refine aA rfl ?_
            refine bB (Γ := aL) (fun k => if k = 6 then 0 else 2) [80, 0, 4, 6, 7, 8, 9, 10] bZ (aD _ _) rfl rfl rfl (by kernel_rfl) (fun K hK => ?_)
            simp (disch := omega) only [Tryz.f64, go_sem, Nat.reduceAdd, Int.reduceLE, Int.reduceLT, BitVec.reduceOfInt, ↓reduceIte, ei3, hbk, Int.toNat_natCast, bit8_eq]
            refine hK _ ?_
            refine aB ?_
            refine awp_ifE (.tmp 80) rfl rfl rfl (fun h => ?_) (fun h => ?_)
            ·skip
             refine aI rfl ?_
             have hst := decP_yes w.toNat bs (8 * k + j) (by rw [hq1, hq2]; exact h)
             have hl2 : (out ++ decP w.toNat bs (8 * k + j + 1)).length = out.length + (decP w.toNat bs (8 * k + j)).length + 1 := by rw [hst]; simp only [List.length_append, List.length_cons, List.length_nil]; omega
             have hr2 : out ++ decP w.toNat bs (8 * k + j) ++ [BitVec.ofNat 16 (w.toNat * 256 + (8 * k + j))] = out ++ decP w.toNat bs (8 * k + j + 1) := by rw [hst, List.append_assoc]
             refine aC (Γ := aL) [0, 4, 6, 7, 8, 9, 10] (aD _ _) rfl rfl rfl (fun K hK => ?_)
             simp (disch := omega) only [Tryz.f64, go_sem, Nat.reduceAdd, Nat.reduceLeDiff, Nat.reduceLT, ↓reduceIte, typ_num2, c16_app1]
             refine hK _ ?_
             refine bU (aB ?_)
             refine aC (Γ := aL) [0, 4, 6, 7, 8, 9, 10] (aD _ _) rfl rfl rfl (fun K hK => ?_)
             simp (disch := omega) only [Tryz.f64, go_sem, Nat.reduceAdd, ↓reduceIte]
             refine hK _ ?_
             refine bT ?_
             refine ⟨⟨j + 1, c3 + 2 + 11 + 10, _⟩, ⟨by simp only; omega, by simp only; omega⟩, by simp only; omega, ⟨fun _ => .inr ?_, fun j o h => ?_, Nat.le_refl _⟩⟩
             ·simp only [← Nat.add_assoc, hl2, Int.natCast_add, Int.natCast_one]
             ·simp only [← Nat.add_assoc] at h
              exact bS (by simp (disch := omega) only [aV, ↓reduceIte, eq_self, hr2]) (cB) j o h
            ·skip
             refine aI rfl ?_
             have hst := decP_no w.toNat bs (8 * k + j) (by rw [hq1, hq2]; exact h)
             refine aQ rfl ?_
             refine bU (aB ?_)
             refine aC (Γ := aL) [0, 4, 6, 7, 8, 9, 10] (aD _ _) rfl rfl rfl (fun K hK => ?_)
             simp (disch := omega) only [Tryz.f64, go_sem, Nat.reduceAdd, ↓reduceIte]
             refine hK _ ?_
             refine bT ?_
             refine ⟨⟨j + 1, id3, _⟩, ⟨by simp only; omega, by simp only; omega⟩, by simp only; omega, ⟨fun _ => .inr ?_, fun j o h => ?_, Nat.le_refl _⟩⟩
             ·simp only [← Nat.add_assoc, hst, List.length_append, Int.natCast_add, Int.natCast_one]
             ·simp only [← Nat.add_assoc] at h
              exact bS (by simp (disch := omega) only [aV, ↓reduceIte, eq_self, hst]) (cB) j o h
           ·skip
            refine aI rfl ?_
            obtain rfl : j = 8 := by omega
            have h88 : 8 * k + 8 = 8 * (k + 1) := by omega
            refine bF 4 rfl rfl ?_
            refine aY (aZ (bE ?_))
            refine bU (aB ?_)
            refine aC (Γ := aL) [0, 4, 6, 7, 8, 9] (aD _ _) rfl rfl rfl (fun K hK => ?_)
            simp (disch := omega) only [Tryz.f64, go_sem, Nat.reduceAdd, ↓reduceIte, h88]
            refine hK _ ?_
            refine bT ?_
            refine ⟨⟨k + 1, id3, _⟩, ⟨by simp only; omega, by simp only; omega⟩, by simp only; omega, ⟨fun _ => .inr ?_, fun j o h => ?_, Nat.le_refl _⟩⟩
            ·simp only [List.length_append, Int.natCast_add, Int.natCast_one]
            ·simp only at h
             exact bS (by simp (disch := omega) only [aV, ↓reduceIte, eq_self]) (cB) j o h
          ·skip
           refine aI rfl ?_
           obtain rfl : k = z.toNat := by omega
           have hall := decP_all w.toNat bs (8 * z.toNat) (by omega)
           have hdl := decP_len w.toNat bs (8 * z.toNat)
           rw [hall] at hdl
           have hrd : R.drop (2 + z.toNat) = b.drop (i + (2 + z.toNat)) := by rw [← hR, List.drop_drop]
           refine bF 2 rfl rfl ?_
           refine aY (aZ (bE ?_))
           refine aB ?_
           refine aA rfl ?_
           refine aC (Γ := aL) [0, 4, 5, 6, 8] (aD _ _) rfl rfl rfl (fun K hK => ?_)
           simp (disch := omega) only [Tryz.f64, go_sem, Nat.reduceAdd, ↓reduceIte, hall]
           refine hK _ ?_
           refine aB ?_
           refine aC (Γ := aL) [0, 4, 5, 6] (aD _ _) rfl rfl rfl (fun K hK => ?_)
           simp (disch := omega) only [Tryz.f64, go_sem, Nat.reduceAdd, ↓reduceIte]
           refine hK _ ?_
           refine bU (bT ?_)
           refine ⟨⟨i + (2 + z.toNat), g, (w.toNat : Int), id2, out ++ decL w.toNat bs, _⟩, ⟨by simp only; omega, by simp only; omega, ?_, by simp only [List.length_append]; omega, by simp only; omega⟩, by simp only; omega, ⟨fun _ => .inr ?_, fun j o h => ?_, Nat.le_refl _⟩⟩
           ·rw [hop, hrd]
            cases opR g (w.toNat : Int) (b.drop (i + (2 + z.toNat))) with
            | none => rfl
            | some l => simp
           ·simp only [List.length_append, Int.natCast_add]
            rfl
           ·simp only at h
            exact bS (by simp (disch := omega) only [aV, ↓reduceIte, eq_self]) (cB) j o h
  ·skip
   refine aI rfl ?_
   obtain rfl : i = b.length := by omega
   rw [List.drop_length] at hop
   obtain ⟨g, rfl⟩ : ∃ g, f = g + 1 := ⟨f - 1, by omega⟩
   have hop2 : ans = some out := by rw [hop]; simp [opR]
   refine bF 0 rfl rfl ?_
   refine aY (aZ (bE ?_))
   refine aB ?_
   refine aA rfl ?_
   refine aC (Γ := aL) [2, 3] (aD _ _) rfl rfl rfl (fun K hK => ?_)
   simp (disch := omega) only [Tryz.f64, go_sem, Nat.reduceAdd, ↓reduceIte]
   refine hK _ ?_
   refine aB ?_
   refine aS rfl ?_
   simp (disch := omega) only [cN, bV, bK, bQ, Tryz.f64, go_sem, Int.reduceNeg, ↓reduceIte, hop2]
 ·cases hg
theorem ok62 : bX Tryz.prog GLh 64 (.pure false opnG) := ⟨⟨_, Tryz.func64, rfl, rfl⟩, ropn_ok⟩
end Go.AX
namespace Go.AX
open Go Go.Proofs
def getG : List AV → Option AV
 | [.sl n xs] => aK (cI xs) fun l => aN (l.length = n ∧ n ≤ 100000) (some (.w32 (eK l)))
 | _ => none
theorem getG_eq (n : Nat) (xs : List AV) : getG [.sl n xs] = aK (cI xs) fun l => aN (l.length = n ∧ n ≤ 100000) (some (.w32 (eK l))) := (rfl)
attribute [go_sem] getG_eq
set_option maxHeartbeats 2000000 in
theorem get_ok : cL Tryz.prog GLh 53 getG := by
 refine cC Tryz.func53 (aT rfl) ?_
 intro args r hg
 unfold getG at hg
 split at hg
 ·rename_i n xs
  replace hg := aJ hg; obtain ⟨l, hl, hg⟩ := hg
  replace hg := aP hg; obtain ⟨⟨rfl, hn⟩, hg⟩ := hg
  obtain rfl := Option.some.inj hg
  have := bW hl; subst this
  refine ⟨Nat.le_of_ble_eq_true rfl, fun nx => ?_⟩
  clear hl hg
  refine aA rfl ?_
  refine aC (Γ := aL) [0] (aD _ _) rfl rfl rfl (fun K hK => ?_)
  simp (disch := omega) only [Tryz.f53, go_sem, Int.reduceLE, Int.reduceLT, BitVec.reduceOfInt, ↓reduceIte]
  refine hK _ ?_
  refine aB ?_
  refine aA rfl ?_
  refine aC (Γ := aL) [0, 3] (aD _ _) rfl rfl rfl (fun K hK => ?_)
  simp (disch := omega) only [Tryz.f53, go_sem, Int.reduceLE, Int.reduceLT, BitVec.reduceOfInt, ↓reduceIte]
  refine hK _ ?_
  refine aB ?_
  refine aA rfl ?_
  refine aA rfl ?_
  refine aC (Γ := aL) [0, 3, 4] (aD _ _) rfl rfl rfl (fun K hK => ?_)
  simp (disch := omega) only [Tryz.f53, go_sem, ↓reduceIte]
  refine hK _ ?_
  refine aB ?_
  refine aR 0 rfl rfl ?_
  refine bR (fun p : KC5 => { fr := [(0, .sl l.length (c8 l)), (3, .w32 (eK (l.take p.k))), (4, .i (p.k : Int))], hp := fun _ => none, nx := 0, cx := p.c }) (fun p => p.k ≤ l.length) (fun p => l.length - p.k) rfl ⟨⟨0, _⟩, Nat.zero_le _, bD rfl rfl (Nat.le_refl _)⟩ ?_
  rintro ⟨i, c⟩ hi n0
  simp only at hi ⊢
  refine aA rfl ?_
  refine aA rfl ?_
  refine aC (Γ := aL) [8, 0, 3, 4] (aD _ _) rfl rfl rfl (fun K hK => ?_)
  simp (disch := omega) only [Tryz.f53, go_sem, Nat.reduceAdd, ↓reduceIte]
  refine hK _ ?_
  refine aB ?_
  refine aW (.tmp 8) rfl rfl rfl (fun h => ?_) (fun h => ?_)
  ·skip
   refine aI rfl ?_
   have hil : i < l.length := by omega
   have hix := idF8 l i hil
   have hst := getL_take l i hil
   refine aQ rfl ?_
   refine aB ?_
   refine aA rfl ?_
   refine aR 1 rfl rfl ?_
   refine aC (Γ := aL) [0, 3, 4] (aD _ _) rfl rfl rfl (fun K hK => ?_)
   simp (disch := omega) only [Tryz.f53, go_sem, Nat.reduceAdd, Int.reduceLE, Int.reduceLT, BitVec.reduceOfInt, BitVec.reduceToNat, ↓reduceIte]
   refine hK _ ?_
   refine bU (aB ?_)
   refine aC (Γ := aL) [0, 3, 4] (aD _ _) rfl rfl rfl (fun K hK => ?_)
   simp (disch := omega) only [Tryz.f53, go_sem, Nat.reduceAdd, ↓reduceIte]
   refine hK _ ?_
   refine bT ?_
   refine ⟨⟨i + 1, _⟩, by simp only; omega, by simp only; omega, bD ?_ rfl (Nat.le_refl _)⟩
   simp only [hst, Int.natCast_add, Int.natCast_one]
  ·skip
   refine aI rfl ?_
   obtain rfl : i = l.length := by omega
   have e1 : l.take l.length = l := List.take_length
   refine bF 0 rfl rfl ?_
   refine aY (aZ (bE ?_))
   refine aB ?_
   refine aA rfl ?_
   refine aC (Γ := aL) [2] (aD _ _) rfl rfl rfl (fun K hK => ?_)
   simp (disch := omega) only [Tryz.f53, go_sem, Nat.reduceAdd, ↓reduceIte, e1]
   refine hK _ ?_
   refine aB ?_
   refine aS rfl ?_
   simp (disch := omega) only [cN, bV, bK, bQ, Tryz.f53, go_sem, ↓reduceIte]
 ·cases hg
theorem ok51 : bX Tryz.prog GLh 53 (.pure true getG) := ⟨⟨_, Tryz.func53, rfl, rfl⟩, get_ok⟩
set_option maxHeartbeats 4000000 in
theorem ropen_ok : cL Tryz.prog GLh 23 iH := by
 refine cC Tryz.func23 (aT rfl) ?_
 intro args r hg
 unfold iH at hg
 split at hg
 ·rename_i n xs
  replace hg := aJ hg; obtain ⟨b, hl, hg⟩ := hg
  replace hg := aP hg; obtain ⟨⟨rfl, hn⟩, hg⟩ := hg
  obtain rfl := Option.some.inj hg
  have := bW hl; subst this
  refine ⟨Nat.le_of_ble_eq_true rfl, fun nx => ?_⟩
  clear hl hg
  obtain ⟨ans, hans⟩ : ∃ a, opN (b.length + 1) b = a := ⟨_, rfl⟩
  have hok : ∀ n s, ans = some (n, s) → wl n = s := fun n s e => (opN_ok _ _ _ _ (hans.trans e)).2.1
  rw [hans]
  have hadd : addN [] 0 (opN (b.length + 1) (b.drop 0)) = ans := by
   rw [List.drop_zero, hans]
   cases ans with
   | none => rfl
   | some p => obtain ⟨n, s⟩ := p; simp [addN]
  refine aA rfl ?_
  refine aC (Γ := aL) [0] (aD _ _) rfl rfl rfl (fun K hK => ?_)
  simp (disch := omega) only [Tryz.f23, go_sem, Nat.reduceAdd, ↓reduceIte]
  refine hK _ ?_
  refine aB ?_
  refine aA rfl ?_
  refine aC (Γ := aL) [0, 5] (aD _ _) rfl rfl rfl (fun K hK => ?_)
  simp (disch := omega) only [Tryz.f23, go_sem, ↓reduceIte]
  refine hK _ ?_
  refine aB ?_
  refine aA rfl ?_
  refine aC (Γ := aL) [0, 5, 6] (aD _ _) rfl rfl rfl (fun K hK => ?_)
  simp (disch := omega) only [Tryz.f23, go_sem, ↓reduceIte]
  refine hK _ ?_
  refine aB ?_
  refine iE 5 1 rfl ?_
  refine fF [0, 5, 6] ?_
  simp only [iB, fU, eB, ↓reduceIte, Nat.reduceEqDiff]
  refine aA rfl ?_
  refine aR 0 rfl rfl ?_
  refine bR (fun p : SON => { fr := [(0, .sl b.length (c8 b)), (5, .os p.id 0 p.ns.length 1 true), (6, .i (p.i : Int))], hp := upd (fun _ => none) p.id (.cells (cS p.ns) true), nx := 0, cx := p.c }) (fun p => p.i ≤ b.length ∧ p.ns.length ≤ p.i ∧ b.length < p.i + p.f ∧ addN p.ns p.i (opN p.f (b.drop p.i)) = ans ∧ p.id < p.c) (fun p => b.length - p.i) rfl ⟨⟨0, b.length + 1, _, [], _⟩, ⟨Nat.zero_le _, Nat.zero_le _, by simp only; omega, hadd, by simp only; omega⟩, bD rfl rfl (Nat.le_refl _)⟩ ?_
  rintro ⟨i, f, id, ns, cx⟩ ⟨hi, hnl, hf, hop, hid⟩ n0
  simp only at hi hnl hf hop hid ⊢
  refine aR 1 rfl rfl ?_
  refine aA rfl ?_
  refine aA rfl ?_
  refine aC (Γ := aL) [11, 0, 5, 6] (aD _ _) rfl rfl rfl (fun K hK => ?_)
  simp (disch := omega) only [Tryz.f23, go_sem, Nat.reduceAdd, ↓reduceIte]
  refine hK _ ?_
  refine aB ?_
  refine aW (.tmp 11) rfl rfl rfl (fun h => ?_) (fun h => ?_)
  ·skip
   refine aI rfl ?_
   obtain ⟨g, rfl⟩ : ∃ g, f = g + 1 := ⟨f - 1, by omega⟩
   have hno : ans = none := by
    rw [← hop, List.drop_of_length_le (by omega), opN_nil]; rfl
   rw [hno]
   refine aA rfl ?_
   refine aC (Γ := aL) [2, 3, 4] (aD _ _) rfl rfl rfl (fun K hK => ?_)
   simp (disch := omega) only [Tryz.f23, go_sem, Nat.reduceAdd, ↓reduceIte]
   refine hK _ ?_
   refine aB ?_
   refine aS rfl ?_
   refine bI (bN (dF (bN (bI ?_))))
   simp (disch := omega) only [cN, bV, bK, bQ, Tryz.f23, go_sem, ↓reduceIte, cauR]
  ·skip
   refine aI rfl ?_
   have hil : i < b.length := by omega
   obtain ⟨g, rfl⟩ : ∃ g, f = g + 1 := ⟨f - 1, by omega⟩
   have hend := opN_end (f := g) hil
   have hbad := opN_bad (f := g) hil
   have hstep := opN_step (f := g) ns hil
   obtain ⟨k, hk⟩ : ∃ k, b.getD i 0#8 = k := ⟨_, rfl⟩
   rw [hk] at hend hbad hstep
   have hkl := k.isLt
   refine aQ rfl ?_
   refine aB ?_
   refine aA rfl ?_
   refine aC (Γ := aL) [0, 5, 6, 7] (aD _ _) rfl rfl rfl (fun K hK => ?_)
   simp (disch := omega) only [Tryz.f23, go_sem, Nat.reduceAdd, ↓reduceIte, hk]
   refine hK _ ?_
   refine aB ?_
   refine aA rfl ?_
   refine aA rfl ?_
   refine aC (Γ := aL) [18, 0, 5, 6, 7] (aD _ _) rfl rfl rfl (fun K hK => ?_)
   simp (disch := omega) only [Tryz.f23, go_sem, Nat.reduceAdd, ↓reduceIte]
   refine hK _ ?_
   refine aB ?_
   refine aW (.tmp 18) rfl rfl rfl (fun h => ?_) (fun h => ?_)
   ·skip
    refine aI rfl ?_
    have hyes : ans = some (ns, i + 1) := by rw [← hop, hend (by omega)]; simp [addN]
    have hw := hok ns (i + 1) hyes
    rw [hyes]
    refine bF 0 rfl rfl ?_
    refine aY (nx_ex_out (aZ (bE ?_)) rfl)
    refine aB ?_
    refine aA rfl ?_
    refine aA rfl ?_
    refine aC (Γ := aL) [48, 5, 6] (aD _ _) rfl rfl rfl (fun K hK => ?_)
    simp (disch := omega) only [Tryz.f23, go_sem, Nat.reduceAdd, ↓reduceIte]
    refine hK _ ?_
    refine aB ?_
    refine aW (.tmp 48) rfl rfl rfl (fun h => ?_) (fun h => ?_)
    ·skip
     refine aI rfl ?_
     have e : cauR (some (ns, i + 1)) = .tup [.sl 0 [], .i 0, .i 31] := if_pos (by omega)
     rw [e]
     refine aA rfl ?_
     refine aC (Γ := aL) [2, 3, 4] (aD _ _) rfl rfl rfl (fun K hK => ?_)
     simp (disch := omega) only [Tryz.f23, go_sem, Nat.reduceAdd, ↓reduceIte]
     refine hK _ ?_
     refine aB ?_
     refine aS rfl ?_
     refine bI ?_
     simp (disch := omega) only [cN, bV, bK, bQ, Tryz.f23, go_sem, ↓reduceIte]
    ·skip
     refine aI rfl ?_
     have e : cauR (some (ns, i + 1)) = .tup [.sl ns.length (cS ns), .i ((i + 1 : Nat) : Int), .i 0] := if_neg (by omega)
     rw [e]
     have ei : (i : Int) + 1 = ((i + 1 : Nat) : Int) := rfl
     refine aQ rfl ?_
     refine aB ?_
     refine aA rfl ?_
     refine aC (Γ := aL) [2, 3, 4] (aD _ _) rfl rfl rfl (fun K hK => ?_)
     simp (disch := omega) only [Tryz.f23, go_sem, Nat.reduceAdd, ↓reduceIte, ei]
     refine hK _ ?_
     refine aB ?_
     refine aS rfl ?_
     simp (disch := omega) only [cN, bV, bK, bQ, Tryz.f23, go_sem, ↓reduceIte]
   ·skip
    refine aI rfl ?_
    refine aQ rfl ?_
    refine aB ?_
    refine aA rfl ?_
    refine aA rfl ?_
    by_cases h63 : 63 < k.toNat
    ·skip
     have d : decide (63 < (k.toNat : Int)) = true := decide_eq_true (by omega)
     have hno : ans = none := by rw [← hop, hbad (by omega) (.inl (by omega))]; rfl
     rw [hno]
     refine aC (Γ := aL) [29, 0, 5, 6, 7] (aD _ _) rfl rfl rfl (fun K hK => ?_)
     simp (disch := omega) only [Tryz.f23, go_sem, Nat.reduceAdd, ↓reduceIte, d]
     refine hK _ ?_
     refine aB ?_
     refine bA (.tmp 29) rfl rfl rfl (fun h => ?_) (fun h => ?_)
     ·skip
      refine aI rfl ?_
      refine aA rfl ?_
      refine aC (Γ := aL) [2, 3, 4] (aD _ _) rfl rfl rfl (fun K hK => ?_)
      simp (disch := omega) only [Tryz.f23, go_sem, Nat.reduceAdd, ↓reduceIte]
      refine hK _ ?_
      refine aB ?_
      refine aS rfl ?_
      refine bI (bN (dF (bN (bI ?_))))
      simp (disch := omega) only [cN, bV, bK, bQ, Tryz.f23, go_sem, ↓reduceIte, cauR]
     ·skip
      refine aI rfl ?_
      cases h
    ·skip
     have d : decide (63 < (k.toNat : Int)) = false := decide_eq_false (by omega)
     refine aC (Γ := aL) [29, 0, 5, 6, 7] (aD _ _) rfl rfl rfl (fun K hK => ?_)
     simp (disch := omega) only [Tryz.f23, go_sem, Nat.reduceAdd, reduceCtorEq, ↓reduceIte, d]
     refine hK _ ?_
     refine aB ?_
     refine aW (.tmp 29) rfl rfl rfl (fun h => ?_) (fun h => ?_)
     ·skip
      refine aI rfl ?_
      have hno : ans = none := by rw [← hop, hbad (by omega) (.inr (by omega))]; rfl
      rw [hno]
      refine aA rfl ?_
      refine aC (Γ := aL) [2, 3, 4] (aD _ _) rfl rfl rfl (fun K hK => ?_)
      simp (disch := omega) only [Tryz.f23, go_sem, Nat.reduceAdd, ↓reduceIte]
      refine hK _ ?_
      refine aB ?_
      refine aS rfl ?_
      refine bI (bN (dF (bN (bI ?_))))
      simp (disch := omega) only [cN, bV, bK, bQ, Tryz.f23, go_sem, ↓reduceIte, cauR]
     ·skip
      refine aI rfl ?_
      have hst := hstep (by omega) (by omega) (by omega)
      rw [hop] at hst
      have e1 : ((i : Int) + 1).toNat = i + 1 := by omega
      have e2 : ((i : Int) + 1 + (k.toNat : Int)).toNat = i + 1 + k.toNat := by omega
      have e3 : i + 1 + k.toNat - (i + 1) = k.toNat := by omega
      obtain ⟨d8, hd⟩ : ∃ d, (b.drop (i + 1)).take k.toNat = d := ⟨_, rfl⟩
      have hdl : d8.length = k.toNat := by rw [← hd, List.length_take, List.length_drop]; omega
      rw [hd] at hst
      refine aQ rfl ?_
      refine aB ?_
      refine aA rfl ?_
      refine aC (Γ := aL) [0, 5, 6, 7] (aD _ _) rfl rfl rfl (fun K hK => ?_)
      simp (disch := omega) only [Tryz.f23, go_sem, Nat.reduceAdd, Nat.reduceLeDiff, Nat.reduceLT, ↓reduceIte, e1, e2, e3, hd, hdl]
      refine hK _ ?_
      refine aB ?_
      have e4 : (i : Int) + (1 + (k.toNat : Int)) = ((i + 1 + k.toNat : Nat) : Int) := by omega
      refine aC (Γ := aL) [0, 5, 6] (aD _ _) rfl rfl rfl (fun K hK => ?_)
      simp (disch := omega) only [Tryz.f23, go_sem, Nat.reduceAdd, ↓reduceIte, e4]
      refine hK _ ?_
      refine bU (bT ?_)
      have hsn : cS ns ++ [AV.s d8] = cS (ns ++ [d8]) := cS_app ns [d8]
      refine ⟨⟨i + 1 + k.toNat, g, cx + 4 + 6 + 2 + 11 + 11, ns ++ [d8], _⟩, ⟨by simp only; omega, by simp only [List.length_append, List.length_singleton]; omega, by simp only; omega, hst.symm, by simp only; omega⟩, by simp only; omega, ⟨fun _ => .inr ?_, fun j o h => ?_, Nat.le_refl _⟩⟩
      ·simp only [List.length_append, List.length_singleton, Int.natCast_add, Int.natCast_one]
      ·simp only at h
       exact bS (by simp (disch := omega) only [aV, ↓reduceIte, eq_self, hsn]) (cB) j o h
 ·cases hg
theorem ok50 : bX Tryz.prog GLh 23 (.pure false iH) := ⟨⟨_, Tryz.func23, rfl, rfl⟩, ropen_ok⟩
end Go.AX
namespace Go.AX
open Go Go.Proofs
theorem len_td (l : List B8) (p k : Nat) (h : p + k ≤ l.length) : ((l.drop p).take k).length = k := by rw [List.length_take, List.length_drop]; omega
theorem len_t (l : List B8) (k : Nat) (h : k ≤ l.length) : (l.take k).length = k := by rw [List.length_take]; omega
set_option maxHeartbeats 4000000 in
theorem rkey_ok : cL Tryz.prog GLh 39 keyG := by
 refine cC Tryz.func39 (aT rfl) ?_
 intro args r hg
 unfold keyG at hg
 split at hg
 ·rename_i n xs
  replace hg := aJ hg; obtain ⟨l, hl, hg⟩ := hg
  replace hg := aP hg; obtain ⟨⟨rfl, hnb⟩, hg⟩ := hg
  obtain rfl := Option.some.inj hg
  have := bW hl; subst this
  refine ⟨Nat.le_of_ble_eq_true rfl, fun nx => ?_⟩
  clear hl hg
  have hdl : (l.drop 4).length = l.length - 4 := List.length_drop ..
  have et : (l.drop 4).take (l.length - 4) = l.drop 4 := List.take_of_length_le (by omega)
  unfold keyT gE
  refine aA rfl ?_
  refine aC (Γ := aL) [0, 2] (aD _ _) rfl rfl rfl (fun K hK => ?_)
  simp (disch := omega) only [Tryz.f39, go_sem, Nat.reduceAdd, ↓reduceIte]
  refine hK _ ?_
  refine aB ?_
  refine aA rfl ?_
  refine aA rfl ?_
  refine aC (Γ := aL) [6, 0, 2] (aD _ _) rfl rfl rfl (fun K hK => ?_)
  simp (disch := omega) only [Tryz.f39, go_sem, Nat.reduceAdd, ↓reduceIte]
  refine hK _ ?_
  refine aB ?_
  refine aW (.tmp 6) rfl rfl rfl (fun h => ?_) (fun h => ?_)
  ·skip
   refine aI rfl ?_
   rw [if_neg (by omega), rdT_n]
   refine aA rfl ?_
   refine aC (Γ := aL) [2, 3] (aD _ _) rfl rfl rfl (fun K hK => ?_)
   simp (disch := omega) only [Tryz.f39, go_sem, Nat.reduceAdd, Nat.reduceLeDiff, ↓reduceIte]
   refine hK _ ?_
   refine aB ?_
   refine aS rfl ?_
   refine bI ?_
   simp (disch := omega) only [cN, bV, bK, bQ, Tryz.f39, go_sem, Nat.reduceAdd, Nat.reduceLeDiff, ↓reduceIte]
  ·skip
   refine aI rfl ?_
   rw [if_pos (by omega), fO _ _ _ rfl]
   unfold keyA
   refine aQ rfl ?_
   refine aB ?_
   refine aA rfl ?_
   refine bB (Γ := bC [(53, .pure true getG)]) (fun _ => 1) [2, 3] bZ (aH ok51 aO) rfl rfl rfl (by kernel_rfl) (fun K hK => ?_)
   simp (disch := omega) only [Tryz.f39, go_sem, Nat.reduceAdd, Nat.reduceSub, Nat.reduceLeDiff, Nat.reduceLT, Int.reduceLE, Int.reduceToNat, ↓reduceIte, et, hdl, len_t]
   refine hK _ ?_
   refine aB ?_
   refine aS rfl ?_
   simp (disch := omega) only [cN, bV, bK, bQ, Tryz.f39, go_sem, Nat.reduceAdd, Nat.reduceLeDiff, ↓reduceIte]
 ·cases hg
theorem ok32 : bX Tryz.prog GLh 39 (.pure false keyG) := ⟨⟨_, Tryz.func39, rfl, rfl⟩, rkey_ok⟩
theorem nm2_n1 {l : List B8} (h : nmO l = none) : nm2 l = none := by unfold nm2; rw [h]
theorem nm2_n2 {l : List B8} {n : Nm} {s : Nat} (h : nmO l = some (n, s)) (h2 : nmO (l.drop s) = none) : nm2 l = none := by unfold nm2; rw [h]; simp only; rw [h2]
theorem nm2_y {l : List B8} {n m : Nm} {s k : Nat} (h : nmO l = some (n, s)) (h2 : nmO (l.drop s) = some (m, k)) : nm2 l = some (n, m, s + k) := by unfold nm2; rw [h]; simp only; rw [h2]
theorem soaT_n {l : List B8} (h : nm2 l = none) : soaT l = .tup [.agg [.sl 0 [], .sl 0 [], .w32 0#32, .w32 0#32, .w32 0#32, .w32 0#32, .w32 0#32], .i 50] := by unfold soaT eX; rw [h]; exact rdT_n _ _
theorem soaT_x {l : List B8} {n m : Nm} {p : Nat} (h : nm2 l = some (n, m, p)) (hp : ¬ l.length = p + 20) : soaT l = .tup [.agg [.sl 0 [], .sl 0 [], .w32 0#32, .w32 0#32, .w32 0#32, .w32 0#32, .w32 0#32], .i 50] := by
 unfold soaT eX; rw [h]
 simp only [soa1S]
 split
 ·exact iD _ _ _ (by omega)
 ·exact rdT_n _ _
theorem soaT_y {l : List B8} {n m : Nm} {p : Nat} (h : nm2 l = some (n, m, p)) (hp : l.length = p + 20) : soaT l = .tup [soaA l n m p, .i 0] := by
 unfold soaT eX; rw [h]
 simp only [soa1S]
 rw [if_pos (by omega)]
 exact fO _ _ _ (by omega)
theorem num4_d (l : List B8) (p k : Nat) : eK (((l.drop p).drop k).take 4) = dX l (p + k) := by unfold dX; rw [List.drop_drop]
set_option maxHeartbeats 8000000 in
theorem rsoa_ok : cL Tryz.prog GLh 26 soaG := by
 refine cC Tryz.func26 (aT rfl) ?_
 intro args r hg
 unfold soaG at hg
 split at hg
 ·rename_i n xs
  replace hg := aJ hg; obtain ⟨l, hl, hg⟩ := hg
  replace hg := aP hg; obtain ⟨⟨rfl, hnb⟩, hg⟩ := hg
  obtain rfl := Option.some.inj hg
  have := bW hl; subst this
  refine ⟨Nat.le_of_ble_eq_true rfl, fun nx => ?_⟩
  clear hl hg
  refine aA rfl ?_
  refine aC (Γ := aL) [0, 2] (aD _ _) rfl rfl rfl (fun K hK => ?_)
  simp (disch := omega) only [Tryz.f26, go_sem, Nat.reduceAdd, ↓reduceIte]
  refine hK _ ?_
  refine aB ?_
  rcases iI l with ⟨hn, k, hk, hc⟩ | ⟨n, s, hn, hsb, hc⟩
  ·skip
   have hd0 : decide (k = 0) = false := decide_eq_false hk
   rw [soaT_n (nm2_n1 hn)]
   refine aA rfl ?_
   refine aC (Γ := bC [(23, .pure false iH)]) [0, 2, 4, 5, 6] (aH ok50 aO) rfl rfl rfl (fun K hK => ?_)
   simp (disch := omega) only [Tryz.f26, go_sem, Nat.reduceAdd, ↓reduceIte, hc]
   refine hK _ ?_
   refine aB ?_
   refine aA rfl ?_
   refine aA rfl ?_
   refine aC (Γ := aL) [18, 0, 2, 4, 5] (aD _ _) rfl rfl rfl (fun K hK => ?_)
   simp (disch := omega) only [Tryz.f26, go_sem, Nat.reduceAdd, ↓reduceIte, hd0, Bool.not_false]
   refine hK _ ?_
   refine aB ?_
   refine bA (.tmp 18) rfl rfl rfl (fun h => ?_) (fun h => ?_)
   ·skip
    refine aI rfl ?_
    refine aA rfl ?_
    refine aC (Γ := aL) [2, 3] (aD _ _) rfl rfl rfl (fun K hK => ?_)
    simp (disch := omega) only [Tryz.f26, go_sem, Nat.reduceAdd, Nat.reduceLeDiff, ↓reduceIte]
    refine hK _ ?_
    refine aB ?_
    refine aS rfl ?_
    refine bI ?_
    simp (disch := omega) only [cN, bV, bK, bQ, Tryz.f26, go_sem, Nat.reduceAdd, Nat.reduceLeDiff, ↓reduceIte]
   ·skip
    refine aI rfl ?_
    cases h
  ·skip
   refine aA rfl ?_
   refine aC (Γ := bC [(23, .pure false iH)]) [0, 2, 4, 5, 6] (aH ok50 aO) rfl rfl rfl (fun K hK => ?_)
   simp (disch := omega) only [Tryz.f26, go_sem, Nat.reduceAdd, ↓reduceIte, hc]
   refine hK _ ?_
   refine aB ?_
   refine aA rfl ?_
   refine aA rfl ?_
   refine aC (Γ := aL) [18, 0, 2, 4, 5] (aD _ _) rfl rfl rfl (fun K hK => ?_)
   simp (disch := omega) only [Tryz.f26, go_sem, Nat.reduceAdd, ↓reduceIte]
   refine hK _ ?_
   refine aB ?_
   refine bA (.tmp 18) rfl rfl rfl (fun h => ?_) (fun h => ?_)
   ·skip
    refine aI rfl ?_
    cases h
   ·skip
    refine aI rfl ?_
    clear h
    refine aQ rfl ?_
    refine aB ?_
    refine aA rfl ?_
    have hdl : (l.drop s).length = l.length - s := List.length_drop ..
    have hdd : ∀ k, l.drop (s + k) = (l.drop s).drop k := fun k => by rw [List.drop_drop]
    obtain ⟨d, hd⟩ : ∃ d, l.drop s = d := ⟨_, rfl⟩
    have et : d.take (l.length - s) = d := List.take_of_length_le (by rw [← hd]; omega)
    have hcs := iI d
    rcases hcs with ⟨hn2, k, hk, hc2⟩ | ⟨m, s2, hn2, hsb2, hc2⟩
    ·skip
     have hd0 : decide (k = 0) = false := decide_eq_false hk
     rw [soaT_n (nm2_n2 hn (by rw [hd]; exact hn2))]
     rw [hd] at hdl
     rw [hdl] at hc2
     refine aC (Γ := bC [(23, .pure false iH)]) [0, 2, 4, 5, 7, 8, 9] (aH ok50 aO) rfl rfl rfl (fun K hK => ?_)
     simp (disch := omega) only [Tryz.f26, go_sem, Nat.reduceAdd, ↓reduceIte, Int.toNat_natCast, hd, et, hc2, hdl]
     refine hK _ ?_
     refine aB ?_
     refine aA rfl ?_
     refine aA rfl ?_
     refine aC (Γ := aL) [38, 0, 2, 4, 5, 7, 8] (aD _ _) rfl rfl rfl (fun K hK => ?_)
     simp (disch := omega) only [Tryz.f26, go_sem, Nat.reduceAdd, ↓reduceIte, hd0, Bool.not_false]
     refine hK _ ?_
     refine aB ?_
     refine bA (.tmp 38) rfl rfl rfl (fun h => ?_) (fun h => ?_)
     ·skip
      refine aI rfl ?_
      refine aA rfl ?_
      refine aC (Γ := aL) [2, 3] (aD _ _) rfl rfl rfl (fun K hK => ?_)
      simp (disch := omega) only [Tryz.f26, go_sem, Nat.reduceAdd, Nat.reduceLeDiff, ↓reduceIte]
      refine hK _ ?_
      refine aB ?_
      refine aS rfl ?_
      refine bI ?_
      simp (disch := omega) only [cN, bV, bK, bQ, Tryz.f26, go_sem, Nat.reduceAdd, Nat.reduceLeDiff, ↓reduceIte]
     ·skip
      refine aI rfl ?_
      cases h
    ·skip
     have hnm := nm2_y hn (show nmO (l.drop s) = some (m, s2) by rw [hd]; exact hn2)
     rw [hd] at hdl
     rw [hdl] at hc2
     refine aC (Γ := bC [(23, .pure false iH)]) [0, 2, 4, 5, 7, 8, 9] (aH ok50 aO) rfl rfl rfl (fun K hK => ?_)
     simp (disch := omega) only [Tryz.f26, go_sem, Nat.reduceAdd, ↓reduceIte, Int.toNat_natCast, hd, et, hc2, hdl]
     refine hK _ ?_
     refine aB ?_
     by_cases q : l.length = s + s2 + 20
     ·skip
      have dq : decide ((l.length : Int) = (s : Int) + (s2 : Int) + 20) = true := decide_eq_true (by omega)
      refine aA rfl ?_
      refine aA rfl ?_
      refine aC (Γ := aL) [38, 0, 2, 4, 5, 7, 8] (aD _ _) rfl rfl rfl (fun K hK => ?_)
      simp (disch := omega) only [Tryz.f26, go_sem, Nat.reduceAdd, reduceCtorEq, ↓reduceIte, dq, Bool.not_true]
      refine hK _ ?_
      refine aB ?_
      refine bA (.tmp 38) rfl rfl rfl (fun h => ?_) (fun h => ?_)
      ·skip
       refine aI rfl ?_
       cases h
      ·skip
       refine aI rfl ?_
       clear h
       rw [soaT_y hnm q]
       have ep : ((s : Int) + (s2 : Int)).toNat = s + s2 := by omega
       have eq20 : l.length - (s + s2) = 20 := by omega
       have hCl : (l.drop (s + s2)).length = 20 := by rw [List.length_drop]; omega
       have n0 := num4_d l (s + s2) 0
       have n1 := num4_d l (s + s2) 4
       have n2 := num4_d l (s + s2) 8
       have n3 := num4_d l (s + s2) 12
       have n4 := num4_d l (s + s2) 16
       obtain ⟨C, hC⟩ : ∃ C, l.drop (s + s2) = C := ⟨_, rfl⟩
       rw [hC] at hCl n0 n1 n2 n3 n4
       rw [List.drop_zero, Nat.add_zero] at n0
       have eC : C.take 20 = C := List.take_of_length_le (by omega)
       refine aQ rfl ?_
       refine aB ?_
       refine aA rfl ?_
       refine aC (Γ := aL) [2, 4, 7, 10] (aD _ _) rfl rfl rfl (fun K hK => ?_)
       simp (disch := omega) only [Tryz.f26, go_sem, Nat.reduceAdd, ↓reduceIte, ep, hC, eq20, eC]
       refine hK _ ?_
       refine aB ?_
       refine aA rfl ?_
       refine bB (Γ := bC [(53, .pure true getG)]) (fun k => if k = 4 then 0 else if k = 7 then 0 else if k = 10 then 0 else if k = 13 then 0 else if k = 16 then 0 else 2) [2, 3] bZ (aH ok51 aO) rfl rfl rfl (by kernel_rfl) (fun K hK => ?_)
       simp (disch := omega) only [Tryz.f26, go_sem, Nat.reduceAdd, Nat.reduceSub, Nat.reduceLeDiff, Int.reduceLE, Int.reduceToNat, ↓reduceIte, len_t, len_td, n0, n1, n2, n3, n4]
       refine hK _ ?_
       refine aB ?_
       unfold soaA
       refine aS rfl ?_
       simp (disch := omega) only [cN, bV, bK, bQ, Tryz.f26, go_sem, Nat.reduceAdd, Nat.reduceLeDiff, ↓reduceIte]
     ·skip
      have dq : decide ((l.length : Int) = (s : Int) + (s2 : Int) + 20) = false := decide_eq_false (by omega)
      rw [soaT_x hnm q]
      refine aA rfl ?_
      refine aA rfl ?_
      refine aC (Γ := aL) [38, 0, 2, 4, 5, 7, 8] (aD _ _) rfl rfl rfl (fun K hK => ?_)
      simp (disch := omega) only [Tryz.f26, go_sem, Nat.reduceAdd, reduceCtorEq, ↓reduceIte, dq, Bool.not_false]
      refine hK _ ?_
      refine aB ?_
      refine bA (.tmp 38) rfl rfl rfl (fun h => ?_) (fun h => ?_)
      ·skip
       refine aI rfl ?_
       refine aA rfl ?_
       refine aC (Γ := aL) [2, 3] (aD _ _) rfl rfl rfl (fun K hK => ?_)
       simp (disch := omega) only [Tryz.f26, go_sem, Nat.reduceAdd, Nat.reduceLeDiff, ↓reduceIte]
       refine hK _ ?_
       refine aB ?_
       refine aS rfl ?_
       refine bI ?_
       simp (disch := omega) only [cN, bV, bK, bQ, Tryz.f26, go_sem, Nat.reduceAdd, Nat.reduceLeDiff, ↓reduceIte]
      ·skip
       refine aI rfl ?_
       cases h
 ·cases hg
theorem ok20 : bX Tryz.prog GLh 26 (.pure false soaG) := ⟨⟨_, Tryz.func26, rfl, rfl⟩, rsoa_ok⟩
end Go.AX
namespace Go.AX
open Go Go.Proofs
def sigZ : AV := .agg [.w16 0#16, .w8 0#8, .w8 0#8, .w32 0#32, .w32 0#32, .w32 0#32, .w16 0#16, .sl 0 [], .sl 0 []]
theorem sigT_n {l : List B8} (h : eY l = none) : sigT l = .tup [sigZ, .i 50] := by unfold sigT; rw [h]; exact rdT_n _ _
theorem sigT_y {l : List B8} {n : Nm} {s : Nat} (h : 18 ≤ l.length) (hn : nmO (l.drop 18) = some (n, s)) : sigT l = .tup [sigA l n (18 + s), .i 0] := by
 unfold sigT eY; rw [if_pos h, hn]; exact fO _ _ _ rfl
theorem sig_n1 {l : List B8} (h : l.length < 18) : eY l = none := by unfold eY; rw [if_neg (by omega)]
theorem sig_n2 {l : List B8} (h : nmO (l.drop 18) = none) : eY l = none := by unfold eY; rw [h]; split <;> rfl
set_option maxHeartbeats 8000000 in
theorem rsig_ok : cL Tryz.prog GLh 28 sigG := by
 refine cC Tryz.func28 (aT rfl) ?_
 intro args r hg
 unfold sigG at hg
 split at hg
 ·rename_i n xs
  replace hg := aJ hg; obtain ⟨l, hl, hg⟩ := hg
  replace hg := aP hg; obtain ⟨⟨rfl, hnb⟩, hg⟩ := hg
  obtain rfl := Option.some.inj hg
  have := bW hl; subst this
  refine ⟨Nat.le_of_ble_eq_true rfl, fun nx => ?_⟩
  clear hl hg
  refine aA rfl ?_
  refine aC (Γ := aL) [0, 2] (aD _ _) rfl rfl rfl (fun K hK => ?_)
  simp (disch := omega) only [Tryz.f28, go_sem, Nat.reduceAdd, ↓reduceIte]
  refine hK _ ?_
  refine aB ?_
  refine aA rfl ?_
  refine aA rfl ?_
  refine aC (Γ := aL) [9, 0, 2] (aD _ _) rfl rfl rfl (fun K hK => ?_)
  simp (disch := omega) only [Tryz.f28, go_sem, Nat.reduceAdd, ↓reduceIte]
  refine hK _ ?_
  refine aB ?_
  refine aW (.tmp 9) rfl rfl rfl (fun h => ?_) (fun h => ?_)
  ·skip
   refine aI rfl ?_
   rw [sigT_n (sig_n1 (by omega))]
   refine aA rfl ?_
   refine aC (Γ := aL) [2, 3] (aD _ _) rfl rfl rfl (fun K hK => ?_)
   simp (disch := omega) only [Tryz.f28, go_sem, Nat.reduceAdd, Nat.reduceLeDiff, ↓reduceIte]
   refine hK _ ?_
   refine aB ?_
   refine aS rfl ?_
   refine bI ?_
   simp (disch := omega) only [cN, bV, bK, bQ, Tryz.f28, go_sem, Nat.reduceAdd, Nat.reduceLeDiff, ↓reduceIte, sigZ]
  ·skip
   refine aI rfl ?_
   have hl18 : 18 ≤ l.length := by omega
   have hdl : (l.drop 18).length = l.length - 18 := List.length_drop ..
   have hdd : ∀ k, l.drop (18 + k) = (l.drop 18).drop k := fun k => by rw [List.drop_drop]
   obtain ⟨d, hd⟩ : ∃ d, l.drop 18 = d := ⟨_, rfl⟩
   rw [hd] at hdl
   have et : d.take (l.length - 18) = d := List.take_of_length_le (by omega)
   have hcs := iI d
   refine aQ rfl ?_
   refine aB ?_
   refine aA rfl ?_
   rcases hcs with ⟨hn, k, hk, hc⟩ | ⟨n, s, hn, hsb, hc⟩
   ·skip
    have hd0 : decide (k = 0) = false := decide_eq_false hk
    rw [sigT_n (sig_n2 (by rw [hd]; exact hn))]
    rw [hdl] at hc
    refine aC (Γ := bC [(23, .pure false iH)]) [0, 2, 4, 5, 6] (aH ok50 aO) rfl rfl rfl (fun K hK => ?_)
    simp (disch := omega) only [Tryz.f28, go_sem, Nat.reduceAdd, Int.reduceLE, Int.reduceToNat, ↓reduceIte, Int.toNat_natCast, hd, et, hc, hdl]
    refine hK _ ?_
    refine aB ?_
    refine aA rfl ?_
    refine aA rfl ?_
    refine aC (Γ := aL) [19, 0, 2, 4, 5] (aD _ _) rfl rfl rfl (fun K hK => ?_)
    simp (disch := omega) only [Tryz.f28, go_sem, Nat.reduceAdd, ↓reduceIte, hd0, Bool.not_false]
    refine hK _ ?_
    refine aB ?_
    refine bA (.tmp 19) rfl rfl rfl (fun h => ?_) (fun h => ?_)
    ·skip
     refine aI rfl ?_
     refine aA rfl ?_
     refine aC (Γ := aL) [2, 3] (aD _ _) rfl rfl rfl (fun K hK => ?_)
     simp (disch := omega) only [Tryz.f28, go_sem, Nat.reduceAdd, Nat.reduceLeDiff, ↓reduceIte]
     refine hK _ ?_
     refine aB ?_
     refine aS rfl ?_
     refine bI ?_
     simp (disch := omega) only [cN, bV, bK, bQ, Tryz.f28, go_sem, Nat.reduceAdd, Nat.reduceLeDiff, ↓reduceIte, sigZ]
    ·skip
     refine aI rfl ?_
     cases h
   ·skip
    rw [sigT_y hl18 (by rw [hd]; exact hn)]
    rw [hdl] at hc
    refine aC (Γ := bC [(23, .pure false iH)]) [0, 2, 4, 5, 6] (aH ok50 aO) rfl rfl rfl (fun K hK => ?_)
    simp (disch := omega) only [Tryz.f28, go_sem, Nat.reduceAdd, Int.reduceLE, Int.reduceToNat, ↓reduceIte, Int.toNat_natCast, hd, et, hc, hdl]
    refine hK _ ?_
    refine aB ?_
    refine aA rfl ?_
    refine aA rfl ?_
    refine aC (Γ := aL) [19, 0, 2, 4, 5] (aD _ _) rfl rfl rfl (fun K hK => ?_)
    simp (disch := omega) only [Tryz.f28, go_sem, Nat.reduceAdd, ↓reduceIte]
    refine hK _ ?_
    refine aB ?_
    refine bA (.tmp 19) rfl rfl rfl (fun h => ?_) (fun h => ?_)
    ·skip
     refine aI rfl ?_
     cases h
    ·skip
     refine aI rfl ?_
     clear h
     refine aQ rfl ?_
     refine aB ?_
     refine aA rfl ?_
     have ep : (18 + (s : Int)).toNat = 18 + s := by omega
     have eL : (l.drop (18 + s)).take (l.length - (18 + s)) = l.drop (18 + s) := List.take_of_length_le (by rw [List.length_drop]; omega)
     have eLl : (l.drop (18 + s)).length = l.length - (18 + s) := List.length_drop ..
     have n1 : eK ((l.drop 4).take 4) = dX l 4 := rfl
     have n2 : eK ((l.drop 8).take 4) = dX l 8 := rfl
     have n3 : eK ((l.drop 12).take 4) = dX l 12 := rfl
     refine bB (Γ := bC [(53, .pure true getG)]) (fun _ => 1) [2, 3] bZ (aH ok51 aO) rfl rfl rfl (by kernel_rfl) (fun K hK => ?_)
     simp (disch := omega) only [Tryz.f28, go_sem, Nat.reduceAdd, Nat.reduceSub, Nat.reduceLeDiff, Nat.reduceLT, Int.reduceLE, Int.reduceToNat, ↓reduceIte, ep, eL, eLl, len_t, len_td, n1, n2, n3]
     refine hK _ ?_
     refine aB ?_
     unfold sigA
     refine aS rfl ?_
     simp (disch := omega) only [cN, bV, bK, bQ, Tryz.f28, go_sem, Nat.reduceAdd, Nat.reduceLeDiff, ↓reduceIte]
 ·cases hg
theorem ok24 : bX Tryz.prog GLh 28 (.pure false sigG) := ⟨⟨_, Tryz.func28, rfl, rfl⟩, rsig_ok⟩
def chnZ : AV := .agg [.w8 0#8, .w8 0#8, .w16 0#16, .sl 0 [], .sl 0 [], .sl 0 []]
theorem chnT_n {l : List B8} (h : gW l = none) : chnT l = .tup [chnZ, .i 50] := by unfold chnT; rw [h]; exact rdT_n _ _
theorem chn_n1 {l : List B8} (h : l.length < 5) : gW l = none := by
 unfold gW
 have : txE l 4 = none := if_neg (by omega)
 rw [this]; split <;> rfl
theorem txE_y {l : List B8} {a k : Nat} (h : a < l.length) (hk : (l.getD a 0#8).toNat = k) (h2 : a + 1 + k ≤ l.length) : txE l a = some (a + 1 + k) := by
 unfold txE; rw [hk]; exact if_pos ⟨h, by omega⟩
theorem txE_n {l : List B8} {a k : Nat} (hk : (l.getD a 0#8).toNat = k) (h2 : l.length < a + 1 + k) : txE l a = none := by
 unfold txE; rw [hk]; exact if_neg (by omega)
theorem chn_n2 {l : List B8} {x : Nat} (h : 5 ≤ l.length) (hx : (l.getD 4 0#8).toNat = x) (h2 : l.length < 5 + x + 1) : gW l = none := by
 unfold gW
 rw [if_pos (by omega)]
 by_cases h3 : 5 + x ≤ l.length
 ·rw [txE_y (by omega) hx (by omega)]
  have : txE l (4 + 1 + x) = none := if_neg (by omega)
  simp only [chn1]; rw [this]; rfl
 ·rw [txE_n hx (by omega)]; rfl
theorem chn_n3 {l : List B8} {x : Nat} (hx : (l.getD 4 0#8).toNat = x) (h2 : 5 + x + 1 ≤ l.length) (h0 : (l.getD (5 + x) 0#8).toNat = 0) : gW l = none := by
 unfold gW
 rw [if_pos (by omega), txE_y (by omega) hx (by omega)]
 have e : 4 + 1 + x = 5 + x := by omega
 have hz : txD l (5 + x) = [] := by unfold txD; rw [h0]; rfl
 simp only [chn1, e]
 rw [txE_y (by omega) h0 (by omega)]
 simp only [chn2, hz]
 exact if_neg (by simp)
theorem chn_n4 {l : List B8} {x y : Nat} (hx : (l.getD 4 0#8).toNat = x) (h2 : 5 + x + 1 ≤ l.length) (hy : (l.getD (5 + x) 0#8).toNat = y) (h3 : l.length < 5 + x + 1 + y) : gW l = none := by
 unfold gW
 rw [if_pos (by omega), txE_y (by omega) hx (by omega)]
 have e : 4 + 1 + x = 5 + x := by omega
 simp only [chn1, e]
 rw [txE_n hy (by omega)]; rfl
theorem chn_y4 {l : List B8} {x y : Nat} (hx : (l.getD 4 0#8).toNat = x) (hy : (l.getD (5 + x) 0#8).toNat = y) (hy0 : 0 < y) (h3 : 5 + x + 1 + y ≤ l.length) : gW l = chn3 l (5 + x) (bmO (l.drop (5 + x + 1 + y))) := by
 unfold gW
 rw [if_pos (by omega), txE_y (by omega) hx (by omega)]
 have e : 4 + 1 + x = 5 + x := by omega
 have hz : (txD l (5 + x)).length = y := by unfold txD; rw [hy, List.length_take, List.length_drop]; omega
 simp only [chn1, e]
 rw [txE_y (by omega) hy (by omega)]
 simp only [chn2, hz]
 exact if_pos hy0
theorem chnT_y {l : List B8} {p : Nat} {ty : List T16} (h : gW l = chn3 l p (some ty)) : chnT l = .tup [chnA l p ty, .i 0] := by unfold chnT; rw [h]; exact fO _ _ _ rfl
theorem ob5 (x : BitVec 8) : (x = 0#8) ↔ (x.toNat = 0) := ⟨fun h => by rw [h]; rfl, fun h => BitVec.eq_of_toNat_eq h⟩
set_option maxHeartbeats 8000000 in
theorem rchn_ok : cL Tryz.prog GLh 40 chnG := by
 refine cC Tryz.func40 (aT rfl) ?_
 intro args r hg
 unfold chnG at hg
 split at hg
 ·rename_i n xs
  replace hg := aJ hg; obtain ⟨l, hl, hg⟩ := hg
  replace hg := aP hg; obtain ⟨⟨rfl, hnb⟩, hg⟩ := hg
  obtain rfl := Option.some.inj hg
  have := bW hl; subst this
  refine ⟨Nat.le_of_ble_eq_true rfl, fun nx => ?_⟩
  clear hl hg
  refine aA rfl ?_
  refine aC (Γ := aL) [0, 2] (aD _ _) rfl rfl rfl (fun K hK => ?_)
  simp (disch := omega) only [Tryz.f40, go_sem, Nat.reduceAdd, ↓reduceIte]
  refine hK _ ?_
  refine aB ?_
  refine aA rfl ?_
  refine aA rfl ?_
  refine aC (Γ := aL) [10, 0, 2] (aD _ _) rfl rfl rfl (fun K hK => ?_)
  simp (disch := omega) only [Tryz.f40, go_sem, Nat.reduceAdd, ↓reduceIte]
  refine hK _ ?_
  refine aB ?_
  refine aW (.tmp 10) rfl rfl rfl (fun h => ?_) (fun h => ?_)
  ·skip
   refine aI rfl ?_
   rw [chnT_n (chn_n1 (by omega))]
   refine aA rfl ?_
   refine aC (Γ := aL) [2, 3] (aD _ _) rfl rfl rfl (fun K hK => ?_)
   simp (disch := omega) only [Tryz.f40, go_sem, Nat.reduceAdd, Nat.reduceLeDiff, ↓reduceIte]
   refine hK _ ?_
   refine aB ?_
   refine aS rfl ?_
   refine bI ?_
   simp (disch := omega) only [cN, bV, bK, bQ, Tryz.f40, go_sem, Nat.reduceAdd, Nat.reduceLeDiff, ↓reduceIte, chnZ]
  ·skip
   refine aI rfl ?_
   have h5 : 5 ≤ l.length := by omega
   obtain ⟨xb, hxb⟩ : ∃ x, l.getD 4 0#8 = x := ⟨_, rfl⟩
   have hxn : (l.getD 4 0#8).toNat = xb.toNat := by rw [hxb]
   have hxl := xb.isLt
   obtain ⟨x, hx⟩ : ∃ x, xb.toNat = x := ⟨_, rfl⟩
   rw [hx] at hxn hxl
   have ei : 5 + (x : Int) = ((5 + x : Nat) : Int) := rfl
   refine aQ rfl ?_
   refine aB ?_
   refine aA rfl ?_
   refine aC (Γ := aL) [0, 2, 4] (aD _ _) rfl rfl rfl (fun K hK => ?_)
   simp (disch := omega) only [Tryz.f40, go_sem, Nat.reduceAdd, Int.reduceLE, Int.reduceToNat, ↓reduceIte, hxb, hx, ei]
   refine hK _ ?_
   refine aB ?_
   by_cases q2 : l.length < 5 + x + 1
   ·skip
    have d2 : decide ((l.length : Int) < ((5 + x : Nat) : Int) + 1) = true := decide_eq_true (by omega)
    rw [chnT_n (chn_n2 h5 hxn q2)]
    refine aA rfl ?_
    refine aA rfl ?_
    refine aC (Γ := aL) [28, 0, 2, 4] (aD _ _) rfl rfl rfl (fun K hK => ?_)
    simp (disch := omega) only [Tryz.f40, go_sem, Nat.reduceAdd, ↓reduceIte, d2]
    refine hK _ ?_
    refine aB ?_
    refine bA (.tmp 28) rfl rfl rfl (fun h => ?_) (fun h => ?_)
    ·skip
     refine aI rfl ?_
     refine aA rfl ?_
     refine aC (Γ := aL) [2, 3] (aD _ _) rfl rfl rfl (fun K hK => ?_)
     simp (disch := omega) only [Tryz.f40, go_sem, Nat.reduceAdd, Nat.reduceLeDiff, ↓reduceIte]
     refine hK _ ?_
     refine aB ?_
     refine aS rfl ?_
     refine bI ?_
     simp (disch := omega) only [cN, bV, bK, bQ, Tryz.f40, go_sem, Nat.reduceAdd, Nat.reduceLeDiff, ↓reduceIte, chnZ]
    ·skip
     refine aI rfl ?_
     cases h
   ·skip
    have d2 : decide ((l.length : Int) < ((5 + x : Nat) : Int) + 1) = false := decide_eq_false (by omega)
    have hi5 : 5 + x < l.length := by omega
    obtain ⟨yb, hyb⟩ : ∃ y, l.getD (5 + x) 0#8 = y := ⟨_, rfl⟩
    have hyn : (l.getD (5 + x) 0#8).toNat = yb.toNat := by rw [hyb]
    have hyl := yb.isLt
    have hz := ob5 yb
    by_cases q3 : yb.toNat = 0
    ·skip
     have d3 : decide (yb = 0#8) = true := decide_eq_true (hz.2 q3)
     rw [chnT_n (chn_n3 hxn (by omega) (by rw [hyn, q3]))]
     refine aA rfl ?_
     refine aA rfl ?_
     refine aC (Γ := aL) [28, 0, 2, 4] (aD _ _) rfl rfl rfl (fun K hK => ?_)
     simp (disch := omega) only [Tryz.f40, go_sem, Nat.reduceAdd, Int.reduceLE, Int.reduceLT, BitVec.reduceOfInt, reduceCtorEq, ↓reduceIte, d2, Int.toNat_natCast, hyb, d3]
     refine hK _ ?_
     refine aB ?_
     refine bA (.tmp 28) rfl rfl rfl (fun h => ?_) (fun h => ?_)
     ·skip
      refine aI rfl ?_
      refine aA rfl ?_
      refine aC (Γ := aL) [2, 3] (aD _ _) rfl rfl rfl (fun K hK => ?_)
      simp (disch := omega) only [Tryz.f40, go_sem, Nat.reduceAdd, Nat.reduceLeDiff, ↓reduceIte]
      refine hK _ ?_
      refine aB ?_
      refine aS rfl ?_
      refine bI ?_
      simp (disch := omega) only [cN, bV, bK, bQ, Tryz.f40, go_sem, Nat.reduceAdd, Nat.reduceLeDiff, ↓reduceIte, chnZ]
     ·skip
      refine aI rfl ?_
      cases h
    ·skip
     have d3 : decide (yb = 0#8) = false := decide_eq_false (fun e => q3 (hz.1 e))
     refine aA rfl ?_
     refine aA rfl ?_
     refine aC (Γ := aL) [28, 0, 2, 4] (aD _ _) rfl rfl rfl (fun K hK => ?_)
     simp (disch := omega) only [Tryz.f40, go_sem, Nat.reduceAdd, Int.reduceLE, Int.reduceLT, BitVec.reduceOfInt, reduceCtorEq, ↓reduceIte, d2, Int.toNat_natCast, hyb, d3]
     refine hK _ ?_
     refine aB ?_
     refine bA (.tmp 28) rfl rfl rfl (fun h => ?_) (fun h => ?_)
     ·skip
      refine aI rfl ?_
      cases h
     ·skip
      refine aI rfl ?_
      clear h
      obtain ⟨y, hy⟩ : ∃ y, yb.toNat = y := ⟨_, rfl⟩
      rw [hy] at hyn hyl q3
      have ek : ((5 + x : Nat) : Int) + 1 + (y : Int) = ((5 + x + 1 + y : Nat) : Int) := rfl
      refine aQ rfl ?_
      refine aB ?_
      refine aA rfl ?_
      refine aC (Γ := aL) [0, 2, 4, 5] (aD _ _) rfl rfl rfl (fun K hK => ?_)
      simp (disch := omega) only [Tryz.f40, go_sem, Nat.reduceAdd, ↓reduceIte, Int.toNat_natCast, hyb, hy, ek]
      refine hK _ ?_
      refine aB ?_
      refine aA rfl ?_
      refine aA rfl ?_
      refine aC (Γ := aL) [41, 0, 2, 4, 5] (aD _ _) rfl rfl rfl (fun K hK => ?_)
      simp (disch := omega) only [Tryz.f40, go_sem, Nat.reduceAdd, ↓reduceIte]
      refine hK _ ?_
      refine aB ?_
      refine aW (.tmp 41) rfl rfl rfl (fun h => ?_) (fun h => ?_)
      ·skip
       refine aI rfl ?_
       rw [chnT_n (chn_n4 hxn (by omega) hyn (by omega))]
       refine aA rfl ?_
       refine aC (Γ := aL) [2, 3] (aD _ _) rfl rfl rfl (fun K hK => ?_)
       simp (disch := omega) only [Tryz.f40, go_sem, Nat.reduceAdd, Nat.reduceLeDiff, ↓reduceIte]
       refine hK _ ?_
       refine aB ?_
       refine aS rfl ?_
       refine bI ?_
       simp (disch := omega) only [cN, bV, bK, bQ, Tryz.f40, go_sem, Nat.reduceAdd, Nat.reduceLeDiff, ↓reduceIte, chnZ]
      ·skip
       refine aI rfl ?_
       have hk : 5 + x + 1 + y ≤ l.length := by omega
       have hch := chn_y4 hxn hyn (by omega) hk
       have hdl : (l.drop (5 + x + 1 + y)).length = l.length - (5 + x + 1 + y) := List.length_drop ..
       obtain ⟨D, hD⟩ : ∃ D, l.drop (5 + x + 1 + y) = D := ⟨_, rfl⟩
       rw [hD] at hdl hch
       have hun : un8 (c8 D) = some D := un8_c8 D
       have et : D.take (l.length - (5 + x + 1 + y)) = D := List.take_of_length_le (by omega)
       refine aQ rfl ?_
       refine aB ?_
       refine aA rfl ?_
       rcases ho : bmO D with _ | ty
       ·skip
        rw [ho] at hch
        rw [chnT_n hch]
        have ho2 : opR (l.length - (5 + x + 1 + y) + 1) (-1) D = none := by rw [← hdl]; exact ho
        refine aC (Γ := bC [(64, .pure false opnG)]) [0, 2, 4, 5, 6, 7] (aH ok62 aO) rfl rfl rfl (fun K hK => ?_)
        simp (disch := omega) only [Tryz.f40, go_sem, Nat.reduceAdd, Int.reduceNeg, ↓reduceIte, Int.toNat_natCast, hD, et, hdl, hun, ho2]
        refine hK _ ?_
        refine aB ?_
        refine aA rfl ?_
        refine aA rfl ?_
        refine aC (Γ := aL) [51, 0, 2, 4, 5, 6] (aD _ _) rfl rfl rfl (fun K hK => ?_)
        simp (disch := omega) only [Tryz.f40, go_sem, Nat.reduceAdd, Int.reduceEq, ↓reduceIte]
        refine hK _ ?_
        refine aB ?_
        refine bA (.tmp 51) rfl rfl rfl (fun h => ?_) (fun h => ?_)
        ·skip
         refine aI rfl ?_
         refine aA rfl ?_
         refine aC (Γ := aL) [2, 3] (aD _ _) rfl rfl rfl (fun K hK => ?_)
         simp (disch := omega) only [Tryz.f40, go_sem, Nat.reduceAdd, Nat.reduceLeDiff, ↓reduceIte]
         refine hK _ ?_
         refine aB ?_
         refine aS rfl ?_
         refine bI ?_
         simp (disch := omega) only [cN, bV, bK, bQ, Tryz.f40, go_sem, Nat.reduceAdd, Nat.reduceLeDiff, ↓reduceIte, chnZ]
        ·skip
         refine aI rfl ?_
         exact absurd h (by decide)
       ·skip
        rw [ho] at hch
        rw [chnT_y hch]
        have ho2 : opR (l.length - (5 + x + 1 + y) + 1) (-1) D = some ty := by rw [← hdl]; exact ho
        refine aC (Γ := bC [(64, .pure false opnG)]) [0, 2, 4, 5, 6, 7] (aH ok62 aO) rfl rfl rfl (fun K hK => ?_)
        simp (disch := omega) only [Tryz.f40, go_sem, Nat.reduceAdd, Int.reduceNeg, ↓reduceIte, Int.toNat_natCast, hD, et, hdl, hun, ho2]
        refine hK _ ?_
        refine aB ?_
        refine aA rfl ?_
        refine aA rfl ?_
        refine aC (Γ := aL) [51, 0, 2, 4, 5, 6] (aD _ _) rfl rfl rfl (fun K hK => ?_)
        simp (disch := omega) only [Tryz.f40, go_sem, Nat.reduceAdd, ↓reduceIte]
        refine hK _ ?_
        refine aB ?_
        refine bA (.tmp 51) rfl rfl rfl (fun h => ?_) (fun h => ?_)
        ·skip
         refine aI rfl ?_
         cases h
        ·skip
         refine aI rfl ?_
         clear h
         have t4 : txD l 4 = (l.drop 5).take x := by unfold txD; rw [hxn]
         have t5 : txD l (5 + x) = (l.drop (5 + x + 1)).take y := by unfold txD; rw [hyn]
         have t4l : ((l.drop 5).take x).length = x := by rw [List.length_take, List.length_drop]; omega
         have t5l : ((l.drop (5 + x + 1)).take y).length = y := by rw [List.length_take, List.length_drop]; omega
         have s4 : 5 + x - 5 = x := by omega
         have s5 : 5 + x + 1 + y - (5 + x + 1) = y := by omega
         have ei1 : (((5 + x : Nat) : Int) + 1).toNat = 5 + x + 1 := by omega
         unfold chnA
         rw [t4, t5, t4l, t5l]
         obtain ⟨A4, hA4⟩ : ∃ A, (l.drop 5).take x = A := ⟨_, rfl⟩
         obtain ⟨A5, hA5⟩ : ∃ A, (l.drop (5 + x + 1)).take y = A := ⟨_, rfl⟩
         rw [hA4] at t4l
         rw [hA5] at t5l
         rw [hA4, hA5]
         refine aQ rfl ?_
         refine aB ?_
         refine aA rfl ?_
         refine awp_dr2 (Γ := bC [(53, .pure true getG)]) 13 19 [6, 7, 8, 10, 11, 12, 13, 0, 1, 2, 3, 4, 5, 9, 14, 15, 16, 17, 18, 19, 20, 21, 22, 23] [6, 7, 8, 10, 11, 12, 13, 14, 15, 16, 17, 18, 19, 0, 1, 2, 3, 4, 5, 9, 20, 21, 22, 23] (fun _ => 1) [2, 3] bZ (aH ok51 aO) (by decide) rfl rfl rfl (by kernel_rfl) (fun K hK => ?_) (fun K hK => ?_)
         ·skip
          simp (disch := omega) only [Tryz.f40, go_sem, runM_nil, runM_cons, hS, List.getElem?_cons_zero, List.getElem?_cons_succ, Nat.reduceAdd, Nat.reduceSub, Nat.reduceLeDiff, Nat.reduceLT, Int.reduceLE, Int.reduceToNat, ↓reduceIte, Int.toNat_natCast, ei1, s4, s5, hA4, hA5, t4l, t5l, len_td]
          refine hK _ ?_
          refine aB ?_
          refine aS rfl ?_
          simp (disch := omega) only [cN, bV, bK, bQ, Tryz.f40, go_sem, Nat.reduceAdd, Nat.reduceLeDiff, ↓reduceIte, t4l, t5l]
         ·skip
          simp (disch := omega) only [Tryz.f40, go_sem, runM_nil, runM_cons, hS, List.getElem?_cons_zero, List.getElem?_cons_succ, Nat.reduceAdd, Nat.reduceSub, Nat.reduceLeDiff, Nat.reduceLT, Int.reduceLE, Int.reduceToNat, ↓reduceIte, Int.toNat_natCast, ei1, s4, s5, hA4, hA5, t4l, t5l, len_td]
          refine hK _ ?_
          refine aB ?_
          refine aS rfl ?_
          simp (disch := omega) only [cN, bV, bK, bQ, Tryz.f40, go_sem, Nat.reduceAdd, Nat.reduceLeDiff, ↓reduceIte, t4l, t5l]
 ·cases hg
theorem ok28 : bX Tryz.prog GLh 40 (.pure false chnG) := ⟨⟨_, Tryz.func40, rfl, rfl⟩, rchn_ok⟩
end Go.AX
