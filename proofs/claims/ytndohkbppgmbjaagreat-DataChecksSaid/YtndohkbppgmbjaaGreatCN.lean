/-
  Data, part jA: the document's small letters; its numbers put behind own bytes. Data, part jB: the document's bytes of SOAs and RRSIGs. Data, part jC: data checked by the document.
-/
import Derived.Test.YtndohkbppgmbjaaGreatCK
import Derived.Test.YtndohkbppgmbjaaGreatCM
namespace Go.AX
open Go Go.Proofs
def lowG : List AV → Option AV
 | [.w8 c] => some (.w8 (hG c))
 | _ => none
theorem lowG_eq (c : B8) : lowG [.w8 c] = some (.w8 (hG c)) := (rfl)
attribute [go_sem] lowG_eq
set_option maxHeartbeats 1000000 in
theorem low_ok : cL Tryz.prog GLh 69 lowG := by
 refine cC Tryz.func69 (aT rfl) ?_
 intro args r hg
 unfold lowG at hg
 split at hg
 ·rename_i x
  obtain rfl := Option.some.inj hg
  clear hg
  refine ⟨Nat.le_of_ble_eq_true rfl, fun nx => ?_⟩
  refine aA rfl ?_
  refine aC (Γ := aL) [0] (aD _ _) rfl rfl rfl (fun K hK => ?_)
  simp (disch := omega) only [Tryz.f69, go_sem, Int.reduceLE, Int.reduceLT, BitVec.reduceOfInt, ↓reduceIte]
  refine hK _ ?_
  refine aB ?_
  by_cases ha : 65#8 ≤ x
  ·skip
   by_cases hb : x ≤ 90#8
   ·skip
    refine aA rfl ?_
    refine aA rfl ?_
    refine aC (Γ := aL) [8, 0] (aD _ _) rfl rfl rfl (fun K hK => ?_)
    simp (disch := omega) only [Tryz.f69, go_sem, Nat.reduceAdd, Int.reduceLE, Int.reduceLT, BitVec.reduceOfInt, ↓reduceIte, decide_eq_true ha, decide_eq_true hb]
    refine hK _ ?_
    refine aB ?_
    refine bA (.tmp 8) rfl rfl rfl (fun h => ?_) (fun h => ?_)
    ·skip
     refine aI rfl ?_
     have e1 : x + 32#8 = hG x := by unfold hG; rw [if_pos ⟨ha, hb⟩]
     refine aA rfl ?_
     refine aC (Γ := aL) [2] (aD _ _) rfl rfl rfl (fun K hK => ?_)
     simp (disch := omega) only [Tryz.f69, go_sem, Nat.reduceAdd, Int.reduceLE, Int.reduceLT, BitVec.reduceOfInt, ↓reduceIte, e1]
     refine hK _ ?_
     refine aB ?_
     refine aS rfl ?_
     refine bI ?_
     simp (disch := omega) only [cN, bV, bK, bQ, Tryz.f69, go_sem, ↓reduceIte]
    ·skip
     refine aI rfl ?_
     cases h
   ·skip
    refine aA rfl ?_
    refine aA rfl ?_
    refine aC (Γ := aL) [8, 0] (aD _ _) rfl rfl rfl (fun K hK => ?_)
    simp (disch := omega) only [Tryz.f69, go_sem, Nat.reduceAdd, Int.reduceLE, Int.reduceLT, BitVec.reduceOfInt, ↓reduceIte, decide_eq_true ha, decide_eq_false hb]
    refine hK _ ?_
    refine aB ?_
    refine bA (.tmp 8) rfl rfl rfl (fun h => ?_) (fun h => ?_)
    ·skip
     refine aI rfl ?_
     cases h
    ·skip
     refine aI rfl ?_
     have e1 : hG x = x := by unfold hG; rw [if_neg (fun h => hb h.2)]
     refine aQ rfl ?_
     refine aB ?_
     refine aA rfl ?_
     refine aC (Γ := aL) [2] (aD _ _) rfl rfl rfl (fun K hK => ?_)
     simp (disch := omega) only [Tryz.f69, go_sem, Nat.reduceAdd, ↓reduceIte]
     refine hK _ ?_
     refine aB ?_
     refine aS rfl ?_
     simp (disch := omega) only [cN, bV, bK, bQ, Tryz.f69, go_sem, ↓reduceIte, e1]
  ·skip
   refine aA rfl ?_
   refine aA rfl ?_
   refine aC (Γ := aL) [8, 0] (aD _ _) rfl rfl rfl (fun K hK => ?_)
   simp (disch := omega) only [Tryz.f69, go_sem, Nat.reduceAdd, Int.reduceLE, Int.reduceLT, BitVec.reduceOfInt, reduceCtorEq, ↓reduceIte, decide_eq_false ha]
   refine hK _ ?_
   refine aB ?_
   refine bA (.tmp 8) rfl rfl rfl (fun h => ?_) (fun h => ?_)
   ·skip
    refine aI rfl ?_
    cases h
   ·skip
    refine aI rfl ?_
    have e1 : hG x = x := by unfold hG; rw [if_neg (fun h => ha h.1)]
    refine aQ rfl ?_
    refine aB ?_
    refine aA rfl ?_
    refine aC (Γ := aL) [2] (aD _ _) rfl rfl rfl (fun K hK => ?_)
    simp (disch := omega) only [Tryz.f69, go_sem, Nat.reduceAdd, ↓reduceIte]
    refine hK _ ?_
    refine aB ?_
    refine aS rfl ?_
    simp (disch := omega) only [cN, bV, bK, bQ, Tryz.f69, go_sem, ↓reduceIte, e1]
 ·cases hg
theorem okz69 : bX Tryz.prog GLh 69 (.pure true lowG) := ⟨⟨_, Tryz.func69, rfl, rfl⟩, low_ok⟩
set_option maxHeartbeats 1000000 in
theorem rsmall_ok : cL Tryz.prog GLh 52 smallG := by
 refine cC Tryz.func52 (aT rfl) ?_
 intro args r hg
 unfold smallG at hg
 split at hg
 ·rename_i l
  replace hg := aP hg; obtain ⟨hbig, hg⟩ := hg
  obtain rfl := Option.some.inj hg
  clear hg
  refine ⟨Nat.le_of_ble_eq_true rfl, fun nx => ?_⟩
  refine aA rfl ?_
  refine aC (Γ := aL) [0] (aD _ _) rfl rfl rfl (fun K hK => ?_)
  simp (disch := omega) only [Tryz.f52, go_sem, ↓reduceIte]
  refine hK _ ?_
  refine aB ?_
  refine aA rfl ?_
  refine aC (Γ := aL) [3] (aD _ _) rfl rfl rfl (fun K hK => ?_)
  simp (disch := omega) only [Tryz.f52, go_sem, Nat.reduceAdd, ↓reduceIte]
  refine hK _ ?_
  refine aB ?_
  refine aA rfl ?_
  refine aA rfl ?_
  refine aC (Γ := aL) [3, 4] (aD _ _) rfl rfl rfl (fun K hK => ?_)
  simp (disch := omega) only [Tryz.f52, go_sem, ↓reduceIte]
  refine hK _ ?_
  refine aB ?_
  refine aR 0 rfl rfl ?_
  refine bR (fun p : KC => { fr := [(3, .os (nx + 1 + 1) 0 l.length 1 true), (4, .i p.k)], hp := upd (fun _ => none) (nx + 1 + 1) (.cells (c8 (lowK l p.k)) true), nx := 0, cx := p.c }) (fun p => p.k ≤ l.length ∧ nx + 1 + 1 < p.c) (fun p => l.length - p.k) rfl ⟨⟨0, _⟩, ⟨Nat.zero_le _, by simp only; omega⟩, bD rfl (by simp only [lowK_zero]) (Nat.le_refl _)⟩ ?_
  rintro ⟨k, c⟩ ⟨hk, hid⟩ n0
  simp only at hk hid ⊢
  refine aA rfl ?_
  refine aA rfl ?_
  refine aC (Γ := aL) [10, 3, 4] (aD _ _) rfl rfl rfl (fun K hK => ?_)
  simp (disch := omega) only [Tryz.f52, go_sem, Nat.reduceAdd, ↓reduceIte]
  refine hK _ ?_
  refine aB ?_
  refine aW (.tmp 10) rfl rfl rfl (fun h => ?_) (fun h => ?_)
  ·skip
   refine aI rfl ?_
   have hkl : k < l.length := by omega
   have hll := lowK_len l k
   have hgt := lowK_get l k hkl
   have e2 := lowK_set l k hkl
   refine aQ rfl ?_
   refine aB ?_
   refine aA rfl ?_
   refine aR 1 rfl rfl ?_
   refine aC (Γ := bC [(69, .pure true lowG)]) [3, 4] (aH okz69 aO) rfl rfl rfl (fun K hK => ?_)
   simp (disch := omega) only [Tryz.f52, go_sem, Nat.reduceAdd, ↓reduceIte, hgt, c8_set]
   refine hK _ ?_
   refine bU (aB ?_)
   refine aC (Γ := aL) [3, 4] (aD _ _) rfl rfl rfl (fun K hK => ?_)
   simp (disch := omega) only [Tryz.f52, go_sem, Nat.reduceAdd, ↓reduceIte]
   refine hK _ ?_
   refine bT ?_
   refine ⟨⟨k + 1, _⟩, ⟨by simp only; omega, by simp only; omega⟩, by simp only; omega, bD ?_ ?_ (Nat.le_refl _)⟩
   ·simp only [Int.natCast_add, Int.natCast_one]
   ·simp only [e2]
  ·skip
   refine aI rfl ?_
   refine bF 0 rfl rfl ?_
   refine aY (aZ (bE ?_))
   refine aB ?_
   refine aA rfl ?_
   obtain rfl : k = l.length := by omega
   have hml : (l.map hG).length = l.length := List.length_map ..
   have htk : (l.map hG).take l.length = l.map hG := List.take_of_length_le (by omega)
   refine aC (Γ := aL) [2] (aD _ _) rfl rfl rfl (fun K hK => ?_)
   simp (disch := omega) only [Tryz.f52, go_sem, Nat.reduceAdd, ↓reduceIte, lowK_all, hml, htk, iA]
   refine hK _ ?_
   refine aB ?_
   refine aS rfl ?_
   simp (disch := omega) only [cN, bV, bK, bQ, Tryz.f52, go_sem, ↓reduceIte]
 ·cases hg
theorem okz52 : bX Tryz.prog GLh 52 (.pure true smallG) := ⟨⟨_, Tryz.func52, rfl, rfl⟩, rsmall_ok⟩
set_option maxHeartbeats 1000000 in
theorem rlower_ok : dH Tryz.prog GLh 25 iF := by
 refine cT Tryz.func25 (aT rfl) ?_
 intro args r hg
 unfold iF at hg
 split at hg
 ·rename_i n xs
  replace hg := aJ hg; obtain ⟨ps, hb, hg⟩ := hg
  replace hg := aP hg; obtain ⟨⟨hn, hbig⟩, hg⟩ := hg
  obtain rfl := Option.some.inj hg
  have := gT hb; subst this
  subst hn
  clear hg hb
  refine ⟨Nat.le_of_ble_eq_true rfl, fun nx => ?_⟩
  have hpn := wirB_ge ps
  refine aA rfl ?_
  refine aC (Γ := aL) [0] (aD _ _) rfl rfl rfl (fun K hK => ?_)
  simp (disch := omega) only [Tryz.f25, go_sem, ↓reduceIte]
  refine hK _ ?_
  refine aB ?_
  refine aA rfl ?_
  refine aC (Γ := aL) [0, 3] (aD _ _) rfl rfl rfl (fun K hK => ?_)
  simp (disch := omega) only [Tryz.f25, go_sem, ↓reduceIte]
  refine hK _ ?_
  refine aB ?_
  refine aA rfl ?_
  refine aA rfl ?_
  refine aC (Γ := aL) [0, 3, 4] (aD _ _) rfl rfl rfl (fun K hK => ?_)
  simp (disch := omega) only [Tryz.f25, go_sem, ↓reduceIte]
  refine hK _ ?_
  refine aB ?_
  refine iE 3 1 rfl ?_
  refine fF [0, 3, 4] ?_
  simp only [iB, fU, eB, ↓reduceIte, Nat.reduceEqDiff]
  refine aR 0 rfl rfl ?_
  refine bR (fun p : KIC => { fr := [(0, .sl ps.length (cS ps)), (3, .os p.id 0 (dJ (ps.take p.k)).length 1 true), (4, .i p.k)], hp := upd (fun _ => none) p.id (.cells (cS (dJ (ps.take p.k))) true), nx := 0, cx := p.c }) (fun p => p.k ≤ ps.length ∧ p.id < p.c) (fun p => ps.length - p.k) rfl ⟨⟨0, _, _⟩, ⟨Nat.zero_le _, by simp only; omega⟩, bD rfl rfl (Nat.le_refl _)⟩ ?_
  rintro ⟨k, id, c⟩ ⟨hk, hid⟩ n0
  simp only at hk hid ⊢
  refine aA rfl ?_
  refine aA rfl ?_
  refine aC (Γ := aL) [8, 0, 3, 4] (aD _ _) rfl rfl rfl (fun K hK => ?_)
  simp (disch := omega) only [Tryz.f25, go_sem, Nat.reduceAdd, ↓reduceIte]
  refine hK _ ?_
  refine aB ?_
  refine aW (.tmp 8) rfl rfl rfl (fun h => ?_) (fun h => ?_)
  ·skip
   refine aI rfl ?_
   have hkl : k < ps.length := by omega
   have ht : (dJ (ps.take k)).length = k := by rw [lowS_len, List.length_take]; omega
   have hm := wirB_mem ps k
   have e6 := lowS_take ps k hkl
   have e7 : (dJ (ps.take (k + 1))).length = (dJ (ps.take k)).length + 1 := by rw [e6]; simp
   obtain ⟨l, hl⟩ : ∃ l, ps.getD k [] = l := ⟨_, rfl⟩
   rw [hl] at hm e6
   refine aQ rfl ?_
   refine aB ?_
   refine aA rfl ?_
   refine aR 1 rfl rfl ?_
   refine aC (Γ := bC [(52, .pure true smallG)]) [0, 3, 4] (aH okz52 aO) rfl rfl rfl (fun K hK => ?_)
   simp (disch := omega) only [Tryz.f25, go_sem, Nat.reduceAdd, Nat.reduceLeDiff, Nat.reduceLT, ↓reduceIte, hl, cS_snoc]
   refine hK _ ?_
   refine bU (aB ?_)
   refine aC (Γ := aL) [0, 3, 4] (aD _ _) rfl rfl rfl (fun K hK => ?_)
   simp (disch := omega) only [Tryz.f25, go_sem, Nat.reduceAdd, ↓reduceIte]
   refine hK _ ?_
   refine bT ?_
   refine ⟨⟨k + 1, c + 4 + 7, _⟩, ⟨by simp only; omega, by simp only; omega⟩, by simp only; omega, ⟨fun _ => .inr ?_, fun j o h => ?_, Nat.le_refl _⟩⟩
   ·simp only [e7, Int.natCast_add, Int.natCast_one]
   ·simp only at h
    exact bS (by simp (disch := omega) only [aV, ↓reduceIte, eq_self, e6]) (cB) j o h
  ·skip
   refine aI rfl ?_
   refine bF 0 rfl rfl ?_
   refine aY (aZ (bE ?_))
   refine aB ?_
   refine aA rfl ?_
   obtain rfl : k = ps.length := by omega
   have e8 : ps.take ps.length = ps := List.take_length
   refine aC (Γ := aL) [2] (aD _ _) rfl rfl rfl (fun K hK => ?_)
   simp (disch := omega) only [Tryz.f25, go_sem, Nat.reduceAdd, ↓reduceIte, e8]
   refine hK _ ?_
   refine aB ?_
   refine aS rfl ?_
   simp (disch := omega) only [fE, eO, bV, bK, bQ, Tryz.f25, go_sem, ↓reduceIte, cS_noOwn]
 ·cases hg
theorem okz25 : bX Tryz.prog GLh 25 (.fresh true iF) := ⟨⟨_, Tryz.func25, rfl, rfl⟩, rlower_ok⟩
def rpuI (id0 nx : Nat) : Nat → Nat
 | 0 => id0
 | j + 1 => nx + 4 + 14 * j + 9
theorem rpuI_s (id0 nx j : Nat) : rpuI id0 nx (j + 1) = nx + 4 + 14 * j + 9 := rfl
theorem rpuI_c (id0 nx j : Nat) : rpuI id0 nx j = id0 ∨ nx ≤ rpuI id0 nx j := by
 cases j with
 | zero => exact .inl rfl
 | succ j => rw [rpuI_s]; omega
def rpuHO (id n : Nat) (x : W32) (k : Int) (hp : H) (nx : Nat) : AO → Option (AV × H × Nat)
 | .cells xs mt => aK (cI xs) fun l => aN (mt = true ∧ l.length = n ∧ n ≤ 1000000 ∧ 1 ≤ k ∧ k ≤ 8 ∧ id < nx)
   (some (.os (rpuI id nx k.toNat) 0 (n + k.toNat) 1 true, upd (del hp id) (rpuI id nx k.toNat) (.cells (c8 (l ++ beL x k.toNat k.toNat)) true), nx + 4 + 14 * k.toNat + 4))
def rpuH : List AV → H → Nat → Option (AV × H × Nat)
 | [.os id 0 n 1 true, .w32 x, .i k], hp, nx => aK (hp id) (rpuHO id n x k hp nx)
 | _, _, _ => none
theorem rpuH_eq (id n nx : Nat) (x : W32) (k : Int) (hp : H) : rpuH [.os id 0 n 1 true, .w32 x, .i k] hp nx = aK (hp id) (rpuHO id n x k hp nx) := (rfl)
theorem rpuHO_c (id n nx : Nat) (x : W32) (k : Int) (hp : H) (xs : List AV) (mt : Bool) : rpuHO id n x k hp nx (.cells xs mt) = aK (cI xs) fun l => aN (mt = true ∧ l.length = n ∧ n ≤ 1000000 ∧ 1 ≤ k ∧ k ≤ 8 ∧ id < nx)
   (some (.os (rpuI id nx k.toNat) 0 (n + k.toNat) 1 true, upd (del hp id) (rpuI id nx k.toNat) (.cells (c8 (l ++ beL x k.toNat k.toNat)) true), nx + 4 + 14 * k.toNat + 4)) := (rfl)
attribute [go_sem] rpuH_eq rpuHO_c
set_option maxHeartbeats 4000000 in
theorem rpu_okH : cQ Tryz.prog GLh 54 rpuH := by
 refine gF Tryz.func54 (aT rfl) ?_
 intro args hp nx r hp' nx' hg
 unfold rpuH at hg
 split at hg
 ·rename_i id n x k0
  replace hg := aJ hg; obtain ⟨o, ho, hg⟩ := hg
  obtain ⟨xs, mt⟩ := o
  rw [rpuHO_c] at hg
  replace hg := aJ hg; obtain ⟨l, hl, hg⟩ := hg
  replace hg := aP hg; obtain ⟨⟨rfl, rfl, hn, hk1, hk8, hid⟩, hg⟩ := hg
  simp only [Option.some.injEq, Prod.mk.injEq] at hg; obtain ⟨rfl, rfl, rfl⟩ := hg
  have := bW hl; subst this
  obtain ⟨k, rfl⟩ := Int.eq_ofNat_of_zero_le (show 0 ≤ k0 by omega)
  simp only [Int.toNat_natCast] at *
  clear hl
  refine ⟨Nat.le_of_ble_eq_true rfl, by omega, fun hno => ?_⟩
  refine aA rfl ?_
  refine aC (Γ := aL) [0, 1, 2] (aD _ _) rfl rfl rfl (fun K hK => ?_)
  simp (disch := omega) only [Tryz.f54, go_sem, Nat.reduceAdd, ↓reduceIte]
  refine hK _ ?_
  refine aB ?_
  refine aA rfl ?_
  refine aA rfl ?_
  refine aC (Γ := aL) [0, 1, 7] (aD _ _) rfl rfl rfl (fun K hK => ?_)
  simp (disch := omega) only [Tryz.f54, go_sem, Nat.reduceAdd, ↓reduceIte]
  refine hK _ ?_
  refine aB ?_
  refine aR 0 rfl rfl ?_
  refine bR (fun p : Nat => { fr := [(0, .os (rpuI id nx p) 0 (l.length + p) 1 true), (1, .w32 x), (7, .i ((k : Int) - 1 - (p : Int)))], hp := upd (del hp id) (rpuI id nx p) (.cells (c8 (l ++ beL x k p)) true), nx := 0, cx := nx + 4 + 14 * p }) (fun p => p ≤ k) (fun p => k - p) rfl ⟨0, Nat.zero_le _, ⟨fun _ => .inr (by simp only [Int.natCast_zero, Int.sub_zero, rpuI, Nat.add_zero]), by simp only [rpuI, beL, List.append_nil]; exact sub_put0 ho, Nat.le_refl _⟩⟩ ?_
  rintro j hj n0
  simp only at hj ⊢
  refine aA rfl ?_
  refine aA rfl ?_
  refine aC (Γ := aL) [11, 0, 1, 7] (aD _ _) rfl rfl rfl (fun K hK => ?_)
  simp (disch := omega) only [Tryz.f54, go_sem, Nat.reduceAdd, ↓reduceIte]
  refine hK _ ?_
  refine aB ?_
  refine aW (.tmp 11) rfl rfl rfl (fun h => ?_) (fun h => ?_)
  ·skip
   refine aI rfl ?_
   have e1 : (8 * ((k : Int) - 1 - (j : Int))).toNat = 8 * (k - 1 - j) := by omega
   have hlj := cZ x k j
   have hpi := rpuI_c id nx j
   have hlen : (l ++ beL x k j).length = l.length + j := by rw [List.length_append, hlj]
   have hpib : rpuI id nx j < nx + 4 + 14 * j := by cases j with
    | zero => show id < _; omega
    | succ j => rw [rpuI_s]; omega
   refine aQ rfl ?_
   refine aB ?_
   refine aA rfl ?_
   refine aR 1 rfl rfl ?_
   refine aC (Γ := aL) [0, 1, 7] (aD _ _) rfl rfl rfl (fun K hK => ?_)
   simp (disch := omega) only [Tryz.f54, go_sem, Nat.reduceAdd, Nat.reduceLeDiff, Nat.reduceLT, ↓reduceIte, e1, hlen]
   refine hK _ ?_
   refine bU (aB ?_)
   refine aC (Γ := aL) [0, 1, 7] (aD _ _) rfl rfl rfl (fun K hK => ?_)
   simp (disch := omega) only [Tryz.f54, go_sem, Nat.reduceAdd, ↓reduceIte]
   refine hK _ ?_
   refine bT ?_
   have e2 : (k : Int) - 1 - ((j : Int) + 1) = (k : Int) - 1 - (j : Int) - 1 := by omega
   have e4 : l ++ beL x k (j + 1) = l ++ beL x k j ++ [(x >>> (8 * (k - 1 - j))).setWidth 8] := by rw [List.append_assoc]; rfl
   have ei : rpuI id nx (j + 1) = nx + 4 + 14 * j + 2 + 7 := by rw [rpuI_s]
   refine ⟨j + 1, by omega, by omega, ⟨fun _ => .inr ?_, ?_, by simp only; omega⟩⟩
   ·simp only [ei, Int.natCast_add, Int.natCast_one, e2, Nat.add_assoc]
   ·simp only [ei, e4]
    exact sub_put hno hpi (by omega)
  ·skip
   refine aI rfl ?_
   refine bF 0 rfl rfl ?_
   refine aY (aZ (bE ?_))
   refine aB ?_
   refine aA rfl ?_
   obtain rfl : j = k := by omega
   refine aC (Γ := aL) [6] (aD _ _) rfl rfl rfl (fun K hK => ?_)
   simp (disch := omega) only [Tryz.f54, go_sem, Nat.reduceAdd, ↓reduceIte]
   refine hK _ ?_
   refine aB ?_
   refine aS rfl ?_
   exact ⟨by simp (disch := omega) only [bV, bK, bQ, Tryz.f54, go_sem], fun _ _ h => h, by simp only; omega⟩
 ·cases hg
theorem okzp : bX Tryz.prog GLh 54 (.heap rpuH) := ⟨⟨_, Tryz.func54, rfl, rfl⟩, rpu_okH⟩
end Go.AX
namespace Go.AX
open Go Go.Proofs
theorem pn5 (a b c d e : W32) : pn [a, b, c, d, e] = beL a 4 4 ++ beL b 4 4 ++ beL c 4 4 ++ beL d 4 4 ++ beL e 4 4 := by simp [pn]
theorem pn3 (a b c : W32) : pn [a, b, c] = beL a 4 4 ++ beL b 4 4 ++ beL c 4 4 := by simp [pn]
attribute [go_sem] rpuI_s
set_option maxHeartbeats 4000000 in
theorem rsoaB_ok : dH Tryz.prog GLh 27 soaBG := by
 refine cT Tryz.func27 (aT rfl) ?_
 intro args r hg
 unfold soaBG at hg
 split at hg
 ·rename_i n xs m ys v1 v2 v3 v4 v5
  replace hg := aJ hg; obtain ⟨p0, hp, hg⟩ := hg
  replace hg := aJ hg; obtain ⟨q, hq, hg⟩ := hg
  replace hg := aP hg; obtain ⟨⟨rfl, rfl, hwp, hwq⟩, hg⟩ := hg
  obtain rfl := Option.some.inj hg
  have := gT hp; subst this
  have := gT hq; subst this
  clear hg hp hq
  refine ⟨Nat.le_of_ble_eq_true rfl, fun nx => ?_⟩
  have w1 := fS p0
  have w2 := fS q
  have w3 := dS p0
  have w4 := dS q
  have hso : soaB p0 q [v1, v2, v3, v4, v5] = cM p0 ++ cM q ++ beL v1 4 4 ++ beL v2 4 4 ++ beL v3 4 4 ++ beL v4 4 4 ++ beL v5 4 4 := by
   unfold soaB; rw [pn5]; simp only [List.append_assoc]
  rw [hso]
  refine aA rfl ?_
  refine aC (Γ := aL) [1] (aD _ _) rfl rfl rfl (fun K hK => ?_)
  simp (disch := omega) only [Tryz.f27, go_sem, Nat.reduceAdd, ↓reduceIte]
  refine hK _ ?_
  refine aB ?_
  refine awp_rp 1 nx 0 rfl (by simp only [aV, if_true]; rfl) ?_
  refine aA rfl ?_
  refine bB (Γ := bC [(24, .fresh true wireG)]) (fun _ => 1) [1, 3] bZ (aH ok15 aO) rfl rfl rfl (by kernel_rfl) (fun K hK => ?_)
  simp (disch := omega) only [Tryz.f27, go_sem, Nat.reduceAdd, Nat.reduceLT, ↓reduceIte]
  refine hK _ ?_
  refine aB ?_
  refine aA rfl ?_
  refine bB (Γ := bC [(54, .heap rpuH)]) (fun k => if k = 3 then 0 else if k = 6 then 0 else if k = 9 then 0 else if k = 12 then 0 else if k = 15 then 0 else 1) [2] bZ (aH okzp aO) rfl rfl rfl (by kernel_rfl) (fun K hK => ?_)
  simp (maxSteps := 400000) (disch := omega) only [Tryz.f27, go_sem, Nat.reduceAdd, Nat.reduceMul, Nat.reduceLeDiff, Nat.reduceLT, Int.reduceLE, Int.reduceToNat, ↓reduceIte, List.length_append, cZ]
  refine hK _ ?_
  refine aB ?_
  refine awp_hp (hp' := upd (fun _ => none) (nx + 2 + 8 + 17 + 4 + 56 + 4 + 4 + 56 + 4 + 4 + 56 + 4 + 4 + 56 + 4 + 4 + 42 + 9) (.cells (c8 (cM p0 ++ cM q ++ beL v1 4 4 ++ beL v2 4 4 ++ beL v3 4 4 ++ beL v4 4 4 ++ beL v5 4 4)) true)) (fun j o h => ?_) ?_
  ·skip
   exact bS (by simp (disch := omega) only [aV, ↓reduceIte, eq_self]) (cB) j o h
  have hLl : (cM p0 ++ cM q ++ beL v1 4 4 ++ beL v2 4 4 ++ beL v3 4 4 ++ beL v4 4 4 ++ beL v5 4 4).length = (cM p0).length + (cM q).length + 4 + 4 + 4 + 4 + 4 := by simp only [List.length_append, cZ]
  obtain ⟨L, hL⟩ : ∃ L, cM p0 ++ cM q ++ beL v1 4 4 ++ beL v2 4 4 ++ beL v3 4 4 ++ beL v4 4 4 ++ beL v5 4 4 = L := ⟨_, rfl⟩
  rw [hL] at hLl ⊢
  refine aS rfl ?_
  simp (disch := omega) only [fE, eO, bV, bK, bQ, Tryz.f27, go_sem, ↓reduceIte, fQ, hLl]
 ·cases hg
theorem okz27 : bX Tryz.prog GLh 27 (.fresh true soaBG) := ⟨⟨_, Tryz.func27, rfl, rfl⟩, rsoaB_ok⟩
set_option maxHeartbeats 8000000 in
set_option maxRecDepth 100000 in
theorem rsigB_ok : dH Tryz.prog GLh 29 sigBG := by
 refine cT Tryz.func29 (aT rfl) ?_
 intro args r hg
 unfold sigBG at hg
 split at hg
 ·rename_i t al lb v1 v2 v3 tag n xs m ys
  replace hg := aJ hg; obtain ⟨p0, hp, hg⟩ := hg
  replace hg := aJ hg; obtain ⟨s, hq, hg⟩ := hg
  replace hg := aP hg; obtain ⟨⟨rfl, rfl, hwp, hsl⟩, hg⟩ := hg
  obtain rfl := Option.some.inj hg
  have := gT hp; subst this
  have := bW hq; subst this
  clear hg hp hq
  refine ⟨Nat.le_of_ble_eq_true rfl, fun nx => ?_⟩
  have w1 := fS p0
  have w3 := dS p0
  have hso : sigB t al lb [v1, v2, v3] tag p0 s = b2 t ++ [al, lb] ++ beL v1 4 4 ++ beL v2 4 4 ++ beL v3 4 4 ++ b2 tag ++ cM p0 ++ s := by
   unfold sigB; rw [pn3]; simp only [List.append_assoc]
  rw [hso]
  refine aA rfl ?_
  refine aC (Γ := aL) [1] (aD _ _) rfl rfl rfl (fun K hK => ?_)
  simp (disch := omega) only [Tryz.f29, go_sem, Nat.reduceAdd, ↓reduceIte]
  refine hK _ ?_
  refine aB ?_
  refine awp_rp 1 nx 0 rfl (by simp only [aV, if_true]; rfl) ?_
  refine aA rfl ?_
  refine bB (Γ := bC [(54, .fresh false putF)]) (fun k => if k = 3 then 2 else 1) [1, 3] bZ (aH ok16 aO) rfl rfl rfl (by kernel_rfl) (fun K hK => ?_)
  simp (disch := omega) only [Tryz.f29, go_sem, Nat.reduceAdd, Nat.reduceLeDiff, Nat.reduceLT, Int.reduceLE, Int.reduceToNat, ↓reduceIte, tag2b, gS]
  refine hK _ ?_
  refine aB ?_
  refine aA rfl ?_
  refine bB (Γ := bC [(54, .heap rpuH)]) (fun k => if k = 3 then 0 else if k = 6 then 0 else if k = 9 then 0 else 1) [1, 3] bZ (aH okzp aO) rfl rfl rfl (by kernel_rfl) (fun K hK => ?_)
  simp (disch := omega) only [Tryz.f29, go_sem, Nat.reduceAdd, Nat.reduceMul, Nat.reduceLeDiff, Nat.reduceLT, Int.reduceLE, Int.reduceToNat, ↓reduceIte, List.length_append, cZ, gS, List.length_cons, List.length_nil]
  refine hK _ ?_
  refine aB ?_
  refine awp_hp (hp' := upd (fun _ => none) (nx + 2 + 11 + 11 + 4 + 56 + 4 + 4 + 56 + 4 + 4 + 42 + 9) (.cells (c8 (b2 t ++ [al, lb] ++ beL v1 4 4 ++ beL v2 4 4 ++ beL v3 4 4)) true)) (fun j o h => ?_) ?_
  ·skip
   exact bS (by simp (disch := omega) only [aV, ↓reduceIte, eq_self]) (cB) j o h
  refine aA rfl ?_
  refine awp_dr2 (Γ := bC [(54, .heap rpuH), (24, .fresh true wireG)]) 4 7 [0, 1, 2, 3, 4, 5, 6, 7, 8, 9, 10, 11, 12] [0, 1, 2, 3, 4, 5, 6, 7, 8, 9, 10, 11, 12] (fun k => if k = 4 then 0 else if k = 11 then 0 else 1) [2] bZ (aH okzp (aH ok15 aO)) (by decide) rfl rfl rfl (by kernel_rfl) (fun K hK => ?_) (fun K hK => ?_)
  ·skip
   simp (disch := omega) only [Tryz.f29, go_sem, runM_nil, runM_cons, hS, List.getElem?_cons_zero, List.getElem?_cons_succ, Nat.reduceAdd, Nat.reduceMul, Nat.reduceLeDiff, Nat.reduceLT, Int.reduceLE, Int.reduceToNat, ↓reduceIte, tag2b, List.length_append, cZ, gS, List.length_cons, List.length_nil]
   refine hK _ ?_
   refine aB ?_
   have hLl : (b2 t ++ [al, lb] ++ beL v1 4 4 ++ beL v2 4 4 ++ beL v3 4 4 ++ b2 tag ++ cM p0 ++ s).length = 16 + 2 + (cM p0).length + s.length := by simp only [List.length_append, cZ, gS, List.length_cons, List.length_nil]
   obtain ⟨L, hL⟩ : ∃ L, b2 t ++ [al, lb] ++ beL v1 4 4 ++ beL v2 4 4 ++ beL v3 4 4 ++ b2 tag ++ cM p0 ++ s = L := ⟨_, rfl⟩
   rw [hL] at hLl ⊢
   refine aS rfl ?_
   simp (disch := omega) only [fE, eO, bV, bK, bQ, Tryz.f29, go_sem, Nat.reduceAdd, ↓reduceIte, fQ, hLl]
  ·skip
   simp (disch := omega) only [Tryz.f29, go_sem, runM_nil, runM_cons, hS, List.getElem?_cons_zero, List.getElem?_cons_succ, Nat.reduceAdd, Nat.reduceMul, Nat.reduceLeDiff, Nat.reduceLT, Int.reduceLE, Int.reduceToNat, ↓reduceIte, tag2b, List.length_append, cZ, gS, List.length_cons, List.length_nil]
   refine hK _ ?_
   refine aB ?_
   have hLl : (b2 t ++ [al, lb] ++ beL v1 4 4 ++ beL v2 4 4 ++ beL v3 4 4 ++ b2 tag ++ cM p0 ++ s).length = 16 + 2 + (cM p0).length + s.length := by simp only [List.length_append, cZ, gS, List.length_cons, List.length_nil]
   obtain ⟨L, hL⟩ : ∃ L, b2 t ++ [al, lb] ++ beL v1 4 4 ++ beL v2 4 4 ++ beL v3 4 4 ++ b2 tag ++ cM p0 ++ s = L := ⟨_, rfl⟩
   rw [hL] at hLl ⊢
   refine aS rfl ?_
   simp (disch := omega) only [fE, eO, bV, bK, bQ, Tryz.f29, go_sem, Nat.reduceAdd, ↓reduceIte, fQ, hLl]
 ·cases hg
theorem okz29 : bX Tryz.prog GLh 29 (.fresh true sigBG) := ⟨⟨_, Tryz.func29, rfl, rfl⟩, rsigB_ok⟩
end Go.AX
namespace Go.AX
open Go Go.Proofs
def wholeB (l : List B8) : Bool := match nmO l with
 | none => false
 | some (_, s) => decide (s = l.length)
def wholeG : List AV → Option AV
 | [.sl n xs] => aK (cI xs) fun l => aN (l.length = n ∧ n ≤ 100000) (some (.b (wholeB l)))
 | _ => none
theorem wholeG_eq (n : Nat) (xs : List AV) : wholeG [.sl n xs] = aK (cI xs) fun l => aN (l.length = n ∧ n ≤ 100000) (some (.b (wholeB l))) := (rfl)
attribute [go_sem] wholeG_eq
theorem whole_n {l : List B8} (h : nmO l = none) : wholeB l = false := by unfold wholeB; rw [h]
theorem whole_s {l : List B8} {n : Nm} {s : Nat} (h : nmO l = some (n, s)) : wholeB l = decide ((s : Int) = (l.length : Int)) := by
 unfold wholeB; rw [h]
 by_cases e : s = l.length
 ·rw [decide_eq_true (show (s : Int) = (l.length : Int) by omega)]; exact decide_eq_true e
 ·rw [decide_eq_false (show ¬ (s : Int) = (l.length : Int) by omega)]; exact decide_eq_false e
set_option maxHeartbeats 4000000 in
theorem whole_ok : cL Tryz.prog GLh 38 wholeG := by
 refine cC Tryz.func38 (aT rfl) ?_
 intro args r hg
 unfold wholeG at hg
 split at hg
 ·rename_i n xs
  replace hg := aJ hg; obtain ⟨l, hl, hg⟩ := hg
  replace hg := aP hg; obtain ⟨⟨rfl, hn⟩, hg⟩ := hg
  obtain rfl := Option.some.inj hg
  have := bW hl; subst this
  refine ⟨Nat.le_of_ble_eq_true rfl, fun nx => ?_⟩
  clear hl hg
  refine aA rfl ?_
  refine aC (Γ := aL) [0] (aD _ _) rfl rfl rfl (fun K hK => ?_)
  simp (disch := omega) only [Tryz.f38, go_sem, ↓reduceIte]
  refine hK _ ?_
  refine aB ?_
  rcases iI l with ⟨hn, k, hk, hc⟩ | ⟨n, s, hn, hsb, hc⟩
  ·skip
   have hd0 : decide (k = 0) = false := decide_eq_false hk
   rw [whole_n hn]
   refine aA rfl ?_
   refine aC (Γ := bC [(23, .pure false iH)]) [0, 4, 5] (aH ok50 aO) rfl rfl rfl (fun K hK => ?_)
   simp (disch := omega) only [Tryz.f38, go_sem, Nat.reduceAdd, ↓reduceIte, hc]
   refine hK _ ?_
   refine aB ?_
   refine aA rfl ?_
   refine aC (Γ := aL) [2] (aD _ _) rfl rfl rfl (fun K hK => ?_)
   simp (disch := omega) only [Tryz.f38, go_sem, Nat.reduceAdd, reduceCtorEq, ↓reduceIte, hd0]
   refine hK _ ?_
   refine aB ?_
   refine aS rfl ?_
   simp (disch := omega) only [cN, bV, bK, bQ, Tryz.f38, go_sem, ↓reduceIte]
  ·skip
   rw [whole_s hn]
   refine aA rfl ?_
   refine aC (Γ := bC [(23, .pure false iH)]) [0, 4, 5] (aH ok50 aO) rfl rfl rfl (fun K hK => ?_)
   simp (disch := omega) only [Tryz.f38, go_sem, Nat.reduceAdd, ↓reduceIte, hc]
   refine hK _ ?_
   refine aB ?_
   refine aA rfl ?_
   refine aC (Γ := aL) [2] (aD _ _) rfl rfl rfl (fun K hK => ?_)
   simp (disch := omega) only [Tryz.f38, go_sem, Nat.reduceAdd, ↓reduceIte]
   refine hK _ ?_
   refine aB ?_
   refine aS rfl ?_
   simp (disch := omega) only [cN, bV, bK, bQ, Tryz.f38, go_sem, ↓reduceIte]
 ·cases hg
theorem okz38 : bX Tryz.prog GLh 38 (.pure true wholeG) := ⟨⟨_, Tryz.func38, rfl, rfl⟩, whole_ok⟩
structure Cd (l : List B8) (ok : Bool) (ans : Int) : Prop where
 yes : ok = true → l.length ≤ 8192 → ans = 0
 no : ok = false → ans = 50
 big : 8192 < l.length → ans = 50
theorem chk_big {t : BitVec 16} {l : List B8} (h : 8192 < l.length) : gJ t l = 50 := if_pos h
theorem cd_of {t : BitVec 16} {l : List B8} {ok : Bool} (h : l.length ≤ 8192 → gJ t l = if ok = true then 0 else 50) : Cd l ok (gJ t l) := by
 refine ⟨fun h1 h2 => by rw [h h2, if_pos h1], fun h1 => ?_, chk_big⟩
 by_cases hb : 8192 < l.length
 ·exact chk_big hb
 ·rw [h (by omega), if_neg (by rw [h1]; decide)]
set_option maxHeartbeats 4000000 in
theorem iG (l : List B8) (ok : Bool) (ans : Int) (h : Cd l ok ans) (hp0 : H) (n0 c0 : Nat) : Awp Tryz.prog GLh Tryz.f10.ntmps (cr (cr (cr (aE Tryz.f10)))) ⟨[(1, .sl l.length (c8 l)), (5, .b ok)], hp0, n0, c0⟩ (cN Tryz.prog Tryz.f10.results.toList (.i ans)) := by
 rcases hok : ok with _ | _
 ·skip
  rw [h.no hok]
  refine aA rfl ?_
  refine aA rfl ?_
  refine aC (Γ := aL) [126] (aD _ _) rfl rfl rfl (fun K hK => ?_)
  simp (disch := omega) only [Tryz.f10, go_sem, Nat.reduceAdd, ↓reduceIte]
  refine hK _ ?_
  refine aB ?_
  refine bA (.tmp 126) rfl rfl rfl (fun h => ?_) (fun h => ?_)
  ·skip
   refine aI rfl ?_
   refine aA rfl ?_
   refine aC (Γ := aL) [4] (aD _ _) rfl rfl rfl (fun K hK => ?_)
   simp (disch := omega) only [Tryz.f10, go_sem, ↓reduceIte]
   refine hK _ ?_
   refine aB ?_
   refine aS rfl ?_
   refine bI ?_
   simp (disch := omega) only [cN, bV, bK, bQ, Tryz.f10, go_sem, ↓reduceIte]
  ·skip
   refine aI rfl ?_
   cases h
 ·skip
  by_cases hb : 8192 < l.length
  ·skip
   rw [h.big hb]
   have d : decide ((8192 : Int) < (l.length : Int)) = true := decide_eq_true (by omega)
   refine aA rfl ?_
   refine aA rfl ?_
   refine aC (Γ := aL) [126] (aD _ _) rfl rfl rfl (fun K hK => ?_)
   simp (disch := omega) only [Tryz.f10, go_sem, Nat.reduceAdd, reduceCtorEq, ↓reduceIte, d]
   refine hK _ ?_
   refine aB ?_
   refine bA (.tmp 126) rfl rfl rfl (fun h => ?_) (fun h => ?_)
   ·skip
    refine aI rfl ?_
    refine aA rfl ?_
    refine aC (Γ := aL) [4] (aD _ _) rfl rfl rfl (fun K hK => ?_)
    simp (disch := omega) only [Tryz.f10, go_sem, ↓reduceIte]
    refine hK _ ?_
    refine aB ?_
    refine aS rfl ?_
    refine bI ?_
    simp (disch := omega) only [cN, bV, bK, bQ, Tryz.f10, go_sem, ↓reduceIte]
   ·skip
    refine aI rfl ?_
    cases h
  ·skip
   rw [h.yes hok (by omega)]
   have d : decide ((8192 : Int) < (l.length : Int)) = false := decide_eq_false (by omega)
   refine aA rfl ?_
   refine aA rfl ?_
   refine aC (Γ := aL) [126] (aD _ _) rfl rfl rfl (fun K hK => ?_)
   simp (disch := omega) only [Tryz.f10, go_sem, Nat.reduceAdd, reduceCtorEq, ↓reduceIte, d]
   refine hK _ ?_
   refine aB ?_
   refine bA (.tmp 126) rfl rfl rfl (fun h => ?_) (fun h => ?_)
   ·skip
    refine aI rfl ?_
    cases h
   ·skip
    refine aI rfl ?_
    clear h
    refine aQ rfl ?_
    refine aB ?_
    refine aA rfl ?_
    refine aC (Γ := aL) [4] (aD _ _) rfl rfl rfl (fun K hK => ?_)
    simp (disch := omega) only [Tryz.f10, go_sem, ↓reduceIte]
    refine hK _ ?_
    refine aB ?_
    refine aS rfl ?_
    simp (disch := omega) only [cN, bV, bK, bQ, Tryz.f10, go_sem, ↓reduceIte]
end Go.AX
