/-
  Data, part yH: the canonical form of data of any type. Data, part zK: known, over Check and Canon of every type.
-/
import Derived.Test.YtndohkbppgmbjaaGreatCJ
import Derived.Test.YtndohkbppgmbjaaGreatCA
namespace Go.AX
open Go Go.Proofs
theorem wl_low (n : Nm) : wl (dJ n) = wl n := by rw [← fS, ← fS, wirB_low]
theorem chkF_E {t : BitVec 16} (h : tgT t) (l : List B8) : gJ t l = chkE t l := by
 obtain ⟨a1, a2, _, _, a5, a6⟩ := tgT_ne h
 unfold gJ chkE
 rw [if_neg a5, if_neg a6]
theorem rdE_0 {len : Nat} {o : Option (AV × List AV)} (h : rdE len o = 0) : ∃ v s, o = some (v, [s, .i (len : Int)]) := by
 unfold rdE at h
 split at h
 ·split at h
  ·rename_i v s p e; subst e; exact ⟨v, s, rfl⟩
  ·cases h
 ·cases h
theorem chk_soa {l : List B8} (h0 : gJ 6#16 l = 0) : ∃ n m p, nm2 l = some (n, m, p) ∧ p + 4 + 4 + 4 + 4 + 4 = l.length ∧ wl n ≤ 255 ∧ wl m ≤ 255 ∧ soaT l = .tup [soaA l n m p, .i 0] := by
 unfold gJ at h0
 split at h0
 ·cases h0
 rw [if_pos rfl] at h0
 obtain ⟨v, s, e⟩ := rdE_0 h0
 unfold soaT
 rw [e, fO _ _ _ rfl]
 unfold eX at e
 rcases hn : nm2 l with _ | ⟨n, m, p⟩
 ·rw [hn] at e; cases e
 ·rw [hn] at e
  simp only [soa1S] at e
  split at e
  ·rename_i hle
   simp only [Option.some.injEq, Prod.mk.injEq, List.cons.injEq, AV.i.injEq, and_true] at e
   obtain ⟨e1, _, e2⟩ := e
   have hw : wl n ≤ 255 ∧ wl m ≤ 255 := by
    unfold nm2 at hn
    rcases h1 : nmO l with _ | ⟨n', s'⟩
    ·rw [h1] at hn; cases hn
    ·rw [h1] at hn
     simp only at hn
     rcases h2 : nmO (l.drop s') with _ | ⟨m', s2'⟩
     ·rw [h2] at hn; cases hn
     ·rw [h2] at hn
      simp only [Option.some.injEq, Prod.mk.injEq] at hn
      obtain ⟨rfl, rfl, rfl⟩ := hn
      exact ⟨(nmO_wl h1).2.1, (nmO_wl h2).2.1⟩
   exact ⟨n, m, p, rfl, by omega, hw.1, hw.2, by rw [e1]⟩
  ·cases e
theorem chk_sig {l : List B8} (h0 : gJ 46#16 l = 0) : ∃ n s, nmO (l.drop 18) = some (n, s) ∧ 18 + s ≤ l.length ∧ wl n ≤ 255 ∧ sigT l = .tup [sigA l n (18 + s), .i 0] := by
 unfold gJ at h0
 split at h0
 ·cases h0
 rw [if_neg (by decide), if_pos rfl] at h0
 obtain ⟨v, s, e⟩ := rdE_0 h0
 unfold sigT
 rw [e, fO _ _ _ rfl]
 unfold eY at e
 split at e
 ·rename_i h18
  rcases hn : nmO (l.drop 18) with _ | ⟨n, s⟩
  ·rw [hn] at e; cases e
  ·rw [hn] at e
   simp only [sig1S, Option.some.injEq, Prod.mk.injEq] at e
   have := nmO_le hn
   rw [List.length_drop] at this
   exact ⟨n, s, rfl, by omega, (nmO_wl hn).2.1, by rw [e.1]⟩
 ·cases e
def soaC (l : List B8) : List B8 := match nm2 l with
 | some (n, m, p) => soaB (dJ n) (dJ m) [dX l p, dX l (p + 4), dX l (p + 4 + 4), dX l (p + 4 + 4 + 4), dX l (p + 4 + 4 + 4 + 4)]
 | none => []
def sigC (l : List B8) : List B8 := match nmO (l.drop 18) with
 | some (n, s) => sigB ((eK (l.take 2)).setWidth 16) (l.getD 2 0#8) (l.getD 3 0#8) [dX l 4, dX l 8, dX l 12] ((eK ((l.drop 16).take 2)).setWidth 16) (dJ n) (l.drop (18 + s))
 | none => []
def gA (t : BitVec 16) (l : List B8) : List B8 := if tgT t then l.take (ahd t) ++ cM (dJ (nmN t l)) else if t = 6#16 then soaC l else if t = 46#16 then sigC l else l
def canFT (t : BitVec 16) (l : List B8) : AV := if gJ t l = 0 then .tup [.sl (gA t l).length (c8 (gA t l)), .i 0] else .tup [.sl 0 [], .i (gJ t l)]
def canFG : List AV → Option AV
 | [.w16 t, .sl n xs] => aK (cI xs) fun l => aN (l.length = n ∧ n ≤ 100000) (some (canFT t l))
 | _ => none
theorem canFG_eq (t : BitVec 16) (n : Nat) (xs : List AV) : canFG [.w16 t, .sl n xs] = aK (cI xs) fun l => aN (l.length = n ∧ n ≤ 100000) (some (canFT t l)) := (rfl)
attribute [go_sem] canFG_eq
set_option maxHeartbeats 8000000 in
theorem canF_ok : cL Tryz.prog GLh 5 canFG := by
 refine cC Tryz.func5 (aT rfl) ?_
 intro args r hg
 unfold canFG at hg
 split at hg
 ·rename_i t n xs
  replace hg := aJ hg; obtain ⟨l, hl, hg⟩ := hg
  replace hg := aP hg; obtain ⟨⟨rfl, hn⟩, hg⟩ := hg
  obtain rfl := Option.some.inj hg
  have := bW hl; subst this
  clear hg hl
  refine ⟨Nat.le_of_ble_eq_true rfl, fun nx => ?_⟩
  unfold canFT
  have hct : tgT t → gJ t l = 0 → ∃ n s, nmO (l.drop (ahd t)) = some (n, s) ∧ ahd t + s = l.length ∧ tgtT t l = .tup [.sl n.length (cS n), .i 0] := fun h h0 => chk_tg h (by rw [← chkF_E h]; exact h0)
  have hlt : (l.take (ahd t)).length = min (ahd t) l.length := List.length_take
  unfold gA nmN
  obtain ⟨e, he⟩ : ∃ e, gJ t l = e := ⟨_, rfl⟩
  rw [he] at hct ⊢
  refine aA rfl ?_
  refine aC (Γ := aL) [0, 1] (aD _ _) rfl rfl rfl (fun K hK => ?_)
  simp (disch := omega) only [Tryz.f5, go_sem, Nat.reduceAdd, ↓reduceIte]
  refine hK _ ?_
  refine aB ?_
  refine aA rfl ?_
  refine aA rfl ?_
  refine aC (Γ := bC [(9, .pure true chkFG)]) [0, 1, 6] (aH ok13f aO) rfl rfl rfl (fun K hK => ?_)
  simp (disch := omega) only [Tryz.f5, go_sem, Nat.reduceAdd, ↓reduceIte, he]
  refine hK _ ?_
  refine aB ?_
  refine aA rfl ?_
  refine aC (Γ := aL) [17, 0, 1, 6] (aD _ _) rfl rfl rfl (fun K hK => ?_)
  simp (disch := omega) only [Tryz.f5, go_sem, Nat.reduceAdd, ↓reduceIte]
  refine hK _ ?_
  refine aB ?_
  by_cases h0 : e = 0
  ·skip
   subst h0
   rw [if_pos rfl]
   refine bA (.tmp 17) rfl rfl rfl (fun h => ?_) (fun h => ?_)
   ·skip
    refine aI rfl ?_
    exact absurd h (by decide)
   ·skip
    refine aI rfl ?_
    clear h
    refine aQ rfl ?_
    refine aB ?_
    refine aA rfl ?_
    refine aA rfl ?_
    refine aC (Γ := aL) [0, 1, 19] (aD _ _) rfl rfl rfl (fun K hK => ?_)
    simp (disch := omega) only [Tryz.f5, go_sem, ↓reduceIte]
    refine hK _ ?_
    refine aB ?_
    refine aR 0 rfl rfl ?_
    refine aA rfl ?_
    refine aA rfl ?_
    refine aC (Γ := aL) [0, 1, 19, 20] (aD _ _) rfl rfl rfl (fun K hK => ?_)
    simp (disch := omega) only [Tryz.f5, go_sem, Nat.reduceAdd, Int.reduceLE, Int.reduceLT, BitVec.reduceOfInt, ↓reduceIte]
    refine hK _ ?_
    refine aB ?_
    refine aW (.tmp 20) rfl rfl rfl (fun h => ?_) (fun h => ?_)
    ·skip
     have h2 := h
     refine aQ rfl ?_
     refine aB ?_
     refine aW (.tmp 20) rfl rfl rfl (fun h => ?_) (fun h => ?_)
     ·skip
      have htg : tgT t := .inl h2
      obtain ⟨n, s, q1, q2, q3⟩ := hct htg rfl
      obtain ⟨w1, w2, w3⟩ := nmO_wl q1
      have w4 := fS n
      have w5 := wirB_low n
      have ha := ahd_le t
      rw [if_pos htg, q1]
      have hta : (l.take (ahd t)).length = ahd t := by rw [hlt]; omega
      have hall : (cM (dJ n)).length = (eF (dJ n)).length + 1 := by simp [cM]
      refine aA rfl ?_
      refine aC (Γ := bC [(7, .pure false tgG)]) [0, 1, 7] (aH ok17 aO) rfl rfl rfl (fun K hK => ?_)
      simp (disch := omega) only [Tryz.f5, go_sem, Nat.reduceAdd, ↓reduceIte, q3]
      refine hK _ ?_
      refine aB ?_
      refine aA rfl ?_
      refine aC (Γ := bC [(16, .pure true aheadG), (15, .fresh true cloneG), (18, .fresh true iF), (17, .fresh true wireG)]) [4, 5] (aH ok37 (aH ok36 (aH ok39 (aH ok38 aO)))) rfl rfl rfl (fun K hK => ?_)
      simp (disch := omega) only [Tryz.f5, go_sem, Nat.reduceAdd, Nat.reduceLeDiff, Nat.reduceLT, Int.reduceLE, Int.reduceToNat, ↓reduceIte, Int.toNat_natCast, Nat.sub_zero, hta, hall]
      refine hK _ ?_
      refine aB ?_
      refine aS rfl ?_
      refine bN (bI ?_)
      simp (disch := omega) only [cN, bV, bK, bQ, Tryz.f5, go_sem, ↓reduceIte]
      rw [hta, hall, List.take_of_length_le (by rw [List.length_append, hta, hall]; exact Nat.le_refl _)]
     ·skip
      exact absurd h2 h
    ·skip
     have h2 := h
     refine aA rfl ?_
     refine aC (Γ := aL) [0, 1, 19, 20] (aD _ _) rfl rfl rfl (fun K hK => ?_)
     simp (disch := omega) only [Tryz.f5, go_sem, Nat.reduceAdd, Int.reduceLE, Int.reduceLT, BitVec.reduceOfInt, ↓reduceIte]
     refine hK _ ?_
     refine aB ?_
     refine aW (.tmp 20) rfl rfl rfl (fun h => ?_) (fun h => ?_)
     ·skip
      have h5 := h
      refine aQ rfl ?_
      refine aB ?_
      refine aW (.tmp 20) rfl rfl rfl (fun h => ?_) (fun h => ?_)
      ·skip
       have htg : tgT t := .inr (.inl h5)
       obtain ⟨n, s, q1, q2, q3⟩ := hct htg rfl
       obtain ⟨w1, w2, w3⟩ := nmO_wl q1
       have w4 := fS n
       have w5 := wirB_low n
       have ha := ahd_le t
       rw [if_pos htg, q1]
       have hta : (l.take (ahd t)).length = ahd t := by rw [hlt]; omega
       have hall : (cM (dJ n)).length = (eF (dJ n)).length + 1 := by simp [cM]
       refine aA rfl ?_
       refine aC (Γ := bC [(7, .pure false tgG)]) [0, 1, 7] (aH ok17 aO) rfl rfl rfl (fun K hK => ?_)
       simp (disch := omega) only [Tryz.f5, go_sem, Nat.reduceAdd, ↓reduceIte, q3]
       refine hK _ ?_
       refine aB ?_
       refine aA rfl ?_
       refine aC (Γ := bC [(16, .pure true aheadG), (15, .fresh true cloneG), (18, .fresh true iF), (17, .fresh true wireG)]) [4, 5] (aH ok37 (aH ok36 (aH ok39 (aH ok38 aO)))) rfl rfl rfl (fun K hK => ?_)
       simp (disch := omega) only [Tryz.f5, go_sem, Nat.reduceAdd, Nat.reduceLeDiff, Nat.reduceLT, Int.reduceLE, Int.reduceToNat, ↓reduceIte, Int.toNat_natCast, Nat.sub_zero, hta, hall]
       refine hK _ ?_
       refine aB ?_
       refine aS rfl ?_
       refine bN (bI ?_)
       simp (disch := omega) only [cN, bV, bK, bQ, Tryz.f5, go_sem, ↓reduceIte]
       rw [hta, hall, List.take_of_length_le (by rw [List.length_append, hta, hall]; exact Nat.le_refl _)]
      ·skip
       exact absurd h5 h
     ·skip
      have h5 := h
      refine aC (Γ := aL) [20, 0, 1, 19] (aD _ _) rfl rfl rfl (fun K hK => ?_)
      simp (disch := omega) only [Tryz.f5, go_sem, Nat.reduceAdd, Int.reduceLE, Int.reduceLT, BitVec.reduceOfInt, ↓reduceIte]
      refine hK _ ?_
      refine aB ?_
      refine aW (.tmp 20) rfl rfl rfl (fun h => ?_) (fun h => ?_)
      ·skip
       refine aI rfl ?_
       have htg : tgT t := .inr (.inr h)
       obtain ⟨n, s, q1, q2, q3⟩ := hct htg rfl
       obtain ⟨w1, w2, w3⟩ := nmO_wl q1
       have w4 := fS n
       have w5 := wirB_low n
       have ha := ahd_le t
       rw [if_pos htg, q1]
       have hta : (l.take (ahd t)).length = ahd t := by rw [hlt]; omega
       have hall : (cM (dJ n)).length = (eF (dJ n)).length + 1 := by simp [cM]
       refine aA rfl ?_
       refine aC (Γ := bC [(7, .pure false tgG)]) [0, 1, 7] (aH ok17 aO) rfl rfl rfl (fun K hK => ?_)
       simp (disch := omega) only [Tryz.f5, go_sem, Nat.reduceAdd, ↓reduceIte, q3]
       refine hK _ ?_
       refine aB ?_
       refine aA rfl ?_
       refine aC (Γ := bC [(16, .pure true aheadG), (15, .fresh true cloneG), (18, .fresh true iF), (17, .fresh true wireG)]) [4, 5] (aH ok37 (aH ok36 (aH ok39 (aH ok38 aO)))) rfl rfl rfl (fun K hK => ?_)
       simp (disch := omega) only [Tryz.f5, go_sem, Nat.reduceAdd, Nat.reduceLeDiff, Nat.reduceLT, Int.reduceLE, Int.reduceToNat, ↓reduceIte, Int.toNat_natCast, Nat.sub_zero, hta, hall]
       refine hK _ ?_
       refine aB ?_
       refine aS rfl ?_
       refine bN (bI ?_)
       simp (disch := omega) only [cN, bV, bK, bQ, Tryz.f5, go_sem, ↓reduceIte]
       rw [hta, hall, List.take_of_length_le (by rw [List.length_append, hta, hall]; exact Nat.le_refl _)]
      ·skip
       refine aI rfl ?_
       rw [if_neg (show ¬ tgT t from fun q => q.elim h2 fun q => q.elim h5 h)]
       refine aA rfl ?_
       refine aC (Γ := aL) [39, 1, 19] (aD _ _) rfl rfl rfl (fun K hK => ?_)
       simp (disch := omega) only [Tryz.f5, go_sem, Nat.reduceAdd, Int.reduceLE, Int.reduceLT, BitVec.reduceOfInt, ↓reduceIte]
       refine hK _ ?_
       refine aB ?_
       refine aW (.tmp 39) rfl rfl rfl (fun h => ?_) (fun h => ?_)
       ·skip
        refine aI rfl ?_
        have h6 := h
        subst h6
        obtain ⟨n, m, p, q1, q2, q3, q4, q5⟩ := chk_soa he
        have l1 := wl_low n
        have l2 := wl_low m
        have l3 := fS n
        have l4 := fS m
        rw [if_pos rfl]
        unfold soaC
        rw [q1]
        refine aA rfl ?_
        refine aC (Γ := bC [(19, .pure false soaG)]) [9] (aH ok18 aO) rfl rfl rfl (fun K hK => ?_)
        simp (disch := omega) only [Tryz.f5, go_sem, Nat.reduceAdd, Nat.reduceLeDiff, ↓reduceIte, q5, soaA]
        refine hK _ ?_
        refine aB ?_
        refine aA rfl ?_
        refine bB (Γ := bC [(18, .fresh true iF)]) (fun k => if k = 5 then 0 else 2) [9] bZ (aH ok39 aO) rfl rfl rfl (by kernel_rfl) (fun K hK => ?_)
        simp (disch := omega) only [Tryz.f5, go_sem, Nat.reduceAdd, Nat.reduceLeDiff, Nat.reduceLT, ↓reduceIte]
        refine hK _ ?_
        refine aB ?_
        refine aA rfl ?_
        refine aC (Γ := bC [(20, .fresh true soaBG)]) [4, 5] (aH ok22 aO) rfl rfl rfl (fun K hK => ?_)
        simp (disch := omega) only [Tryz.f5, go_sem, Nat.reduceAdd, Nat.reduceLeDiff, ↓reduceIte]
        refine hK _ ?_
        refine aB ?_
        refine aS rfl ?_
        refine bN (bI ?_)
        simp (disch := omega) only [cN, bV, bK, bQ, Tryz.f5, go_sem, ↓reduceIte]
       ·skip
        refine aI rfl ?_
        rw [if_neg h]
        refine aA rfl ?_
        refine aC (Γ := aL) [56, 1] (aD _ _) rfl rfl rfl (fun K hK => ?_)
        simp (disch := omega) only [Tryz.f5, go_sem, Nat.reduceAdd, Int.reduceLE, Int.reduceLT, BitVec.reduceOfInt, ↓reduceIte]
        refine hK _ ?_
        refine aB ?_
        refine aW (.tmp 56) rfl rfl rfl (fun h => ?_) (fun h => ?_)
        ·skip
         refine aI rfl ?_
         have h46 := h
         subst h46
         obtain ⟨n, s, q1, q2, q3, q5⟩ := chk_sig he
         have l1 := wl_low n
         have l3 := fS n
         have hdl : (l.drop (18 + s)).length = l.length - (18 + s) := List.length_drop ..
         rw [if_pos rfl]
         unfold sigC
         rw [q1]
         refine aA rfl ?_
         refine aC (Γ := bC [(21, .pure false sigG)]) [11] (aH ok23 aO) rfl rfl rfl (fun K hK => ?_)
         simp (disch := omega) only [Tryz.f5, go_sem, Nat.reduceAdd, Nat.reduceLeDiff, ↓reduceIte, q5, sigA]
         refine hK _ ?_
         refine aB ?_
         refine aA rfl ?_
         refine aC (Γ := bC [(18, .fresh true iF)]) [11] (aH ok39 aO) rfl rfl rfl (fun K hK => ?_)
         simp (disch := omega) only [Tryz.f5, go_sem, Nat.reduceAdd, Nat.reduceLeDiff, Nat.reduceLT, ↓reduceIte]
         refine hK _ ?_
         refine aB ?_
         refine aA rfl ?_
         refine aC (Γ := bC [(22, .fresh true sigBG)]) [4, 5] (aH ok26 aO) rfl rfl rfl (fun K hK => ?_)
         simp (disch := omega) only [Tryz.f5, go_sem, Nat.reduceAdd, Nat.reduceLeDiff, ↓reduceIte, hdl]
         refine hK _ ?_
         refine aB ?_
         refine aS rfl ?_
         refine bN (bI ?_)
         simp (disch := omega) only [cN, bV, bK, bQ, Tryz.f5, go_sem, ↓reduceIte]
        ·skip
         refine aI rfl ?_
         rw [if_neg h]
         refine aQ rfl ?_
         refine bU (aB ?_)
         refine aA rfl ?_
         refine aC (Γ := bC [(15, .fresh true cloneG)]) [4, 5] (aH ok36 aO) rfl rfl rfl (fun K hK => ?_)
         simp (disch := omega) only [Tryz.f5, go_sem, Nat.reduceAdd, ↓reduceIte]
         refine hK _ ?_
         refine aB ?_
         refine aS rfl ?_
         simp (disch := omega) only [cN, bV, bK, bQ, Tryz.f5, go_sem, ↓reduceIte]
  ·skip
   rw [if_neg h0]
   refine awp_ifE (.tmp 17) rfl rfl rfl (fun h => ?_) (fun h => ?_)
   ·skip
    refine aI rfl ?_
    refine aA rfl ?_
    refine aC (Γ := aL) [4, 5] (aD _ _) rfl rfl rfl (fun K hK => ?_)
    simp (disch := omega) only [Tryz.f5, go_sem, Nat.reduceAdd, ↓reduceIte]
    refine hK _ ?_
    refine aB ?_
    refine aS rfl ?_
    refine bI ?_
    simp (disch := omega) only [cN, bV, bK, bQ, Tryz.f5, go_sem, ↓reduceIte]
   ·skip
    refine aI rfl ?_
    exact absurd h h0
 ·cases hg
theorem ok10f : bX Tryz.prog GLh 5 (.pure false canFG) := ⟨⟨_, Tryz.func5, rfl, rfl⟩, canF_ok⟩
end Go.AX
namespace Go.AX
open Go Go.Proofs
theorem k_a : gJ 1#16 (List.replicate 4 0#8) = 0 := by kernel_rfl
theorem k_b : gJ 1#16 (List.replicate 3 0#8) = 50 := by kernel_rfl
theorem k_c : canFT 2#16 [1#8, 65#8, 0#8] = .tup [.sl 3 (c8 [1#8, 97#8, 0#8]), .i 0] := by kernel_rfl
theorem k_d : tgtT 2#16 [1#8, 65#8, 0#8] = .tup [.sl 1 (cS [[65#8]]), .i 0] := by kernel_rfl
theorem k_e : keyT [1#8, 0#8, 3#8, 253#8, 9#8] = .tup [.agg [.w16 256#16, .w8 3#8, .w8 253#8, .sl 1 (c8 [9#8])], .i 0] := by kernel_rfl
theorem tr4 : (List.replicate 4 0#8).take 4 = List.replicate 4 0#8 := (rfl)
theorem tr3 : (List.replicate 3 0#8).take 3 = List.replicate 3 0#8 := (rfl)
theorem isb4 : isBoolT Tryz.prog 4 = true := by kernel_rfl
theorem nf : (¬ False) = True := by simp
theorem u1 (a : B8) : cI [.w8 a] = some [a] := (rfl)
theorem u3 (a b c : B8) : cI [.w8 a, .w8 b, .w8 c] = some [a, b, c] := (rfl)
theorem u5 (a b c d e : B8) : cI [.w8 a, .w8 b, .w8 c, .w8 d, .w8 e] = some [a, b, c, d, e] := (rfl)
attribute [go_sem] u3 u5
theorem cast1 : ((1 : Nat) : Int) = 1 := (rfl)
theorem cast5 : ((5 : Nat) : Int) = 5 := (rfl)
theorem kl5 : (keyB 256#16 3#8 253#8 [9#8]).length = 5 := (rfl)
theorem hd11 (x : List B8) (r : Nm) : (cS (x :: r)).head? = some (.s x) := (rfl)
theorem ofs65 : ofV (Value.string { data := #[65] }) = .s [65#8] := (rfl)
def knownG : List AV → Option AV
 | [] => some (.b true)
 | _ => none
theorem knownG_eq : knownG [] = some (.b true) := (rfl)
attribute [go_sem] knownG_eq
set_option maxHeartbeats 8000000 in
theorem known_ok : cL Tryz.prog GLh 4 knownG := by
 refine cC Tryz.func4 (aT rfl) ?_
 intro args r hg
 unfold knownG at hg
 split at hg
 ·obtain rfl := Option.some.inj hg
  clear hg
  refine ⟨Nat.le_of_ble_eq_true rfl, fun nx => ?_⟩
  refine aA rfl ?_
  refine aC (Γ := aL) [] (aD _ _) rfl rfl rfl (fun K hK => ?_)
  simp (maxSteps := 300000) (disch := omega) only [Tryz.f4, go_sem]
  refine hK _ ?_
  refine aB ?_
  refine aA rfl ?_
  refine bB (Γ := bC [(9, .pure true chkFG)]) (fun k => if k = 1 then 4 else if k = 3 then 0 else 2) [1, 2] bZ (aH ok13f aO) rfl rfl rfl (by kernel_rfl) (fun K hK => ?_)
  simp (maxSteps := 300000) (disch := omega) only [Tryz.f4, go_sem, Nat.reduceAdd, Nat.reduceLeDiff, Nat.reduceLT, Int.reduceLE, Int.reduceLT, Int.reduceToNat, BitVec.reduceOfInt, ↓reduceIte, k_a, k_b, rep8d, tr4, tr3, and_true, List.length_replicate, hsel_V 4 0 (by decide) (by decide)]
  refine hK _ ?_
  refine aB ?_
  refine aA rfl ?_
  refine aC (Γ := bC [(5, .pure false canFG)]) [1, 2, 3, 4] (aH ok10f aO) rfl rfl rfl (fun K hK => ?_)
  simp (maxSteps := 300000) (disch := omega) only [Tryz.f4, go_sem, Nat.reduceAdd, Nat.reduceLeDiff, Nat.reduceLT, Int.reduceLE, Int.reduceLT, BitVec.reduceOfInt, ↓reduceIte, k_c, and_true, List.length_cons, List.length_nil]
  refine hK _ ?_
  refine aB ?_
  refine aA rfl ?_
  refine aC (Γ := bC [(7, .pure false tgG)]) [1, 2, 3, 4, 5, 6] (aH ok17 aO) rfl rfl rfl (fun K hK => ?_)
  simp (maxSteps := 300000) (disch := omega) only [Tryz.f4, go_sem, Nat.reduceAdd, Nat.reduceLeDiff, Nat.reduceLT, Int.reduceLE, Int.reduceLT, BitVec.reduceOfInt, ↓reduceIte, k_d, List.length_cons, List.length_nil]
  refine hK _ ?_
  refine aB ?_
  refine aA rfl ?_
  refine aC (Γ := bC [(13, .pure false keyG)]) [1, 2, 3, 4, 5, 6, 7, 8] (aH ok31 aO) rfl rfl rfl (fun K hK => ?_)
  simp (maxSteps := 300000) (disch := omega) only [Tryz.f4, go_sem, Nat.reduceAdd, Nat.reduceLeDiff, Nat.reduceLT, Int.reduceLE, Int.reduceLT, BitVec.reduceOfInt, ↓reduceIte, k_e, List.length_cons, List.length_nil]
  refine hK _ ?_
  refine aB ?_
  refine aA rfl ?_
  refine aC (Γ := bC [(11, .pure true beqG), (14, .fresh true keyBG)]) [0] (aH ok11 (aH ok34 aO)) rfl rfl rfl (fun K hK => ?_)
  simp (maxSteps := 300000) (disch := omega) only [Tryz.f4, go_sem, Nat.reduceAdd, Nat.reduceLeDiff, Nat.reduceLT, Int.reduceLE, Int.reduceLT, Int.reduceToNat, Int.reduceAdd, BitVec.reduceOfInt, ↓reduceIte, cast1, cast5, kl5, hd11, ofs65]
  refine hK _ ?_
  refine aB ?_
  refine aS rfl ?_
  simp (disch := omega) only [cN, bV, bK, bQ, Tryz.f4, go_sem, ↓reduceIte]
 ·cases hg
theorem ok9 : bX Tryz.prog GLh 4 (.pure true knownG) := ⟨⟨_, Tryz.func4, rfl, rfl⟩, known_ok⟩
end Go.AX
