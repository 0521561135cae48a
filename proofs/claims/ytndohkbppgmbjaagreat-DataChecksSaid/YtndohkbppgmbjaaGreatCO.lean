/-
  Data, part jD: data checked by the document, type by type. Data, part jE: what data ends with, told by the document. Data, part jF: the canonical form, told by the document. Data, part jG: the law DataChecks.
-/
import Derived.Test.YtndohkbppgmbjaaGreatCN
import Derived.Test.YtndohkbppgmbjaaGreatCK
import Derived.Test.YtndohkbppgmbjaaGreatCL
namespace Go.AX
open Go Go.Proofs
theorem rdE_chk (l : List B8) (o : Option Nat) : rdE l.length (chk1R l o) = if o = some l.length then 0 else 50 := by
 rcases o with _ | p
 ·rfl
 ·by_cases e : p = l.length
  ·rw [if_pos (by rw [e])]; exact rdE_y _ _ (by rw [e])
  ·rw [if_neg (fun q => e (Option.some.inj q))]; exact rdE_x _ _ (by omega)
theorem rdE_two (len : Nat) (o : Option (AV × List AV)) : rdE len o = 0 ∨ rdE len o = 50 := by
 unfold rdE
 split
 ·split
  ·exact .inl rfl
  ·exact .inr rfl
 ·exact .inr rfl
theorem ite_dec {p : Prop} [Decidable p] {b : Bool} (h : b = true ↔ p) : (if p then (0 : Int) else 50) = if b = true then 0 else 50 := by
 by_cases hp : p
 ·rw [if_pos hp, if_pos (h.2 hp)]
 ·rw [if_neg hp, if_neg (fun q => hp (h.1 q))]
theorem cd_shp {t : BitVec 16} {l : List B8} {b : Bool} (h1 : ¬ t = 6#16) (h2 : ¬ t = 46#16) (h3 : ¬ t = 50#16) (h4 : ¬ t = 48#16) (h : b = true ↔ shp t l = some l.length) : Cd l b (gJ t l) := by
 refine cd_of fun hl => ?_
 unfold gJ
 rw [if_neg (by omega), if_neg h1, if_neg h2, if_neg h3, if_neg h4, rdE_chk]
 exact ite_dec h
theorem cd_rd {t : BitVec 16} {l : List B8} {o : Option (AV × List AV)} (h : l.length ≤ 8192 → gJ t l = rdE l.length o) : Cd l (decide (rdE l.length o = 0)) (gJ t l) := by
 refine cd_of fun hl => ?_
 rw [h hl]
 rcases rdE_two l.length o with e | e
 ·rw [e]; rfl
 ·rw [e]; rfl
theorem cdA (l : List B8) : Cd l (decide ((l.length : Int) = 4)) (gJ 1#16 l) := by
 refine cd_shp (by decide) (by decide) (by decide) (by decide) ?_
 rw [decide_eq_true_eq]
 unfold shp
 rw [if_pos rfl]
 by_cases h : 4 ≤ l.length
 ·rw [if_pos h]; exact ⟨fun e => by congr 1; omega, fun e => by have := Option.some.inj e; omega⟩
 ·rw [if_neg h]; exact ⟨fun e => by omega, fun e => by cases e⟩
theorem cdAAAA (l : List B8) : Cd l (decide ((l.length : Int) = 16)) (gJ 28#16 l) := by
 refine cd_shp (by decide) (by decide) (by decide) (by decide) ?_
 rw [decide_eq_true_eq]
 unfold shp
 rw [if_neg (by decide), if_pos rfl]
 by_cases h : 16 ≤ l.length
 ·rw [if_pos h]; exact ⟨fun e => by congr 1; omega, fun e => by have := Option.some.inj e; omega⟩
 ·rw [if_neg h]; exact ⟨fun e => by omega, fun e => by cases e⟩
theorem whole_nm (l : List B8) : wholeB l = true ↔ nmE l 0 = some l.length := by
 unfold wholeB nmE
 rw [List.drop_zero]
 rcases nmO l with _ | ⟨n, s⟩
 ·exact ⟨fun e => (by cases e), fun e => by cases e⟩
 ·simp only [Option.map_some, Nat.zero_add, decide_eq_true_eq, Option.some.injEq]
theorem cdN (t : BitVec 16) (l : List B8) (h : t = 2#16 ∨ t = 5#16) : Cd l (wholeB l) (gJ t l) := by
 refine cd_shp (by rcases h with rfl | rfl <;> decide) (by rcases h with rfl | rfl <;> decide) (by rcases h with rfl | rfl <;> decide) (by rcases h with rfl | rfl <;> decide) ?_
 unfold shp
 rw [if_neg (by rcases h with rfl | rfl <;> decide), if_neg (by rcases h with rfl | rfl <;> decide), if_pos h]
 exact whole_nm l
theorem cdMX (l : List B8) (b : Bool) (h : b = (decide ((2 : Int) < (l.length : Int)) && wholeB (l.drop 2))) : Cd l b (gJ 15#16 l) := by
 refine cd_shp (by decide) (by decide) (by decide) (by decide) ?_
 subst h
 unfold shp
 rw [if_neg (by decide), if_neg (by decide), if_neg (by decide), if_pos rfl, Bool.and_eq_true, decide_eq_true_eq]
 by_cases h2 : 2 ≤ l.length
 ·rw [if_pos h2]
  unfold nmE wholeB
  have hd : (l.drop 2).length = l.length - 2 := List.length_drop ..
  rcases hn : nmO (l.drop 2) with _ | ⟨n, s⟩
  ·exact ⟨fun e => (by cases e.2), fun e => by cases e⟩
  ·have hw := (nmO_wl hn).1
   have hs : 1 ≤ s := by rw [← hw]; unfold wl; omega
   simp only [Option.map_some, decide_eq_true_eq, Option.some.injEq, hd]
   omega
 ·rw [if_neg h2]; exact ⟨fun e => by omega, fun e => by cases e⟩
theorem cdDS (l : List B8) : Cd l (decide ((5 : Int) ≤ (l.length : Int))) (gJ 43#16 l) := by
 refine cd_shp (by decide) (by decide) (by decide) (by decide) ?_
 rw [decide_eq_true_eq]
 unfold shp
 rw [if_neg (by decide), if_neg (by decide), if_neg (by decide), if_neg (by decide), if_neg (by decide), if_pos rfl]
 by_cases h : 5 ≤ l.length
 ·rw [if_pos h]; exact ⟨fun _ => rfl, fun _ => by omega⟩
 ·rw [if_neg h]; exact ⟨fun e => by omega, fun e => by cases e⟩
theorem cdTX (l : List B8) (b : Bool) (h : b = txsB l 0) : Cd l b (gJ 16#16 l) := by
 refine cd_shp (by decide) (by decide) (by decide) (by decide) ?_
 subst h
 unfold shp
 rw [if_neg (by decide), if_neg (by decide), if_neg (by decide), if_neg (by decide), if_pos rfl]
 by_cases h : txsB l 0 = true
 ·rw [if_pos h]; exact ⟨fun _ => rfl, fun _ => h⟩
 ·rw [if_neg h]; exact ⟨fun e => absurd e h, fun e => by cases e⟩
theorem cdPA (l : List B8) (b : Bool) (h : b = true ↔ 5 ≤ l.length ∧ l.length = 5 + (l.getD 4 0#8).toNat) : Cd l b (gJ 51#16 l) := by
 refine cd_shp (by decide) (by decide) (by decide) (by decide) (h.trans ?_)
 unfold shp
 rw [if_neg (by decide), if_neg (by decide), if_neg (by decide), if_neg (by decide), if_neg (by decide), if_neg (by decide), if_pos rfl]
 by_cases h4 : 4 ≤ l.length
 ·rw [if_pos h4]
  unfold txE
  by_cases h5 : 4 < l.length ∧ (l.getD 4 0#8).toNat ≤ l.length - (4 + 1)
  ·rw [if_pos h5, Option.some.injEq]; omega
  ·rw [if_neg h5]; exact ⟨fun e => by omega, fun e => by cases e⟩
 ·rw [if_neg h4]; exact ⟨fun e => by omega, fun e => by cases e⟩
theorem cdO (t : BitVec 16) (l : List B8) (h1 : ¬ t = 1#16) (h2 : ¬ t = 28#16) (h3 : ¬ t = 2#16) (h4 : ¬ t = 5#16) (h5 : ¬ t = 15#16) (h6 : ¬ t = 6#16) (h7 : ¬ t = 16#16) (h8 : ¬ t = 43#16) (h9 : ¬ t = 46#16) (h10 : ¬ t = 48#16) (h11 : ¬ t = 50#16) (h12 : ¬ t = 51#16) : Cd l true (gJ t l) := by
 refine cd_shp h6 h9 h11 h10 ⟨fun _ => ?_, fun _ => rfl⟩
 unfold shp
 rw [if_neg h1, if_neg h2, if_neg (fun q => q.elim h3 h4), if_neg h5, if_neg h7, if_neg h8, if_neg h12]
theorem cdSOA (l : List B8) : Cd l (decide (rdE l.length (eX l) = 0)) (gJ 6#16 l) := cd_rd fun h => by unfold gJ; rw [if_neg (by omega), if_pos rfl]
theorem cdSIG (l : List B8) : Cd l (decide (rdE l.length (eY l) = 0)) (gJ 46#16 l) := cd_rd fun h => by unfold gJ; rw [if_neg (by omega), if_neg (by decide), if_pos rfl]
theorem cdCHN (l : List B8) : Cd l (decide (rdE l.length (gW l) = 0)) (gJ 50#16 l) := cd_rd fun h => by unfold gJ; rw [if_neg (by omega), if_neg (by decide), if_neg (by decide), if_pos rfl]
theorem cdKEY (l : List B8) : Cd l (decide (rdE l.length (gE l) = 0)) (gJ 48#16 l) := cd_rd fun h => by unfold gJ; rw [if_neg (by omega), if_neg (by decide), if_neg (by decide), if_neg (by decide), if_pos rfl]
theorem txs_go (l : List B8) (h : 0 < l.length) : txF (l.length + 2) l 0 = txsB l 0 := by
 unfold txsB
 rcases e : txE l 0 with _ | p
 ·exact tx_no h e
 ·exact tx_go h e
theorem txs_nil (l : List B8) (h : ¬ 0 < l.length) : txsB l 0 = false := by
 unfold txsB
 have : txE l 0 = none := if_neg fun q => h q.1
 rw [this]
set_option maxHeartbeats 16000000 in
theorem cd_ok : cL Tryz.prog GLh 10 chkFG := by
 refine cC Tryz.func10 (aT rfl) ?_
 intro args r hg
 unfold chkFG at hg
 split at hg
 ·rename_i t n xs
  replace hg := aJ hg; obtain ⟨l, hl, hg⟩ := hg
  replace hg := aP hg; obtain ⟨⟨rfl, hn⟩, hg⟩ := hg
  obtain rfl := Option.some.inj hg
  have := bW hl; subst this
  refine ⟨Nat.le_of_ble_eq_true rfl, fun nx => ?_⟩
  clear hl hg
  refine aA rfl ?_
  refine aC (Γ := aL) [0, 1] (aD _ _) rfl rfl rfl (fun K hK => ?_)
  simp (disch := omega) only [Tryz.f10, go_sem, ↓reduceIte]
  refine hK _ ?_
  refine aB ?_
  refine aA rfl ?_
  refine aC (Γ := aL) [0, 1, 5] (aD _ _) rfl rfl rfl (fun K hK => ?_)
  simp (disch := omega) only [Tryz.f10, go_sem, ↓reduceIte]
  refine hK _ ?_
  refine aB ?_
  refine aA rfl ?_
  refine aA rfl ?_
  refine aC (Γ := aL) [1, 5, 15] (aD _ _) rfl rfl rfl (fun K hK => ?_)
  simp (disch := omega) only [Tryz.f10, go_sem, ↓reduceIte]
  refine hK _ ?_
  refine aB ?_
  refine aR 0 rfl rfl ?_
  refine aA rfl ?_
  refine aC (Γ := aL) [16, 1, 5, 15] (aD _ _) rfl rfl rfl (fun K hK => ?_)
  simp (disch := omega) only [Tryz.f10, go_sem, Nat.reduceAdd, Int.reduceLE, Int.reduceLT, BitVec.reduceOfInt, ↓reduceIte]
  refine hK _ ?_
  refine aB ?_
  refine aW (.tmp 16) rfl rfl rfl (fun h => ?_) (fun h => ?_)
  ·skip
   refine aI rfl ?_
   subst h
   refine aC (Γ := aL) [1, 5] (aD _ _) rfl rfl rfl (fun K hK => ?_)
   simp (disch := omega) only [Tryz.f10, go_sem, Nat.reduceAdd, ↓reduceIte]
   refine hK _ ?_
   refine bU (aB ?_)
   exact iG l _ _ (cdA l) _ _ _
  ·skip
   refine aI rfl ?_
   have h1 := h
   clear h
   refine aA rfl ?_
   refine aC (Γ := aL) [21, 1, 5, 15] (aD _ _) rfl rfl rfl (fun K hK => ?_)
   simp (disch := omega) only [Tryz.f10, go_sem, Nat.reduceAdd, Int.reduceLE, Int.reduceLT, BitVec.reduceOfInt, ↓reduceIte]
   refine hK _ ?_
   refine aB ?_
   refine aW (.tmp 21) rfl rfl rfl (fun h => ?_) (fun h => ?_)
   ·skip
    refine aI rfl ?_
    subst h
    refine aC (Γ := aL) [1, 5] (aD _ _) rfl rfl rfl (fun K hK => ?_)
    simp (disch := omega) only [Tryz.f10, go_sem, Nat.reduceAdd, ↓reduceIte]
    refine hK _ ?_
    refine bU (aB ?_)
    exact iG l _ _ (cdAAAA l) _ _ _
   ·skip
    refine aI rfl ?_
    have h2 := h
    clear h
    refine aA rfl ?_
    refine aA rfl ?_
    refine aC (Γ := aL) [1, 5, 15, 26] (aD _ _) rfl rfl rfl (fun K hK => ?_)
    simp (disch := omega) only [Tryz.f10, go_sem, Nat.reduceAdd, Int.reduceLE, Int.reduceLT, BitVec.reduceOfInt, ↓reduceIte]
    refine hK _ ?_
    refine aB ?_
    refine aW (.tmp 26) rfl rfl rfl (fun h => ?_) (fun h => ?_)
    ·skip
     have h3 := h
     refine aQ rfl ?_
     refine aB ?_
     refine aW (.tmp 26) rfl rfl rfl (fun h => ?_) (fun h => ?_)
     ·skip
      refine aC (Γ := bC [(38, .pure true wholeG)]) [1, 5] (aH okz38 aO) rfl rfl rfl (fun K hK => ?_)
      simp (disch := omega) only [Tryz.f10, go_sem, Nat.reduceAdd, ↓reduceIte]
      refine hK _ ?_
      refine bU (aB ?_)
      exact iG l _ _ (cdN t l (.inl h3)) _ _ _
     ·skip
      exact absurd h3 h
    ·skip
     have h3 := h
     clear h
     refine aC (Γ := aL) [26, 1, 5, 15] (aD _ _) rfl rfl rfl (fun K hK => ?_)
     simp (disch := omega) only [Tryz.f10, go_sem, Nat.reduceAdd, Int.reduceLE, Int.reduceLT, BitVec.reduceOfInt, ↓reduceIte]
     refine hK _ ?_
     refine aB ?_
     refine aW (.tmp 26) rfl rfl rfl (fun h => ?_) (fun h => ?_)
     ·skip
      refine aI rfl ?_
      refine aC (Γ := bC [(38, .pure true wholeG)]) [1, 5] (aH okz38 aO) rfl rfl rfl (fun K hK => ?_)
      simp (disch := omega) only [Tryz.f10, go_sem, Nat.reduceAdd, ↓reduceIte]
      refine hK _ ?_
      refine bU (aB ?_)
      exact iG l _ _ (cdN t l (.inr h)) _ _ _
     ·skip
      refine aI rfl ?_
      have h4 := h
      clear h
      refine aA rfl ?_
      refine aC (Γ := aL) [31, 1, 5, 15] (aD _ _) rfl rfl rfl (fun K hK => ?_)
      simp (disch := omega) only [Tryz.f10, go_sem, Nat.reduceAdd, Int.reduceLE, Int.reduceLT, BitVec.reduceOfInt, ↓reduceIte]
      refine hK _ ?_
      refine aB ?_
      refine aW (.tmp 31) rfl rfl rfl (fun h => ?_) (fun h => ?_)
      ·skip
       refine aI rfl ?_
       subst h
       by_cases q : 2 < l.length
       ·skip
        have d : decide ((2 : Int) < (l.length : Int)) = true := decide_eq_true (by omega)
        have et : (l.drop 2).take (l.length - 2) = l.drop 2 := List.take_of_length_le (by rw [List.length_drop]; omega)
        have hdl : (l.drop 2).length = l.length - 2 := List.length_drop ..
        refine aC (Γ := bC [(38, .pure true wholeG)]) [1, 5] (aH okz38 aO) rfl rfl rfl (fun K hK => ?_)
        simp (disch := omega) only [Tryz.f10, go_sem, Nat.reduceAdd, Int.reduceLE, Int.reduceToNat, ↓reduceIte, d, et, hdl]
        refine hK _ ?_
        refine bU (aB ?_)
        exact iG l _ _ (cdMX l _ (by rw [d]; rfl)) _ _ _
       ·skip
        have d : decide ((2 : Int) < (l.length : Int)) = false := decide_eq_false (by omega)
        refine aC (Γ := bC [(38, .pure true wholeG)]) [1, 5] (aH okz38 aO) rfl rfl rfl (fun K hK => ?_)
        simp (disch := omega) only [Tryz.f10, go_sem, Nat.reduceAdd, reduceCtorEq, ↓reduceIte, d]
        refine hK _ ?_
        refine bU (aB ?_)
        exact iG l _ _ (cdMX l _ (by rw [d]; rfl)) _ _ _
      ·skip
       refine aI rfl ?_
       have h5 := h
       clear h
       refine aA rfl ?_
       refine aC (Γ := aL) [41, 1, 5, 15] (aD _ _) rfl rfl rfl (fun K hK => ?_)
       simp (disch := omega) only [Tryz.f10, go_sem, Nat.reduceAdd, Int.reduceLE, Int.reduceLT, BitVec.reduceOfInt, ↓reduceIte]
       refine hK _ ?_
       refine aB ?_
       refine aW (.tmp 41) rfl rfl rfl (fun h => ?_) (fun h => ?_)
       ·skip
        refine aI rfl ?_
        subst h
        obtain ⟨v1, v2, v3, v4, v5, v6, v7, hv⟩ := rdT_soa l
        have hv' : soaT l = _ := hv
        refine aA rfl ?_
        refine aC (Γ := bC [(26, .pure false soaG)]) [1, 7] (aH ok20 aO) rfl rfl rfl (fun K hK => ?_)
        simp (disch := omega) only [Tryz.f10, go_sem, Nat.reduceAdd, Nat.reduceLeDiff, ↓reduceIte, hv']
        refine hK _ ?_
        refine aB ?_
        refine aC (Γ := aL) [1, 5] (aD _ _) rfl rfl rfl (fun K hK => ?_)
        simp (disch := omega) only [Tryz.f10, go_sem, Nat.reduceAdd, ↓reduceIte]
        refine hK _ ?_
        refine bU (aB ?_)
        exact iG l _ _ (cdSOA l) _ _ _
       ·skip
        refine aI rfl ?_
        have h6 := h
        clear h
        refine aA rfl ?_
        refine aC (Γ := aL) [50, 1, 5, 15] (aD _ _) rfl rfl rfl (fun K hK => ?_)
        simp (disch := omega) only [Tryz.f10, go_sem, Nat.reduceAdd, Int.reduceLE, Int.reduceLT, BitVec.reduceOfInt, ↓reduceIte]
        refine hK _ ?_
        refine aB ?_
        refine aW (.tmp 50) rfl rfl rfl (fun h => ?_) (fun h => ?_)
        ·skip
         refine aI rfl ?_
         subst h
         obtain ⟨ans, hans⟩ : ∃ a, txsB l 0 = a := ⟨_, rfl⟩
         have hgo := txs_go l
         have hnil := txs_nil l
         have hcd := cdTX l ans hans.symm
         rw [hans] at hgo hnil
         refine aA rfl ?_
         refine aC (Γ := aL) [1, 8] (aD _ _) rfl rfl rfl (fun K hK => ?_)
         simp (disch := omega) only [Tryz.f10, go_sem, ↓reduceIte]
         refine hK _ ?_
         refine aB ?_
         refine aA rfl ?_
         refine aR 1 rfl rfl ?_
         refine bR (fun p : KFC => { fr := [(1, .sl l.length (c8 l)), (8, .i (p.k : Int))], hp := fun _ => none, nx := 0, cx := p.c }) (fun p => p.k ≤ l.length + 256 ∧ ((0 < l.length → (p.k ≤ l.length ∧ l.length < p.k + p.f ∧ txF p.f l p.k = ans) ∨ (l.length < p.k ∧ ans = false)) ∧ (¬ 0 < l.length → p.k = 0))) (fun p => l.length - p.k) rfl ⟨⟨0, l.length + 2, _⟩, ⟨Nat.zero_le _, fun h => .inl ⟨Nat.zero_le _, by simp only; omega, hgo h⟩, fun _ => rfl⟩, bD rfl rfl (Nat.le_refl _)⟩ ?_
         rintro ⟨k, f, c⟩ ⟨hk, hi, hz⟩ n0
         simp only at hk hi hz ⊢
         refine aA rfl ?_
         refine aA rfl ?_
         refine aC (Γ := aL) [55, 1, 8] (aD _ _) rfl rfl rfl (fun K hK => ?_)
         simp (disch := omega) only [Tryz.f10, go_sem, Nat.reduceAdd, ↓reduceIte]
         refine hK _ ?_
         refine aB ?_
         refine aW (.tmp 55) rfl rfl rfl (fun h => ?_) (fun h => ?_)
         ·skip
          refine aI rfl ?_
          have hkl : k < l.length := by omega
          have hix := idF8 l k hkl
          obtain ⟨a1, a2, a3⟩ := (hi (by omega)).resolve_right (by omega)
          obtain ⟨g, rfl⟩ : ∃ g, f = g + 1 := ⟨f - 1, by omega⟩
          obtain ⟨x, hx⟩ : ∃ x, l.getD k 0#8 = x := ⟨_, rfl⟩
          have hxl := x.isLt
          rw [hx] at hix
          have e1 : (k : Int) + (1 + (x.toNat : Int)) = ((k + 1 + x.toNat : Nat) : Int) := by omega
          refine aQ rfl ?_
          refine aB ?_
          refine aR 2 rfl rfl ?_
          refine aC (Γ := aL) [1, 8] (aD _ _) rfl rfl rfl (fun K hK => ?_)
          simp (disch := omega) only [Tryz.f10, go_sem, Nat.reduceAdd, ↓reduceIte, e1, hx]
          refine hK _ ?_
          refine bU (bT ?_)
          refine ⟨⟨k + 1 + x.toNat, g, _⟩, ⟨by simp only; omega, fun _ => ?_, fun hh => by omega⟩, by simp only; omega, bD rfl rfl (Nat.le_refl _)⟩
          by_cases hp : k + 1 + x.toNat ≤ l.length
          ·rw [tx_go hkl (txE_y hkl (by rw [hx]) hp)] at a3
           exact .inl ⟨hp, by simp only; omega, a3⟩
          ·rw [tx_no hkl (txE_n (by rw [hx]) (by omega))] at a3
           exact .inr ⟨by simp only; omega, a3.symm⟩
         ·skip
          refine aI rfl ?_
          refine bF 1 rfl rfl ?_
          refine aY (aZ (bE ?_))
          refine aB ?_
          by_cases q : 0 < l.length
          ·skip
           have d : decide ((0 : Int) < (l.length : Int)) = true := decide_eq_true (by omega)
           refine aC (Γ := aL) [1, 5] (aD _ _) rfl rfl rfl (fun K hK => ?_)
           simp (disch := omega) only [Tryz.f10, go_sem, Nat.reduceAdd, ↓reduceIte, d]
           refine hK _ ?_
           refine bU (aB ?_)
           refine iG l _ _ ?_ _ _ _
           have : decide ((k : Int) = (l.length : Int)) = ans := by
            rcases hi q with ⟨a1, a2, a3⟩ | ⟨a1, a2⟩
            ·obtain ⟨g, rfl⟩ : ∃ g, f = g + 1 := ⟨f - 1, by omega⟩
             rw [tx_end (by omega)] at a3
             rw [← a3]; exact decide_eq_true (by omega)
            ·rw [a2]; exact decide_eq_false (by omega)
           rw [this]; exact hcd
          ·skip
           have d : decide ((0 : Int) < (l.length : Int)) = false := decide_eq_false (by omega)
           refine aC (Γ := aL) [1, 5] (aD _ _) rfl rfl rfl (fun K hK => ?_)
           simp (disch := omega) only [Tryz.f10, go_sem, Nat.reduceAdd, reduceCtorEq, ↓reduceIte, d]
           refine hK _ ?_
           refine bU (aB ?_)
           refine iG l _ _ ?_ _ _ _
           rw [hnil q] at hcd; exact hcd
        ·skip
         refine aI rfl ?_
         have h7 := h
         clear h
         refine aA rfl ?_
         refine aC (Γ := aL) [73, 1, 5, 15] (aD _ _) rfl rfl rfl (fun K hK => ?_)
         simp (disch := omega) only [Tryz.f10, go_sem, Nat.reduceAdd, Int.reduceLE, Int.reduceLT, BitVec.reduceOfInt, ↓reduceIte]
         refine hK _ ?_
         refine aB ?_
         refine aW (.tmp 73) rfl rfl rfl (fun h => ?_) (fun h => ?_)
         ·skip
          refine aI rfl ?_
          subst h
          refine aC (Γ := aL) [1, 5] (aD _ _) rfl rfl rfl (fun K hK => ?_)
          simp (disch := omega) only [Tryz.f10, go_sem, Nat.reduceAdd, ↓reduceIte]
          refine hK _ ?_
          refine bU (aB ?_)
          exact iG l _ _ (cdDS l) _ _ _
         ·skip
          refine aI rfl ?_
          have h8 := h
          clear h
          refine aA rfl ?_
          refine aC (Γ := aL) [78, 1, 5, 15] (aD _ _) rfl rfl rfl (fun K hK => ?_)
          simp (disch := omega) only [Tryz.f10, go_sem, Nat.reduceAdd, Int.reduceLE, Int.reduceLT, BitVec.reduceOfInt, ↓reduceIte]
          refine hK _ ?_
          refine aB ?_
          refine aW (.tmp 78) rfl rfl rfl (fun h => ?_) (fun h => ?_)
          ·skip
           refine aI rfl ?_
           subst h
           obtain ⟨v1, v2, v3, v4, v5, v6, v7, v8, v9, hv⟩ := rdT_sig l
           have hv' : sigT l = _ := hv
           refine aA rfl ?_
           refine aC (Γ := bC [(28, .pure false sigG)]) [1, 10] (aH ok24 aO) rfl rfl rfl (fun K hK => ?_)
           simp (disch := omega) only [Tryz.f10, go_sem, Nat.reduceAdd, Nat.reduceLeDiff, ↓reduceIte, hv']
           refine hK _ ?_
           refine aB ?_
           refine aC (Γ := aL) [1, 5] (aD _ _) rfl rfl rfl (fun K hK => ?_)
           simp (disch := omega) only [Tryz.f10, go_sem, Nat.reduceAdd, ↓reduceIte]
           refine hK _ ?_
           refine bU (aB ?_)
           exact iG l _ _ (cdSIG l) _ _ _
          ·skip
           refine aI rfl ?_
           have h9 := h
           clear h
           refine aA rfl ?_
           refine aC (Γ := aL) [87, 1, 5, 15] (aD _ _) rfl rfl rfl (fun K hK => ?_)
           simp (disch := omega) only [Tryz.f10, go_sem, Nat.reduceAdd, Int.reduceLE, Int.reduceLT, BitVec.reduceOfInt, ↓reduceIte]
           refine hK _ ?_
           refine aB ?_
           refine aW (.tmp 87) rfl rfl rfl (fun h => ?_) (fun h => ?_)
           ·skip
            refine aI rfl ?_
            subst h
            obtain ⟨v1, v2, v3, v4, hv⟩ := rdT_key l
            have hv' : keyT l = _ := hv
            refine aA rfl ?_
            refine aC (Γ := bC [(39, .pure false keyG)]) [1, 12] (aH ok32 aO) rfl rfl rfl (fun K hK => ?_)
            simp (disch := omega) only [Tryz.f10, go_sem, Nat.reduceAdd, Nat.reduceLeDiff, ↓reduceIte, hv']
            refine hK _ ?_
            refine aB ?_
            refine aC (Γ := aL) [1, 5] (aD _ _) rfl rfl rfl (fun K hK => ?_)
            simp (disch := omega) only [Tryz.f10, go_sem, Nat.reduceAdd, ↓reduceIte]
            refine hK _ ?_
            refine bU (aB ?_)
            exact iG l _ _ (cdKEY l) _ _ _
           ·skip
            refine aI rfl ?_
            have h10 := h
            clear h
            refine aA rfl ?_
            refine aC (Γ := aL) [96, 1, 5, 15] (aD _ _) rfl rfl rfl (fun K hK => ?_)
            simp (disch := omega) only [Tryz.f10, go_sem, Nat.reduceAdd, Int.reduceLE, Int.reduceLT, BitVec.reduceOfInt, ↓reduceIte]
            refine hK _ ?_
            refine aB ?_
            refine aW (.tmp 96) rfl rfl rfl (fun h => ?_) (fun h => ?_)
            ·skip
             refine aI rfl ?_
             subst h
             obtain ⟨v1, v2, v3, v4, v5, v6, hv⟩ := rdT_chn l
             have hv' : chnT l = _ := hv
             refine aA rfl ?_
             refine aC (Γ := bC [(40, .pure false chnG)]) [1, 14] (aH ok28 aO) rfl rfl rfl (fun K hK => ?_)
             simp (disch := omega) only [Tryz.f10, go_sem, Nat.reduceAdd, Nat.reduceLeDiff, ↓reduceIte, hv']
             refine hK _ ?_
             refine aB ?_
             refine aC (Γ := aL) [1, 5] (aD _ _) rfl rfl rfl (fun K hK => ?_)
             simp (disch := omega) only [Tryz.f10, go_sem, Nat.reduceAdd, ↓reduceIte]
             refine hK _ ?_
             refine bU (aB ?_)
             exact iG l _ _ (cdCHN l) _ _ _
            ·skip
             refine aI rfl ?_
             have h11 := h
             clear h
             refine aA rfl ?_
             refine aC (Γ := aL) [105, 1, 5] (aD _ _) rfl rfl rfl (fun K hK => ?_)
             simp (disch := omega) only [Tryz.f10, go_sem, Nat.reduceAdd, Int.reduceLE, Int.reduceLT, BitVec.reduceOfInt, ↓reduceIte]
             refine hK _ ?_
             refine aB ?_
             refine aW (.tmp 105) rfl rfl rfl (fun h => ?_) (fun h => ?_)
             ·skip
              refine aI rfl ?_
              subst h
              by_cases q : 5 ≤ l.length
              ·skip
               have d : decide ((5 : Int) ≤ (l.length : Int)) = true := decide_eq_true (by omega)
               refine aC (Γ := aL) [1, 5] (aD _ _) rfl rfl rfl (fun K hK => ?_)
               simp (disch := omega) only [Tryz.f10, go_sem, Nat.reduceAdd, Int.reduceLE, Int.reduceToNat, ↓reduceIte, d]
               refine hK _ ?_
               refine bU (aB ?_)
               exact iG l _ _ (cdPA l _ (by rw [decide_eq_true_eq]; exact ⟨fun e => ⟨q, by omega⟩, fun e => by omega⟩)) _ _ _
              ·skip
               have d : decide ((5 : Int) ≤ (l.length : Int)) = false := decide_eq_false (by omega)
               refine aC (Γ := aL) [1, 5] (aD _ _) rfl rfl rfl (fun K hK => ?_)
               simp (disch := omega) only [Tryz.f10, go_sem, Nat.reduceAdd, reduceCtorEq, ↓reduceIte, d]
               refine hK _ ?_
               refine bU (aB ?_)
               exact iG l _ _ (cdPA l _ ⟨fun e => (by cases e), fun e => absurd e.1 q⟩) _ _ _
             ·skip
              refine aI rfl ?_
              have h12 := h
              refine aQ rfl ?_
              refine bU (aB ?_)
              exact iG l _ _ (cdO t l h1 h2 h3 h4 h5 h6 h7 h8 h9 h10 h11 h12) _ _ _
 ·cases hg
theorem okz10 : bX Tryz.prog GLh 10 (.pure true chkFG) := ⟨⟨_, Tryz.func10, rfl, rfl⟩, cd_ok⟩
end Go.AX
namespace Go.AX
open Go Go.Proofs
theorem tgt_no {t : BitVec 16} (h : ¬ tgT t) (l : List B8) : tgtT t l = .tup [.sl 0 [], .i 50] := if_neg h
theorem chkF_two (t : BitVec 16) (l : List B8) : gJ t l = 0 ∨ gJ t l = 50 := by
 unfold gJ
 split
 ·exact .inr rfl
 split
 ·exact rdE_two _ _
 split
 ·exact rdE_two _ _
 split
 ·exact rdE_two _ _
 split
 ·exact rdE_two _ _
 ·exact rdE_two _ _
theorem tgt_bad {t : BitVec 16} {l : List B8} (h : tgT t) (hl : l.length ≤ 8192) (h0 : gJ t l = 50) : tgtT t l = .tup [.sl 0 [], .i 50] := by
 obtain ⟨a1, a2, a3, a4, a5, a6⟩ := tgT_ne h
 unfold gJ at h0
 rw [if_neg (by omega), if_neg a1, if_neg a5, if_neg a6, if_neg a2, shp_tg h] at h0
 unfold tgtT
 rw [if_pos h]
 unfold tgtR
 split at h0
 ·rename_i hle
  rw [if_pos hle]
  unfold nmE at h0
  unfold nameR
  rcases hn : nmO (l.drop (ahd t)) with _ | ⟨n, s⟩
  ·exact rdT_n _ _
  ·rw [hn] at h0
   simp only [Option.map_some] at h0
   refine iD _ _ _ fun e => ?_
   have : rdE l.length (chk1R l (some (ahd t + s))) = 0 := rdE_y _ _ e
   rw [this] at h0; cases h0
 ·rename_i hle
  rw [if_neg hle]; exact rdT_n _ _
def rtgG : List AV → Option AV
 | [.w16 t, .sl n xs] => aK (cI xs) fun l => aN (l.length = n ∧ n ≤ 8192) (some (tgtT t l))
 | _ => none
theorem rtgG_eq (t : BitVec 16) (n : Nat) (xs : List AV) : rtgG [.w16 t, .sl n xs] = aK (cI xs) fun l => aN (l.length = n ∧ n ≤ 8192) (some (tgtT t l)) := (rfl)
attribute [go_sem] rtgG_eq
set_option maxHeartbeats 4000000 in
theorem rtg_end (t : BitVec 16) (l : List B8) (h : tgT t) (hl : l.length ≤ 8192) (hp0 : H) (n0 c0 : Nat) : Awp Tryz.prog GLh Tryz.f8.ntmps (cr (cr (cr (aE Tryz.f8)))) ⟨[(0, .w16 t), (1, .sl l.length (c8 l)), (6, .i (ahd t : Int))], hp0, n0, c0⟩ (cN Tryz.prog Tryz.f8.results.toList (tgtT t l)) := by
 rcases chkF_two t l with h0 | h0
 ·skip
  obtain ⟨n, s, hn, hs, hT⟩ := chk_tg h (by rw [← chkF_E h]; exact h0)
  have hle : ahd t ≤ l.length := by omega
  have hc := iI (l.drop (ahd t))
  have hdl : (l.drop (ahd t)).length = l.length - ahd t := List.length_drop ..
  have et : (l.drop (ahd t)).take (l.length - ahd t) = l.drop (ahd t) := List.take_of_length_le (by omega)
  obtain ⟨d, hd⟩ : ∃ d, l.drop (ahd t) = d := ⟨_, rfl⟩
  rw [hd] at hn hc hdl et
  have hc2 : cauR (opN (d.length + 1) d) = .tup [.sl n.length (cS n), .i (s : Int), .i 0] := by
   rcases hc with ⟨q, _⟩ | ⟨n', s', q, _, q2⟩
   ·rw [hn] at q; cases q
   ·rw [hn] at q; simp only [Option.some.injEq, Prod.mk.injEq] at q; obtain ⟨rfl, rfl⟩ := q; exact q2
  rw [hdl] at hc2
  rw [hT]
  refine aA rfl ?_
  refine aA rfl ?_
  refine aC (Γ := bC [(10, .pure true chkFG)]) [19, 1, 6] (aH okz10 aO) rfl rfl rfl (fun K hK => ?_)
  simp (disch := omega) only [Tryz.f8, go_sem, Nat.reduceAdd, ↓reduceIte, h0]
  refine hK _ ?_
  refine aB ?_
  refine bA (.tmp 19) rfl rfl rfl (fun h => ?_) (fun h => ?_)
  ·skip
   refine aI rfl ?_
   cases h
  ·skip
   refine aI rfl ?_
   clear h
   refine aQ rfl ?_
   refine aB ?_
   refine aA rfl ?_
   refine aC (Γ := bC [(23, .pure false iH)]) [7] (aH ok50 aO) rfl rfl rfl (fun K hK => ?_)
   simp (disch := omega) only [Tryz.f8, go_sem, Nat.reduceAdd, ↓reduceIte, Int.toNat_natCast, hd, et, hdl, hc2]
   refine hK _ ?_
   refine aB ?_
   refine aA rfl ?_
   refine aC (Γ := aL) [4, 5] (aD _ _) rfl rfl rfl (fun K hK => ?_)
   simp (disch := omega) only [Tryz.f8, go_sem, Nat.reduceAdd, ↓reduceIte]
   refine hK _ ?_
   refine aB ?_
   refine aS rfl ?_
   simp (disch := omega) only [cN, bV, bK, bQ, Tryz.f8, go_sem, ↓reduceIte]
 ·skip
  rw [tgt_bad h hl h0]
  refine aA rfl ?_
  refine aA rfl ?_
  refine aC (Γ := bC [(10, .pure true chkFG)]) [19, 1, 6] (aH okz10 aO) rfl rfl rfl (fun K hK => ?_)
  simp (disch := omega) only [Tryz.f8, go_sem, Nat.reduceAdd, Int.reduceEq, ↓reduceIte, h0]
  refine hK _ ?_
  refine aB ?_
  refine bA (.tmp 19) rfl rfl rfl (fun h => ?_) (fun h => ?_)
  ·skip
   refine aI rfl ?_
   refine aA rfl ?_
   refine aC (Γ := aL) [4, 5] (aD _ _) rfl rfl rfl (fun K hK => ?_)
   simp (disch := omega) only [Tryz.f8, go_sem, Nat.reduceAdd, ↓reduceIte]
   refine hK _ ?_
   refine aB ?_
   refine aS rfl ?_
   refine bI ?_
   simp (disch := omega) only [cN, bV, bK, bQ, Tryz.f8, go_sem, ↓reduceIte]
  ·skip
   refine aI rfl ?_
   cases h
set_option maxHeartbeats 4000000 in
theorem rtg_ok : cL Tryz.prog GLh 8 rtgG := by
 refine cC Tryz.func8 (aT rfl) ?_
 intro args r hg
 unfold rtgG at hg
 split at hg
 ·rename_i t n xs
  replace hg := aJ hg; obtain ⟨l, hl, hg⟩ := hg
  replace hg := aP hg; obtain ⟨⟨rfl, hn⟩, hg⟩ := hg
  obtain rfl := Option.some.inj hg
  have := bW hl; subst this
  refine ⟨Nat.le_of_ble_eq_true rfl, fun nx => ?_⟩
  clear hl hg
  refine aA rfl ?_
  refine aC (Γ := aL) [0, 1] (aD _ _) rfl rfl rfl (fun K hK => ?_)
  simp (disch := omega) only [Tryz.f8, go_sem, Nat.reduceAdd, ↓reduceIte]
  refine hK _ ?_
  refine aB ?_
  refine aA rfl ?_
  refine aC (Γ := aL) [0, 1, 6] (aD _ _) rfl rfl rfl (fun K hK => ?_)
  simp (disch := omega) only [Tryz.f8, go_sem, ↓reduceIte]
  refine hK _ ?_
  refine aB ?_
  refine aA rfl ?_
  refine aA rfl ?_
  refine aC (Γ := aL) [0, 1, 6, 10] (aD _ _) rfl rfl rfl (fun K hK => ?_)
  simp (disch := omega) only [Tryz.f8, go_sem, ↓reduceIte]
  refine hK _ ?_
  refine aB ?_
  refine aR 0 rfl rfl ?_
  refine aA rfl ?_
  refine aA rfl ?_
  refine aC (Γ := aL) [0, 1, 6, 10, 11] (aD _ _) rfl rfl rfl (fun K hK => ?_)
  simp (disch := omega) only [Tryz.f8, go_sem, Nat.reduceAdd, Int.reduceLE, Int.reduceLT, BitVec.reduceOfInt, ↓reduceIte]
  refine hK _ ?_
  refine aB ?_
  refine aW (.tmp 11) rfl rfl rfl (fun h => ?_) (fun h => ?_)
  ·skip
   have h2 := h
   refine aQ rfl ?_
   refine aB ?_
   refine aW (.tmp 11) rfl rfl rfl (fun h => ?_) (fun h => ?_)
   ·skip
    subst h2
    refine aQ rfl ?_
    refine bU (aB ?_)
    refine fF [0, 1, 6] ?_
    simp only [iB, fU, eB, ↓reduceIte, Nat.reduceEqDiff]
    exact rtg_end 2#16 l (.inl rfl) hn _ _ _
   ·skip
    exact absurd h2 h
  ·skip
   have h2 := h
   clear h
   refine aC (Γ := aL) [11, 0, 1, 6, 10] (aD _ _) rfl rfl rfl (fun K hK => ?_)
   simp (disch := omega) only [Tryz.f8, go_sem, Nat.reduceAdd, Int.reduceLE, Int.reduceLT, BitVec.reduceOfInt, ↓reduceIte]
   refine hK _ ?_
   refine aB ?_
   refine aW (.tmp 11) rfl rfl rfl (fun h => ?_) (fun h => ?_)
   ·skip
    refine aI rfl ?_
    have h5 := h
    refine aQ rfl ?_
    refine bU (aB ?_)
    subst h5
    refine fF [0, 1, 6] ?_
    simp only [iB, fU, eB, ↓reduceIte, Nat.reduceEqDiff]
    exact rtg_end 5#16 l (.inr (.inl rfl)) hn _ _ _
   ·skip
    refine aI rfl ?_
    have h5 := h
    clear h
    refine aA rfl ?_
    refine aC (Γ := aL) [14, 0, 1] (aD _ _) rfl rfl rfl (fun K hK => ?_)
    simp (disch := omega) only [Tryz.f8, go_sem, Nat.reduceAdd, Int.reduceLE, Int.reduceLT, BitVec.reduceOfInt, ↓reduceIte]
    refine hK _ ?_
    refine aB ?_
    refine aW (.tmp 14) rfl rfl rfl (fun h => ?_) (fun h => ?_)
    ·skip
     refine aI rfl ?_
     subst h
     refine aC (Γ := aL) [0, 1, 6] (aD _ _) rfl rfl rfl (fun K hK => ?_)
     simp (disch := omega) only [Tryz.f8, go_sem, ↓reduceIte]
     refine hK _ ?_
     refine bU (aB ?_)
     exact rtg_end 15#16 l (.inr (.inr rfl)) hn _ _ _
    ·skip
     refine aI rfl ?_
     rw [tgt_no (fun q => q.elim h2 fun q => q.elim h5 h)]
     refine aA rfl ?_
     refine aC (Γ := aL) [4, 5] (aD _ _) rfl rfl rfl (fun K hK => ?_)
     simp (disch := omega) only [Tryz.f8, go_sem, Nat.reduceAdd, ↓reduceIte]
     refine hK _ ?_
     refine aB ?_
     refine aS rfl ?_
     refine bN (bI ?_)
     simp (disch := omega) only [cN, bV, bK, bQ, Tryz.f8, go_sem, ↓reduceIte]
 ·cases hg
theorem okz8 : bX Tryz.prog GLh 8 (.pure false rtgG) := ⟨⟨_, Tryz.func8, rfl, rfl⟩, rtg_ok⟩
end Go.AX
namespace Go.AX
open Go Go.Proofs
theorem cau_of {d : List B8} {n : Nm} {s : Nat} (hn : nmO d = some (n, s)) : cauR (opN (d.length + 1) d) = .tup [.sl n.length (cS n), .i (s : Int), .i 0] := by
 rcases iI d with ⟨q, _⟩ | ⟨n', s', q, _, q2⟩
 ·rw [hn] at q; cases q
 ·rw [hn] at q; simp only [Option.some.injEq, Prod.mk.injEq] at q; obtain ⟨rfl, rfl⟩ := q; exact q2
set_option maxHeartbeats 16000000 in
theorem rcan_ok : cL Tryz.prog GLh 6 canFG := by
 refine cC Tryz.func6 (aT rfl) ?_
 intro args r hg
 unfold canFG at hg
 split at hg
 ·rename_i t n xs
  replace hg := aJ hg; obtain ⟨l, hl, hg⟩ := hg
  replace hg := aP hg; obtain ⟨⟨rfl, hn⟩, hg⟩ := hg
  obtain rfl := Option.some.inj hg
  have := bW hl; subst this
  clear hg hl
  refine ⟨Nat.le_of_ble_eq_true rfl, fun nx => ?_⟩
  unfold canFT
  have hct : tgT t → gJ t l = 0 → ∃ n s, nmO (l.drop (ahd t)) = some (n, s) ∧ ahd t + s = l.length ∧ tgtT t l = .tup [.sl n.length (cS n), .i 0] := fun h h0 => chk_tg h (by rw [← chkF_E h]; exact h0)
  unfold gA nmN
  have hce := chkF_two t l
  obtain ⟨e, he⟩ : ∃ e, gJ t l = e := ⟨_, rfl⟩
  rw [he] at hct hce ⊢
  refine aA rfl ?_
  refine aC (Γ := aL) [0, 1] (aD _ _) rfl rfl rfl (fun K hK => ?_)
  simp (disch := omega) only [Tryz.f6, go_sem, Nat.reduceAdd, ↓reduceIte]
  refine hK _ ?_
  refine aB ?_
  refine aA rfl ?_
  refine aA rfl ?_
  refine aC (Γ := bC [(10, .pure true chkFG)]) [19, 0, 1] (aH okz10 aO) rfl rfl rfl (fun K hK => ?_)
  simp (disch := omega) only [Tryz.f6, go_sem, Nat.reduceAdd, ↓reduceIte, he]
  refine hK _ ?_
  refine aB ?_
  rcases hce with rfl | rfl
  ·skip
   rw [if_pos rfl]
   refine bA (.tmp 19) rfl rfl rfl (fun h => ?_) (fun h => ?_)
   ·skip
    refine aI rfl ?_
    exact absurd h (by decide)
   ·skip
    refine aI rfl ?_
    clear h
    refine aQ rfl ?_
    refine aB ?_
    refine aA rfl ?_
    refine aA rfl ?_
    refine aC (Γ := aL) [1, 20] (aD _ _) rfl rfl rfl (fun K hK => ?_)
    simp (disch := omega) only [Tryz.f6, go_sem, ↓reduceIte]
    refine hK _ ?_
    refine aB ?_
    refine aR 0 rfl rfl ?_
    refine aA rfl ?_
    refine aA rfl ?_
    refine aC (Γ := aL) [1, 20, 21] (aD _ _) rfl rfl rfl (fun K hK => ?_)
    simp (disch := omega) only [Tryz.f6, go_sem, Nat.reduceAdd, Int.reduceLE, Int.reduceLT, BitVec.reduceOfInt, ↓reduceIte]
    refine hK _ ?_
    refine aB ?_
    refine aW (.tmp 21) rfl rfl rfl (fun h => ?_) (fun h => ?_)
    ·skip
     have h2 := h
     refine aQ rfl ?_
     refine aB ?_
     refine aW (.tmp 21) rfl rfl rfl (fun h => ?_) (fun h => ?_)
     ·skip
      subst h2
      obtain ⟨n, s, q1, q2, q3⟩ := hct (.inl rfl) rfl
      rw [if_pos (.inl rfl), q1]
      have ha : ahd 2#16 = 0 := rfl
      rw [ha, List.drop_zero] at q1
      rw [ha, List.take_zero, List.nil_append]
      obtain ⟨w1, w2, w3⟩ := nmO_wl q1
      have w4 := fS n
      have w5 := wirB_low n
      have w6 := wl_low n
      have hc := cau_of q1
      have hwl := dS (dJ n)
      refine aA rfl ?_
      refine aC (Γ := bC [(23, .pure false iH)]) [6] (aH ok50 aO) rfl rfl rfl (fun K hK => ?_)
      simp (disch := omega) only [Tryz.f6, go_sem, Nat.reduceAdd, ↓reduceIte, hc]
      refine hK _ ?_
      refine aB ?_
      refine aA rfl ?_
      refine aC (Γ := bC [(25, .fresh true iF), (24, .fresh true wireG)]) [4, 5] (aH okz25 (aH ok15 aO)) rfl rfl rfl (fun K hK => ?_)
      simp (disch := omega) only [Tryz.f6, go_sem, Nat.reduceAdd, ↓reduceIte]
      refine hK _ ?_
      refine aB ?_
      refine aS rfl ?_
      refine bN (bI ?_)
      simp (disch := omega) only [cN, bV, bK, bQ, Tryz.f6, go_sem, ↓reduceIte]
     ·skip
      exact absurd h2 h
    ·skip
     have h2 := h
     clear h
     refine aC (Γ := aL) [21, 1, 20] (aD _ _) rfl rfl rfl (fun K hK => ?_)
     simp (disch := omega) only [Tryz.f6, go_sem, Nat.reduceAdd, Int.reduceLE, Int.reduceLT, BitVec.reduceOfInt, ↓reduceIte]
     refine hK _ ?_
     refine aB ?_
     refine aW (.tmp 21) rfl rfl rfl (fun h => ?_) (fun h => ?_)
     ·skip
      refine aI rfl ?_
      have h5 := h
      subst h5
      obtain ⟨n, s, q1, q2, q3⟩ := hct (.inr (.inl rfl)) rfl
      rw [if_pos (.inr (.inl rfl)), q1]
      have ha : ahd 5#16 = 0 := rfl
      rw [ha, List.drop_zero] at q1
      rw [ha, List.take_zero, List.nil_append]
      obtain ⟨w1, w2, w3⟩ := nmO_wl q1
      have w4 := fS n
      have w5 := wirB_low n
      have w6 := wl_low n
      have hc := cau_of q1
      have hwl := dS (dJ n)
      refine aA rfl ?_
      refine aC (Γ := bC [(23, .pure false iH)]) [6] (aH ok50 aO) rfl rfl rfl (fun K hK => ?_)
      simp (disch := omega) only [Tryz.f6, go_sem, Nat.reduceAdd, ↓reduceIte, hc]
      refine hK _ ?_
      refine aB ?_
      refine aA rfl ?_
      refine aC (Γ := bC [(25, .fresh true iF), (24, .fresh true wireG)]) [4, 5] (aH okz25 (aH ok15 aO)) rfl rfl rfl (fun K hK => ?_)
      simp (disch := omega) only [Tryz.f6, go_sem, Nat.reduceAdd, ↓reduceIte]
      refine hK _ ?_
      refine aB ?_
      refine aS rfl ?_
      refine bN (bI ?_)
      simp (disch := omega) only [cN, bV, bK, bQ, Tryz.f6, go_sem, ↓reduceIte]
     ·skip
      refine aI rfl ?_
      have h5 := h
      clear h
      refine aA rfl ?_
      refine aC (Γ := aL) [33, 1, 20] (aD _ _) rfl rfl rfl (fun K hK => ?_)
      simp (disch := omega) only [Tryz.f6, go_sem, Nat.reduceAdd, Int.reduceLE, Int.reduceLT, BitVec.reduceOfInt, ↓reduceIte]
      refine hK _ ?_
      refine aB ?_
      refine aW (.tmp 33) rfl rfl rfl (fun h => ?_) (fun h => ?_)
      ·skip
       refine aI rfl ?_
       subst h
       obtain ⟨n, s, q1, q2, q3⟩ := hct (.inr (.inr rfl)) rfl
       rw [if_pos (.inr (.inr rfl)), q1]
       have ha : ahd 15#16 = 2 := rfl
       rw [ha] at q1 q2 ⊢
       obtain ⟨w1, w2, w3⟩ := nmO_wl q1
       have w4 := fS n
       have w5 := wirB_low n
       have w6 := wl_low n
       have hc := cau_of q1
       have hdl : (l.drop 2).length = l.length - 2 := List.length_drop ..
       have et : (l.drop 2).take (l.length - 2) = l.drop 2 := List.take_of_length_le (by omega)
       rw [hdl] at hc
       have hwl := dS (dJ n)
       have htl : (l.take 2).length = 2 := by rw [List.length_take]; omega
       refine aA rfl ?_
       refine aC (Γ := bC [(23, .pure false iH)]) [1, 9] (aH ok50 aO) rfl rfl rfl (fun K hK => ?_)
       simp (disch := omega) only [Tryz.f6, go_sem, Nat.reduceAdd, Int.reduceLE, Int.reduceToNat, ↓reduceIte, et, hdl, hc]
       refine hK _ ?_
       refine aB ?_
       refine aA rfl ?_
       refine aC (Γ := bC [(25, .fresh true iF), (24, .fresh true wireG)]) [4, 5] (aH okz25 (aH ok15 aO)) rfl rfl rfl (fun K hK => ?_)
       simp (disch := omega) only [Tryz.f6, go_sem, Nat.reduceAdd, Nat.reduceSub, Nat.reduceLeDiff, Nat.reduceLT, Int.reduceLE, Int.reduceToNat, ↓reduceIte, htl]
       refine hK _ ?_
       refine aB ?_
       have htk : (List.take 2 l ++ cM (dJ n)).take (2 + (cM (dJ n)).length) = List.take 2 l ++ cM (dJ n) := List.take_of_length_le (by rw [List.length_append, htl]; exact Nat.le_refl _)
       refine aS rfl ?_
       refine bN (bI ?_)
       simp (disch := omega) only [cN, bV, bK, bQ, Tryz.f6, go_sem, ↓reduceIte, List.length_append, htl, htk]
      ·skip
       refine aI rfl ?_
       rw [if_neg (show ¬ tgT t from fun q => q.elim h2 fun q => q.elim h5 h)]
       clear h
       refine aA rfl ?_
       refine aC (Γ := aL) [49, 1, 20] (aD _ _) rfl rfl rfl (fun K hK => ?_)
       simp (disch := omega) only [Tryz.f6, go_sem, Nat.reduceAdd, Int.reduceLE, Int.reduceLT, BitVec.reduceOfInt, ↓reduceIte]
       refine hK _ ?_
       refine aB ?_
       refine aW (.tmp 49) rfl rfl rfl (fun h => ?_) (fun h => ?_)
       ·skip
        refine aI rfl ?_
        have h6 := h
        subst h6
        obtain ⟨n, m, p, q1, q2, q3, q4, q5⟩ := chk_soa he
        have l1 := wl_low n
        have l2 := wl_low m
        have l3 := fS n
        have l4 := fS m
        rw [if_pos rfl]
        unfold soaC
        rw [q1]
        refine aA rfl ?_
        refine aC (Γ := bC [(26, .pure false soaG)]) [12] (aH ok20 aO) rfl rfl rfl (fun K hK => ?_)
        simp (disch := omega) only [Tryz.f6, go_sem, Nat.reduceAdd, Nat.reduceLeDiff, ↓reduceIte, q5, soaA]
        refine hK _ ?_
        refine aB ?_
        refine aA rfl ?_
        refine bB (Γ := bC [(25, .fresh true iF)]) (fun k => if k = 5 then 0 else 2) [12] bZ (aH okz25 aO) rfl rfl rfl (by kernel_rfl) (fun K hK => ?_)
        simp (disch := omega) only [Tryz.f6, go_sem, Nat.reduceAdd, Nat.reduceLeDiff, Nat.reduceLT, ↓reduceIte]
        refine hK _ ?_
        refine aB ?_
        refine aA rfl ?_
        refine aC (Γ := bC [(27, .fresh true soaBG)]) [4, 5] (aH okz27 aO) rfl rfl rfl (fun K hK => ?_)
        simp (disch := omega) only [Tryz.f6, go_sem, Nat.reduceAdd, Nat.reduceLeDiff, ↓reduceIte]
        refine hK _ ?_
        refine aB ?_
        refine aS rfl ?_
        refine bN (bI ?_)
        simp (disch := omega) only [cN, bV, bK, bQ, Tryz.f6, go_sem, ↓reduceIte]
       ·skip
        refine aI rfl ?_
        rw [if_neg h]
        clear h
        refine aA rfl ?_
        refine aC (Γ := aL) [66, 1] (aD _ _) rfl rfl rfl (fun K hK => ?_)
        simp (disch := omega) only [Tryz.f6, go_sem, Nat.reduceAdd, Int.reduceLE, Int.reduceLT, BitVec.reduceOfInt, ↓reduceIte]
        refine hK _ ?_
        refine aB ?_
        refine aW (.tmp 66) rfl rfl rfl (fun h => ?_) (fun h => ?_)
        ·skip
         refine aI rfl ?_
         have h46 := h
         subst h46
         obtain ⟨n, s, q1, q2, q3, q5⟩ := chk_sig he
         have l1 := wl_low n
         have l3 := fS n
         have hdl : (l.drop (18 + s)).length = l.length - (18 + s) := List.length_drop ..
         rw [if_pos rfl]
         unfold sigC
         rw [q1]
         refine aA rfl ?_
         refine aC (Γ := bC [(28, .pure false sigG)]) [14] (aH ok24 aO) rfl rfl rfl (fun K hK => ?_)
         simp (disch := omega) only [Tryz.f6, go_sem, Nat.reduceAdd, Nat.reduceLeDiff, ↓reduceIte, q5, sigA]
         refine hK _ ?_
         refine aB ?_
         refine aA rfl ?_
         refine aC (Γ := bC [(25, .fresh true iF)]) [14] (aH okz25 aO) rfl rfl rfl (fun K hK => ?_)
         simp (disch := omega) only [Tryz.f6, go_sem, Nat.reduceAdd, Nat.reduceLeDiff, Nat.reduceLT, ↓reduceIte]
         refine hK _ ?_
         refine aB ?_
         refine aA rfl ?_
         refine aC (Γ := bC [(29, .fresh true sigBG)]) [4, 5] (aH okz29 aO) rfl rfl rfl (fun K hK => ?_)
         simp (disch := omega) only [Tryz.f6, go_sem, Nat.reduceAdd, Nat.reduceLeDiff, ↓reduceIte, hdl]
         refine hK _ ?_
         refine aB ?_
         refine aS rfl ?_
         refine bN (bI ?_)
         simp (disch := omega) only [cN, bV, bK, bQ, Tryz.f6, go_sem, ↓reduceIte]
        ·skip
         refine aI rfl ?_
         rw [if_neg h]
         refine aQ rfl ?_
         refine bU (aB ?_)
         refine aA rfl ?_
         refine aC (Γ := aL) [4, 5] (aD _ _) rfl rfl rfl (fun K hK => ?_)
         simp (disch := omega) only [Tryz.f6, go_sem, Nat.reduceAdd, Nat.reduceLT, ↓reduceIte]
         refine hK _ ?_
         refine aB ?_
         refine aS rfl ?_
         simp (disch := omega) only [cN, bV, bK, bQ, Tryz.f6, go_sem, ↓reduceIte]
  ·skip
   rw [if_neg (by decide)]
   refine bA (.tmp 19) rfl rfl rfl (fun h => ?_) (fun h => ?_)
   ·skip
    refine aI rfl ?_
    refine aA rfl ?_
    refine aC (Γ := aL) [4, 5] (aD _ _) rfl rfl rfl (fun K hK => ?_)
    simp (disch := omega) only [Tryz.f6, go_sem, Nat.reduceAdd, ↓reduceIte]
    refine hK _ ?_
    refine aB ?_
    refine aS rfl ?_
    refine bI ?_
    simp (disch := omega) only [cN, bV, bK, bQ, Tryz.f6, go_sem, ↓reduceIte]
   ·skip
    refine aI rfl ?_
    exact absurd h (by decide)
 ·cases hg
theorem okz6 : bX Tryz.prog GLh 6 (.pure false canFG) := ⟨⟨_, Tryz.func6, rfl, rfl⟩, rcan_ok⟩
end Go.AX
namespace Go.AX
open Go Go.Proofs
theorem tgtT_form (t : BitVec 16) (l : List B8) (hl : l.length ≤ 8192) : ∃ (v : Nm) (e : Int), v.length ≤ 1000000 ∧ tgtT t l = .tup [.sl v.length (cS v), .i e] := by
 by_cases h : tgT t
 ·rcases chkF_two t l with h0 | h0
  ·obtain ⟨n, s, hn, hs, hT⟩ := chk_tg h (by rw [← chkF_E h]; exact h0)
   have h1 := (nmO_wl hn).2.1
   have h2 := len_wl n
   exact ⟨n, 0, by omega, hT⟩
  ·exact ⟨[], 50, Nat.zero_le _, tgt_bad h hl h0⟩
 ·exact ⟨[], 50, Nat.zero_le _, tgt_no h l⟩
theorem uw_nil : cI [] = some [] := (rfl)
def checksG : List AV → Option AV
 | [.w16 _, .sl n xs] => aK (cI xs) fun l => aN (l.length = n ∧ n ≤ 9223372036854775807) (some (.b true))
 | _ => none
theorem checksG_y (t : BitVec 16) (l : List B8) (h : l.length ≤ 9223372036854775807) : checksG [.w16 t, .sl l.length (c8 l)] = some (.b true) := by
 show aK (cI (c8 l)) _ = _
 rw [iA, aX, cU _ ⟨rfl, h⟩]
set_option maxHeartbeats 8000000 in
theorem checks_ok : cL Tryz.prog GLh 3 checksG := by
 refine cC Tryz.func3 (aT rfl) ?_
 intro args r hg
 unfold checksG at hg
 split at hg
 ·rename_i t n xs
  replace hg := aJ hg; obtain ⟨l, hl, hg⟩ := hg
  replace hg := aP hg; obtain ⟨⟨rfl, hbig⟩, hg⟩ := hg
  obtain rfl := Option.some.inj hg
  have := bW hl; subst this
  refine ⟨Nat.le_of_ble_eq_true rfl, fun nx => ?_⟩
  clear hl hg
  refine aA rfl ?_
  refine aC (Γ := aL) [0, 1] (aD _ _) rfl rfl rfl (fun K hK => ?_)
  simp (disch := omega) only [Tryz.f3, go_sem, ↓reduceIte]
  refine hK _ ?_
  refine aB ?_
  refine aA rfl ?_
  refine aA rfl ?_
  refine aC (Γ := bC [(4, .pure true knownG)]) [14, 0, 1] (aH ok9 aO) rfl rfl rfl (fun K hK => ?_)
  simp (disch := omega) only [Tryz.f3, go_sem, Nat.reduceAdd, ↓reduceIte]
  refine hK _ ?_
  refine aB ?_
  refine bA (.tmp 14) rfl rfl rfl (fun h => ?_) (fun h => ?_)
  ·skip
   refine aI rfl ?_
   cases h
  ·skip
   refine aI rfl ?_
   clear h
   refine aQ rfl ?_
   refine aB ?_
   refine aA rfl ?_
   refine aA rfl ?_
   refine aC (Γ := aL) [17, 0, 1] (aD _ _) rfl rfl rfl (fun K hK => ?_)
   simp (disch := omega) only [Tryz.f3, go_sem, Nat.reduceAdd, ↓reduceIte]
   refine hK _ ?_
   refine aB ?_
   refine aW (.tmp 17) rfl rfl rfl (fun h => ?_) (fun h => ?_)
   ·skip
    refine aI rfl ?_
    refine aA rfl ?_
    refine aC (Γ := aL) [4] (aD _ _) rfl rfl rfl (fun K hK => ?_)
    simp (disch := omega) only [Tryz.f3, go_sem, ↓reduceIte]
    refine hK _ ?_
    refine aB ?_
    refine aS rfl ?_
    refine bI ?_
    simp (disch := omega) only [cN, bV, bK, bQ, Tryz.f3, go_sem, ↓reduceIte]
   ·skip
    refine aI rfl ?_
    have hl : l.length ≤ 3000 := by omega
    obtain ⟨v, e, hv, ht⟩ := tgtT_form t l (by omega)
    refine aQ rfl ?_
    refine aB ?_
    refine aA rfl ?_
    rcases chkF_two t l with h0 | h0
    ·skip
     have hcan : canFT t l = .tup [.sl (gA t l).length (c8 (gA t l)), .i 0] := if_pos h0
     obtain ⟨C, hC⟩ : ∃ C, gA t l = C := ⟨_, rfl⟩
     rw [hC] at hcan
     refine aC (Γ := bC [(5, .pure false canFG)]) [0, 1, 5, 6] (aH ok10f aO) rfl rfl rfl (fun K hK => ?_)
     simp (disch := omega) only [Tryz.f3, go_sem, Nat.reduceAdd, ↓reduceIte, hcan]
     refine hK _ ?_
     refine aB ?_
     refine aA rfl ?_
     refine aC (Γ := bC [(6, .pure false canFG)]) [0, 1, 5, 6, 7, 8] (aH okz6 aO) rfl rfl rfl (fun K hK => ?_)
     simp (disch := omega) only [Tryz.f3, go_sem, Nat.reduceAdd, ↓reduceIte, hcan]
     refine hK _ ?_
     refine aB ?_
     refine aA rfl ?_
     refine aC (Γ := bC [(7, .pure false tgG)]) [0, 1, 5, 6, 7, 8, 9, 10] (aH ok17 aO) rfl rfl rfl (fun K hK => ?_)
     simp (disch := omega) only [Tryz.f3, go_sem, Nat.reduceAdd, ↓reduceIte, ht]
     refine hK _ ?_
     refine aB ?_
     refine aA rfl ?_
     refine aC (Γ := bC [(8, .pure false rtgG)]) [0, 1, 5, 6, 7, 8, 9, 10, 11, 12] (aH okz8 aO) rfl rfl rfl (fun K hK => ?_)
     simp (disch := omega) only [Tryz.f3, go_sem, Nat.reduceAdd, ↓reduceIte, ht]
     refine hK _ ?_
     refine aB ?_
     refine aA rfl ?_
     refine aC (Γ := bC [(9, .pure true chkFG), (10, .pure true chkFG), (11, .pure true beqG), (12, .pure true nameEG)]) [4] (aH ok13f (aH okz10 (aH ok11 (aH ok19 aO)))) rfl rfl rfl (fun K hK => ?_)
     simp (disch := omega) only [Tryz.f3, go_sem, Nat.reduceAdd, ↓reduceIte, h0, iA]
     refine hK _ ?_
     refine aB ?_
     refine aS rfl ?_
     simp (disch := omega) only [cN, bV, bK, bQ, Tryz.f3, go_sem, ↓reduceIte]
    ·skip
     have hcan : canFT t l = .tup [.sl 0 [], .i 50] := by unfold canFT; rw [if_neg (by rw [h0]; decide), h0]
     refine aC (Γ := bC [(5, .pure false canFG)]) [0, 1, 5, 6] (aH ok10f aO) rfl rfl rfl (fun K hK => ?_)
     simp (disch := omega) only [Tryz.f3, go_sem, Nat.reduceAdd, ↓reduceIte, hcan]
     refine hK _ ?_
     refine aB ?_
     refine aA rfl ?_
     refine aC (Γ := bC [(6, .pure false canFG)]) [0, 1, 5, 6, 7, 8] (aH okz6 aO) rfl rfl rfl (fun K hK => ?_)
     simp (disch := omega) only [Tryz.f3, go_sem, Nat.reduceAdd, ↓reduceIte, hcan]
     refine hK _ ?_
     refine aB ?_
     refine aA rfl ?_
     refine aC (Γ := bC [(7, .pure false tgG)]) [0, 1, 5, 6, 7, 8, 9, 10] (aH ok17 aO) rfl rfl rfl (fun K hK => ?_)
     simp (disch := omega) only [Tryz.f3, go_sem, Nat.reduceAdd, ↓reduceIte, ht]
     refine hK _ ?_
     refine aB ?_
     refine aA rfl ?_
     refine aC (Γ := bC [(8, .pure false rtgG)]) [0, 1, 5, 6, 7, 8, 9, 10, 11, 12] (aH okz8 aO) rfl rfl rfl (fun K hK => ?_)
     simp (disch := omega) only [Tryz.f3, go_sem, Nat.reduceAdd, ↓reduceIte, ht]
     refine hK _ ?_
     refine aB ?_
     refine aA rfl ?_
     refine aC (Γ := bC [(9, .pure true chkFG), (10, .pure true chkFG), (11, .pure true beqG), (12, .pure true nameEG)]) [4] (aH ok13f (aH okz10 (aH ok11 (aH ok19 aO)))) rfl rfl rfl (fun K hK => ?_)
     simp (disch := omega) only [Tryz.f3, go_sem, Nat.reduceAdd, ↓reduceIte, h0, uw_nil, List.length_nil]
     refine hK _ ?_
     refine aB ?_
     refine aS rfl ?_
     simp (disch := omega) only [cN, bV, bK, bQ, Tryz.f3, go_sem, ↓reduceIte]
 ·cases hg
theorem okz3 : bX Tryz.prog GLh 3 (.pure true checksG) := ⟨⟨_, Tryz.func3, rfl, rfl⟩, checks_ok⟩
end Go.AX
