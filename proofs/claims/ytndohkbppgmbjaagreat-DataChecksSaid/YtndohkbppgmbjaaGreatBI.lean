/-
  Data, part S: names' bytes and small letters. Data, part T: numbers put, bytes held against each other, places. Data, part U: a DNSKEY's bytes. Data, part yA: numbers put behind own bytes. Data, part yB: slices.Grow from nothing, slices.Concat.
-/
import Derived.Test.YtndohkbppgmbjaaGreatBH
import Derived.Test.YtndohkbppgmbjaaGreatBE
namespace Go.AX
open Go Go.Proofs
def labL (l : List B8) : List B8 := BitVec.ofInt 8 (l.length : Int) :: l
def eF (ps : List (List B8)) : List B8 := ps.flatMap labL
def cM (ps : List (List B8)) : List B8 := eF ps ++ [0#8]
theorem wirB_nil : eF [] = [] := rfl
theorem wirB_cons (p : List B8) (ps : List (List B8)) : eF (p :: ps) = labL p ++ eF ps := by simp [eF]
theorem gX (p : List B8) (ps : List (List B8)) : (eF (p :: ps)).length = p.length + 1 + (eF ps).length := by rw [wirB_cons]; simp [labL]; omega
theorem wirB_take (ps : List (List B8)) (k : Nat) (h : k < ps.length) : eF (ps.take (k + 1)) = eF (ps.take k) ++ labL (ps.getD k []) := by
 have e : ps.take (k + 1) = ps.take k ++ [ps.getD k []] := by rw [List.take_succ_eq_append_getElem h]; simp [List.getD, List.getElem?_eq_getElem h, -List.take_append_getElem]
 rw [e]; unfold eF; rw [List.flatMap_append]; simp only [List.flatMap_cons, List.flatMap_nil, List.append_nil]
theorem wirB_ge (ps : List (List B8)) : ps.length ≤ (eF ps).length := by
 induction ps with
 | nil => simp
 | cons p ps ih => rw [gX, List.length_cons]; omega
theorem wirB_mem (ps : List (List B8)) (k : Nat) : (ps.getD k []).length ≤ (eF ps).length := by
 induction ps generalizing k with
 | nil => simp
 | cons p ps ih =>
  rw [gX]
  cases k with
  | zero => simp; omega
  | succ k => have := ih k; simp at this ⊢; omega
theorem wirB_tk (ps : List (List B8)) (k : Nat) : (eF (ps.take k)).length ≤ (eF ps).length := by
 induction ps generalizing k with
 | nil => simp
 | cons p ps ih =>
  cases k with
  | zero => simp [eF]
  | succ k => rw [List.take_succ_cons, gX, gX]; have := ih k; omega
def wireG : List AV → Option (Nat × Nat × List AV)
 | [.sl n xs] => aK (unS xs) fun ps => aN (ps.length = n ∧ (eF ps).length ≤ 1000000) (some ((cM ps).length, 1, c8 (cM ps)))
 | _ => none
theorem wireG_eq (n : Nat) (xs : List AV) : wireG [.sl n xs] = aK (unS xs) fun ps => aN (ps.length = n ∧ (eF ps).length ≤ 1000000) (some ((cM ps).length, 1, c8 (cM ps))) := (rfl)
attribute [go_sem] wireG_eq
set_option maxHeartbeats 1000000 in
theorem wire_ok : dH Tryz.prog GLh 17 wireG := by
 refine cT Tryz.func17 (aT rfl) ?_
 intro args r hg
 unfold wireG at hg
 split at hg
 ·rename_i n xs
  replace hg := aJ hg; obtain ⟨ps, hb, hg⟩ := hg
  replace hg := aP hg; obtain ⟨⟨hn, hbig⟩, hg⟩ := hg
  obtain rfl := Option.some.inj hg
  have := gT hb; subst this
  subst hn
  clear hg hb
  refine ⟨Nat.le_of_ble_eq_true rfl, fun nx => ?_⟩
  have hpn := wirB_ge ps
  refine aA rfl ?_
  refine aC (Γ := aL) [0] (aD _ _) rfl rfl rfl (fun K hK => ?_)
  simp (disch := omega) only [Tryz.f17, go_sem, ↓reduceIte]
  refine hK _ ?_
  refine aB ?_
  refine aA rfl ?_
  refine aC (Γ := aL) [0, 3] (aD _ _) rfl rfl rfl (fun K hK => ?_)
  simp (disch := omega) only [Tryz.f17, go_sem, ↓reduceIte]
  refine hK _ ?_
  refine aB ?_
  refine aA rfl ?_
  refine aA rfl ?_
  refine aC (Γ := aL) [3, 6, 7, 8] (aD _ _) rfl rfl rfl (fun K hK => ?_)
  simp (disch := omega) only [Tryz.f17, go_sem, Nat.reduceAdd, ↓reduceIte]
  refine hK _ ?_
  refine aB ?_
  refine iE 3 1 rfl ?_
  refine fF [3, 6, 7, 8] ?_
  simp only [iB, fU, eB, ↓reduceIte, Nat.reduceEqDiff]
  refine aR 0 rfl rfl ?_
  refine bR (fun p : KIC => { fr := [(3, .os p.id 0 (eF (ps.take p.k)).length 1 true), (6, .sl ps.length (cS ps)), (7, .i ps.length), (8, .i p.k)], hp := upd (fun _ => none) p.id (.cells (c8 (eF (ps.take p.k))) true), nx := 0, cx := p.c }) (fun p => p.k ≤ ps.length ∧ p.id < p.c) (fun p => ps.length - p.k) rfl ⟨⟨0, _, _⟩, ⟨Nat.zero_le _, by simp only; omega⟩, bD rfl rfl (Nat.le_refl _)⟩ ?_
  rintro ⟨k, id, c⟩ ⟨hk, hid⟩ n0
  simp only at hk hid ⊢
  refine aA rfl ?_
  refine aC (Γ := aL) [9, 3, 6, 7, 8] (aD _ _) rfl rfl rfl (fun K hK => ?_)
  simp (disch := omega) only [Tryz.f17, go_sem, ↓reduceIte]
  refine hK _ ?_
  refine aB ?_
  refine aA rfl ?_
  refine aW (.tmp 9) rfl rfl rfl (fun h => ?_) (fun h => ?_)
  ·skip
   refine aI rfl ?_
   have hkl : k < ps.length := by omega
   have ht := wirB_tk ps k
   have hm := wirB_mem ps k
   refine aQ rfl ?_
   refine aB ?_
   refine aA rfl ?_
   refine aR 1 rfl rfl ?_
   refine aA rfl ?_
   refine aC (Γ := aL) [3, 5, 6, 7, 8] (aD _ _) rfl rfl rfl (fun K hK => ?_)
   simp (disch := omega) only [Tryz.f17, go_sem, Nat.reduceAdd, ↓reduceIte]
   refine hK _ ?_
   refine aB ?_
   generalize hl : ps.getD k [] = l at hm
   refine aC (Γ := aL) [3, 6, 7, 8] (aD _ _) rfl rfl rfl (fun K hK => ?_)
   simp (disch := omega) only [Tryz.f17, go_sem, Nat.reduceAdd, Nat.reduceLeDiff, Nat.reduceLT, ↓reduceIte]
   refine hK _ ?_
   refine bU (aB ?_)
   have e6 : eF (ps.take (k + 1)) = eF (ps.take k) ++ [BitVec.ofInt 8 (l.length : Int)] ++ l := by rw [wirB_take ps k hkl, hl]; simp [labL]
   have e7 : (eF (ps.take (k + 1))).length = (eF (ps.take k)).length + 1 + l.length := by rw [e6]; simp; omega
   refine aC (Γ := aL) [3, 6, 7, 8] (aD _ _) rfl rfl rfl (fun K hK => ?_)
   simp (disch := omega) only [Tryz.f17, go_sem, Nat.reduceAdd, ↓reduceIte]
   refine hK _ ?_
   refine bT ?_
   refine ⟨⟨k + 1, c + 1 + 3 + 7, _⟩, ⟨by simp only; omega, by simp only; omega⟩, by simp only; omega, ⟨fun _ => .inr ?_, fun j o h => ?_, Nat.le_refl _⟩⟩
   ·simp only [e7, Int.natCast_add, Int.natCast_one]
   ·simp only at h
    exact bS (by simp (disch := omega) only [aV, ↓reduceIte, eq_self, e6]) (cB) j o h
  ·skip
   refine aI rfl ?_
   refine bF 0 rfl rfl ?_
   refine aY (aZ (bE ?_))
   refine aB ?_
   refine aA rfl ?_
   obtain rfl : k = ps.length := by omega
   have e8 : ps.take ps.length = ps := List.take_length
   have e9 : (cM ps).length = (eF ps).length + 1 := by simp [cM]
   have ew : eF ps ++ [0#8] = cM ps := rfl
   refine aC (Γ := aL) [2] (aD _ _) rfl rfl rfl (fun K hK => ?_)
   simp (disch := omega) only [Tryz.f17, go_sem, Nat.reduceAdd, Nat.reduceLeDiff, Nat.reduceLT, Int.reduceLE, Int.reduceLT, BitVec.reduceOfInt, ↓reduceIte, e8, ew]
   refine hK _ ?_
   refine aB ?_
   refine aS rfl ?_
   simp (disch := omega) only [fE, eO, bV, bK, bQ, Tryz.f17, go_sem, ↓reduceIte, fQ, e9]
 ·cases hg
theorem ok38 : bX Tryz.prog GLh 17 (.fresh true wireG) := ⟨⟨_, Tryz.func17, rfl, rfl⟩, wire_ok⟩
set_option maxHeartbeats 1000000 in
theorem rwire_ok : dH Tryz.prog GLh 24 wireG := by
 refine cT Tryz.func24 (aT rfl) ?_
 intro args r hg
 unfold wireG at hg
 split at hg
 ·rename_i n xs
  replace hg := aJ hg; obtain ⟨ps, hb, hg⟩ := hg
  replace hg := aP hg; obtain ⟨⟨hn, hbig⟩, hg⟩ := hg
  obtain rfl := Option.some.inj hg
  have := gT hb; subst this
  subst hn
  clear hg hb
  refine ⟨Nat.le_of_ble_eq_true rfl, fun nx => ?_⟩
  have hpn := wirB_ge ps
  refine aA rfl ?_
  refine aC (Γ := aL) [0] (aD _ _) rfl rfl rfl (fun K hK => ?_)
  simp (disch := omega) only [Tryz.f24, go_sem, ↓reduceIte]
  refine hK _ ?_
  refine aB ?_
  refine aA rfl ?_
  refine aC (Γ := aL) [0, 3] (aD _ _) rfl rfl rfl (fun K hK => ?_)
  simp (disch := omega) only [Tryz.f24, go_sem, ↓reduceIte]
  refine hK _ ?_
  refine aB ?_
  refine aA rfl ?_
  refine aA rfl ?_
  refine aC (Γ := aL) [0, 3, 4] (aD _ _) rfl rfl rfl (fun K hK => ?_)
  simp (disch := omega) only [Tryz.f24, go_sem, ↓reduceIte]
  refine hK _ ?_
  refine aB ?_
  refine iE 3 1 rfl ?_
  refine fF [0, 3, 4] ?_
  simp only [iB, fU, eB, ↓reduceIte, Nat.reduceEqDiff]
  refine aR 0 rfl rfl ?_
  refine bR (fun p : KIC => { fr := [(0, .sl ps.length (cS ps)), (3, .os p.id 0 (eF (ps.take p.k)).length 1 true), (4, .i p.k)], hp := upd (fun _ => none) p.id (.cells (c8 (eF (ps.take p.k))) true), nx := 0, cx := p.c }) (fun p => p.k ≤ ps.length ∧ p.id < p.c) (fun p => ps.length - p.k) rfl ⟨⟨0, _, _⟩, ⟨Nat.zero_le _, by simp only; omega⟩, bD rfl rfl (Nat.le_refl _)⟩ ?_
  rintro ⟨k, id, c⟩ ⟨hk, hid⟩ n0
  simp only at hk hid ⊢
  refine aA rfl ?_
  refine aA rfl ?_
  refine aC (Γ := aL) [8, 0, 3, 4] (aD _ _) rfl rfl rfl (fun K hK => ?_)
  simp (disch := omega) only [Tryz.f24, go_sem, Nat.reduceAdd, ↓reduceIte]
  refine hK _ ?_
  refine aB ?_
  refine aW (.tmp 8) rfl rfl rfl (fun h => ?_) (fun h => ?_)
  ·skip
   refine aI rfl ?_
   have hkl : k < ps.length := by omega
   have ht := wirB_tk ps k
   have hm := wirB_mem ps k
   obtain ⟨l, hl⟩ : ∃ l, ps.getD k [] = l := ⟨_, rfl⟩
   rw [hl] at hm
   have e6 : eF (ps.take (k + 1)) = eF (ps.take k) ++ [BitVec.ofInt 8 (l.length : Int)] ++ l := by rw [wirB_take ps k hkl, hl]; simp [labL]
   have e7 : (eF (ps.take (k + 1))).length = (eF (ps.take k)).length + 1 + l.length := by rw [e6]; simp; omega
   refine aQ rfl ?_
   refine aB ?_
   refine aA rfl ?_
   refine aR 1 rfl rfl ?_
   refine bB (Γ := aL) (fun k => if k = 4 then 1 else if k = 12 then 1 else if k = 6 then 1 else 0) [0, 3, 4] bZ (aD _ _) rfl rfl rfl (by kernel_rfl) (fun K hK => ?_)
   simp (disch := omega) only [Tryz.f24, go_sem, Nat.reduceAdd, Nat.reduceLeDiff, Nat.reduceLT, ↓reduceIte, hl]
   refine hK _ ?_
   refine bU (aB ?_)
   refine aC (Γ := aL) [0, 3, 4] (aD _ _) rfl rfl rfl (fun K hK => ?_)
   simp (disch := omega) only [Tryz.f24, go_sem, Nat.reduceAdd, ↓reduceIte]
   refine hK _ ?_
   refine bT ?_
   refine ⟨⟨k + 1, c + 4 + 13, _⟩, ⟨by simp only; omega, by simp only; omega⟩, by simp only; omega, ⟨fun _ => .inr ?_, fun j o h => ?_, Nat.le_refl _⟩⟩
   ·simp only [e7, Int.natCast_add, Int.natCast_one]
   ·simp only at h
    exact bS (by simp (disch := omega) only [aV, ↓reduceIte, eq_self, e6]) (cB) j o h
  ·skip
   refine aI rfl ?_
   refine bF 0 rfl rfl ?_
   refine aY (aZ (bE ?_))
   refine aB ?_
   refine aA rfl ?_
   obtain rfl : k = ps.length := by omega
   have e8 : ps.take ps.length = ps := List.take_length
   have e9 : (cM ps).length = (eF ps).length + 1 := by simp [cM]
   have ew : eF ps ++ [0#8] = cM ps := rfl
   refine aC (Γ := aL) [2] (aD _ _) rfl rfl rfl (fun K hK => ?_)
   simp (disch := omega) only [Tryz.f24, go_sem, Nat.reduceAdd, Nat.reduceLeDiff, Nat.reduceLT, Int.reduceLE, Int.reduceLT, BitVec.reduceOfInt, ↓reduceIte, e8, ew]
   refine hK _ ?_
   refine aB ?_
   refine aS rfl ?_
   simp (disch := omega) only [fE, eO, bV, bK, bQ, Tryz.f24, go_sem, ↓reduceIte, fQ, e9]
 ·cases hg
theorem ok15 : bX Tryz.prog GLh 24 (.fresh true wireG) := ⟨⟨_, Tryz.func24, rfl, rfl⟩, rwire_ok⟩
def hG (c : B8) : B8 := if 65#8 ≤ c ∧ c ≤ 90#8 then c + 32#8 else c
def lowK (l : List B8) (k : Nat) : List B8 := (l.take k).map hG ++ l.drop k
theorem lowK_len (l : List B8) (k : Nat) : (lowK l k).length = l.length := by simp [lowK]; omega
theorem lowK_get (l : List B8) (k : Nat) (h : k < l.length) : (lowK l k).getD k 0#8 = l.getD k 0#8 := by
 unfold lowK
 rw [List.getD_eq_getElem?_getD, List.getElem?_append_right (by simp; omega)]
 simp [List.length_take, Nat.min_eq_left (Nat.le_of_lt h)]
theorem lowK_set (l : List B8) (k : Nat) (h : k < l.length) : (lowK l k).set k (hG (l.getD k 0#8)) = lowK l (k + 1) := by
 unfold lowK
 rw [List.set_append_right _ _ (by simp; omega), List.length_map, List.length_take, Nat.min_eq_left (Nat.le_of_lt h), Nat.sub_self, List.drop_eq_getElem_cons h, List.set_cons_zero, List.take_succ_eq_append_getElem h]
 simp [List.getElem?_eq_getElem h, -List.take_append_getElem]
theorem lowK_same (l : List B8) (k : Nat) (h : k < l.length) (hs : hG (l.getD k 0#8) = l.getD k 0#8) : lowK l k = lowK l (k + 1) := by
 rw [← lowK_set l k h, hs, ← lowK_get l k h]
 apply List.ext_getElem?
 intro i
 rw [List.getElem?_set]
 split
 ·rename_i e; subst e
  rw [lowK_len, if_pos h, List.getD_eq_getElem?_getD]
  have : k < (lowK l k).length := by rw [lowK_len]; exact h
  simp [List.getElem?_eq_getElem this]
 ·rfl
theorem lowK_zero (l : List B8) : lowK l 0 = l := by simp [lowK]
theorem lowK_all (l : List B8) : lowK l l.length = l.map hG := by simp [lowK]
def smallG : List AV → Option AV
 | [.s l] => aN (l.length ≤ 1000000) (some (.s (l.map hG)))
 | _ => none
theorem smallG_eq (l : List B8) : smallG [.s l] = aN (l.length ≤ 1000000) (some (.s (l.map hG))) := (rfl)
attribute [go_sem] smallG_eq
set_option maxHeartbeats 1000000 in
theorem small_ok : cL Tryz.prog GLh 46 smallG := by
 refine cC Tryz.func46 (aT rfl) ?_
 intro args r hg
 unfold smallG at hg
 split at hg
 ·rename_i l
  replace hg := aP hg; obtain ⟨hbig, hg⟩ := hg
  obtain rfl := Option.some.inj hg
  clear hg
  refine ⟨Nat.le_of_ble_eq_true rfl, fun nx => ?_⟩
  refine aA rfl ?_
  refine aC (Γ := aL) [0] (aD _ _) rfl rfl rfl (fun K hK => ?_)
  simp (disch := omega) only [Tryz.f46, go_sem, ↓reduceIte]
  refine hK _ ?_
  refine aB ?_
  refine aA rfl ?_
  refine aC (Γ := aL) [3] (aD _ _) rfl rfl rfl (fun K hK => ?_)
  simp (disch := omega) only [Tryz.f46, go_sem, Nat.reduceAdd, ↓reduceIte]
  refine hK _ ?_
  refine aB ?_
  refine aA rfl ?_
  refine aA rfl ?_
  refine aC (Γ := aL) [3, 8, 9, 10] (aD _ _) rfl rfl rfl (fun K hK => ?_)
  simp (disch := omega) only [Tryz.f46, go_sem, Nat.reduceAdd, ↓reduceIte]
  refine hK _ ?_
  refine aB ?_
  refine aR 0 rfl rfl ?_
  refine bR (fun p : KC => { fr := [(3, .os (nx + 1 + 1) 0 l.length 1 true), (8, .os (nx + 1 + 1) 0 l.length 1 true), (9, .i l.length), (10, .i p.k)], hp := upd (fun _ => none) (nx + 1 + 1) (.cells (c8 (lowK l p.k)) true), nx := 0, cx := p.c }) (fun p => p.k ≤ l.length ∧ nx + 1 + 1 < p.c) (fun p => l.length - p.k) rfl ⟨⟨0, _⟩, ⟨Nat.zero_le _, by simp only; omega⟩, bD rfl (by simp only [lowK_zero]) (Nat.le_refl _)⟩ ?_
  rintro ⟨k, c⟩ ⟨hk, hid⟩ n0
  simp only at hk hid ⊢
  refine aA rfl ?_
  refine aC (Γ := aL) [11, 3, 8, 9, 10] (aD _ _) rfl rfl rfl (fun K hK => ?_)
  simp (disch := omega) only [Tryz.f46, go_sem, ↓reduceIte]
  refine hK _ ?_
  refine aB ?_
  refine aA rfl ?_
  refine aW (.tmp 11) rfl rfl rfl (fun h => ?_) (fun h => ?_)
  ·skip
   refine aI rfl ?_
   have hkl : k < l.length := by omega
   have hll := lowK_len l k
   have hgt := lowK_get l k hkl
   refine aQ rfl ?_
   refine aB ?_
   refine aA rfl ?_
   refine aR 1 rfl rfl ?_
   refine aA rfl ?_
   refine aC (Γ := aL) [3, 4, 5, 8, 9, 10] (aD _ _) rfl rfl rfl (fun K hK => ?_)
   simp (disch := omega) only [Tryz.f46, go_sem, Nat.reduceAdd, ↓reduceIte, hgt]
   refine hK _ ?_
   refine aB ?_
   obtain ⟨x, hx⟩ : ∃ x, l.getD k 0#8 = x := ⟨_, rfl⟩
   rw [hx]
   by_cases ha : 65#8 ≤ x
   ·skip
    by_cases hb : x ≤ 90#8
    ·skip
     refine aA rfl ?_
     refine aC (Γ := aL) [20, 3, 4, 5, 8, 9, 10] (aD _ _) rfl rfl rfl (fun K hK => ?_)
     simp (disch := omega) only [Tryz.f46, go_sem, Nat.reduceAdd, Int.reduceLE, Int.reduceLT, BitVec.reduceOfInt, ↓reduceIte, decide_eq_true ha, decide_eq_true hb]
     refine hK _ ?_
     refine aB ?_
     refine bA (.tmp 20) rfl rfl rfl (fun h => ?_) (fun h => ?_)
     ·skip
      refine aI rfl ?_
      clear h
      have e1 : x + 97#8 - 65#8 = hG x := by unfold hG; rw [if_pos ⟨ha, hb⟩]; bv_omega
      refine aC (Γ := aL) [3, 8, 9, 10] (aD _ _) rfl rfl rfl (fun K hK => ?_)
      simp (disch := omega) only [Tryz.f46, go_sem, Nat.reduceAdd, Int.reduceLE, Int.reduceLT, BitVec.reduceOfInt, ↓reduceIte, e1, c8_set]
      refine hK _ ?_
      refine bU (aB ?_)
      have e2 := lowK_set l k hkl
      rw [hx] at e2
      refine aC (Γ := aL) [3, 8, 9, 10] (aD _ _) rfl rfl rfl (fun K hK => ?_)
      simp (disch := omega) only [Tryz.f46, go_sem, Nat.reduceAdd, ↓reduceIte]
      refine hK _ ?_
      refine bT ?_
      refine ⟨⟨k + 1, _⟩, ⟨by simp only; omega, by simp only; omega⟩, by simp only; omega, bD ?_ ?_ (Nat.le_refl _)⟩
      ·simp only [Int.natCast_add, Int.natCast_one]
      ·simp only [e2]
     ·skip
      refine aI rfl ?_
      cases h
    ·skip
     refine aA rfl ?_
     refine aC (Γ := aL) [20, 3, 4, 5, 8, 9, 10] (aD _ _) rfl rfl rfl (fun K hK => ?_)
     simp (disch := omega) only [Tryz.f46, go_sem, Nat.reduceAdd, Int.reduceLE, Int.reduceLT, BitVec.reduceOfInt, ↓reduceIte, decide_eq_true ha, decide_eq_false hb]
     refine hK _ ?_
     refine aB ?_
     refine bA (.tmp 20) rfl rfl rfl (fun h => ?_) (fun h => ?_)
     ·skip
      refine aI rfl ?_
      cases h
     ·skip
      refine aI rfl ?_
      clear h
      have e1 : hG x = x := by unfold hG; rw [if_neg (fun h => by first | exact hb h.2 | exact ha h.1)]
      have e2 := lowK_same l k hkl (by rw [hx, e1])
      refine aQ rfl ?_
      refine bU (aB ?_)
      refine aC (Γ := aL) [3, 8, 9, 10] (aD _ _) rfl rfl rfl (fun K hK => ?_)
      simp (disch := omega) only [Tryz.f46, go_sem, Nat.reduceAdd, ↓reduceIte]
      refine hK _ ?_
      refine bT ?_
      refine ⟨⟨k + 1, _⟩, ⟨by simp only; omega, by simp only; omega⟩, by simp only; omega, bD ?_ ?_ (Nat.le_refl _)⟩
      ·simp only [Int.natCast_add, Int.natCast_one]
      ·simp only [← e2]
   ·skip
    refine aA rfl ?_
    refine aC (Γ := aL) [20, 3, 4, 5, 8, 9, 10] (aD _ _) rfl rfl rfl (fun K hK => ?_)
    simp (disch := omega) only [Tryz.f46, go_sem, Nat.reduceAdd, Int.reduceLE, Int.reduceLT, BitVec.reduceOfInt, reduceCtorEq, ↓reduceIte, decide_eq_false ha]
    refine hK _ ?_
    refine aB ?_
    refine bA (.tmp 20) rfl rfl rfl (fun h => ?_) (fun h => ?_)
    ·skip
     refine aI rfl ?_
     cases h
    ·skip
     refine aI rfl ?_
     clear h
     have e1 : hG x = x := by unfold hG; rw [if_neg (fun h => by first | exact hb h.2 | exact ha h.1)]
     have e2 := lowK_same l k hkl (by rw [hx, e1])
     refine aQ rfl ?_
     refine bU (aB ?_)
     refine aC (Γ := aL) [3, 8, 9, 10] (aD _ _) rfl rfl rfl (fun K hK => ?_)
     simp (disch := omega) only [Tryz.f46, go_sem, Nat.reduceAdd, ↓reduceIte]
     refine hK _ ?_
     refine bT ?_
     refine ⟨⟨k + 1, _⟩, ⟨by simp only; omega, by simp only; omega⟩, by simp only; omega, bD ?_ ?_ (Nat.le_refl _)⟩
     ·simp only [Int.natCast_add, Int.natCast_one]
     ·simp only [← e2]
  ·skip
   refine aI rfl ?_
   refine bF 0 rfl rfl ?_
   refine aY (aZ (bE ?_))
   refine aB ?_
   refine aA rfl ?_
   obtain rfl : k = l.length := by omega
   have hml : (l.map hG).length = l.length := List.length_map ..
   have htk : (l.map hG).take l.length = l.map hG := List.take_of_length_le (by omega)
   refine aC (Γ := aL) [2] (aD _ _) rfl rfl rfl (fun K hK => ?_)
   simp (disch := omega) only [Tryz.f46, go_sem, Nat.reduceAdd, ↓reduceIte, lowK_all, hml, htk, iA]
   refine hK _ ?_
   refine aB ?_
   refine aS rfl ?_
   simp (disch := omega) only [cN, bV, bK, bQ, Tryz.f46, go_sem, ↓reduceIte]
 ·cases hg
theorem ok67 : bX Tryz.prog GLh 46 (.pure true smallG) := ⟨⟨_, Tryz.func46, rfl, rfl⟩, small_ok⟩
def dJ (ps : List (List B8)) : List (List B8) := ps.map fun l => l.map hG
theorem lowS_len (ps : List (List B8)) : (dJ ps).length = ps.length := List.length_map ..
theorem lowS_take (ps : List (List B8)) (k : Nat) (h : k < ps.length) : dJ (ps.take (k + 1)) = dJ (ps.take k) ++ [(ps.getD k []).map hG] := by
 have e : ps.take (k + 1) = ps.take k ++ [ps.getD k []] := by rw [List.take_succ_eq_append_getElem h]; simp [List.getD, List.getElem?_eq_getElem h, -List.take_append_getElem]
 rw [e]; unfold dJ; rw [List.map_append, List.map_cons, List.map_nil]
theorem wirB_low (ps : List (List B8)) : (eF (dJ ps)).length = (eF ps).length := by
 induction ps with
 | nil => rfl
 | cons p ps ih => rw [show dJ (p :: ps) = p.map hG :: dJ ps from rfl, gX, gX, ih, List.length_map]
def iF : List AV → Option (Nat × Nat × List AV)
 | [.sl n xs] => aK (unS xs) fun ps => aN (ps.length = n ∧ (eF ps).length ≤ 1000000) (some ((dJ ps).length, 1, cS (dJ ps)))
 | _ => none
theorem lowerG_eq (n : Nat) (xs : List AV) : iF [.sl n xs] = aK (unS xs) fun ps => aN (ps.length = n ∧ (eF ps).length ≤ 1000000) (some ((dJ ps).length, 1, cS (dJ ps))) := (rfl)
attribute [go_sem] lowerG_eq
theorem cS_snoc (l : List (List B8)) (y : List B8) : cS l ++ [.s y] = cS (l ++ [y]) := by simp [cS]
set_option maxHeartbeats 1000000 in
theorem lower_ok : dH Tryz.prog GLh 18 iF := by
 refine cT Tryz.func18 (aT rfl) ?_
 intro args r hg
 unfold iF at hg
 split at hg
 ·rename_i n xs
  replace hg := aJ hg; obtain ⟨ps, hb, hg⟩ := hg
  replace hg := aP hg; obtain ⟨⟨hn, hbig⟩, hg⟩ := hg
  obtain rfl := Option.some.inj hg
  have := gT hb; subst this
  subst hn
  clear hg hb
  refine ⟨Nat.le_of_ble_eq_true rfl, fun nx => ?_⟩
  have hpn := wirB_ge ps
  refine aA rfl ?_
  refine aC (Γ := aL) [0] (aD _ _) rfl rfl rfl (fun K hK => ?_)
  simp (disch := omega) only [Tryz.f18, go_sem, ↓reduceIte]
  refine hK _ ?_
  refine aB ?_
  refine aA rfl ?_
  refine aC (Γ := aL) [0, 3] (aD _ _) rfl rfl rfl (fun K hK => ?_)
  simp (disch := omega) only [Tryz.f18, go_sem, ↓reduceIte]
  refine hK _ ?_
  refine aB ?_
  refine aA rfl ?_
  refine aA rfl ?_
  refine aC (Γ := aL) [3, 6, 7, 8] (aD _ _) rfl rfl rfl (fun K hK => ?_)
  simp (disch := omega) only [Tryz.f18, go_sem, Nat.reduceAdd, ↓reduceIte]
  refine hK _ ?_
  refine aB ?_
  refine iE 3 1 rfl ?_
  refine fF [3, 6, 7, 8] ?_
  simp only [iB, fU, eB, ↓reduceIte, Nat.reduceEqDiff]
  refine aR 0 rfl rfl ?_
  refine bR (fun p : KIC => { fr := [(3, .os p.id 0 (dJ (ps.take p.k)).length 1 true), (6, .sl ps.length (cS ps)), (7, .i ps.length), (8, .i p.k)], hp := upd (fun _ => none) p.id (.cells (cS (dJ (ps.take p.k))) true), nx := 0, cx := p.c }) (fun p => p.k ≤ ps.length ∧ p.id < p.c) (fun p => ps.length - p.k) rfl ⟨⟨0, _, _⟩, ⟨Nat.zero_le _, by simp only; omega⟩, bD rfl rfl (Nat.le_refl _)⟩ ?_
  rintro ⟨k, id, c⟩ ⟨hk, hid⟩ n0
  simp only at hk hid ⊢
  refine aA rfl ?_
  refine aC (Γ := aL) [9, 3, 6, 7, 8] (aD _ _) rfl rfl rfl (fun K hK => ?_)
  simp (disch := omega) only [Tryz.f18, go_sem, ↓reduceIte]
  refine hK _ ?_
  refine aB ?_
  refine aA rfl ?_
  refine aW (.tmp 9) rfl rfl rfl (fun h => ?_) (fun h => ?_)
  ·skip
   refine aI rfl ?_
   have hkl : k < ps.length := by omega
   have ht : (dJ (ps.take k)).length = k := by rw [lowS_len, List.length_take]; omega
   have hm := wirB_mem ps k
   have e6 := lowS_take ps k hkl
   have e7 : (dJ (ps.take (k + 1))).length = (dJ (ps.take k)).length + 1 := by rw [e6]; simp
   obtain ⟨l, hl⟩ : ∃ l, ps.getD k [] = l := ⟨_, rfl⟩
   rw [hl] at hm e6
   refine aQ rfl ?_
   refine aB ?_
   refine aA rfl ?_
   refine aR 1 rfl rfl ?_
   refine aA rfl ?_
   refine aC (Γ := aL) [3, 5, 6, 7, 8] (aD _ _) rfl rfl rfl (fun K hK => ?_)
   simp (disch := omega) only [Tryz.f18, go_sem, Nat.reduceAdd, ↓reduceIte, hl]
   refine hK _ ?_
   refine aB ?_
   refine aC (Γ := bC [(46, .pure true smallG)]) [3, 6, 7, 8] (aH ok67 aO) rfl rfl rfl (fun K hK => ?_)
   simp (disch := omega) only [Tryz.f18, go_sem, Nat.reduceAdd, Nat.reduceLeDiff, Nat.reduceLT, ↓reduceIte, cS_snoc]
   refine hK _ ?_
   refine bU (aB ?_)
   refine aC (Γ := aL) [3, 6, 7, 8] (aD _ _) rfl rfl rfl (fun K hK => ?_)
   simp (disch := omega) only [Tryz.f18, go_sem, Nat.reduceAdd, ↓reduceIte]
   refine hK _ ?_
   refine bT ?_
   refine ⟨⟨k + 1, c + 1 + 3 + 4, _⟩, ⟨by simp only; omega, by simp only; omega⟩, by simp only; omega, ⟨fun _ => .inr ?_, fun j o h => ?_, Nat.le_refl _⟩⟩
   ·simp only [e7, Int.natCast_add, Int.natCast_one]
   ·simp only at h
    exact bS (by simp (disch := omega) only [aV, ↓reduceIte, eq_self, e6]) (cB) j o h
  ·skip
   refine aI rfl ?_
   refine bF 0 rfl rfl ?_
   refine aY (aZ (bE ?_))
   refine aB ?_
   refine aA rfl ?_
   obtain rfl : k = ps.length := by omega
   have e8 : ps.take ps.length = ps := List.take_length
   refine aC (Γ := aL) [2] (aD _ _) rfl rfl rfl (fun K hK => ?_)
   simp (disch := omega) only [Tryz.f18, go_sem, Nat.reduceAdd, ↓reduceIte, e8]
   refine hK _ ?_
   refine aB ?_
   refine aS rfl ?_
   simp (disch := omega) only [fE, eO, bV, bK, bQ, Tryz.f18, go_sem, ↓reduceIte, cS_noOwn]
 ·cases hg
theorem ok39 : bX Tryz.prog GLh 18 (.fresh true iF) := ⟨⟨_, Tryz.func18, rfl, rfl⟩, lower_ok⟩
end Go.AX
namespace Go.AX
open Go Go.Proofs
def putF : List AV → Option (Nat × Nat × List AV)
 | [.v (.slice none 0 0), .w32 n, .i k] => aN (0 ≤ k ∧ k ≤ 8) (some (k.toNat, 1, c8 (beL n k.toNat k.toNat)))
 | _ => none
theorem putF_eq (n : W32) (k : Int) : putF [.v (.slice none 0 0), .w32 n, .i k] = aN (0 ≤ k ∧ k ≤ 8) (some (k.toNat, 1, c8 (beL n k.toNat k.toNat))) := (rfl)
attribute [go_sem] putF_eq
set_option maxHeartbeats 4000000 in
theorem put_okF : dH Tryz.prog GLh 45 putF := by
 refine cT Tryz.func45 (aT rfl) ?_
 intro args r hg
 unfold putF at hg
 split at hg
 ·rename_i n k0
  replace hg := aP hg; obtain ⟨⟨hk1, hk8⟩, hg⟩ := hg
  obtain rfl := Option.some.inj hg
  obtain ⟨k, rfl⟩ := Int.eq_ofNat_of_zero_le (show 0 ≤ k0 by omega)
  simp only [Int.toNat_natCast] at *
  clear hg
  refine ⟨Nat.le_of_ble_eq_true rfl, fun nx => ?_⟩
  refine aA rfl ?_
  refine aC (Γ := aL) [0, 1, 2] (aD _ _) rfl rfl rfl (fun K hK => ?_)
  simp (disch := omega) only [Tryz.f45, go_sem, Nat.reduceAdd, ↓reduceIte]
  refine hK _ ?_
  refine aB ?_
  refine aA rfl ?_
  refine aA rfl ?_
  refine aC (Γ := aL) [0, 1, 7] (aD _ _) rfl rfl rfl (fun K hK => ?_)
  simp (disch := omega) only [Tryz.f45, go_sem, Nat.reduceAdd, ↓reduceIte]
  refine hK _ ?_
  refine aB ?_
  refine iE 0 1 rfl ?_
  refine fF [0, 1, 7] ?_
  simp only [iB, fU, eB, ↓reduceIte, Nat.reduceEqDiff]
  refine aR 0 rfl rfl ?_
  refine bR (fun p : KIC => { fr := [(0, .os p.id 0 p.k 1 true), (1, .w32 n), (7, .i ((k : Int) - 1 - (p.k : Int)))], hp := upd (fun _ => none) p.id (.cells (c8 (beL n k p.k)) true), nx := 0, cx := p.c }) (fun p => p.k ≤ k ∧ p.id < p.c) (fun p => k - p.k) rfl ⟨⟨0, _, _⟩, ⟨Nat.zero_le _, by simp only; omega⟩, bD (by simp only [Int.natCast_zero, Int.sub_zero]) rfl (Nat.le_refl _)⟩ ?_
  rintro ⟨j, id, c⟩ ⟨hj, hid⟩ n0
  simp only at hj hid ⊢
  refine aA rfl ?_
  refine aA rfl ?_
  refine aC (Γ := aL) [11, 0, 1, 7] (aD _ _) rfl rfl rfl (fun K hK => ?_)
  simp (disch := omega) only [Tryz.f45, go_sem, Nat.reduceAdd, ↓reduceIte]
  refine hK _ ?_
  refine aB ?_
  refine aW (.tmp 11) rfl rfl rfl (fun h => ?_) (fun h => ?_)
  ·skip
   refine aI rfl ?_
   have e1 : (BitVec.ofInt 64 (8 * ((k : Int) - 1 - (j : Int)))).toNat = 8 * (k - 1 - j) := by rw [BitVec.toNat_ofInt]; omega
   have hl := cZ n k j
   refine aQ rfl ?_
   refine aB ?_
   refine aA rfl ?_
   refine aR 1 rfl rfl ?_
   refine aC (Γ := aL) [0, 1, 7] (aD _ _) rfl rfl rfl (fun K hK => ?_)
   simp (disch := omega) only [Tryz.f45, go_sem, Nat.reduceAdd, Nat.reduceLeDiff, Nat.reduceLT, ↓reduceIte, e1, hl]
   refine hK _ ?_
   refine bU (aB ?_)
   refine aC (Γ := aL) [0, 1, 7] (aD _ _) rfl rfl rfl (fun K hK => ?_)
   simp (disch := omega) only [Tryz.f45, go_sem, Nat.reduceAdd, ↓reduceIte]
   refine hK _ ?_
   refine bT ?_
   have e2 : (k : Int) - 1 - ((j : Int) + 1) = (k : Int) - 1 - (j : Int) - 1 := by omega
   have e4 : beL n k (j + 1) = beL n k j ++ [(n >>> (8 * (k - 1 - j))).setWidth 8] := rfl
   refine ⟨⟨j + 1, c + 2 + 8, _⟩, ⟨by simp only; omega, by simp only; omega⟩, by simp only; omega, ⟨fun _ => .inr ?_, fun j o h => ?_, Nat.le_refl _⟩⟩
   ·simp only [Int.natCast_add, Int.natCast_one, e2]
   ·simp only at h
    exact bS (by simp (disch := omega) only [aV, ↓reduceIte, eq_self, e4]) (cB) j o h
  ·skip
   refine aI rfl ?_
   refine bF 0 rfl rfl ?_
   refine aY (aZ (bE ?_))
   refine aB ?_
   refine aA rfl ?_
   obtain rfl : j = k := by omega
   have hl := cZ n j j
   refine aC (Γ := aL) [6] (aD _ _) rfl rfl rfl (fun K hK => ?_)
   simp (disch := omega) only [Tryz.f45, go_sem, Nat.reduceAdd, ↓reduceIte]
   refine hK _ ?_
   refine aB ?_
   refine aS rfl ?_
   simp (disch := omega) only [fE, eO, bV, bK, bQ, Tryz.f45, go_sem, ↓reduceIte, fQ, hl]
 ·cases hg
theorem ok53 : bX Tryz.prog GLh 45 (.fresh false putF) := ⟨⟨_, Tryz.func45, rfl, rfl⟩, put_okF⟩
set_option maxHeartbeats 4000000 in
theorem rput_okF : dH Tryz.prog GLh 54 putF := by
 refine cT Tryz.func54 (aT rfl) ?_
 intro args r hg
 unfold putF at hg
 split at hg
 ·rename_i n k0
  replace hg := aP hg; obtain ⟨⟨hk1, hk8⟩, hg⟩ := hg
  obtain rfl := Option.some.inj hg
  obtain ⟨k, rfl⟩ := Int.eq_ofNat_of_zero_le (show 0 ≤ k0 by omega)
  simp only [Int.toNat_natCast] at *
  clear hg
  refine ⟨Nat.le_of_ble_eq_true rfl, fun nx => ?_⟩
  refine aA rfl ?_
  refine aC (Γ := aL) [0, 1, 2] (aD _ _) rfl rfl rfl (fun K hK => ?_)
  simp (disch := omega) only [Tryz.f54, go_sem, Nat.reduceAdd, ↓reduceIte]
  refine hK _ ?_
  refine aB ?_
  refine aA rfl ?_
  refine aA rfl ?_
  refine aC (Γ := aL) [0, 1, 7] (aD _ _) rfl rfl rfl (fun K hK => ?_)
  simp (disch := omega) only [Tryz.f54, go_sem, Nat.reduceAdd, ↓reduceIte]
  refine hK _ ?_
  refine aB ?_
  refine iE 0 1 rfl ?_
  refine fF [0, 1, 7] ?_
  simp only [iB, fU, eB, ↓reduceIte, Nat.reduceEqDiff]
  refine aR 0 rfl rfl ?_
  refine bR (fun p : KIC => { fr := [(0, .os p.id 0 p.k 1 true), (1, .w32 n), (7, .i ((k : Int) - 1 - (p.k : Int)))], hp := upd (fun _ => none) p.id (.cells (c8 (beL n k p.k)) true), nx := 0, cx := p.c }) (fun p => p.k ≤ k ∧ p.id < p.c) (fun p => k - p.k) rfl ⟨⟨0, _, _⟩, ⟨Nat.zero_le _, by simp only; omega⟩, bD (by simp only [Int.natCast_zero, Int.sub_zero]) rfl (Nat.le_refl _)⟩ ?_
  rintro ⟨j, id, c⟩ ⟨hj, hid⟩ n0
  simp only at hj hid ⊢
  refine aA rfl ?_
  refine aA rfl ?_
  refine aC (Γ := aL) [11, 0, 1, 7] (aD _ _) rfl rfl rfl (fun K hK => ?_)
  simp (disch := omega) only [Tryz.f54, go_sem, Nat.reduceAdd, ↓reduceIte]
  refine hK _ ?_
  refine aB ?_
  refine aW (.tmp 11) rfl rfl rfl (fun h => ?_) (fun h => ?_)
  ·skip
   refine aI rfl ?_
   have e1 : (8 * ((k : Int) - 1 - (j : Int))).toNat = 8 * (k - 1 - j) := by omega
   have hl := cZ n k j
   refine aQ rfl ?_
   refine aB ?_
   refine aA rfl ?_
   refine aR 1 rfl rfl ?_
   refine aC (Γ := aL) [0, 1, 7] (aD _ _) rfl rfl rfl (fun K hK => ?_)
   simp (disch := omega) only [Tryz.f54, go_sem, Nat.reduceAdd, Nat.reduceLeDiff, Nat.reduceLT, ↓reduceIte, e1, hl]
   refine hK _ ?_
   refine bU (aB ?_)
   refine aC (Γ := aL) [0, 1, 7] (aD _ _) rfl rfl rfl (fun K hK => ?_)
   simp (disch := omega) only [Tryz.f54, go_sem, Nat.reduceAdd, ↓reduceIte]
   refine hK _ ?_
   refine bT ?_
   have e2 : (k : Int) - 1 - ((j : Int) + 1) = (k : Int) - 1 - (j : Int) - 1 := by omega
   have e4 : beL n k (j + 1) = beL n k j ++ [(n >>> (8 * (k - 1 - j))).setWidth 8] := rfl
   refine ⟨⟨j + 1, c + 2 + 7, _⟩, ⟨by simp only; omega, by simp only; omega⟩, by simp only; omega, ⟨fun _ => .inr ?_, fun j o h => ?_, Nat.le_refl _⟩⟩
   ·simp only [Int.natCast_add, Int.natCast_one, e2]
   ·simp only at h
    exact bS (by simp (disch := omega) only [aV, ↓reduceIte, eq_self, e4]) (cB) j o h
  ·skip
   refine aI rfl ?_
   refine bF 0 rfl rfl ?_
   refine aY (aZ (bE ?_))
   refine aB ?_
   refine aA rfl ?_
   obtain rfl : j = k := by omega
   have hl := cZ n j j
   refine aC (Γ := aL) [6] (aD _ _) rfl rfl rfl (fun K hK => ?_)
   simp (disch := omega) only [Tryz.f54, go_sem, Nat.reduceAdd, ↓reduceIte]
   refine hK _ ?_
   refine aB ?_
   refine aS rfl ?_
   simp (disch := omega) only [fE, eO, bV, bK, bQ, Tryz.f54, go_sem, ↓reduceIte, fQ, hl]
 ·cases hg
theorem ok16 : bX Tryz.prog GLh 54 (.fresh false putF) := ⟨⟨_, Tryz.func54, rfl, rfl⟩, rput_okF⟩
theorem place_eq (k n : Int) (h : 0 < n) : (if k.tmod n < 0 then k.tmod n + n else k.tmod n) = k % n := by
 have e : k.tmod n % n = k % n := by
  conv => rhs; rw [← Int.tmod_add_mul_tdiv k n]
  rw [Int.add_mul_emod_self_left]
 have hb : (k.tmod n).natAbs < n.natAbs := by rw [Int.natAbs_tmod]; exact Nat.mod_lt _ (by omega)
 split
 ·rw [← e, ← Int.add_emod_right, Int.emod_eq_of_lt (by omega) (by omega)]
 ·rw [← e, Int.emod_eq_of_lt (by omega) (by omega)]
def placeG : List AV → Option AV
 | [.i k, .i n] => aN (0 < n ∧ n ≤ 1000000000) (some (.i (k % n)))
 | _ => none
theorem placeG_eq (k n : Int) : placeG [.i k, .i n] = aN (0 < n ∧ n ≤ 1000000000) (some (.i (k % n))) := (rfl)
attribute [go_sem] placeG_eq
def beqG : List AV → Option AV
 | [.sl n xs, .sl m ys] => aK (cI xs) fun a => aK (cI ys) fun b => aN (a.length = n ∧ b.length = m) (some (.b (decide (a = b))))
 | _ => none
theorem beqG_eq (n m : Nat) (xs ys : List AV) : beqG [.sl n xs, .sl m ys] = aK (cI xs) fun a => aK (cI ys) fun b => aN (a.length = n ∧ b.length = m) (some (.b (decide (a = b)))) := (rfl)
attribute [go_sem] beqG_eq
set_option maxHeartbeats 2000000 in
theorem hbytes_ok : cL Tryz.prog GLh 11 beqG := by
 refine cC Tryz.func11 (aT rfl) ?_
 intro args r hg
 unfold beqG at hg
 split at hg
 ·rename_i n xs m ys
  replace hg := aJ hg; obtain ⟨a, ha, hg⟩ := hg
  replace hg := aJ hg; obtain ⟨b, hb, hg⟩ := hg
  replace hg := aP hg; obtain ⟨⟨hn, hm⟩, hg⟩ := hg
  obtain rfl := Option.some.inj hg
  have := bW ha; subst this
  have := bW hb; subst this
  subst hn; subst hm
  refine ⟨Nat.le_of_ble_eq_true rfl, fun nx => ?_⟩
  clear hg ha hb
  refine aA rfl ?_
  refine aC (Γ := aL) [0, 1] (aD _ _) rfl rfl rfl (fun K hK => ?_)
  simp (disch := omega) only [Tryz.f11, go_sem, ↓reduceIte]
  refine hK _ ?_
  refine aB ?_
  refine aA rfl ?_
  refine aC (Γ := aL) [4] (aD _ _) rfl rfl rfl (fun K hK => ?_)
  simp (disch := omega) only [Tryz.f11, go_sem, Nat.reduceAdd, ↓reduceIte, iA]
  refine hK _ ?_
  refine aB ?_
  refine aS rfl ?_
  simp (disch := omega) only [cN, bV, bK, bQ, Tryz.f11, go_sem, ↓reduceIte]
 ·cases hg
theorem ok11 : bX Tryz.prog GLh 11 (.pure true beqG) := ⟨⟨_, Tryz.func11, rfl, rfl⟩, hbytes_ok⟩
end Go.AX
namespace Go.AX
open Go Go.Proofs
theorem tag2 (t : BitVec 16) : beL (t.setWidth 32) 2 2 = [(t >>> 8).setWidth 8, t.setWidth 8] := by
 have e : (t.setWidth 32 >>> 8).setWidth 8 = (t >>> 8).setWidth 8 := by
  apply BitVec.eq_of_toNat_eq
  have := t.isLt
  simp only [BitVec.toNat_setWidth, BitVec.toNat_ushiftRight, Nat.shiftRight_eq_div_pow]; omega
 have e2 : (t.setWidth 32 >>> 0).setWidth 8 = t.setWidth 8 := by
  apply BitVec.eq_of_toNat_eq
  have := t.isLt
  simp only [BitVec.toNat_setWidth, BitVec.toNat_ushiftRight, Nat.shiftRight_eq_div_pow]; omega
 simp only [beL, List.nil_append, List.cons_append, Nat.reduceSub, Nat.reduceMul, e, e2]
theorem callS_g2 (f : FuncId) (args : List AV) (nx n : Nat) (hp : H) (id cx : Nat) (g : List AV → Option (Nat × Nat × List AV)) : callS f args 2 nx n hp id cx (some (.fresh false g)) = aK (fW (fun _ => none) args) fun as_ => aK (g as_) fun r => some (.os id 0 r.1 r.2.1 true, upd hp id (.cells r.2.2 true), cx) := (rfl)
theorem dr_s (x : AV) (l : List AV) (k : Nat) : List.drop (k + 1) (x :: l) = List.drop k l := (rfl)
attribute [go_sem] callS_g2 dr_s
def keyB (f : BitVec 16) (p a : B8) (k : List B8) : List B8 := [(f >>> 8).setWidth 8, f.setWidth 8] ++ [p, a] ++ k
def keyBG : List AV → Option (Nat × Nat × List AV)
 | [.agg [.w16 f, .w8 p, .w8 a, .sl n xs]] => aK (cI xs) fun k => aN (k.length = n ∧ n ≤ 100000) (some ((keyB f p a k).length, 1, c8 (keyB f p a k)))
 | _ => none
theorem keyBG_eq (f : BitVec 16) (p a : B8) (n : Nat) (xs : List AV) : keyBG [.agg [.w16 f, .w8 p, .w8 a, .sl n xs]] = aK (cI xs) fun k => aN (k.length = n ∧ n ≤ 100000) (some ((keyB f p a k).length, 1, c8 (keyB f p a k))) := (rfl)
attribute [go_sem] keyBG_eq
set_option maxHeartbeats 4000000 in
theorem keyB_ok : dH Tryz.prog GLh 14 keyBG := by
 refine cT Tryz.func14 (aT rfl) ?_
 intro args r hg
 unfold keyBG at hg
 split at hg
 ·rename_i f p a n xs
  replace hg := aJ hg; obtain ⟨k, hk, hg⟩ := hg
  replace hg := aP hg; obtain ⟨⟨rfl, hn⟩, hg⟩ := hg
  obtain rfl := Option.some.inj hg
  have := bW hk; subst this
  clear hg hk
  refine ⟨Nat.le_of_ble_eq_true rfl, fun nx => ?_⟩
  have e2 := tag2 f
  have ekb : [(f >>> 8).setWidth 8, f.setWidth 8] ++ [p, a] ++ k = keyB f p a k := rfl
  have ekl : (keyB f p a k).length = 4 + k.length := by rw [← ekb]; simp; omega
  refine aA rfl ?_
  refine aC (Γ := aL) [1] (aD _ _) rfl rfl rfl (fun K hK => ?_)
  simp (disch := omega) only [Tryz.f14, go_sem, Nat.reduceAdd, ↓reduceIte]
  refine hK _ ?_
  refine aB ?_
  refine awp_rp 1 nx 0 rfl (by simp only [aV, if_true]; rfl) ?_
  refine aA rfl ?_
  refine bB (Γ := bC [(45, .fresh false putF)]) (fun k => if k = 1 then 1 else if k = 5 then 1 else if k = 7 then 1 else if k = 11 then 1 else 2) [2] bZ (aH ok53 aO) rfl rfl rfl (by kernel_rfl) (fun K hK => ?_)
  simp (disch := omega) only [Tryz.f14, go_sem, Nat.reduceAdd, Nat.reduceLeDiff, Nat.reduceLT, Int.reduceLE, Int.reduceToNat, ↓reduceIte, e2]
  refine hK _ ?_
  refine aB ?_
  refine aS rfl ?_
  simp (disch := omega) only [fE, eO, bV, bK, bQ, Tryz.f14, go_sem, ↓reduceIte, ekl]
  rfl
 ·cases hg
theorem ok34 : bX Tryz.prog GLh 14 (.fresh true keyBG) := ⟨⟨_, Tryz.func14, rfl, rfl⟩, keyB_ok⟩
end Go.AX
namespace Go.AX
open Go Go.Proofs
theorem sub_put {hp : H} {id0 i b n nx : Nat} {a1 c1 c2 : AO} (hno : ∀ id, nx ≤ id → hp id = none) (hi : i = id0 ∨ nx ≤ i) (hb : nx ≤ b) : ∀ j o, upd (del hp id0) n c2 j = some o → upd (del (upd (upd (del hp id0) i a1) b c1) i) n c2 j = some o := by
 intro j o h
 simp only [bJ, eV] at h ⊢
 split
 ·rename_i e; rw [if_pos e] at h; exact h
 rename_i e; rw [if_neg e] at h
 split at h
 ·cases h
 rename_i e2
 split
 ·rename_i e3
  rcases hi with hi | hi
  ·exact absurd (e3.trans hi) e2
  ·rw [hno j (by omega)] at h; cases h
 split
 ·rename_i e4; rw [hno j (by omega)] at h; cases h
 exact h
theorem sub_put0 {hp : H} {id0 : Nat} {c : AO} (ho : hp id0 = some c) : ∀ j o, upd (del hp id0) id0 c j = some o → hp j = some o := by
 intro j o h
 simp only [bJ, eV] at h
 split at h
 ·rename_i e; rw [e, ho]; exact h
 ·first | exact h | (rename_i e; rw [if_neg e] at h; exact h)
def putI (id0 nx : Nat) : Nat → Nat
 | 0 => id0
 | j + 1 => nx + 4 + 15 * j + 10
theorem putI_s (id0 nx j : Nat) : putI id0 nx (j + 1) = nx + 4 + 15 * j + 10 := rfl
theorem putI_c (id0 nx j : Nat) : putI id0 nx j = id0 ∨ nx ≤ putI id0 nx j := by
 cases j with
 | zero => exact .inl rfl
 | succ j => rw [putI_s]; omega
def putHO (id n : Nat) (x : W32) (k : Int) (hp : H) (nx : Nat) : AO → Option (AV × H × Nat)
 | .cells xs mt => aK (cI xs) fun l => aN (mt = true ∧ l.length = n ∧ n ≤ 1000000 ∧ 1 ≤ k ∧ k ≤ 8 ∧ id < nx)
   (some (.os (putI id nx k.toNat) 0 (n + k.toNat) 1 true, upd (del hp id) (putI id nx k.toNat) (.cells (c8 (l ++ beL x k.toNat k.toNat)) true), nx + 4 + 15 * k.toNat + 4))
def putH : List AV → H → Nat → Option (AV × H × Nat)
 | [.os id 0 n 1 true, .w32 x, .i k], hp, nx => aK (hp id) (putHO id n x k hp nx)
 | _, _, _ => none
theorem putH_eq (id n nx : Nat) (x : W32) (k : Int) (hp : H) : putH [.os id 0 n 1 true, .w32 x, .i k] hp nx = aK (hp id) (putHO id n x k hp nx) := (rfl)
theorem putHO_c (id n nx : Nat) (x : W32) (k : Int) (hp : H) (xs : List AV) (mt : Bool) : putHO id n x k hp nx (.cells xs mt) = aK (cI xs) fun l => aN (mt = true ∧ l.length = n ∧ n ≤ 1000000 ∧ 1 ≤ k ∧ k ≤ 8 ∧ id < nx)
   (some (.os (putI id nx k.toNat) 0 (n + k.toNat) 1 true, upd (del hp id) (putI id nx k.toNat) (.cells (c8 (l ++ beL x k.toNat k.toNat)) true), nx + 4 + 15 * k.toNat + 4)) := (rfl)
attribute [go_sem] putH_eq putHO_c
set_option maxHeartbeats 4000000 in
theorem put_okH : cQ Tryz.prog GLh 45 putH := by
 refine gF Tryz.func45 (aT rfl) ?_
 intro args hp nx r hp' nx' hg
 unfold putH at hg
 split at hg
 ·rename_i id n x k0
  replace hg := aJ hg; obtain ⟨o, ho, hg⟩ := hg
  obtain ⟨xs, mt⟩ := o
  rw [putHO_c] at hg
  replace hg := aJ hg; obtain ⟨l, hl, hg⟩ := hg
  replace hg := aP hg; obtain ⟨⟨rfl, rfl, hn, hk1, hk8, hid⟩, hg⟩ := hg
  simp only [Option.some.injEq, Prod.mk.injEq] at hg; obtain ⟨rfl, rfl, rfl⟩ := hg
  have := bW hl; subst this
  obtain ⟨k, rfl⟩ := Int.eq_ofNat_of_zero_le (show 0 ≤ k0 by omega)
  simp only [Int.toNat_natCast] at *
  clear hl
  refine ⟨Nat.le_of_ble_eq_true rfl, by omega, fun hno => ?_⟩
  refine aA rfl ?_
  refine aC (Γ := aL) [0, 1, 2] (aD _ _) rfl rfl rfl (fun K hK => ?_)
  simp (disch := omega) only [Tryz.f45, go_sem, Nat.reduceAdd, ↓reduceIte]
  refine hK _ ?_
  refine aB ?_
  refine aA rfl ?_
  refine aA rfl ?_
  refine aC (Γ := aL) [0, 1, 7] (aD _ _) rfl rfl rfl (fun K hK => ?_)
  simp (disch := omega) only [Tryz.f45, go_sem, Nat.reduceAdd, ↓reduceIte]
  refine hK _ ?_
  refine aB ?_
  refine aR 0 rfl rfl ?_
  refine bR (fun p : Nat => { fr := [(0, .os (putI id nx p) 0 (l.length + p) 1 true), (1, .w32 x), (7, .i ((k : Int) - 1 - (p : Int)))], hp := upd (del hp id) (putI id nx p) (.cells (c8 (l ++ beL x k p)) true), nx := 0, cx := nx + 4 + 15 * p }) (fun p => p ≤ k) (fun p => k - p) rfl ⟨0, Nat.zero_le _, ⟨fun _ => .inr (by simp only [Int.natCast_zero, Int.sub_zero, putI, Nat.add_zero]), by simp only [putI, beL, List.append_nil]; exact sub_put0 ho, Nat.le_refl _⟩⟩ ?_
  rintro j hj n0
  simp only at hj ⊢
  refine aA rfl ?_
  refine aA rfl ?_
  refine aC (Γ := aL) [11, 0, 1, 7] (aD _ _) rfl rfl rfl (fun K hK => ?_)
  simp (disch := omega) only [Tryz.f45, go_sem, Nat.reduceAdd, ↓reduceIte]
  refine hK _ ?_
  refine aB ?_
  refine aW (.tmp 11) rfl rfl rfl (fun h => ?_) (fun h => ?_)
  ·skip
   refine aI rfl ?_
   have e1 : (BitVec.ofInt 64 (8 * ((k : Int) - 1 - (j : Int)))).toNat = 8 * (k - 1 - j) := by rw [BitVec.toNat_ofInt]; omega
   have hlj := cZ x k j
   have hpi := putI_c id nx j
   have hlen : (l ++ beL x k j).length = l.length + j := by rw [List.length_append, hlj]
   have hpib : putI id nx j < nx + 4 + 15 * j := by cases j with
    | zero => show id < _; omega
    | succ j => rw [putI_s]; omega
   refine aQ rfl ?_
   refine aB ?_
   refine aA rfl ?_
   refine aR 1 rfl rfl ?_
   refine aC (Γ := aL) [0, 1, 7] (aD _ _) rfl rfl rfl (fun K hK => ?_)
   simp (disch := omega) only [Tryz.f45, go_sem, Nat.reduceAdd, Nat.reduceLeDiff, Nat.reduceLT, ↓reduceIte, e1, hlen]
   refine hK _ ?_
   refine bU (aB ?_)
   refine aC (Γ := aL) [0, 1, 7] (aD _ _) rfl rfl rfl (fun K hK => ?_)
   simp (disch := omega) only [Tryz.f45, go_sem, Nat.reduceAdd, ↓reduceIte]
   refine hK _ ?_
   refine bT ?_
   have e2 : (k : Int) - 1 - ((j : Int) + 1) = (k : Int) - 1 - (j : Int) - 1 := by omega
   have e4 : l ++ beL x k (j + 1) = l ++ beL x k j ++ [(x >>> (8 * (k - 1 - j))).setWidth 8] := by rw [List.append_assoc]; rfl
   have ei : putI id nx (j + 1) = nx + 4 + 15 * j + 2 + 8 := by rw [putI_s]
   refine ⟨j + 1, by omega, by omega, ⟨fun _ => .inr ?_, ?_, by simp only; omega⟩⟩
   ·simp only [ei, Int.natCast_add, Int.natCast_one, e2, Nat.add_assoc]
   ·simp only [ei, e4]
    exact sub_put hno hpi (by omega)
  ·skip
   refine aI rfl ?_
   refine bF 0 rfl rfl ?_
   refine aY (aZ (bE ?_))
   refine aB ?_
   refine aA rfl ?_
   obtain rfl : j = k := by omega
   refine aC (Γ := aL) [6] (aD _ _) rfl rfl rfl (fun K hK => ?_)
   simp (disch := omega) only [Tryz.f45, go_sem, Nat.reduceAdd, ↓reduceIte]
   refine hK _ ?_
   refine aB ?_
   refine aS rfl ?_
   exact ⟨by simp (disch := omega) only [bV, bK, bQ, Tryz.f45, go_sem], fun _ _ h => h, by simp only; omega⟩
 ·cases hg
end Go.AX
namespace Go.AX
open Go Go.Proofs
theorem unP_inv : ∀ {xs : List AV} {ps : List (List B8)}, unP xs = some ps → xs = cP ps
 | [], ps, h => by obtain rfl := Option.some.inj h; rfl
 | x :: r, ps, h => by
  cases x <;> simp only [unP] at h <;> first | (cases h; done) | skip
  replace h := aJ h; obtain ⟨b, hb, h⟩ := h
  replace h := aP h; obtain ⟨hn, h⟩ := h
  replace h := aJ h; obtain ⟨l, hl, h⟩ := h
  obtain rfl := Option.some.inj h
  rw [un8_inv _ hb, unP_inv hl, ← hn]; rfl
def growG : List AV → H → Nat → Option (AV × H × Nat)
 | [.v (.slice none 0 0), .i n], hp, nx => aN (0 < n ∧ n ≤ 1000000) (some (.os (nx + 1 + 2 + 8 + 2 + 5) 0 0 1 true, upd hp (nx + 1 + 2 + 8 + 2 + 5) (.cells [] true), nx + 1 + 2 + 8 + 2 + 10 + 2))
 | _, _, _ => none
theorem growG_eq (n : Int) (hp : H) (nx : Nat) : growG [.v (.slice none 0 0), .i n] hp nx = aN (0 < n ∧ n ≤ 1000000) (some (.os (nx + 1 + 2 + 8 + 2 + 5) 0 0 1 true, upd hp (nx + 1 + 2 + 8 + 2 + 5) (.cells [] true), nx + 1 + 2 + 8 + 2 + 10 + 2)) := (rfl)
attribute [go_sem] growG_eq slF_nil
set_option maxHeartbeats 1000000 in
theorem grow_ok : cQ Tryz.prog GLh 67 growG := by
 refine gF Tryz.func67 (aT rfl) ?_
 intro args hp nx r hp' nx' hg
 unfold growG at hg
 split at hg
 ·rename_i n
  replace hg := aP hg; obtain ⟨⟨h0, hbig⟩, hg⟩ := hg
  simp only [Option.some.injEq, Prod.mk.injEq] at hg; obtain ⟨rfl, rfl, rfl⟩ := hg
  refine ⟨Nat.le_of_ble_eq_true rfl, by omega, fun hnone => ?_⟩
  refine aA rfl ?_
  refine aC (Γ := aL) [0, 1] (aD _ _) rfl rfl rfl (fun K hK => ?_)
  simp (disch := omega) only [Tryz.f67, go_sem, ↓reduceIte]
  refine hK _ ?_
  refine aB ?_
  refine aA rfl ?_
  refine aA rfl ?_
  refine aC (Γ := aL) [6, 0, 1] (aD _ _) rfl rfl rfl (fun K hK => ?_)
  simp (disch := omega) only [Tryz.f67, go_sem, Nat.reduceAdd, ↓reduceIte]
  refine hK _ ?_
  refine aB ?_
  refine aW (.tmp 6) rfl rfl rfl (fun h => ?_) (fun h => ?_)
  ·skip
   refine aI rfl ?_
   omega
  ·skip
   refine aI rfl ?_
   have e1 : n - (0 - 0) = n := by omega
   refine aQ rfl ?_
   refine aB ?_
   refine aA rfl ?_
   refine aA rfl ?_
   refine aC (Γ := aL) [0, 1] (aD _ _) rfl rfl rfl (fun K hK => ?_)
   simp (disch := omega) only [Tryz.f67, go_sem, Nat.reduceAdd, ↓reduceIte, Int.sub_zero]
   refine hK _ ?_
   refine aB ?_
   refine aA rfl ?_
   refine aC (Γ := aL) [16, 0, 1] (aD _ _) rfl rfl rfl (fun K hK => ?_)
   simp (disch := omega) only [Tryz.f67, go_sem, Nat.reduceAdd, ↓reduceIte]
   refine hK _ ?_
   refine aB ?_
   refine aW (.tmp 16) rfl rfl rfl (fun h => ?_) (fun h => ?_)
   ·skip
    refine aI rfl ?_
    refine aC (Γ := aL) [0] (aD _ _) rfl rfl rfl (fun K hK => ?_)
    simp (disch := omega) only [Tryz.f67, go_sem, Nat.reduceAdd, Nat.reduceSub, Nat.reduceLT, Int.reduceLE, Int.reduceToNat, ↓reduceIte]
    refine hK _ ?_
    refine aB ?_
    refine awp_trunc (nx + 1 + 2 + 8 + 2 + 5) 0 _ (by simp only [upd, ↓reduceIte]; rfl) ?_
    simp only [List.take_zero]
    refine aA rfl ?_
    refine aC (Γ := aL) [4] (aD _ _) rfl rfl rfl (fun K hK => ?_)
    simp (disch := omega) only [Tryz.f67, go_sem, Nat.reduceAdd, ↓reduceIte]
    refine hK _ ?_
    refine aB ?_
    refine aS rfl ?_
    refine ⟨rfl, fun j o h => ?_, Nat.le_refl _⟩
    simp only at h ⊢
    grind [bJ]
   ·skip
    refine aI rfl ?_
    omega
 ·cases hg
theorem ok73 : bX Tryz.prog GLh 67 (.heap growG) := ⟨⟨_, Tryz.func67, rfl, rfl⟩, grow_ok⟩
def gO (ps : List (List B8)) : List B8 := ps.flatten
theorem flat_take (ps : List (List B8)) (k : Nat) (h : k < ps.length) : gO (ps.take (k + 1)) = gO (ps.take k) ++ ps.getD k [] := by
 have e : ps.take (k + 1) = ps.take k ++ [ps.getD k []] := by rw [List.take_succ_eq_append_getElem h]; simp [List.getD, List.getElem?_eq_getElem h, -List.take_append_getElem]
 rw [e]; unfold gO; rw [List.flatten_append]; simp only [List.flatten_cons, List.flatten_nil, List.append_nil]
theorem flat_le (ps : List (List B8)) (k : Nat) : (gO (ps.take k)).length ≤ (gO ps).length := by
 have e : gO ps = gO (ps.take k) ++ gO (ps.drop k) := by unfold gO; rw [← List.flatten_append, List.take_append_drop]
 rw [e, List.length_append]; omega
theorem flat_mem (ps : List (List B8)) (k : Nat) (h : k < ps.length) : (gO (ps.take k)).length + (ps.getD k []).length ≤ (gO ps).length := by
 rw [← List.length_append, ← flat_take ps k h]; exact flat_le ps (k + 1)
def concatG : List AV → Option (Nat × Nat × List AV)
 | [.sl n xs] => aK (unP xs) fun ps => aN (ps.length = n ∧ n ≤ 1000000 ∧ 0 < (gO ps).length ∧ (gO ps).length ≤ 1000000) (some ((gO ps).length, 1, c8 (gO ps)))
 | _ => none
theorem concatG_eq (n : Nat) (xs : List AV) : concatG [.sl n xs] = aK (unP xs) fun ps => aN (ps.length = n ∧ n ≤ 1000000 ∧ 0 < (gO ps).length ∧ (gO ps).length ≤ 1000000) (some ((gO ps).length, 1, c8 (gO ps))) := (rfl)
attribute [go_sem] concatG_eq
set_option maxHeartbeats 1000000 in
theorem concat_ok : dH Tryz.prog GLh 49 concatG := by
 refine cT Tryz.func49 (aT rfl) ?_
 intro args r hg
 unfold concatG at hg
 split at hg
 ·rename_i n xs
  replace hg := aJ hg; obtain ⟨ps, hb, hg⟩ := hg
  replace hg := aP hg; obtain ⟨⟨hn, hbig, hpos, hbig2⟩, hg⟩ := hg
  obtain rfl := Option.some.inj hg
  have := unP_inv hb; subst this
  subst hn
  clear hg hb
  refine ⟨Nat.le_of_ble_eq_true rfl, fun nx => ?_⟩
  refine aA rfl ?_
  refine aC (Γ := aL) [0] (aD _ _) rfl rfl rfl (fun K hK => ?_)
  simp (disch := omega) only [Tryz.f49, go_sem, ↓reduceIte]
  refine hK _ ?_
  refine aB ?_
  refine aA rfl ?_
  refine aC (Γ := aL) [0, 3] (aD _ _) rfl rfl rfl (fun K hK => ?_)
  simp (disch := omega) only [Tryz.f49, go_sem, ↓reduceIte]
  refine hK _ ?_
  refine aB ?_
  refine aA rfl ?_
  refine aA rfl ?_
  refine aC (Γ := aL) [0, 3, 9, 10, 11] (aD _ _) rfl rfl rfl (fun K hK => ?_)
  simp (disch := omega) only [Tryz.f49, go_sem, Nat.reduceAdd, ↓reduceIte]
  refine hK _ ?_
  refine aB ?_
  refine aR 0 rfl rfl ?_
  refine bR (fun p : KC => { fr := [(0, .sl ps.length (cP ps)), (3, .i (gO (ps.take p.k)).length), (9, .sl ps.length (cP ps)), (10, .i ps.length), (11, .i p.k)], hp := fun _ => none, nx := 0, cx := p.c }) (fun p => p.k ≤ ps.length) (fun p => ps.length - p.k) rfl ⟨⟨0, _⟩, Nat.zero_le _, bD rfl rfl (Nat.le_refl _)⟩ ?_
  rintro ⟨k, c⟩ hk n0
  simp only at hk ⊢
  refine aA rfl ?_
  refine aC (Γ := aL) [12, 0, 3, 9, 10, 11] (aD _ _) rfl rfl rfl (fun K hK => ?_)
  simp (disch := omega) only [Tryz.f49, go_sem, ↓reduceIte]
  refine hK _ ?_
  refine aB ?_
  refine aA rfl ?_
  refine aW (.tmp 12) rfl rfl rfl (fun h => ?_) (fun h => ?_)
  ·skip
   refine aI rfl ?_
   have hkl : k < ps.length := by omega
   have ht := flat_le ps k
   have hm := flat_mem ps k hkl
   have e6 := flat_take ps k hkl
   obtain ⟨l, hl⟩ : ∃ l, ps.getD k [] = l := ⟨_, rfl⟩
   rw [hl] at hm e6
   refine aQ rfl ?_
   refine aB ?_
   refine aA rfl ?_
   refine aR 1 rfl rfl ?_
   refine aA rfl ?_
   refine aC (Γ := aL) [0, 3, 5, 9, 10, 11] (aD _ _) rfl rfl rfl (fun K hK => ?_)
   simp (disch := omega) only [Tryz.f49, go_sem, Nat.reduceAdd, ↓reduceIte, hl]
   refine hK _ ?_
   refine aB ?_
   refine aA rfl ?_
   refine aC (Γ := aL) [0, 3, 9, 10, 11] (aD _ _) rfl rfl rfl (fun K hK => ?_)
   simp (disch := omega) only [Tryz.f49, go_sem, Nat.reduceAdd, ↓reduceIte]
   refine hK _ ?_
   refine aB ?_
   refine aA rfl ?_
   refine aC (Γ := aL) [20, 0, 3, 9, 10, 11] (aD _ _) rfl rfl rfl (fun K hK => ?_)
   simp (disch := omega) only [Tryz.f49, go_sem, Nat.reduceAdd, ↓reduceIte]
   refine hK _ ?_
   refine aB ?_
   refine aW (.tmp 20) rfl rfl rfl (fun h => ?_) (fun h => ?_)
   ·skip
    refine aI rfl ?_
    omega
   ·skip
    refine aI rfl ?_
    refine aQ rfl ?_
    refine bU (aB ?_)
    refine aC (Γ := aL) [0, 3, 9, 10, 11] (aD _ _) rfl rfl rfl (fun K hK => ?_)
    simp (disch := omega) only [Tryz.f49, go_sem, Nat.reduceAdd, ↓reduceIte]
    refine hK _ ?_
    refine bT ?_
    refine ⟨⟨k + 1, _⟩, by simp only; omega, by simp only; omega, bD ?_ rfl (Nat.le_refl _)⟩
    simp only [e6, List.length_append, Int.natCast_add, Int.natCast_one]
  ·skip
   refine aI rfl ?_
   refine bF 0 rfl rfl ?_
   refine aY (aZ (bE ?_))
   refine aB ?_
   refine aA rfl ?_
   obtain rfl : k = ps.length := by omega
   have e8 : ps.take ps.length = ps := List.take_length
   refine aC (Γ := bC [(67, .heap growG)]) [0, 6] (aH ok73 aO) rfl rfl rfl (fun K hK => ?_)
   simp (disch := omega) only [Tryz.f49, go_sem, Nat.reduceAdd, ↓reduceIte, e8]
   refine hK _ ?_
   refine aB ?_
   refine aA rfl ?_
   refine aA rfl ?_
   refine aC (Γ := aL) [6, 25, 26, 27] (aD _ _) rfl rfl rfl (fun K hK => ?_)
   simp (disch := omega) only [Tryz.f49, go_sem, Nat.reduceAdd, ↓reduceIte]
   refine hK _ ?_
   refine aB ?_
   clear hk h
   refine aR 2 rfl rfl ?_
   refine bR (fun p : KIC => { fr := [(6, .os p.id 0 (gO (ps.take p.k)).length 1 true), (25, .sl ps.length (cP ps)), (26, .i ps.length), (27, .i p.k)], hp := upd (fun _ => none) p.id (.cells (c8 (gO (ps.take p.k))) true), nx := 0, cx := p.c }) (fun p => p.k ≤ ps.length ∧ p.id < p.c) (fun p => ps.length - p.k) rfl ⟨⟨0, _, _⟩, ⟨Nat.zero_le _, by simp only; omega⟩, bD rfl rfl (Nat.le_refl _)⟩ ?_
   rintro ⟨k, id, c⟩ ⟨hk, hid⟩ n0
   simp only at hk hid ⊢
   refine aA rfl ?_
   refine aC (Γ := aL) [28, 6, 25, 26, 27] (aD _ _) rfl rfl rfl (fun K hK => ?_)
   simp (disch := omega) only [Tryz.f49, go_sem, ↓reduceIte]
   refine hK _ ?_
   refine aB ?_
   refine aA rfl ?_
   refine aW (.tmp 28) rfl rfl rfl (fun h => ?_) (fun h => ?_)
   ·skip
    refine aI rfl ?_
    have hkl : k < ps.length := by omega
    have ht := flat_le ps k
    have hm := flat_mem ps k hkl
    have e6 := flat_take ps k hkl
    obtain ⟨l, hl⟩ : ∃ l, ps.getD k [] = l := ⟨_, rfl⟩
    rw [hl] at hm e6
    have e7 : (gO (ps.take (k + 1))).length = (gO (ps.take k)).length + l.length := by rw [e6, List.length_append]
    refine aQ rfl ?_
    refine aB ?_
    refine aA rfl ?_
    refine aR 3 rfl rfl ?_
    refine aA rfl ?_
    refine aC (Γ := aL) [6, 8, 25, 26, 27] (aD _ _) rfl rfl rfl (fun K hK => ?_)
    simp (disch := omega) only [Tryz.f49, go_sem, Nat.reduceAdd, ↓reduceIte, hl]
    refine hK _ ?_
    refine aB ?_
    refine aC (Γ := aL) [6, 25, 26, 27] (aD _ _) rfl rfl rfl (fun K hK => ?_)
    simp (disch := omega) only [Tryz.f49, go_sem, Nat.reduceAdd, Nat.reduceLT, ↓reduceIte]
    refine hK _ ?_
    refine bU (aB ?_)
    refine aC (Γ := aL) [6, 25, 26, 27] (aD _ _) rfl rfl rfl (fun K hK => ?_)
    simp (disch := omega) only [Tryz.f49, go_sem, Nat.reduceAdd, ↓reduceIte]
    refine hK _ ?_
    refine bT ?_
    trace_state
    refine ⟨⟨k + 1, c + 1 + 3 + 2, _⟩, ⟨by simp only; omega, by simp only; omega⟩, by simp only; omega, ⟨fun _ => .inr ?_, fun j o h => ?_, Nat.le_refl _⟩⟩
    ·simp only [e7, Int.natCast_add, Int.natCast_one]
    ·simp only at h
     exact bS (by simp (disch := omega) only [aV, ↓reduceIte, eq_self, e6]) (cB) j o h
   ·skip
    refine aI rfl ?_
    refine bF 2 rfl rfl ?_
    refine aY (aZ (bE ?_))
    refine aB ?_
    refine aA rfl ?_
    obtain rfl : k = ps.length := by omega
    refine aC (Γ := aL) [2] (aD _ _) rfl rfl rfl (fun K hK => ?_)
    simp (disch := omega) only [Tryz.f49, go_sem, Nat.reduceAdd, ↓reduceIte, e8]
    refine hK _ ?_
    refine aB ?_
    refine aS rfl ?_
    simp (disch := omega) only [fE, eO, bV, bK, bQ, Tryz.f49, go_sem, ↓reduceIte, fQ]
 ·cases hg
theorem ok52 : bX Tryz.prog GLh 49 (.fresh true concatG) := ⟨⟨_, Tryz.func49, rfl, rfl⟩, concat_ok⟩
end Go.AX
