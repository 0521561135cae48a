/-
  Sort, part F: parting a range, at numbers of 32 bits. Sort, part G: sorting a little, at numbers of 32 bits. Sort, part H: the sort itself, at numbers of 32 bits. Sort, part I: the sort of a slice, at numbers of 32 bits. Keys, part uK: a map's keys, collected, at numbers of 32 bits (the kit's own walk, for ranges over a function). Keys, part uL: contracts of a map's keys, sorted, at numbers of 32 bits. Keys, part I: all keys, in order. Keys, part J: keys turned, seen, told. Keys, part M: the document's ring in memory; found, made. Keys, part N: keys whose DS was seen. Keys, part O: the document's keys turned.
-/
import Derived.Test.YthemkfbedajmpaaDoorBE
import Derived.RangeFuncBox
import Derived.RangeFuncLeaves
import Derived.RangeFuncStops
import Derived.Lib.SlKeysI
import Derived.Sort.MapsRangeIn
import Derived.Shelf.Abstract
import Derived.WalkKit
import Derived.OwnWalkIn
import Derived.TacticsInMore
import Derived.RegionIn
import Derived.LoopNIn
import Derived.LoopIn
import Derived.Maps.AppendAt
import Derived.Test.YthemkfbedajmpaaDoorProg
import Derived.KernelRfl
namespace Go.AX
open Go Go.Proofs
structure SKC where
 k : Nat
 c : Nat
set_option maxHeartbeats 1000000 in
theorem pt_up1 {id n a I J I2 nx0 cx0 : Nat} {gg : Bool} {D : Array T32} {Q : Exit → S → Prop} (hI : Sort.scanUp (fun x => ltN x D[a]!) D J I = I2) (hs : D.size = n) (hJ : J < n) (ha : a < n) (hbig : n ≤ 1000000) (hid : id < cx0)
  (hQ : ∀ n1 c1, id < c1 → Q .normal { fr := [(0, .os id 0 n 1 gg), (1, .i (a : Int)), (10, .i (I2 : Int)), (11, .i (J : Int))], hp := upd (fun _ => none) id (.cells (cA D) true), nx := n1, cx := c1 }) :
  Awp Tryd.prog GLh Tryd.f61.ntmps (cl (cr (cr (cr (aE Tryd.f61))))) { fr := [(0, .os id 0 n 1 gg), (1, .i (a : Int)), (10, .i (I : Int)), (11, .i (J : Int))], hp := upd (fun _ => none) id (.cells (cA D) true), nx := nx0, cx := cx0 } Q := by
  refine aR 0 rfl rfl ?_
  refine bR (fun q : SKC => { fr := [(0, .os id 0 n 1 gg), (1, .i a), (10, .i q.k), (11, .i J)], hp := upd (fun _ => none) id (.cells (cA D) true), nx := 0, cx := q.c }) (fun q => Sort.scanUp (fun x => ltN x D[a]!) D J q.k = I2 ∧ id < q.c) (fun q => J + 1 - q.k) rfl ⟨⟨I, _⟩, ⟨hI, hid⟩, bD rfl rfl (Nat.le_refl _)⟩ ?_
  rintro ⟨i, c⟩ ⟨hr, hc⟩ n0
  simp only at hr hc ⊢
  by_cases hij : i ≤ J
  ·skip
   have hd1 : decide ((i : Int) ≤ (J : Int)) = true := decide_eq_true (by omega)
   have hin : i < n := by omega
   obtain ⟨v, hv⟩ : ∃ v, ltN D[i]! D[a]! = v := ⟨_, rfl⟩
   rw [Sort.scanUp, decide_eq_true hij, Bool.true_and] at hr
   simp only [hv] at hr
   refine aA rfl ?_
   refine aA rfl ?_
   refine bB (Γ := bC [(59, .pure true dY)]) (fun k => if k = 12 then 0 else 2) [43, 0, 1, 10, 11] bZ (aH jC aO) rfl rfl rfl (by kernel_rfl) (fun K hK => ?_)
   simp (disch := omega) only [Tryd.f61, go_sem, Nat.reduceAdd, ↓reduceIte, hd1, hv, Int.toNat_natCast]
   refine hK _ ?_
   refine aB ?_
   cases v
   ·skip
    simp only [Bool.false_eq_true, if_false] at hr
    subst hr
    refine eC (.tmp 43) rfl rfl rfl (fun h => ?_) (fun h => ?_)
    ·skip
     refine aI rfl ?_
     cases h
    ·skip
     refine aI rfl ?_
     refine bF 0 rfl rfl ?_
     refine aY (aZ (bE ?_))
     exact hQ _ _ (by omega)
   ·skip
    simp only [if_true] at hr
    refine eC (.tmp 43) rfl rfl rfl (fun h => ?_) (fun h => ?_)
    ·skip
     refine aI rfl ?_
     refine aQ rfl ?_
     refine aB ?_
     refine aR 1 rfl rfl ?_
     refine aC (Γ := aL) [0, 1, 10, 11] (aD _ _) rfl rfl rfl (fun K hK => ?_)
     simp (disch := omega) only [Tryd.f61, go_sem, Nat.reduceAdd, ↓reduceIte]
     refine hK _ ?_
     refine bU (bT ?_)
     refine ⟨⟨i + 1, _⟩, ⟨hr, by simp only; omega⟩, by simp only; omega, bD (by simp only [Int.natCast_add, Int.natCast_one]) rfl (Nat.le_refl _)⟩
    ·skip
     refine aI rfl ?_
     cases h
  ·skip
   have hd1 : decide ((i : Int) ≤ (J : Int)) = false := decide_eq_false (by omega)
   rw [Sort.scanUp, decide_eq_false hij, Bool.false_and] at hr
   simp only [Bool.false_eq_true, if_false] at hr
   subst hr
   refine aA rfl ?_
   refine aA rfl ?_
   refine bB (Γ := bC [(59, .pure true dY)]) (fun k => if k = 12 then 0 else 2) [43, 0, 1, 10, 11] bZ (aH jC aO) rfl rfl rfl (by kernel_rfl) (fun K hK => ?_)
   simp (disch := omega) only [Tryd.f61, go_sem, Nat.reduceAdd, reduceCtorEq, ↓reduceIte, hd1]
   refine hK _ ?_
   refine aB ?_
   refine eC (.tmp 43) rfl rfl rfl (fun h => ?_) (fun h => ?_)
   ·skip
    refine aI rfl ?_
    cases h
   ·skip
    refine aI rfl ?_
    refine bF 0 rfl rfl ?_
    refine aY (aZ (bE ?_))
    exact hQ _ _ (by omega)
set_option maxHeartbeats 1000000 in
theorem pt_dn1 {id n a I J J2 nx0 cx0 : Nat} {gg : Bool} {D : Array T32} {Q : Exit → S → Prop} (hJ2 : Sort.scanDown (fun x => !ltN x D[a]!) D I J = J2) (hs : D.size = n) (hJ : J < n) (hI1 : 0 < I) (ha : a < n) (hbig : n ≤ 1000000) (hid : id < cx0)
  (hQ : ∀ n1 c1, id < c1 → Q .normal { fr := [(0, .os id 0 n 1 gg), (1, .i (a : Int)), (10, .i (I : Int)), (11, .i (J2 : Int))], hp := upd (fun _ => none) id (.cells (cA D) true), nx := n1, cx := c1 }) :
  Awp Tryd.prog GLh Tryd.f61.ntmps (cl (cr (cr (cr (cr (aE Tryd.f61)))))) { fr := [(0, .os id 0 n 1 gg), (1, .i (a : Int)), (10, .i (I : Int)), (11, .i (J : Int))], hp := upd (fun _ => none) id (.cells (cA D) true), nx := nx0, cx := cx0 } Q := by
  refine aR 2 rfl rfl ?_
  refine bR (fun q : SKC => { fr := [(0, .os id 0 n 1 gg), (1, .i a), (10, .i I), (11, .i q.k)], hp := upd (fun _ => none) id (.cells (cA D) true), nx := 0, cx := q.c }) (fun q => Sort.scanDown (fun x => !ltN x D[a]!) D I q.k = J2 ∧ q.k < n ∧ id < q.c) (fun q => q.k) rfl ⟨⟨J, _⟩, ⟨hJ2, hJ, hid⟩, bD rfl rfl (Nat.le_refl _)⟩ ?_
  rintro ⟨j, c⟩ ⟨hr, hjn, hc⟩ n0
  simp only at hr hjn hc ⊢
  by_cases hij : I ≤ j
  ·skip
   have hd1 : decide ((I : Int) ≤ (j : Int)) = true := decide_eq_true (by omega)
   obtain ⟨j, rfl⟩ : ∃ j', j = j' + 1 := ⟨j - 1, by omega⟩
   have ej1 : ((j + 1 : Nat) : Int) - 1 = (j : Int) := by omega
   obtain ⟨v, hv⟩ : ∃ v, ltN D[j + 1]! D[a]! = v := ⟨_, rfl⟩
   rw [Sort.scanDown, decide_eq_true hij, Bool.true_and] at hr
   simp only [hv] at hr
   refine aA rfl ?_
   refine aA rfl ?_
   refine bB (Γ := bC [(59, .pure true dY)]) (fun k => if k = 12 then 0 else 2) [60, 0, 1, 10, 11] bZ (aH jC aO) rfl rfl rfl (by kernel_rfl) (fun K hK => ?_)
   simp (disch := omega) only [Tryd.f61, go_sem, Nat.reduceAdd, ↓reduceIte, hd1, hv, Int.toNat_natCast]
   refine hK _ ?_
   refine aB ?_
   cases v
   ·skip
    simp only [Bool.not_false, if_true] at hr
    refine eC (.tmp 60) rfl rfl rfl (fun h => ?_) (fun h => ?_)
    ·skip
     refine aI rfl ?_
     refine aQ rfl ?_
     refine aB ?_
     refine aR 3 rfl rfl ?_
     refine aC (Γ := aL) [0, 1, 10, 11] (aD _ _) rfl rfl rfl (fun K hK => ?_)
     simp (disch := omega) only [Tryd.f61, go_sem, Nat.reduceAdd, ↓reduceIte, ej1]
     refine hK _ ?_
     refine bU (bT ?_)
     refine ⟨⟨j, _⟩, ⟨hr, by simp only; omega, by simp only; omega⟩, by simp only; omega, bD rfl rfl (Nat.le_refl _)⟩
    ·skip
     refine aI rfl ?_
     cases h
   ·skip
    simp only [Bool.not_true, Bool.false_eq_true, if_false] at hr
    subst hr
    refine eC (.tmp 60) rfl rfl rfl (fun h => ?_) (fun h => ?_)
    ·skip
     refine aI rfl ?_
     cases h
    ·skip
     refine aI rfl ?_
     refine bF 2 rfl rfl ?_
     refine aY (aZ (bE ?_))
     exact hQ _ _ (by omega)
  ·skip
   have hd1 : decide ((I : Int) ≤ (j : Int)) = false := decide_eq_false (by omega)
   have hr2 : j = J2 := by
    rw [← hr]
    cases j with
    | zero => rfl
    | succ k => rw [Sort.scanDown, decide_eq_false hij, Bool.false_and]; rfl
   subst hr2
   refine aA rfl ?_
   refine aA rfl ?_
   refine bB (Γ := bC [(59, .pure true dY)]) (fun k => if k = 12 then 0 else 2) [60, 0, 1, 10, 11] bZ (aH jC aO) rfl rfl rfl (by kernel_rfl) (fun K hK => ?_)
   simp (disch := omega) only [Tryd.f61, go_sem, Nat.reduceAdd, reduceCtorEq, ↓reduceIte, hd1]
   refine hK _ ?_
   refine aB ?_
   refine eC (.tmp 60) rfl rfl rfl (fun h => ?_) (fun h => ?_)
   ·skip
    refine aI rfl ?_
    cases h
   ·skip
    refine aI rfl ?_
    refine bF 2 rfl rfl ?_
    refine aY (aZ (bE ?_))
    exact hQ _ _ (by omega)
set_option maxHeartbeats 1000000 in
theorem pt_up2 {id n a I J I2 nx0 cx0 : Nat} {gg : Bool} {D : Array T32} {Q : Exit → S → Prop} (hI : Sort.scanUp (fun x => ltN x D[a]!) D J I = I2) (hs : D.size = n) (hJ : J < n) (ha : a < n) (hbig : n ≤ 1000000) (hid : id < cx0)
  (hQ : ∀ n1 c1, id < c1 → Q .normal { fr := [(0, .os id 0 n 1 gg), (1, .i (a : Int)), (10, .i (I2 : Int)), (11, .i (J : Int))], hp := upd (fun _ => none) id (.cells (cA D) true), nx := n1, cx := c1 }) :
  Awp Tryd.prog GLh Tryd.f61.ntmps (cl (cl (cl (cl (cl (cr (cr (cr (cr (cr (cr (cr (cr (cr (aE Tryd.f61))))))))))))))) { fr := [(0, .os id 0 n 1 gg), (1, .i (a : Int)), (10, .i (I : Int)), (11, .i (J : Int))], hp := upd (fun _ => none) id (.cells (cA D) true), nx := nx0, cx := cx0 } Q := by
  refine aR 6 rfl rfl ?_
  refine bR (fun q : SKC => { fr := [(0, .os id 0 n 1 gg), (1, .i a), (10, .i q.k), (11, .i J)], hp := upd (fun _ => none) id (.cells (cA D) true), nx := 0, cx := q.c }) (fun q => Sort.scanUp (fun x => ltN x D[a]!) D J q.k = I2 ∧ id < q.c) (fun q => J + 1 - q.k) rfl ⟨⟨I, _⟩, ⟨hI, hid⟩, bD rfl rfl (Nat.le_refl _)⟩ ?_
  rintro ⟨i, c⟩ ⟨hr, hc⟩ n0
  simp only at hr hc ⊢
  by_cases hij : i ≤ J
  ·skip
   have hd1 : decide ((i : Int) ≤ (J : Int)) = true := decide_eq_true (by omega)
   have hin : i < n := by omega
   obtain ⟨v, hv⟩ : ∃ v, ltN D[i]! D[a]! = v := ⟨_, rfl⟩
   rw [Sort.scanUp, decide_eq_true hij, Bool.true_and] at hr
   simp only [hv] at hr
   refine aA rfl ?_
   refine aA rfl ?_
   refine bB (Γ := bC [(59, .pure true dY)]) (fun k => if k = 12 then 0 else 2) [112, 0, 1, 10, 11] bZ (aH jC aO) rfl rfl rfl (by kernel_rfl) (fun K hK => ?_)
   simp (disch := omega) only [Tryd.f61, go_sem, Nat.reduceAdd, ↓reduceIte, hd1, hv, Int.toNat_natCast]
   refine hK _ ?_
   refine aB ?_
   cases v
   ·skip
    simp only [Bool.false_eq_true, if_false] at hr
    subst hr
    refine eC (.tmp 112) rfl rfl rfl (fun h => ?_) (fun h => ?_)
    ·skip
     refine aI rfl ?_
     cases h
    ·skip
     refine aI rfl ?_
     refine bF 6 rfl rfl ?_
     refine aY (aZ (bE ?_))
     exact hQ _ _ (by omega)
   ·skip
    simp only [if_true] at hr
    refine eC (.tmp 112) rfl rfl rfl (fun h => ?_) (fun h => ?_)
    ·skip
     refine aI rfl ?_
     refine aQ rfl ?_
     refine aB ?_
     refine aR 7 rfl rfl ?_
     refine aC (Γ := aL) [0, 1, 10, 11] (aD _ _) rfl rfl rfl (fun K hK => ?_)
     simp (disch := omega) only [Tryd.f61, go_sem, Nat.reduceAdd, ↓reduceIte]
     refine hK _ ?_
     refine bU (bT ?_)
     refine ⟨⟨i + 1, _⟩, ⟨hr, by simp only; omega⟩, by simp only; omega, bD (by simp only [Int.natCast_add, Int.natCast_one]) rfl (Nat.le_refl _)⟩
    ·skip
     refine aI rfl ?_
     cases h
  ·skip
   have hd1 : decide ((i : Int) ≤ (J : Int)) = false := decide_eq_false (by omega)
   rw [Sort.scanUp, decide_eq_false hij, Bool.false_and] at hr
   simp only [Bool.false_eq_true, if_false] at hr
   subst hr
   refine aA rfl ?_
   refine aA rfl ?_
   refine bB (Γ := bC [(59, .pure true dY)]) (fun k => if k = 12 then 0 else 2) [112, 0, 1, 10, 11] bZ (aH jC aO) rfl rfl rfl (by kernel_rfl) (fun K hK => ?_)
   simp (disch := omega) only [Tryd.f61, go_sem, Nat.reduceAdd, reduceCtorEq, ↓reduceIte, hd1]
   refine hK _ ?_
   refine aB ?_
   refine eC (.tmp 112) rfl rfl rfl (fun h => ?_) (fun h => ?_)
   ·skip
    refine aI rfl ?_
    cases h
   ·skip
    refine aI rfl ?_
    refine bF 6 rfl rfl ?_
    refine aY (aZ (bE ?_))
    exact hQ _ _ (by omega)
set_option maxHeartbeats 1000000 in
theorem pt_dn2 {id n a I J J2 nx0 cx0 : Nat} {gg : Bool} {D : Array T32} {Q : Exit → S → Prop} (hJ2 : Sort.scanDown (fun x => !ltN x D[a]!) D I J = J2) (hs : D.size = n) (hJ : J < n) (hI1 : 0 < I) (ha : a < n) (hbig : n ≤ 1000000) (hid : id < cx0)
  (hQ : ∀ n1 c1, id < c1 → Q .normal { fr := [(0, .os id 0 n 1 gg), (1, .i (a : Int)), (10, .i (I : Int)), (11, .i (J2 : Int))], hp := upd (fun _ => none) id (.cells (cA D) true), nx := n1, cx := c1 }) :
  Awp Tryd.prog GLh Tryd.f61.ntmps (cl (cr (cl (cl (cl (cl (cr (cr (cr (cr (cr (cr (cr (cr (cr (aE Tryd.f61)))))))))))))))) { fr := [(0, .os id 0 n 1 gg), (1, .i (a : Int)), (10, .i (I : Int)), (11, .i (J : Int))], hp := upd (fun _ => none) id (.cells (cA D) true), nx := nx0, cx := cx0 } Q := by
  refine aR 8 rfl rfl ?_
  refine bR (fun q : SKC => { fr := [(0, .os id 0 n 1 gg), (1, .i a), (10, .i I), (11, .i q.k)], hp := upd (fun _ => none) id (.cells (cA D) true), nx := 0, cx := q.c }) (fun q => Sort.scanDown (fun x => !ltN x D[a]!) D I q.k = J2 ∧ q.k < n ∧ id < q.c) (fun q => q.k) rfl ⟨⟨J, _⟩, ⟨hJ2, hJ, hid⟩, bD rfl rfl (Nat.le_refl _)⟩ ?_
  rintro ⟨j, c⟩ ⟨hr, hjn, hc⟩ n0
  simp only at hr hjn hc ⊢
  by_cases hij : I ≤ j
  ·skip
   have hd1 : decide ((I : Int) ≤ (j : Int)) = true := decide_eq_true (by omega)
   obtain ⟨j, rfl⟩ : ∃ j', j = j' + 1 := ⟨j - 1, by omega⟩
   have ej1 : ((j + 1 : Nat) : Int) - 1 = (j : Int) := by omega
   obtain ⟨v, hv⟩ : ∃ v, ltN D[j + 1]! D[a]! = v := ⟨_, rfl⟩
   rw [Sort.scanDown, decide_eq_true hij, Bool.true_and] at hr
   simp only [hv] at hr
   refine aA rfl ?_
   refine aA rfl ?_
   refine bB (Γ := bC [(59, .pure true dY)]) (fun k => if k = 12 then 0 else 2) [129, 0, 1, 10, 11] bZ (aH jC aO) rfl rfl rfl (by kernel_rfl) (fun K hK => ?_)
   simp (disch := omega) only [Tryd.f61, go_sem, Nat.reduceAdd, ↓reduceIte, hd1, hv, Int.toNat_natCast]
   refine hK _ ?_
   refine aB ?_
   cases v
   ·skip
    simp only [Bool.not_false, if_true] at hr
    refine eC (.tmp 129) rfl rfl rfl (fun h => ?_) (fun h => ?_)
    ·skip
     refine aI rfl ?_
     refine aQ rfl ?_
     refine aB ?_
     refine aR 9 rfl rfl ?_
     refine aC (Γ := aL) [0, 1, 10, 11] (aD _ _) rfl rfl rfl (fun K hK => ?_)
     simp (disch := omega) only [Tryd.f61, go_sem, Nat.reduceAdd, ↓reduceIte, ej1]
     refine hK _ ?_
     refine bU (bT ?_)
     refine ⟨⟨j, _⟩, ⟨hr, by simp only; omega, by simp only; omega⟩, by simp only; omega, bD rfl rfl (Nat.le_refl _)⟩
    ·skip
     refine aI rfl ?_
     cases h
   ·skip
    simp only [Bool.not_true, Bool.false_eq_true, if_false] at hr
    subst hr
    refine eC (.tmp 129) rfl rfl rfl (fun h => ?_) (fun h => ?_)
    ·skip
     refine aI rfl ?_
     cases h
    ·skip
     refine aI rfl ?_
     refine bF 8 rfl rfl ?_
     refine aY (aZ (bE ?_))
     exact hQ _ _ (by omega)
  ·skip
   have hd1 : decide ((I : Int) ≤ (j : Int)) = false := decide_eq_false (by omega)
   have hr2 : j = J2 := by
    rw [← hr]
    cases j with
    | zero => rfl
    | succ k => rw [Sort.scanDown, decide_eq_false hij, Bool.false_and]; rfl
   subst hr2
   refine aA rfl ?_
   refine aA rfl ?_
   refine bB (Γ := bC [(59, .pure true dY)]) (fun k => if k = 12 then 0 else 2) [129, 0, 1, 10, 11] bZ (aH jC aO) rfl rfl rfl (by kernel_rfl) (fun K hK => ?_)
   simp (disch := omega) only [Tryd.f61, go_sem, Nat.reduceAdd, reduceCtorEq, ↓reduceIte, hd1]
   refine hK _ ?_
   refine aB ?_
   refine eC (.tmp 129) rfl rfl rfl (fun h => ?_) (fun h => ?_)
   ·skip
    refine aI rfl ?_
    cases h
   ·skip
    refine aI rfl ?_
    refine bF 8 rfl rfl ?_
    refine aY (aZ (bE ?_))
    exact hQ _ _ (by omega)
set_option maxHeartbeats 1000000 in
theorem pe_up {id n a I J I2 nx0 cx0 : Nat} {gg : Bool} {D : Array T32} {Q : Exit → S → Prop} (hI : Sort.scanUp (fun x => !ltN D[a]! x) D J I = I2) (hs : D.size = n) (hJ : J < n) (ha : a < n) (hbig : n ≤ 1000000) (hid : id < cx0)
  (hQ : ∀ n1 c1, id < c1 → Q .normal { fr := [(0, .os id 0 n 1 gg), (1, .i (a : Int)), (9, .i (I2 : Int)), (10, .i (J : Int))], hp := upd (fun _ => none) id (.cells (cA D) true), nx := n1, cx := c1 }) :
  Awp Tryd.prog GLh Tryd.f60.ntmps (cl (cl (cl (cl (cl (cr (cr (cr (aE Tryd.f60))))))))) { fr := [(0, .os id 0 n 1 gg), (1, .i (a : Int)), (9, .i (I : Int)), (10, .i (J : Int))], hp := upd (fun _ => none) id (.cells (cA D) true), nx := nx0, cx := cx0 } Q := by
  refine aR 2 rfl rfl ?_
  refine bR (fun q : SKC => { fr := [(0, .os id 0 n 1 gg), (1, .i a), (9, .i q.k), (10, .i J)], hp := upd (fun _ => none) id (.cells (cA D) true), nx := 0, cx := q.c }) (fun q => Sort.scanUp (fun x => !ltN D[a]! x) D J q.k = I2 ∧ id < q.c) (fun q => J + 1 - q.k) rfl ⟨⟨I, _⟩, ⟨hI, hid⟩, bD rfl rfl (Nat.le_refl _)⟩ ?_
  rintro ⟨i, c⟩ ⟨hr, hc⟩ n0
  simp only at hr hc ⊢
  by_cases hij : i ≤ J
  ·skip
   have hd1 : decide ((i : Int) ≤ (J : Int)) = true := decide_eq_true (by omega)
   have hin : i < n := by omega
   obtain ⟨v, hv⟩ : ∃ v, ltN D[a]! D[i]! = v := ⟨_, rfl⟩
   rw [Sort.scanUp, decide_eq_true hij, Bool.true_and] at hr
   simp only [hv] at hr
   refine aA rfl ?_
   refine aA rfl ?_
   refine bB (Γ := bC [(59, .pure true dY)]) (fun k => if k = 12 then 0 else 2) [43, 0, 1, 9, 10] bZ (aH jC aO) rfl rfl rfl (by kernel_rfl) (fun K hK => ?_)
   simp (disch := omega) only [Tryd.f60, go_sem, Nat.reduceAdd, ↓reduceIte, hd1, hv, Int.toNat_natCast]
   refine hK _ ?_
   refine aB ?_
   cases v
   ·skip
    simp only [Bool.not_false, if_true] at hr
    refine eC (.tmp 43) rfl rfl rfl (fun h => ?_) (fun h => ?_)
    ·skip
     refine aI rfl ?_
     refine aQ rfl ?_
     refine aB ?_
     refine aR 3 rfl rfl ?_
     refine aC (Γ := aL) [0, 1, 9, 10] (aD _ _) rfl rfl rfl (fun K hK => ?_)
     simp (disch := omega) only [Tryd.f60, go_sem, Nat.reduceAdd, ↓reduceIte]
     refine hK _ ?_
     refine bU (bT ?_)
     refine ⟨⟨i + 1, _⟩, ⟨hr, by simp only; omega⟩, by simp only; omega, bD (by simp only [Int.natCast_add, Int.natCast_one]) rfl (Nat.le_refl _)⟩
    ·skip
     refine aI rfl ?_
     cases h
   ·skip
    simp only [Bool.not_true, Bool.false_eq_true, if_false] at hr
    subst hr
    refine eC (.tmp 43) rfl rfl rfl (fun h => ?_) (fun h => ?_)
    ·skip
     refine aI rfl ?_
     cases h
    ·skip
     refine aI rfl ?_
     refine bF 2 rfl rfl ?_
     refine aY (aZ (bE ?_))
     exact hQ _ _ (by omega)
  ·skip
   have hd1 : decide ((i : Int) ≤ (J : Int)) = false := decide_eq_false (by omega)
   rw [Sort.scanUp, decide_eq_false hij, Bool.false_and] at hr
   simp only [Bool.false_eq_true, if_false] at hr
   subst hr
   refine aA rfl ?_
   refine aA rfl ?_
   refine bB (Γ := bC [(59, .pure true dY)]) (fun k => if k = 12 then 0 else 2) [43, 0, 1, 9, 10] bZ (aH jC aO) rfl rfl rfl (by kernel_rfl) (fun K hK => ?_)
   simp (disch := omega) only [Tryd.f60, go_sem, Nat.reduceAdd, reduceCtorEq, ↓reduceIte, hd1]
   refine hK _ ?_
   refine aB ?_
   refine eC (.tmp 43) rfl rfl rfl (fun h => ?_) (fun h => ?_)
   ·skip
    refine aI rfl ?_
    cases h
   ·skip
    refine aI rfl ?_
    refine bF 2 rfl rfl ?_
    refine aY (aZ (bE ?_))
    exact hQ _ _ (by omega)
set_option maxHeartbeats 1000000 in
theorem pe_dn {id n a I J J2 nx0 cx0 : Nat} {gg : Bool} {D : Array T32} {Q : Exit → S → Prop} (hJ2 : Sort.scanDown (fun x => ltN D[a]! x) D I J = J2) (hs : D.size = n) (hJ : J < n) (hI1 : 0 < I) (ha : a < n) (hbig : n ≤ 1000000) (hid : id < cx0)
  (hQ : ∀ n1 c1, id < c1 → Q .normal { fr := [(0, .os id 0 n 1 gg), (1, .i (a : Int)), (9, .i (I : Int)), (10, .i (J2 : Int))], hp := upd (fun _ => none) id (.cells (cA D) true), nx := n1, cx := c1 }) :
  Awp Tryd.prog GLh Tryd.f60.ntmps (cl (cr (cl (cl (cl (cl (cr (cr (cr (aE Tryd.f60)))))))))) { fr := [(0, .os id 0 n 1 gg), (1, .i (a : Int)), (9, .i (I : Int)), (10, .i (J : Int))], hp := upd (fun _ => none) id (.cells (cA D) true), nx := nx0, cx := cx0 } Q := by
  refine aR 4 rfl rfl ?_
  refine bR (fun q : SKC => { fr := [(0, .os id 0 n 1 gg), (1, .i a), (9, .i I), (10, .i q.k)], hp := upd (fun _ => none) id (.cells (cA D) true), nx := 0, cx := q.c }) (fun q => Sort.scanDown (fun x => ltN D[a]! x) D I q.k = J2 ∧ q.k < n ∧ id < q.c) (fun q => q.k) rfl ⟨⟨J, _⟩, ⟨hJ2, hJ, hid⟩, bD rfl rfl (Nat.le_refl _)⟩ ?_
  rintro ⟨j, c⟩ ⟨hr, hjn, hc⟩ n0
  simp only at hr hjn hc ⊢
  by_cases hij : I ≤ j
  ·skip
   have hd1 : decide ((I : Int) ≤ (j : Int)) = true := decide_eq_true (by omega)
   obtain ⟨j, rfl⟩ : ∃ j', j = j' + 1 := ⟨j - 1, by omega⟩
   have ej1 : ((j + 1 : Nat) : Int) - 1 = (j : Int) := by omega
   obtain ⟨v, hv⟩ : ∃ v, ltN D[a]! D[j + 1]! = v := ⟨_, rfl⟩
   rw [Sort.scanDown, decide_eq_true hij, Bool.true_and] at hr
   simp only [hv] at hr
   refine aA rfl ?_
   refine aA rfl ?_
   refine bB (Γ := bC [(59, .pure true dY)]) (fun k => if k = 12 then 0 else 2) [59, 0, 1, 9, 10] bZ (aH jC aO) rfl rfl rfl (by kernel_rfl) (fun K hK => ?_)
   simp (disch := omega) only [Tryd.f60, go_sem, Nat.reduceAdd, ↓reduceIte, hd1, hv, Int.toNat_natCast]
   refine hK _ ?_
   refine aB ?_
   cases v
   ·skip
    simp only [Bool.false_eq_true, if_false] at hr
    subst hr
    refine eC (.tmp 59) rfl rfl rfl (fun h => ?_) (fun h => ?_)
    ·skip
     refine aI rfl ?_
     cases h
    ·skip
     refine aI rfl ?_
     refine bF 4 rfl rfl ?_
     refine aY (aZ (bE ?_))
     exact hQ _ _ (by omega)
   ·skip
    simp only [if_true] at hr
    refine eC (.tmp 59) rfl rfl rfl (fun h => ?_) (fun h => ?_)
    ·skip
     refine aI rfl ?_
     refine aQ rfl ?_
     refine aB ?_
     refine aR 5 rfl rfl ?_
     refine aC (Γ := aL) [0, 1, 9, 10] (aD _ _) rfl rfl rfl (fun K hK => ?_)
     simp (disch := omega) only [Tryd.f60, go_sem, Nat.reduceAdd, ↓reduceIte, ej1]
     refine hK _ ?_
     refine bU (bT ?_)
     refine ⟨⟨j, _⟩, ⟨hr, by simp only; omega, by simp only; omega⟩, by simp only; omega, bD rfl rfl (Nat.le_refl _)⟩
    ·skip
     refine aI rfl ?_
     cases h
  ·skip
   have hd1 : decide ((I : Int) ≤ (j : Int)) = false := decide_eq_false (by omega)
   have hr2 : j = J2 := by
    rw [← hr]
    cases j with
    | zero => rfl
    | succ k => rw [Sort.scanDown, decide_eq_false hij, Bool.false_and]; rfl
   subst hr2
   refine aA rfl ?_
   refine aA rfl ?_
   refine bB (Γ := bC [(59, .pure true dY)]) (fun k => if k = 12 then 0 else 2) [59, 0, 1, 9, 10] bZ (aH jC aO) rfl rfl rfl (by kernel_rfl) (fun K hK => ?_)
   simp (disch := omega) only [Tryd.f60, go_sem, Nat.reduceAdd, reduceCtorEq, ↓reduceIte, hd1]
   refine hK _ ?_
   refine aB ?_
   refine eC (.tmp 59) rfl rfl rfl (fun h => ?_) (fun h => ?_)
   ·skip
    refine aI rfl ?_
    cases h
   ·skip
    refine aI rfl ?_
    refine bF 4 rfl rfl ?_
    refine aY (aZ (bE ?_))
    exact hQ _ _ (by omega)
def ptG : List AV → List AV → Option (AV × List AV)
 | [.os _ 0 n 1 _, .i a, .i b, .i p], xs => aK (unA xs) fun l => aN (l.length = n ∧ 0 ≤ a ∧ a < b ∧ b ≤ n ∧ 0 ≤ p ∧ p < n ∧ n ≤ 1000000) (some (.tup [.i (Sort.partition ltN l.toArray a.toNat b.toNat p.toNat).1, .b (Sort.partition ltN l.toArray a.toNat b.toNat p.toNat).2.1], cA (Sort.partition ltN l.toArray a.toNat b.toNat p.toNat).2.2))
 | _, _ => none
theorem ptG_eq (id n : Nat) (gg : Bool) (a b p : Int) (xs : List AV) : ptG [.os id 0 n 1 gg, .i a, .i b, .i p] xs = aK (unA xs) fun l => aN (l.length = n ∧ 0 ≤ a ∧ a < b ∧ b ≤ n ∧ 0 ≤ p ∧ p < n ∧ n ≤ 1000000) (some (.tup [.i (Sort.partition ltN l.toArray a.toNat b.toNat p.toNat).1, .b (Sort.partition ltN l.toArray a.toNat b.toNat p.toNat).2.1], cA (Sort.partition ltN l.toArray a.toNat b.toNat p.toNat).2.2)) := (rfl)
attribute [go_sem] ptG_eq
set_option maxHeartbeats 2000000 in
theorem pt_ok : cQ Tryd.prog GLh 61 (dP ptG) := by
 refine dN Tryd.func61 (aT rfl) ?_
 intro id off n e gg rest nx xs r ys hg
 unfold ptG at hg
 split at hg
 ·rename_i id2 n2 gg2 a0 b0 p0 heq
  simp only [List.cons.injEq, AV.os.injEq] at heq
  obtain ⟨⟨rfl, rfl, rfl, rfl, rfl⟩, rfl⟩ := heq
  replace hg := aJ hg; obtain ⟨l, hl, hg⟩ := hg
  replace hg := aP hg; obtain ⟨⟨hn, ha, hab, hbn, hp0, hpn, hbig⟩, hg⟩ := hg
  simp only [Option.some.injEq, Prod.mk.injEq] at hg; obtain ⟨rfl, rfl⟩ := hg
  have := dO hl; subst this
  obtain ⟨a, rfl⟩ := Int.eq_ofNat_of_zero_le ha
  obtain ⟨b, rfl⟩ := Int.eq_ofNat_of_zero_le (show 0 ≤ b0 by omega)
  obtain ⟨p, rfl⟩ := Int.eq_ofNat_of_zero_le hp0
  simp only [Int.toNat_natCast] at *
  obtain ⟨d, hd⟩ : ∃ d, l.toArray = d := ⟨_, rfl⟩
  have hds : d.size = n := by rw [← hd]; simpa using hn
  have hab2 : a < b := by omega
  have hbn2 : b ≤ n := by omega
  have hpn2 : p < n := by omega
  rw [hd]
  refine ⟨Nat.le_of_ble_eq_true rfl, fun hid => ?_⟩
  clear hl hn ha hab hbn hp0 hpn
  obtain ⟨R, hR⟩ : ∃ R, Sort.partition ltN d a b p = R := ⟨_, rfl⟩
  rw [hR]
  unfold Sort.partition at hR
  obtain ⟨D, hD⟩ : ∃ D, Sort.swp d a p = D := ⟨_, rfl⟩
  have hDs : D.size = n := by rw [← hD, cW]; exact hds
  have hsw : (d.setIfInBounds a d[p]!).setIfInBounds p d[a]! = D := hD
  have ea : (a : Int) + 1 = ((a + 1 : Nat) : Int) := by omega
  have eb : (b : Int) - 1 = ((b - 1 : Nat) : Int) := by omega
  obtain ⟨i2, hi2⟩ : ∃ i2, Sort.scanUp (fun x => ltN x D[a]!) D (b - 1) (a + 1) = i2 := ⟨_, rfl⟩
  have gi2 := Sort.scanUp_ge (fun x => ltN x D[a]!) D (b - 1) (a + 1)
  rw [hi2] at gi2
  obtain ⟨j2, hj2⟩ : ∃ j2, Sort.scanDown (fun x => !ltN x D[a]!) D i2 (b - 1) = j2 := ⟨_, rfl⟩
  have gj2 := Sort.scanDown_le (fun x => !ltN x D[a]!) D i2 (b - 1)
  rw [hj2] at gj2
  simp only [hD, hi2, hj2] at hR
  have han : a < n := by omega
  have hj2n : j2 < n := by omega
  refine aA rfl ?_
  refine aC (Γ := aL) [0, 1, 2, 3] (aD _ _) rfl rfl rfl (fun K hK => ?_)
  simp (disch := omega) only [Tryd.f61, go_sem, Nat.reduceAdd, ↓reduceIte]
  refine hK _ ?_
  refine aB ?_
  refine aA rfl ?_
  refine bB (Γ := aL) (fun _ => 2) [0, 1, 2] bZ (aD _ _) rfl rfl rfl (by kernel_rfl) (fun K hK => ?_)
  simp (disch := omega) only [Tryd.f61, go_sem, Nat.reduceAdd, ↓reduceIte, hsw, hds, Int.toNat_natCast]
  refine hK _ ?_
  refine aB ?_
  refine aA rfl ?_
  refine aC (Γ := aL) [0, 1, 10, 11] (aD _ _) rfl rfl rfl (fun K hK => ?_)
  simp (disch := omega) only [Tryd.f61, go_sem, Nat.reduceAdd, ↓reduceIte, ea, eb]
  refine hK _ ?_
  refine aB ?_
  refine aA rfl ?_
  refine pt_up1 hi2 hDs (by omega) han hbig (by omega) (fun n1 c1 hc1 => ?_)
  refine aB ?_
  refine aA rfl ?_
  refine pt_dn1 hj2 hDs (by omega) (by omega) han hbig hc1 (fun n2 c2 hc2 => ?_)
  refine aB ?_
  refine aA rfl ?_
  refine aA rfl ?_
  refine aC (Γ := aL) [65, 0, 1, 10, 11] (aD _ _) rfl rfl rfl (fun K hK => ?_)
  simp (disch := omega) only [Tryd.f61, go_sem, Nat.reduceAdd, ↓reduceIte]
  refine hK _ ?_
  refine aB ?_
  refine aW (.tmp 65) rfl rfl rfl (fun h => ?_) (fun h => ?_)
  ·skip
   refine aI rfl ?_
   have hij : i2 > j2 := by omega
   rw [if_pos hij] at hR
   subst hR
   have hsw2 : (D.setIfInBounds j2 D[a]!).setIfInBounds a D[j2]! = Sort.swp D j2 a := rfl
   refine aA rfl ?_
   refine bB (Γ := aL) (fun _ => 2) [11] bZ (aD _ _) rfl rfl rfl (by kernel_rfl) (fun K hK => ?_)
   simp (disch := omega) only [Tryd.f61, go_sem, Nat.reduceAdd, ↓reduceIte, hsw2, hDs, Int.toNat_natCast]
   refine hK _ ?_
   refine aB ?_
   refine aA rfl ?_
   refine aC (Γ := aL) [8, 9] (aD _ _) rfl rfl rfl (fun K hK => ?_)
   simp (disch := omega) only [Tryd.f61, go_sem, Nat.reduceAdd, ↓reduceIte]
   refine hK _ ?_
   refine aB ?_
   refine aS rfl ?_
   refine bI ?_
   exact ⟨rfl, by simp only [aV, if_true], rfl, dZ _⟩
  ·skip
   refine aI rfl ?_
   have hij : ¬ i2 > j2 := by omega
   rw [if_neg hij] at hR
   have hi2n : i2 < n := by omega
   have hsw2 : (D.setIfInBounds i2 D[j2]!).setIfInBounds j2 D[i2]! = Sort.swp D i2 j2 := rfl
   have ei : (i2 : Int) + 1 = ((i2 + 1 : Nat) : Int) := by omega
   have ej : (j2 : Int) - 1 = ((j2 - 1 : Nat) : Int) := by omega
   obtain ⟨⟨M, E⟩, hME⟩ : ∃ r, Sort.partLoop ltN a (i2 + 1) (j2 - 1) (Sort.swp D i2 j2) = r := ⟨_, rfl⟩
   simp only [hME] at hR
   subst hR
   refine aQ rfl ?_
   refine aB ?_
   refine aA rfl ?_
   refine bB (Γ := aL) (fun _ => 2) [0, 1, 10, 11] bZ (aD _ _) rfl rfl rfl (by kernel_rfl) (fun K hK => ?_)
   simp (disch := omega) only [Tryd.f61, go_sem, Nat.reduceAdd, ↓reduceIte, hsw2, hDs, Int.toNat_natCast]
   refine hK _ ?_
   refine aB ?_
   refine aA rfl ?_
   refine aC (Γ := aL) [0, 1, 10, 11] (aD _ _) rfl rfl rfl (fun K hK => ?_)
   simp (disch := omega) only [Tryd.f61, go_sem, Nat.reduceAdd, ↓reduceIte, ei]
   refine hK _ ?_
   refine aB ?_
   refine aA rfl ?_
   refine aC (Γ := aL) [0, 1, 10, 11] (aD _ _) rfl rfl rfl (fun K hK => ?_)
   simp (disch := omega) only [Tryd.f61, go_sem, Nat.reduceAdd, ↓reduceIte, ej]
   refine hK _ ?_
   refine aB ?_
   refine aA rfl ?_
   refine aR 4 rfl rfl ?_
   refine bR (fun p : SDJ => { fr := [(0, .os id 0 n 1 gg), (1, .i a), (10, .i p.k), (11, .i p.j)], hp := upd (fun _ => none) id (.cells (cA p.d) true), nx := 0, cx := p.c }) (fun p => Sort.partLoop ltN a p.k p.j p.d = (M, E) ∧ p.d.size = n ∧ a < p.k ∧ p.j < n ∧ id < p.c) (fun p => p.j + 1 - p.k) rfl ⟨⟨i2 + 1, j2 - 1, Sort.swp D i2 j2, _⟩, ⟨hME, by simp only [cW]; exact hDs, by simp only; omega, by simp only; omega, by simp only; omega⟩, bD rfl rfl (Nat.le_refl _)⟩ ?_
   rintro ⟨i, j, d1, c⟩ ⟨hr, hs1, hai, hjn, hc⟩ n0
   simp only at hr hs1 hai hjn hc ⊢
   clear hsw hsw2 ei ej
   obtain ⟨i3, hi3⟩ : ∃ i3, Sort.scanUp (fun x => ltN x d1[a]!) d1 j i = i3 := ⟨_, rfl⟩
   have gi3 := Sort.scanUp_ge (fun x => ltN x d1[a]!) d1 j i
   rw [hi3] at gi3
   obtain ⟨j3, hj3⟩ : ∃ j3, Sort.scanDown (fun x => !ltN x d1[a]!) d1 i3 j = j3 := ⟨_, rfl⟩
   have gj3 := Sort.scanDown_le (fun x => !ltN x d1[a]!) d1 i3 j
   rw [hj3] at gj3
   rw [Sort.partLoop_eq, hi3, hj3] at hr
   have hj3n : j3 < n := by omega
   refine aR 5 rfl rfl ?_
   refine aA rfl ?_
   refine pt_up2 hi3 hs1 hjn han hbig hc (fun n3 c3 hc3 => ?_)
   refine aB ?_
   refine aA rfl ?_
   refine pt_dn2 hj3 hs1 hjn (by omega) han hbig hc3 (fun n4 c4 hc4 => ?_)
   refine aB ?_
   refine aA rfl ?_
   refine aA rfl ?_
   refine aC (Γ := aL) [134, 0, 1, 10, 11] (aD _ _) rfl rfl rfl (fun K hK => ?_)
   simp (disch := omega) only [Tryd.f61, go_sem, Nat.reduceAdd, ↓reduceIte]
   refine hK _ ?_
   refine aB ?_
   refine aW (.tmp 134) rfl rfl rfl (fun h => ?_) (fun h => ?_)
   ·skip
    refine aI rfl ?_
    have hij3 : i3 > j3 := by omega
    rw [if_pos hij3] at hr
    simp only [Prod.mk.injEq] at hr
    obtain ⟨rfl, rfl⟩ := hr
    have hsw3 : (d1.setIfInBounds j3 d1[a]!).setIfInBounds a d1[j3]! = Sort.swp d1 j3 a := rfl
    refine bF 4 rfl rfl ?_
    refine aY (nx_ex_out (aZ (bE ?_)) rfl)
    refine aB ?_
    refine aA rfl ?_
    refine bB (Γ := aL) (fun _ => 2) [11] bZ (aD _ _) rfl rfl rfl (by kernel_rfl) (fun K hK => ?_)
    simp (disch := omega) only [Tryd.f61, go_sem, Nat.reduceAdd, ↓reduceIte, hsw3, hs1, Int.toNat_natCast]
    refine hK _ ?_
    refine aB ?_
    refine aA rfl ?_
    refine aC (Γ := aL) [8, 9] (aD _ _) rfl rfl rfl (fun K hK => ?_)
    simp (disch := omega) only [Tryd.f61, go_sem, Nat.reduceAdd, ↓reduceIte]
    refine hK _ ?_
    refine aB ?_
    refine aS rfl ?_
    exact ⟨rfl, by simp only [aV, if_true], rfl, dZ _⟩
   ·skip
    refine aI rfl ?_
    have hij3 : ¬ i3 > j3 := by omega
    rw [if_neg hij3] at hr
    have hi3n : i3 < n := by omega
    have hsw3 : (d1.setIfInBounds i3 d1[j3]!).setIfInBounds j3 d1[i3]! = Sort.swp d1 i3 j3 := rfl
    have ej3 : (j3 : Int) - 1 = ((j3 - 1 : Nat) : Int) := by omega
    refine aQ rfl ?_
    refine aB ?_
    refine aA rfl ?_
    refine bB (Γ := aL) (fun _ => 2) [0, 1, 10, 11] bZ (aD _ _) rfl rfl rfl (by kernel_rfl) (fun K hK => ?_)
    simp (disch := omega) only [Tryd.f61, go_sem, Nat.reduceAdd, ↓reduceIte, hsw3, hs1, Int.toNat_natCast]
    refine hK _ ?_
    refine aB ?_
    refine aA rfl ?_
    refine aC (Γ := aL) [0, 1, 10, 11] (aD _ _) rfl rfl rfl (fun K hK => ?_)
    simp (disch := omega) only [Tryd.f61, go_sem, Nat.reduceAdd, ↓reduceIte]
    refine hK _ ?_
    refine aB ?_
    refine aC (Γ := aL) [0, 1, 10, 11] (aD _ _) rfl rfl rfl (fun K hK => ?_)
    simp (disch := omega) only [Tryd.f61, go_sem, Nat.reduceAdd, ↓reduceIte, ej3]
    refine hK _ ?_
    refine bU (bT ?_)
    refine ⟨⟨i3 + 1, j3 - 1, Sort.swp d1 i3 j3, _⟩, ⟨hr, by simp only [cW]; exact hs1, by simp only; omega, by simp only; omega, by simp only; omega⟩, by simp only; omega, ⟨fun _ => .inr (by simp only [Int.natCast_add, Int.natCast_one]), bS (by simp (disch := omega) only [aV, ↓reduceIte, eq_self]) cB, Nat.le_refl _⟩⟩
 ·cases hg
theorem oku101 : bX Tryd.prog GLh 61 (.heap (dP ptG)) := ⟨⟨_, Tryd.func61, rfl, rfl⟩, pt_ok⟩
def peG : List AV → List AV → Option (AV × List AV)
 | [.os _ 0 n 1 _, .i a, .i b, .i p], xs => aK (unA xs) fun l => aN (l.length = n ∧ 0 ≤ a ∧ a < b ∧ b ≤ n ∧ 0 ≤ p ∧ p < n ∧ n ≤ 1000000) (some (.i (Sort.partitionEqual ltN l.toArray a.toNat b.toNat p.toNat).1, cA (Sort.partitionEqual ltN l.toArray a.toNat b.toNat p.toNat).2))
 | _, _ => none
theorem peG_eq (id n : Nat) (gg : Bool) (a b p : Int) (xs : List AV) : peG [.os id 0 n 1 gg, .i a, .i b, .i p] xs = aK (unA xs) fun l => aN (l.length = n ∧ 0 ≤ a ∧ a < b ∧ b ≤ n ∧ 0 ≤ p ∧ p < n ∧ n ≤ 1000000) (some (.i (Sort.partitionEqual ltN l.toArray a.toNat b.toNat p.toNat).1, cA (Sort.partitionEqual ltN l.toArray a.toNat b.toNat p.toNat).2)) := (rfl)
attribute [go_sem] peG_eq
set_option maxHeartbeats 2000000 in
theorem pe_ok : cQ Tryd.prog GLh 60 (dP peG) := by
 refine dN Tryd.func60 (aT rfl) ?_
 intro id off n e gg rest nx xs r ys hg
 unfold peG at hg
 split at hg
 ·rename_i id2 n2 gg2 a0 b0 p0 heq
  simp only [List.cons.injEq, AV.os.injEq] at heq
  obtain ⟨⟨rfl, rfl, rfl, rfl, rfl⟩, rfl⟩ := heq
  replace hg := aJ hg; obtain ⟨l, hl, hg⟩ := hg
  replace hg := aP hg; obtain ⟨⟨hn, ha, hab, hbn, hp0, hpn, hbig⟩, hg⟩ := hg
  simp only [Option.some.injEq, Prod.mk.injEq] at hg; obtain ⟨rfl, rfl⟩ := hg
  have := dO hl; subst this
  obtain ⟨a, rfl⟩ := Int.eq_ofNat_of_zero_le ha
  obtain ⟨b, rfl⟩ := Int.eq_ofNat_of_zero_le (show 0 ≤ b0 by omega)
  obtain ⟨p, rfl⟩ := Int.eq_ofNat_of_zero_le hp0
  simp only [Int.toNat_natCast] at *
  obtain ⟨d, hd⟩ : ∃ d, l.toArray = d := ⟨_, rfl⟩
  have hds : d.size = n := by rw [← hd]; simpa using hn
  have hab2 : a < b := by omega
  have hbn2 : b ≤ n := by omega
  have hpn2 : p < n := by omega
  rw [hd]
  refine ⟨Nat.le_of_ble_eq_true rfl, fun hid => ?_⟩
  clear hl hn ha hab hbn hp0 hpn
  obtain ⟨⟨M, E⟩, hR⟩ : ∃ R, Sort.partitionEqual ltN d a b p = R := ⟨_, rfl⟩
  rw [hR]
  obtain ⟨D, hD⟩ : ∃ D, Sort.swp d a p = D := ⟨_, rfl⟩
  have hDs : D.size = n := by rw [← hD, cW]; exact hds
  have hsw : (d.setIfInBounds a d[p]!).setIfInBounds p d[a]! = D := hD
  have ea : (a : Int) + 1 = ((a + 1 : Nat) : Int) := by omega
  have eb : (b : Int) - 1 = ((b - 1 : Nat) : Int) := by omega
  have hME : Sort.partEqLoop ltN a (a + 1) (b - 1) D = (M, E) := by rw [← hD]; exact hR
  have han : a < n := by omega
  clear hR
  refine aA rfl ?_
  refine aC (Γ := aL) [0, 1, 2, 3] (aD _ _) rfl rfl rfl (fun K hK => ?_)
  simp (disch := omega) only [Tryd.f60, go_sem, Nat.reduceAdd, ↓reduceIte]
  refine hK _ ?_
  refine aB ?_
  refine aA rfl ?_
  refine bB (Γ := aL) (fun _ => 2) [0, 1, 2] bZ (aD _ _) rfl rfl rfl (by kernel_rfl) (fun K hK => ?_)
  simp (disch := omega) only [Tryd.f60, go_sem, Nat.reduceAdd, ↓reduceIte, hsw, hds, Int.toNat_natCast]
  refine hK _ ?_
  refine aB ?_
  refine aA rfl ?_
  refine aC (Γ := aL) [0, 1, 9, 10] (aD _ _) rfl rfl rfl (fun K hK => ?_)
  simp (disch := omega) only [Tryd.f60, go_sem, Nat.reduceAdd, ↓reduceIte, ea, eb]
  refine hK _ ?_
  refine aB ?_
  refine aA rfl ?_
  refine aR 0 rfl rfl ?_
  refine bR (fun p : SDJ => { fr := [(0, .os id 0 n 1 gg), (1, .i a), (9, .i p.k), (10, .i p.j)], hp := upd (fun _ => none) id (.cells (cA p.d) true), nx := 0, cx := p.c }) (fun p => Sort.partEqLoop ltN a p.k p.j p.d = (M, E) ∧ p.d.size = n ∧ a < p.k ∧ p.j < n ∧ id < p.c) (fun p => p.j + 1 - p.k) rfl ⟨⟨a + 1, b - 1, D, _⟩, ⟨hME, hDs, by simp only; omega, by simp only; omega, by simp only; omega⟩, bD rfl rfl (Nat.le_refl _)⟩ ?_
  rintro ⟨i, j, d1, c⟩ ⟨hr, hs1, hai, hjn, hc⟩ n0
  simp only at hr hs1 hai hjn hc ⊢
  clear hsw ea eb
  obtain ⟨i3, hi3⟩ : ∃ i3, Sort.scanUp (fun x => !ltN d1[a]! x) d1 j i = i3 := ⟨_, rfl⟩
  have gi3 := Sort.scanUp_ge (fun x => !ltN d1[a]! x) d1 j i
  rw [hi3] at gi3
  obtain ⟨j3, hj3⟩ : ∃ j3, Sort.scanDown (fun x => ltN d1[a]! x) d1 i3 j = j3 := ⟨_, rfl⟩
  have gj3 := Sort.scanDown_le (fun x => ltN d1[a]! x) d1 i3 j
  rw [hj3] at gj3
  rw [Sort.partEqLoop_eq, hi3, hj3] at hr
  have hj3n : j3 < n := by omega
  refine aR 1 rfl rfl ?_
  refine aA rfl ?_
  refine pe_up hi3 hs1 hjn han hbig hc (fun n3 c3 hc3 => ?_)
  refine aB ?_
  refine aA rfl ?_
  refine pe_dn hj3 hs1 hjn (by omega) han hbig hc3 (fun n4 c4 hc4 => ?_)
  refine aB ?_
  refine aA rfl ?_
  refine aA rfl ?_
  refine aC (Γ := aL) [64, 0, 1, 9, 10] (aD _ _) rfl rfl rfl (fun K hK => ?_)
  simp (disch := omega) only [Tryd.f60, go_sem, Nat.reduceAdd, ↓reduceIte]
  refine hK _ ?_
  refine aB ?_
  refine aW (.tmp 64) rfl rfl rfl (fun h => ?_) (fun h => ?_)
  ·skip
   refine aI rfl ?_
   have hij3 : i3 > j3 := by omega
   rw [if_pos hij3] at hr
   simp only [Prod.mk.injEq] at hr
   obtain ⟨rfl, rfl⟩ := hr
   refine bF 0 rfl rfl ?_
   refine aY (nx_ex_out (aZ (bE ?_)) rfl)
   refine aB ?_
   refine aA rfl ?_
   refine aC (Γ := aL) [8] (aD _ _) rfl rfl rfl (fun K hK => ?_)
   simp (disch := omega) only [Tryd.f60, go_sem, Nat.reduceAdd, ↓reduceIte]
   refine hK _ ?_
   refine aB ?_
   refine aS rfl ?_
   exact ⟨rfl, by simp only [aV, if_true], rfl, dZ _⟩
  ·skip
   refine aI rfl ?_
   have hij3 : ¬ i3 > j3 := by omega
   rw [if_neg hij3] at hr
   have hi3n : i3 < n := by omega
   have hsw3 : (d1.setIfInBounds i3 d1[j3]!).setIfInBounds j3 d1[i3]! = Sort.swp d1 i3 j3 := rfl
   have ej3 : (j3 : Int) - 1 = ((j3 - 1 : Nat) : Int) := by omega
   refine aQ rfl ?_
   refine aB ?_
   refine aA rfl ?_
   refine bB (Γ := aL) (fun _ => 2) [0, 1, 9, 10] bZ (aD _ _) rfl rfl rfl (by kernel_rfl) (fun K hK => ?_)
   simp (disch := omega) only [Tryd.f60, go_sem, Nat.reduceAdd, ↓reduceIte, hsw3, hs1, Int.toNat_natCast]
   refine hK _ ?_
   refine aB ?_
   refine aA rfl ?_
   refine aC (Γ := aL) [0, 1, 9, 10] (aD _ _) rfl rfl rfl (fun K hK => ?_)
   simp (disch := omega) only [Tryd.f60, go_sem, Nat.reduceAdd, ↓reduceIte]
   refine hK _ ?_
   refine aB ?_
   refine aC (Γ := aL) [0, 1, 9, 10] (aD _ _) rfl rfl rfl (fun K hK => ?_)
   simp (disch := omega) only [Tryd.f60, go_sem, Nat.reduceAdd, ↓reduceIte, ej3]
   refine hK _ ?_
   refine bU (bT ?_)
   refine ⟨⟨i3 + 1, j3 - 1, Sort.swp d1 i3 j3, _⟩, ⟨hr, by simp only [cW]; exact hs1, by simp only; omega, by simp only; omega, by simp only; omega⟩, by simp only; omega, ⟨fun _ => .inr (by simp only [Int.natCast_add, Int.natCast_one]), bS (by simp (disch := omega) only [aV, ↓reduceIte, eq_self]) cB, Nat.le_refl _⟩⟩
 ·cases hg
theorem oku100 : bX Tryd.prog GLh 60 (.heap (dP peG)) := ⟨⟨_, Tryd.func60, rfl, rfl⟩, pe_ok⟩
end Go.AX
namespace Go.AX
open Go Go.Proofs
theorem sd_size : ∀ (j : Nat) (d : Array T32), (Sort.shiftDown ltN j d).size = d.size
 | 0, d => rfl
 | j + 1, d => by
  rw [Sort.shiftDown]
  split
  ·rfl
  ·rw [sd_size j, cW]
theorem su_size (b : Nat) : ∀ (m j : Nat) (d : Array T32), b - j ≤ m → (Sort.shiftUp ltN b j d).size = d.size := by
 intro m
 induction m with
 | zero => intro j d h; rw [Sort.shiftUp, if_neg (by omega)]
 | succ m ih =>
  intro j d h
  rw [Sort.shiftUp]
  split
  ·split
   ·rfl
   ·rw [ih _ _ (by omega), cW]
  ·rfl
theorem ss_le (b : Nat) (d : Array T32) : ∀ (m i : Nat), b - i ≤ m → i ≤ b → i ≤ Sort.scanSorted ltN d b i ∧ Sort.scanSorted ltN d b i ≤ b := by
 intro m
 induction m with
 | zero => intro i h hi; rw [Sort.scanSorted, decide_eq_false (by omega : ¬ i < b), Bool.false_and]; simp only [Bool.false_eq_true, if_false]; omega
 | succ m ih =>
  intro i h hi
  rw [Sort.scanSorted]
  by_cases hib : i < b
  ·split
   ·have := ih (i + 1) (by omega) (by omega); omega
   ·omega
  ·rw [decide_eq_false hib, Bool.false_and]; simp only [Bool.false_eq_true, if_false]; omega
set_option maxHeartbeats 1000000 in
theorem pi_sc {id n a b I I2 nx0 cx0 : Nat} {s : Int} {gg : Bool} {D : Array T32} {Q : Exit → S → Prop} (hI : Sort.scanSorted ltN D b I = I2) (hs : D.size = n) (hI1 : 0 < I) (hb : b ≤ n) (hbig : n ≤ 1000000) (hid : id < cx0)
  (hQ : ∀ n1 c1, id < c1 → Q .normal { fr := [(0, .os id 0 n 1 gg), (1, .i (a : Int)), (2, .i (b : Int)), (7, .i (I2 : Int)), (8, .i s)], hp := upd (fun _ => none) id (.cells (cA D) true), nx := n1, cx := c1 }) :
  Awp Tryd.prog GLh Tryd.f58.ntmps (cl (cl (cl (cr (cl (cl (cr (cl (cr (cr (aE Tryd.f58))))))))))) { fr := [(0, .os id 0 n 1 gg), (1, .i (a : Int)), (2, .i (b : Int)), (7, .i (I : Int)), (8, .i s)], hp := upd (fun _ => none) id (.cells (cA D) true), nx := nx0, cx := cx0 } Q := by
  refine aR 2 rfl rfl ?_
  refine bR (fun q : SKC => { fr := [(0, .os id 0 n 1 gg), (1, .i a), (2, .i b), (7, .i q.k), (8, .i s)], hp := upd (fun _ => none) id (.cells (cA D) true), nx := 0, cx := q.c }) (fun q => Sort.scanSorted ltN D b q.k = I2 ∧ 0 < q.k ∧ id < q.c) (fun q => b - q.k) rfl ⟨⟨I, _⟩, ⟨hI, hI1, hid⟩, bD rfl rfl (Nat.le_refl _)⟩ ?_
  rintro ⟨i, c⟩ ⟨hr, hi, hc⟩ n0
  simp only at hr hi hc ⊢
  by_cases hij : i < b
  ·skip
   have hd1 : decide ((i : Int) < (b : Int)) = true := decide_eq_true (by omega)
   have hin : i < n := by omega
   have ei : (i : Int) - 1 = ((i - 1 : Nat) : Int) := by omega
   obtain ⟨v, hv⟩ : ∃ v, ltN D[i]! D[i - 1]! = v := ⟨_, rfl⟩
   rw [Sort.scanSorted, decide_eq_true hij, Bool.true_and, hv] at hr
   refine aA rfl ?_
   refine aA rfl ?_
   refine bB (Γ := bC [(59, .pure true dY)]) (fun k => if k = 13 then 0 else 2) [32, 0, 1, 2, 7, 8] bZ (aH jC aO) rfl rfl rfl (by kernel_rfl) (fun K hK => ?_)
   simp (disch := omega) only [Tryd.f58, go_sem, Nat.reduceAdd, ↓reduceIte, hd1, ei, hv, Int.toNat_natCast]
   refine hK _ ?_
   refine aB ?_
   cases v
   ·skip
    simp only [Bool.not_false, if_true] at hr
    refine eC (.tmp 32) rfl rfl rfl (fun h => ?_) (fun h => ?_)
    ·skip
     refine aI rfl ?_
     refine aQ rfl ?_
     refine aB ?_
     refine aR 3 rfl rfl ?_
     refine aC (Γ := aL) [0, 1, 2, 7, 8] (aD _ _) rfl rfl rfl (fun K hK => ?_)
     simp (disch := omega) only [Tryd.f58, go_sem, Nat.reduceAdd, ↓reduceIte]
     refine hK _ ?_
     refine bU (bT ?_)
     refine ⟨⟨i + 1, _⟩, ⟨hr, by simp only; omega, by simp only; omega⟩, by simp only; omega, bD (by simp only [Int.natCast_add, Int.natCast_one]) rfl (Nat.le_refl _)⟩
    ·skip
     refine aI rfl ?_
     cases h
   ·skip
    simp only [Bool.not_true, Bool.false_eq_true, if_false] at hr
    subst hr
    refine eC (.tmp 32) rfl rfl rfl (fun h => ?_) (fun h => ?_)
    ·skip
     refine aI rfl ?_
     cases h
    ·skip
     refine aI rfl ?_
     refine bF 2 rfl rfl ?_
     refine aY (aZ (bE ?_))
     exact hQ _ _ (by omega)
  ·skip
   have hd1 : decide ((i : Int) < (b : Int)) = false := decide_eq_false (by omega)
   rw [Sort.scanSorted, decide_eq_false hij, Bool.false_and] at hr
   simp only [Bool.false_eq_true, if_false] at hr
   subst hr
   refine aA rfl ?_
   refine aA rfl ?_
   refine bB (Γ := bC [(59, .pure true dY)]) (fun k => if k = 13 then 0 else 2) [32, 0, 1, 2, 7, 8] bZ (aH jC aO) rfl rfl rfl (by kernel_rfl) (fun K hK => ?_)
   simp (disch := omega) only [Tryd.f58, go_sem, Nat.reduceAdd, reduceCtorEq, ↓reduceIte, hd1]
   refine hK _ ?_
   refine aB ?_
   refine eC (.tmp 32) rfl rfl rfl (fun h => ?_) (fun h => ?_)
   ·skip
    refine aI rfl ?_
    cases h
   ·skip
    refine aI rfl ?_
    refine bF 2 rfl rfl ?_
    refine aY (aZ (bE ?_))
    exact hQ _ _ (by omega)
set_option maxHeartbeats 1000000 in
theorem pi_sd {id n a b i J nx0 cx0 : Nat} {s : Int} {gg : Bool} {D E : Array T32} {Q : Exit → S → Prop} (hE : Sort.shiftDown ltN J D = E) (hs : D.size = n) (hJ : J < n) (hbig : n ≤ 1000000) (hid : id < cx0)
  (hQ : ∀ jj n1 c1, id < c1 → Q .normal { fr := [(0, .os id 0 n 1 gg), (1, .i (a : Int)), (2, .i (b : Int)), (7, .i (i : Int)), (8, .i s), (9, .i jj)], hp := upd (fun _ => none) id (.cells (cA E) true), nx := n1, cx := c1 }) :
  Awp Tryd.prog GLh Tryd.f58.ntmps (cr (cl (cr (cl (cr (cr (cr (cr (cl (cl (cr (cl (cl (cr (cl (cr (cr (aE Tryd.f58)))))))))))))))))) { fr := [(0, .os id 0 n 1 gg), (1, .i (a : Int)), (2, .i (b : Int)), (7, .i (i : Int)), (8, .i s), (9, .i (J : Int))], hp := upd (fun _ => none) id (.cells (cA D) true), nx := nx0, cx := cx0 } Q := by
  refine aR 4 rfl rfl ?_
  refine bR (fun q : SDC => { fr := [(0, .os id 0 n 1 gg), (1, .i a), (2, .i b), (7, .i i), (8, .i s), (9, .i q.k)], hp := upd (fun _ => none) id (.cells (cA q.d) true), nx := 0, cx := q.c }) (fun q => Sort.shiftDown ltN q.k q.d = E ∧ q.d.size = n ∧ q.k < n ∧ id < q.c) (fun q => q.k) rfl ⟨⟨J, D, _⟩, ⟨hE, hs, hJ, hid⟩, bD rfl rfl (Nat.le_refl _)⟩ ?_
  rintro ⟨j, d1, c⟩ ⟨hr, hs1, hj, hc⟩ n0
  simp only at hr hs1 hj hc ⊢
  refine aA rfl ?_
  refine aA rfl ?_
  refine aC (Γ := aL) [65, 0, 1, 2, 7, 8, 9] (aD _ _) rfl rfl rfl (fun K hK => ?_)
  simp (disch := omega) only [Tryd.f58, go_sem, Nat.reduceAdd, ↓reduceIte]
  refine hK _ ?_
  refine aB ?_
  refine aW (.tmp 65) rfl rfl rfl (fun h => ?_) (fun h => ?_)
  ·skip
   refine aI rfl ?_
   obtain ⟨j, rfl⟩ : ∃ j', j = j' + 1 := ⟨j - 1, by omega⟩
   have ej1 : ((j + 1 : Nat) : Int) - 1 = (j : Int) := by omega
   obtain ⟨v, hv⟩ : ∃ v, ltN d1[j + 1]! d1[j]! = v := ⟨_, rfl⟩
   rw [Sort.shiftDown, hv] at hr
   refine aQ rfl ?_
   refine aB ?_
   refine aA rfl ?_
   refine aR 5 rfl rfl ?_
   refine aA rfl ?_
   refine aA rfl ?_
   refine bB (Γ := bC [(59, .pure true dY)]) (fun k => if k = 9 then 0 else 2) [78, 0, 1, 2, 7, 8, 9] bZ (aH jC aO) rfl rfl rfl (by kernel_rfl) (fun K hK => ?_)
   simp (disch := omega) only [Tryd.f58, go_sem, Nat.reduceAdd, ↓reduceIte, ej1, hv, Int.toNat_natCast]
   refine hK _ ?_
   refine aB ?_
   cases v
   ·skip
    simp only [Bool.not_false, if_true] at hr
    subst hr
    refine eC (.tmp 78) rfl rfl rfl (fun h => ?_) (fun h => ?_)
    ·skip
     refine aI rfl ?_
     refine bF 4 rfl rfl ?_
     refine aY (nx_ex_out (aY (aZ (bE ?_))) rfl)
     exact hQ _ _ _ (by omega)
    ·skip
     refine aI rfl ?_
     cases h
   ·skip
    simp only [Bool.not_true, Bool.false_eq_true, if_false] at hr
    refine eC (.tmp 78) rfl rfl rfl (fun h => ?_) (fun h => ?_)
    ·skip
     refine aI rfl ?_
     cases h
    ·skip
     refine aI rfl ?_
     refine aQ rfl ?_
     refine aB ?_
     have hsw : (d1.setIfInBounds (j + 1) d1[j]!).setIfInBounds j d1[j + 1]! = Sort.swp d1 (j + 1) j := rfl
     refine bB (Γ := aL) (fun _ => 2) [0, 1, 2, 7, 8, 9] bZ (aD _ _) rfl rfl rfl (by kernel_rfl) (fun K hK => ?_)
     simp (disch := omega) only [Tryd.f58, go_sem, Nat.reduceAdd, ↓reduceIte, ej1, hsw, Int.toNat_natCast]
     refine hK _ ?_
     refine bU (aB ?_)
     refine aC (Γ := aL) [0, 1, 2, 7, 8, 9] (aD _ _) rfl rfl rfl (fun K hK => ?_)
     simp (disch := omega) only [Tryd.f58, go_sem, Nat.reduceAdd, ↓reduceIte, ej1]
     refine hK _ ?_
     refine bT ?_
     refine ⟨⟨j, Sort.swp d1 (j + 1) j, _⟩, ⟨hr, by simp only [cW]; exact hs1, by simp only; omega, by simp only; omega⟩, by simp only; omega, ⟨fun _ => .inr rfl, bS (by simp (disch := omega) only [aV, ↓reduceIte, eq_self]) cB, Nat.le_refl _⟩⟩
  ·skip
   refine aI rfl ?_
   obtain rfl : j = 0 := by omega
   rw [Sort.shiftDown] at hr
   subst hr
   refine bF 4 rfl rfl ?_
   refine aY (aZ (bE ?_))
   exact hQ _ _ _ (by omega)
set_option maxHeartbeats 1000000 in
theorem pi_su {id n a b i J nx0 cx0 : Nat} {s : Int} {gg : Bool} {D E : Array T32} {Q : Exit → S → Prop} (hE : Sort.shiftUp ltN b J D = E) (hs : D.size = n) (hJ : 0 < J) (hb : b ≤ n) (hbig : n ≤ 1000000) (hid : id < cx0)
  (hQ : ∀ jj n1 c1, id < c1 → Q .normal { fr := [(0, .os id 0 n 1 gg), (1, .i (a : Int)), (2, .i (b : Int)), (7, .i (i : Int)), (8, .i s), (10, .i jj)], hp := upd (fun _ => none) id (.cells (cA E) true), nx := n1, cx := c1 }) :
  Awp Tryd.prog GLh Tryd.f58.ntmps (cr (cl (cr (cr (cr (cr (cr (cr (cl (cl (cr (cl (cl (cr (cl (cr (cr (aE Tryd.f58)))))))))))))))))) { fr := [(0, .os id 0 n 1 gg), (1, .i (a : Int)), (2, .i (b : Int)), (7, .i (i : Int)), (8, .i s), (10, .i (J : Int))], hp := upd (fun _ => none) id (.cells (cA D) true), nx := nx0, cx := cx0 } Q := by
  refine aR 6 rfl rfl ?_
  refine bR (fun q : SDC => { fr := [(0, .os id 0 n 1 gg), (1, .i a), (2, .i b), (7, .i i), (8, .i s), (10, .i q.k)], hp := upd (fun _ => none) id (.cells (cA q.d) true), nx := 0, cx := q.c }) (fun q => Sort.shiftUp ltN b q.k q.d = E ∧ q.d.size = n ∧ 0 < q.k ∧ id < q.c) (fun q => b - q.k) rfl ⟨⟨J, D, _⟩, ⟨hE, hs, hJ, hid⟩, bD rfl rfl (Nat.le_refl _)⟩ ?_
  rintro ⟨j, d1, c⟩ ⟨hr, hs1, hj, hc⟩ n0
  simp only at hr hs1 hj hc ⊢
  refine aA rfl ?_
  refine aA rfl ?_
  refine aC (Γ := aL) [103, 0, 1, 2, 7, 8, 10] (aD _ _) rfl rfl rfl (fun K hK => ?_)
  simp (disch := omega) only [Tryd.f58, go_sem, Nat.reduceAdd, ↓reduceIte]
  refine hK _ ?_
  refine aB ?_
  refine aW (.tmp 103) rfl rfl rfl (fun h => ?_) (fun h => ?_)
  ·skip
   refine aI rfl ?_
   have hjb : j < b := by omega
   have hjn : j < n := by omega
   have ej1 : (j : Int) - 1 = ((j - 1 : Nat) : Int) := by omega
   obtain ⟨v, hv⟩ : ∃ v, ltN d1[j]! d1[j - 1]! = v := ⟨_, rfl⟩
   rw [Sort.shiftUp, if_pos hjb, hv] at hr
   refine aQ rfl ?_
   refine aB ?_
   refine aA rfl ?_
   refine aR 7 rfl rfl ?_
   refine aA rfl ?_
   refine aA rfl ?_
   refine bB (Γ := bC [(59, .pure true dY)]) (fun k => if k = 9 then 0 else 2) [116, 0, 1, 2, 7, 8, 10] bZ (aH jC aO) rfl rfl rfl (by kernel_rfl) (fun K hK => ?_)
   simp (disch := omega) only [Tryd.f58, go_sem, Nat.reduceAdd, ↓reduceIte, ej1, hv, Int.toNat_natCast]
   refine hK _ ?_
   refine aB ?_
   cases v
   ·skip
    simp only [Bool.not_false, if_true] at hr
    subst hr
    refine eC (.tmp 116) rfl rfl rfl (fun h => ?_) (fun h => ?_)
    ·skip
     refine aI rfl ?_
     refine bF 6 rfl rfl ?_
     refine aY (nx_ex_out (aY (aZ (bE ?_))) rfl)
     exact hQ _ _ _ (by omega)
    ·skip
     refine aI rfl ?_
     cases h
   ·skip
    simp only [Bool.not_true, Bool.false_eq_true, if_false] at hr
    refine eC (.tmp 116) rfl rfl rfl (fun h => ?_) (fun h => ?_)
    ·skip
     refine aI rfl ?_
     cases h
    ·skip
     refine aI rfl ?_
     refine aQ rfl ?_
     refine aB ?_
     have hsw : (d1.setIfInBounds j d1[j - 1]!).setIfInBounds (j - 1) d1[j]! = Sort.swp d1 j (j - 1) := rfl
     refine bB (Γ := aL) (fun _ => 2) [0, 1, 2, 7, 8, 10] bZ (aD _ _) rfl rfl rfl (by kernel_rfl) (fun K hK => ?_)
     simp (disch := omega) only [Tryd.f58, go_sem, Nat.reduceAdd, ↓reduceIte, ej1, hsw, Int.toNat_natCast]
     refine hK _ ?_
     refine bU (aB ?_)
     refine aC (Γ := aL) [0, 1, 2, 7, 8, 10] (aD _ _) rfl rfl rfl (fun K hK => ?_)
     simp (disch := omega) only [Tryd.f58, go_sem, Nat.reduceAdd, ↓reduceIte]
     refine hK _ ?_
     refine bT ?_
     refine ⟨⟨j + 1, Sort.swp d1 j (j - 1), _⟩, ⟨hr, by simp only [cW]; exact hs1, by simp only; omega, by simp only; omega⟩, by simp only; omega, ⟨fun _ => .inr (by simp only [Int.natCast_add, Int.natCast_one]), bS (by simp (disch := omega) only [aV, ↓reduceIte, eq_self]) cB, Nat.le_refl _⟩⟩
  ·skip
   refine aI rfl ?_
   have hjb : ¬ j < b := by omega
   rw [Sort.shiftUp, if_neg hjb] at hr
   subst hr
   refine bF 6 rfl rfl ?_
   refine aY (aZ (bE ?_))
   exact hQ _ _ _ (by omega)
structure SPI where
 s : Nat
 i : Nat
 d : Array T32
 c : Nat
def piG : List AV → List AV → Option (AV × List AV)
 | [.os _ 0 n 1 _, .i a, .i b], xs => aK (unA xs) fun l => aN (l.length = n ∧ 0 ≤ a ∧ a < b ∧ b ≤ n ∧ n ≤ 1000000) (some (.b (Sort.partialInsertionSort ltN l.toArray a.toNat b.toNat).2, cA (Sort.partialInsertionSort ltN l.toArray a.toNat b.toNat).1))
 | _, _ => none
theorem piG_eq (id n : Nat) (gg : Bool) (a b : Int) (xs : List AV) : piG [.os id 0 n 1 gg, .i a, .i b] xs = aK (unA xs) fun l => aN (l.length = n ∧ 0 ≤ a ∧ a < b ∧ b ≤ n ∧ n ≤ 1000000) (some (.b (Sort.partialInsertionSort ltN l.toArray a.toNat b.toNat).2, cA (Sort.partialInsertionSort ltN l.toArray a.toNat b.toNat).1)) := (rfl)
attribute [go_sem] piG_eq
set_option maxHeartbeats 2000000 in
theorem pi_ok : cQ Tryd.prog GLh 58 (dP piG) := by
 refine dN Tryd.func58 (aT rfl) ?_
 intro id off n e gg rest nx xs r ys hg
 unfold piG at hg
 split at hg
 ·rename_i id2 n2 gg2 a0 b0 heq
  simp only [List.cons.injEq, AV.os.injEq] at heq
  obtain ⟨⟨rfl, rfl, rfl, rfl, rfl⟩, rfl⟩ := heq
  replace hg := aJ hg; obtain ⟨l, hl, hg⟩ := hg
  replace hg := aP hg; obtain ⟨⟨hn, ha, hab, hbn, hbig⟩, hg⟩ := hg
  simp only [Option.some.injEq, Prod.mk.injEq] at hg; obtain ⟨rfl, rfl⟩ := hg
  have := dO hl; subst this
  obtain ⟨a, rfl⟩ := Int.eq_ofNat_of_zero_le ha
  obtain ⟨b, rfl⟩ := Int.eq_ofNat_of_zero_le (show 0 ≤ b0 by omega)
  simp only [Int.toNat_natCast] at *
  obtain ⟨d, hd⟩ : ∃ d, l.toArray = d := ⟨_, rfl⟩
  have hds : d.size = n := by rw [← hd]; simpa using hn
  have hab2 : a < b := by omega
  have hbn2 : b ≤ n := by omega
  rw [hd]
  refine ⟨Nat.le_of_ble_eq_true rfl, fun hid => ?_⟩
  clear hl hn ha hab hbn
  obtain ⟨⟨E, F⟩, hR⟩ : ∃ R, Sort.partialInsertionSort ltN d a b = R := ⟨_, rfl⟩
  rw [hR]
  have hR0 : Sort.partialIns ltN a b 5 (a + 1) d = (E, F) := hR
  clear hR
  have ebL : (b : Int) - (a : Int) = ((b - a : Nat) : Int) := by omega
  refine aA rfl ?_
  refine aC (Γ := aL) [0, 1, 2] (aD _ _) rfl rfl rfl (fun K hK => ?_)
  simp (disch := omega) only [Tryd.f58, go_sem, Nat.reduceAdd, ↓reduceIte]
  refine hK _ ?_
  refine aB ?_
  refine aA rfl ?_
  refine aC (Γ := aL) [0, 1, 2, 7] (aD _ _) rfl rfl rfl (fun K hK => ?_)
  simp (disch := omega) only [Tryd.f58, go_sem, Nat.reduceAdd, ↓reduceIte]
  refine hK _ ?_
  refine aB ?_
  refine aA rfl ?_
  refine aA rfl ?_
  refine aC (Γ := aL) [0, 1, 2, 7, 8] (aD _ _) rfl rfl rfl (fun K hK => ?_)
  simp (disch := omega) only [Tryd.f58, go_sem, ↓reduceIte]
  refine hK _ ?_
  refine aB ?_
  refine aR 0 rfl rfl ?_
  refine bR (fun p : SPI => { fr := [(0, .os id 0 n 1 gg), (1, .i a), (2, .i b), (7, .i p.i), (8, .i (5 - (p.s : Int)))], hp := upd (fun _ => none) id (.cells (cA p.d) true), nx := 0, cx := p.c }) (fun p => Sort.partialIns ltN a b p.s p.i p.d = (E, F) ∧ p.d.size = n ∧ a < p.i ∧ p.i ≤ b ∧ p.s ≤ 5 ∧ id < p.c) (fun p => p.s) rfl ⟨⟨5, a + 1, d, _⟩, ⟨hR0, hds, by simp only; omega, by simp only; omega, by simp only; omega, by simp only; omega⟩, bD (by simp only [Int.natCast_add, Int.cast_ofNat_Int, Int.sub_self]) rfl (Nat.le_refl _)⟩ ?_
  rintro ⟨s, i, d1, c⟩ ⟨hr, hs1, hai, hib, hs5, hc⟩ n0
  simp only at hr hs1 hai hib hs5 hc ⊢
  refine aA rfl ?_
  refine aA rfl ?_
  refine aC (Γ := aL) [14, 0, 1, 2, 7, 8] (aD _ _) rfl rfl rfl (fun K hK => ?_)
  simp (disch := omega) only [Tryd.f58, go_sem, Nat.reduceAdd, ↓reduceIte]
  refine hK _ ?_
  refine aB ?_
  refine aW (.tmp 14) rfl rfl rfl (fun h => ?_) (fun h => ?_)
  ·skip
   refine aI rfl ?_
   obtain ⟨s, rfl⟩ : ∃ s', s = s' + 1 := ⟨s - 1, by omega⟩
   obtain ⟨i2, hi2⟩ : ∃ i2, Sort.scanSorted ltN d1 b i = i2 := ⟨_, rfl⟩
   have gi2 := ss_le b d1 _ i (Nat.le_refl _) hib
   rw [hi2] at gi2
   rw [Sort.partialIns, hi2] at hr
   refine aQ rfl ?_
   refine aB ?_
   refine aA rfl ?_
   refine aR 1 rfl rfl ?_
   refine aA rfl ?_
   refine pi_sc hi2 hs1 (by omega) hbn2 hbig (by omega) (fun n1 c1 hc1 => ?_)
   refine aB ?_
   refine aA rfl ?_
   refine aA rfl ?_
   refine aC (Γ := aL) [37, 0, 1, 2, 7, 8] (aD _ _) rfl rfl rfl (fun K hK => ?_)
   simp (disch := omega) only [Tryd.f58, go_sem, Nat.reduceAdd, ↓reduceIte]
   refine hK _ ?_
   refine aB ?_
   refine aW (.tmp 37) rfl rfl rfl (fun h => ?_) (fun h => ?_)
   ·skip
    refine aI rfl ?_
    have hib2 : i2 = b := by omega
    rw [if_pos hib2] at hr
    simp only [Prod.mk.injEq] at hr
    obtain ⟨rfl, rfl⟩ := hr
    refine aA rfl ?_
    refine aC (Γ := aL) [6] (aD _ _) rfl rfl rfl (fun K hK => ?_)
    simp (disch := omega) only [Tryd.f58, go_sem, ↓reduceIte]
    refine hK _ ?_
    refine aB ?_
    refine aS rfl ?_
    refine bI (bN (bI (dF (bN (bI ?_)))))
    exact ⟨rfl, by simp only [aV, if_true], rfl, dZ _⟩
   ·skip
    refine aI rfl ?_
    have hib2 : ¬ i2 = b := by omega
    rw [if_neg hib2] at hr
    refine aQ rfl ?_
    refine aB ?_
    refine aA rfl ?_
    refine aA rfl ?_
    refine aC (Γ := aL) [41, 0, 1, 2, 7, 8] (aD _ _) rfl rfl rfl (fun K hK => ?_)
    simp (disch := omega) only [Tryd.f58, go_sem, Nat.reduceAdd, ↓reduceIte]
    refine hK _ ?_
    refine aB ?_
    refine aW (.tmp 41) rfl rfl rfl (fun h => ?_) (fun h => ?_)
    ·skip
     refine aI rfl ?_
     have hab50 : b - a < 50 := by omega
     rw [if_pos hab50] at hr
     simp only [Prod.mk.injEq] at hr
     obtain ⟨rfl, rfl⟩ := hr
     refine aA rfl ?_
     refine aC (Γ := aL) [6] (aD _ _) rfl rfl rfl (fun K hK => ?_)
     simp (disch := omega) only [Tryd.f58, go_sem, ↓reduceIte]
     refine hK _ ?_
     refine aB ?_
     refine aS rfl ?_
     refine bI (bN (bI (dF (bN (bI ?_)))))
     exact ⟨rfl, by simp only [aV, if_true], rfl, dZ _⟩
    ·skip
     refine aI rfl ?_
     have hab50 : ¬ b - a < 50 := by omega
     rw [if_neg hab50] at hr
     refine aQ rfl ?_
     refine aB ?_
     refine aA rfl ?_
     have hin : i2 < n := by omega
     have ei2 : (i2 : Int) - 1 = ((i2 - 1 : Nat) : Int) := by omega
     have hsw : (d1.setIfInBounds i2 d1[i2 - 1]!).setIfInBounds (i2 - 1) d1[i2]! = Sort.swp d1 i2 (i2 - 1) := rfl
     refine bB (Γ := aL) (fun _ => 2) [0, 1, 2, 7, 8] bZ (aD _ _) rfl rfl rfl (by kernel_rfl) (fun K hK => ?_)
     simp (disch := omega) only [Tryd.f58, go_sem, Nat.reduceAdd, ↓reduceIte, ei2, hsw, Int.toNat_natCast]
     refine hK _ ?_
     refine aB ?_
     obtain ⟨d2, hd2⟩ : ∃ d2, Sort.swp d1 i2 (i2 - 1) = d2 := ⟨_, rfl⟩
     have hs2 : d2.size = n := by rw [← hd2, cW]; exact hs1
     rw [hd2]
     simp only [hd2] at hr
     have e5 : 5 - ((s + 1 : Nat) : Int) + 1 = 5 - (s : Int) := by omega
     have ei3 : (i2 : Int) + 1 = ((i2 + 1 : Nat) : Int) := by omega
     clear hsw
     refine aA rfl ?_
     refine aA rfl ?_
     refine aC (Γ := aL) [61, 0, 1, 2, 7, 8] (aD _ _) rfl rfl rfl (fun K hK => ?_)
     simp (disch := omega) only [Tryd.f58, go_sem, Nat.reduceAdd, ↓reduceIte]
     refine hK _ ?_
     refine aB ?_
     refine aW (.tmp 61) rfl rfl rfl (fun h => ?_) (fun h => ?_)
     ·skip
      refine aI rfl ?_
      have hia : i2 - a ≥ 2 := by omega
      simp only [if_pos hia] at hr
      obtain ⟨d3, hd3⟩ : ∃ d3, Sort.shiftDown ltN (i2 - 1) d2 = d3 := ⟨_, rfl⟩
      have hs3 : d3.size = n := by rw [← hd3, sd_size]; exact hs2
      rw [hd3] at hr
      refine aA rfl ?_
      refine aC (Γ := aL) [0, 1, 2, 7, 8, 9] (aD _ _) rfl rfl rfl (fun K hK => ?_)
      simp (disch := omega) only [Tryd.f58, go_sem, Nat.reduceAdd, ↓reduceIte, ei2]
      refine hK _ ?_
      refine aB ?_
      refine pi_sd hd3 hs2 (by omega) hbig (by omega) (fun jj n2 c2 hc2 => ?_)
      refine aB ?_
      refine aA rfl ?_
      refine aC (Γ := aL) [98, 0, 1, 2, 7, 8] (aD _ _) rfl rfl rfl (fun K hK => ?_)
      simp (disch := omega) only [Tryd.f58, go_sem, Nat.reduceAdd, ↓reduceIte]
      refine hK _ ?_
      refine aB ?_
      refine aW (.tmp 98) rfl rfl rfl (fun h => ?_) (fun h => ?_)
      ·skip
       refine aI rfl ?_
       have hbi : b - i2 ≥ 2 := by omega
       simp only [if_pos hbi] at hr
       obtain ⟨d4, hd4⟩ : ∃ d4, Sort.shiftUp ltN b (i2 + 1) d3 = d4 := ⟨_, rfl⟩
       have hs4 : d4.size = n := by rw [← hd4, su_size b _ _ _ (Nat.le_refl _)]; exact hs3
       rw [hd4] at hr
       refine aA rfl ?_
       refine aC (Γ := aL) [0, 1, 2, 7, 8, 10] (aD _ _) rfl rfl rfl (fun K hK => ?_)
       simp (disch := omega) only [Tryd.f58, go_sem, Nat.reduceAdd, ↓reduceIte, ei3]
       refine hK _ ?_
       refine aB ?_
       refine pi_su hd4 hs3 (by omega) hbn2 hbig (by omega) (fun jj n3 c3 hc3 => ?_)
       refine bU (aB ?_)
       refine aC (Γ := aL) [0, 1, 2, 7, 8] (aD _ _) rfl rfl rfl (fun K hK => ?_)
       simp (disch := omega) only [Tryd.f58, go_sem, Nat.reduceAdd, ↓reduceIte]
       refine hK _ ?_
       refine bT ?_
       refine ⟨⟨s, i2, d4, _⟩, ⟨hr, hs4, by simp only; omega, by simp only; omega, by simp only; omega, by simp only; omega⟩, by simp only; omega, bD (by simp only [e5]) rfl (Nat.le_refl _)⟩
      ·skip
       refine aI rfl ?_
       have hbi : ¬ b - i2 ≥ 2 := by omega
       simp only [if_neg hbi] at hr
       refine aQ rfl ?_
       refine bU (aB ?_)
       refine aC (Γ := aL) [0, 1, 2, 7, 8] (aD _ _) rfl rfl rfl (fun K hK => ?_)
       simp (disch := omega) only [Tryd.f58, go_sem, Nat.reduceAdd, ↓reduceIte]
       refine hK _ ?_
       refine bT ?_
       refine ⟨⟨s, i2, d3, _⟩, ⟨hr, hs3, by simp only; omega, by simp only; omega, by simp only; omega, by simp only; omega⟩, by simp only; omega, bD (by simp only [e5]) rfl (Nat.le_refl _)⟩
     ·skip
      refine aI rfl ?_
      have hia : ¬ i2 - a ≥ 2 := by omega
      simp only [if_neg hia] at hr
      refine aQ rfl ?_
      refine aB ?_
      refine aA rfl ?_
      refine aC (Γ := aL) [98, 0, 1, 2, 7, 8] (aD _ _) rfl rfl rfl (fun K hK => ?_)
      simp (disch := omega) only [Tryd.f58, go_sem, Nat.reduceAdd, ↓reduceIte]
      refine hK _ ?_
      refine aB ?_
      refine aW (.tmp 98) rfl rfl rfl (fun h => ?_) (fun h => ?_)
      ·skip
       refine aI rfl ?_
       have hbi : b - i2 ≥ 2 := by omega
       simp only [if_pos hbi] at hr
       obtain ⟨d4, hd4⟩ : ∃ d4, Sort.shiftUp ltN b (i2 + 1) d2 = d4 := ⟨_, rfl⟩
       have hs4 : d4.size = n := by rw [← hd4, su_size b _ _ _ (Nat.le_refl _)]; exact hs2
       rw [hd4] at hr
       refine aA rfl ?_
       refine aC (Γ := aL) [0, 1, 2, 7, 8, 10] (aD _ _) rfl rfl rfl (fun K hK => ?_)
       simp (disch := omega) only [Tryd.f58, go_sem, Nat.reduceAdd, ↓reduceIte, ei3]
       refine hK _ ?_
       refine aB ?_
       refine pi_su hd4 hs2 (by omega) hbn2 hbig (by omega) (fun jj n3 c3 hc3 => ?_)
       refine bU (aB ?_)
       refine aC (Γ := aL) [0, 1, 2, 7, 8] (aD _ _) rfl rfl rfl (fun K hK => ?_)
       simp (disch := omega) only [Tryd.f58, go_sem, Nat.reduceAdd, ↓reduceIte]
       refine hK _ ?_
       refine bT ?_
       refine ⟨⟨s, i2, d4, _⟩, ⟨hr, hs4, by simp only; omega, by simp only; omega, by simp only; omega, by simp only; omega⟩, by simp only; omega, bD (by simp only [e5]) rfl (Nat.le_refl _)⟩
      ·skip
       refine aI rfl ?_
       have hbi : ¬ b - i2 ≥ 2 := by omega
       simp only [if_neg hbi] at hr
       refine aQ rfl ?_
       refine bU (aB ?_)
       refine aC (Γ := aL) [0, 1, 2, 7, 8] (aD _ _) rfl rfl rfl (fun K hK => ?_)
       simp (disch := omega) only [Tryd.f58, go_sem, Nat.reduceAdd, ↓reduceIte]
       refine hK _ ?_
       refine bT ?_
       refine ⟨⟨s, i2, d2, _⟩, ⟨hr, hs2, by simp only; omega, by simp only; omega, by simp only; omega, by simp only; omega⟩, by simp only; omega, bD (by simp only [e5]) rfl (Nat.le_refl _)⟩
  ·skip
   refine aI rfl ?_
   obtain rfl : s = 0 := by omega
   rw [Sort.partialIns] at hr
   simp only [Prod.mk.injEq] at hr
   obtain ⟨rfl, rfl⟩ := hr
   refine bF 0 rfl rfl ?_
   refine aY (aZ (bE ?_))
   refine aB ?_
   refine aA rfl ?_
   refine aC (Γ := aL) [6] (aD _ _) rfl rfl rfl (fun K hK => ?_)
   simp (disch := omega) only [Tryd.f58, go_sem, ↓reduceIte]
   refine hK _ ?_
   refine aB ?_
   refine aS rfl ?_
   exact ⟨rfl, by simp only [aV, if_true], rfl, dZ _⟩
 ·cases hg
theorem oku98 : bX Tryd.prog GLh 58 (.heap (dP piG)) := ⟨⟨_, Tryd.func58, rfl, rfl⟩, pi_ok⟩
end Go.AX
namespace Go.AX
open Go Go.Proofs
noncomputable def guardC {α : Type} (p : Prop) (x : Option α) : Option α := @aN _ p (Classical.propDecidable p) x
theorem guardC_inv {α : Type} {p : Prop} {x : Option α} {y : α} (h : guardC p x = some y) : p ∧ x = some y := @aP _ p (Classical.propDecidable p) x y h
theorem guardC_T {α : Type} (x : Option α) : guardC True x = x := @cU _ True (Classical.propDecidable True) x trivial
attribute [go_sem] guardC_T
noncomputable def pdqG (N : Nat) : List AV → List AV → Option (AV × List AV)
 | [.os _ 0 n 1 _, .i a, .i b, .i k], xs => aK (unA xs) fun l => aN (l.length = n ∧ 0 ≤ a ∧ a ≤ b ∧ b ≤ n ∧ 0 ≤ k ∧ k ≤ 1000 ∧ n ≤ 1000000 ∧ b - a < N) (guardC (Sort.Below ltN a.toNat b.toNat l.toArray) (some (.tup [], cA (Sort.pdq ltN l.toArray a.toNat b.toNat k.toNat true true))))
 | _, _ => none
theorem pdqG_eq (N id n : Nat) (gg : Bool) (a b k : Int) (xs : List AV) : pdqG N [.os id 0 n 1 gg, .i a, .i b, .i k] xs = aK (unA xs) fun l => aN (l.length = n ∧ 0 ≤ a ∧ a ≤ b ∧ b ≤ n ∧ 0 ≤ k ∧ k ≤ 1000 ∧ n ≤ 1000000 ∧ b - a < N) (guardC (Sort.Below ltN a.toNat b.toNat l.toArray) (some (.tup [], cA (Sort.pdq ltN l.toArray a.toNat b.toNat k.toNat true true)))) := (rfl)
attribute [go_sem] pdqG_eq
structure SPQ where
 a : Nat
 b : Nat
 l : Nat
 wb : Bool
 wp : Bool
 d : Array T32
 c : Nat
theorem pdq_ok0 : cQ Tryd.prog GLh 48 (dP (pdqG 0)) := by
 refine dN Tryd.func48 (aT rfl) ?_
 intro id off n e gg rest nx xs r ys hg
 exfalso
 unfold pdqG at hg
 split at hg
 ·replace hg := aJ hg; obtain ⟨l, hl, hg⟩ := hg
  replace hg := aP hg; obtain ⟨⟨hn, ha, hab, hbn, hk, hk2, hbig, hN⟩, hg⟩ := hg
  omega
 ·cases hg
theorem perm_if {a b : Nat} {d x : Array T32} (c : Prop) [Decidable c] (h : Sort.PermIn a b d x) : Sort.PermIn a b d (if c then x else d) := by
 split
 ·exact h
 ·exact Sort.permIn_refl _ _ _
set_option maxHeartbeats 1000000 in
theorem pd_brk {id n a b k L nx0 cx0 : Nat} {gg wb wp : Bool} {d : Array T32} {Q : Exit → S → Prop} {k1 : Nat} {d1 : Array T32} (hd1 : (if (!wb) = true then Sort.breakPatterns d a b else d) = d1) (hk1 : (if (!wb) = true then k - 1 else k) = k1) (hk : 0 < k) (hk2 : k ≤ 1000) (hds : d.size = n) (hab : a < b) (hbn : b ≤ n) (hbig : n ≤ 1000000) (hid : id < cx0)
  (hQ : ∀ n1 c1, id < c1 → Q .normal { fr := [(0, .os id 0 n 1 gg), (1, .i (a : Int)), (2, .i (b : Int)), (3, .i (k1 : Int)), (8, .b wb), (9, .b wp), (10, .i (L : Int))], hp := upd (fun _ => none) id (.cells (cA d1) true), nx := n1, cx := c1 }) :
  Awp Tryd.prog GLh Tryd.f48.ntmps (cl (cr (cr (cr (cl (cl (cl (cr (cr (aE Tryd.f48)))))))))) { fr := [(0, .os id 0 n 1 gg), (1, .i (a : Int)), (2, .i (b : Int)), (3, .i (k : Int)), (8, .b wb), (9, .b wp), (10, .i (L : Int))], hp := upd (fun _ => none) id (.cells (cA d) true), nx := nx0, cx := cx0 } Q := by
  cases wb
  ·skip
   simp only [Bool.not_false, if_true] at hd1 hk1
   have ek : (k : Int) - 1 = (k1 : Int) := by omega
   refine aA rfl ?_
   refine aC (Γ := aL) [35, 0, 1, 2, 3, 8, 9, 10] (aD _ _) rfl rfl rfl (fun K hK => ?_)
   simp (disch := omega) only [Tryd.f48, go_sem, Nat.reduceAdd, ↓reduceIte]
   refine hK _ ?_
   refine aB ?_
   refine eC (.tmp 35) rfl rfl rfl (fun h => ?_) (fun h => ?_)
   ·skip
    refine aI rfl ?_
    refine aA rfl ?_
    refine aC (Γ := bC [(55, .heap (dP brkG))]) [0, 1, 2, 3, 8, 9, 10] (aH oku95 aO) rfl rfl rfl (fun K hK => ?_)
    simp (disch := omega) only [Tryd.f48, go_sem, Nat.reduceAdd, ↓reduceIte, hds, hd1, Int.toNat_natCast]
    refine hK _ ?_
    refine aB ?_
    refine aC (Γ := aL) [0, 1, 2, 3, 8, 9, 10] (aD _ _) rfl rfl rfl (fun K hK => ?_)
    simp (disch := omega) only [Tryd.f48, go_sem, Nat.reduceAdd, ↓reduceIte, ek]
    refine hK _ ?_
    exact hQ _ _ (by omega)
   ·skip
    refine aI rfl ?_
    cases h
  ·skip
   simp only [Bool.not_true, Bool.false_eq_true, if_false] at hd1 hk1
   subst hd1; subst hk1
   refine aA rfl ?_
   refine aC (Γ := aL) [35, 0, 1, 2, 3, 8, 9, 10] (aD _ _) rfl rfl rfl (fun K hK => ?_)
   simp (disch := omega) only [Tryd.f48, go_sem, Nat.reduceAdd, ↓reduceIte]
   refine hK _ ?_
   refine aB ?_
   refine eC (.tmp 35) rfl rfl rfl (fun h => ?_) (fun h => ?_)
   ·skip
    refine aI rfl ?_
    cases h
   ·skip
    refine aI rfl ?_
    refine aQ rfl ?_
    exact hQ _ _ (by omega)
set_option maxHeartbeats 1000000 in
theorem pd_rev {id n a b k L nx0 cx0 : Nat} {gg wb wp : Bool} {d : Array T32} {Q : Exit → S → Prop} {pv pv2 : Nat} {ht ht2 : Sort.Hint} {d2 : Array T32} (hd2 : (if ht = Sort.Hint.decreasing then Sort.reverseRange d a b else d) = d2) (hpv2 : (if ht = Sort.Hint.decreasing then (b - 1) - (pv - a) else pv) = pv2) (hht2 : (if ht = Sort.Hint.decreasing then Sort.Hint.increasing else ht) = ht2) (hpa : a ≤ pv) (hpb : pv < b) (hds : d.size = n) (hab : a < b) (hbn : b ≤ n) (hbig : n ≤ 1000000) (hid : id < cx0)
  (hQ : ∀ n1 c1, id < c1 → Q .normal { fr := [(0, .os id 0 n 1 gg), (1, .i (a : Int)), (2, .i (b : Int)), (3, .i (k : Int)), (8, .b wb), (9, .b wp), (10, .i (L : Int)), (11, .i (pv2 : Int)), (12, .i (gM ht2))], hp := upd (fun _ => none) id (.cells (cA d2) true), nx := n1, cx := c1 }) :
  Awp Tryd.prog GLh Tryd.f48.ntmps (cl (cr (cr (cr (cr (cr (cl (cl (cl (cr (cr (aE Tryd.f48)))))))))))) { fr := [(0, .os id 0 n 1 gg), (1, .i (a : Int)), (2, .i (b : Int)), (3, .i (k : Int)), (8, .b wb), (9, .b wp), (10, .i (L : Int)), (11, .i (pv : Int)), (12, .i (gM ht))], hp := upd (fun _ => none) id (.cells (cA d) true), nx := nx0, cx := cx0 } Q := by
  cases ht
  ·skip
   simp only [reduceCtorEq, if_false] at hd2 hpv2 hht2
   subst hd2; subst hpv2; subst hht2
   refine aA rfl ?_
   refine aC (Γ := aL) [50, 0, 1, 2, 3, 8, 9, 10, 11, 12] (aD _ _) rfl rfl rfl (fun K hK => ?_)
   simp (disch := omega) only [Tryd.f48, go_sem, Nat.reduceAdd, Int.reduceEq, ↓reduceIte, gM, decide_false]
   refine hK _ ?_
   refine aB ?_
   refine eC (.tmp 50) rfl rfl rfl (fun h => ?_) (fun h => ?_)
   ·skip
    refine aI rfl ?_
    cases h
   ·skip
    refine aI rfl ?_
    refine aQ rfl ?_
    exact hQ _ _ (by omega)
  ·skip
   simp only [reduceCtorEq, if_false] at hd2 hpv2 hht2
   subst hd2; subst hpv2; subst hht2
   refine aA rfl ?_
   refine aC (Γ := aL) [50, 0, 1, 2, 3, 8, 9, 10, 11, 12] (aD _ _) rfl rfl rfl (fun K hK => ?_)
   simp (disch := omega) only [Tryd.f48, go_sem, Nat.reduceAdd, Int.reduceEq, ↓reduceIte, gM, decide_false]
   refine hK _ ?_
   refine aB ?_
   refine eC (.tmp 50) rfl rfl rfl (fun h => ?_) (fun h => ?_)
   ·skip
    refine aI rfl ?_
    cases h
   ·skip
    refine aI rfl ?_
    refine aQ rfl ?_
    exact hQ _ _ (by omega)
  ·skip
   simp only [if_true] at hd2 hpv2 hht2
   subst hht2
   have ep : (b : Int) - 1 - ((pv : Int) - (a : Int)) = (pv2 : Int) := by omega
   refine aA rfl ?_
   refine aC (Γ := aL) [50, 0, 1, 2, 3, 8, 9, 10, 11, 12] (aD _ _) rfl rfl rfl (fun K hK => ?_)
   simp (disch := omega) only [Tryd.f48, go_sem, Nat.reduceAdd, ↓reduceIte, gM, decide_true]
   refine hK _ ?_
   refine aB ?_
   refine eC (.tmp 50) rfl rfl rfl (fun h => ?_) (fun h => ?_)
   ·skip
    refine aI rfl ?_
    refine aA rfl ?_
    refine aC (Γ := bC [(57, .heap (dP revG))]) [0, 1, 2, 3, 8, 9, 10, 11] (aH oku97 aO) rfl rfl rfl (fun K hK => ?_)
    simp (disch := omega) only [Tryd.f48, go_sem, Nat.reduceAdd, ↓reduceIte, hds, hd2, Int.toNat_natCast]
    refine hK _ ?_
    refine aB ?_
    refine aA rfl ?_
    refine aC (Γ := aL) [0, 1, 2, 3, 8, 9, 10, 11] (aD _ _) rfl rfl rfl (fun K hK => ?_)
    simp (disch := omega) only [Tryd.f48, go_sem, Nat.reduceAdd, ↓reduceIte, ep]
    refine hK _ ?_
    refine aB ?_
    refine aC (Γ := aL) [0, 1, 2, 3, 8, 9, 10, 11, 12] (aD _ _) rfl rfl rfl (fun K hK => ?_)
    simp (disch := omega) only [Tryd.f48, go_sem, ↓reduceIte]
    refine hK _ ?_
    exact hQ _ _ (by omega)
   ·skip
    refine aI rfl ?_
    cases h
set_option maxHeartbeats 1000000 in
theorem pd_par {id n a b k L nx0 cx0 : Nat} {gg wb wp : Bool} {d : Array T32} {Q : Exit → S → Prop} {pv : Nat} {ht : Sort.Hint} {d3 : Array T32} {ok : Bool} (hpi : (if (wb && wp && decide (ht = Sort.Hint.increasing)) = true then Sort.partialInsertionSort ltN d a b else (d, false)) = (d3, ok)) (hds : d.size = n) (hab : a < b) (hbn : b ≤ n) (hbig : n ≤ 1000000) (hid : id < cx0)
  (hQ : ∀ n1 c1, id < c1 → ok = false → Q .normal { fr := [(0, .os id 0 n 1 gg), (1, .i (a : Int)), (2, .i (b : Int)), (3, .i (k : Int)), (8, .b wb), (9, .b wp), (10, .i (L : Int)), (11, .i (pv : Int))], hp := upd (fun _ => none) id (.cells (cA d3) true), nx := n1, cx := c1 })
  (hQr : ∀ fr n1 c1, id < c1 → ok = true → Q .ret { fr := fr, hp := upd (fun _ => none) id (.cells (cA d3) true), nx := n1, cx := c1 }) :
  Awp Tryd.prog GLh Tryd.f48.ntmps (cl (cr (cr (cr (cr (cr (cr (cl (cl (cl (cr (cr (aE Tryd.f48))))))))))))) { fr := [(0, .os id 0 n 1 gg), (1, .i (a : Int)), (2, .i (b : Int)), (3, .i (k : Int)), (8, .b wb), (9, .b wp), (10, .i (L : Int)), (11, .i (pv : Int)), (12, .i (gM ht))], hp := upd (fun _ => none) id (.cells (cA d) true), nx := nx0, cx := cx0 } Q := by
  cases wb
  ·skip
   simp only [Bool.false_and, Bool.false_eq_true, if_false, Prod.mk.injEq] at hpi
   obtain ⟨rfl, rfl⟩ := hpi
   refine aA rfl ?_
   refine aC (Γ := aL) [68, 0, 1, 2, 3, 8, 9, 10, 11] (aD _ _) rfl rfl rfl (fun K hK => ?_)
   simp (disch := omega) only [Tryd.f48, go_sem, Nat.reduceAdd, reduceCtorEq, ↓reduceIte, gM]
   refine hK _ ?_
   refine aB ?_
   refine eC (.tmp 68) rfl rfl rfl (fun h => ?_) (fun h => ?_)
   ·skip
    refine aI rfl ?_
    cases h
   ·skip
    refine aI rfl ?_
    refine aQ rfl ?_
    exact hQ _ _ (by omega) rfl
  ·skip
   cases wp
   ·skip
    simp only [Bool.and_false, Bool.false_and, Bool.false_eq_true, if_false, Prod.mk.injEq] at hpi
    obtain ⟨rfl, rfl⟩ := hpi
    refine aA rfl ?_
    refine aC (Γ := aL) [68, 0, 1, 2, 3, 8, 9, 10, 11] (aD _ _) rfl rfl rfl (fun K hK => ?_)
    simp (disch := omega) only [Tryd.f48, go_sem, Nat.reduceAdd, reduceCtorEq, ↓reduceIte, gM]
    refine hK _ ?_
    refine aB ?_
    refine eC (.tmp 68) rfl rfl rfl (fun h => ?_) (fun h => ?_)
    ·skip
     refine aI rfl ?_
     cases h
    ·skip
     refine aI rfl ?_
     refine aQ rfl ?_
     exact hQ _ _ (by omega) rfl
   ·skip
    cases ht
    ·skip
     simp only [Bool.and_true, Bool.and_false, reduceCtorEq, decide_false, Bool.false_eq_true, if_false, Prod.mk.injEq] at hpi
     obtain ⟨rfl, rfl⟩ := hpi
     refine aA rfl ?_
     refine aC (Γ := aL) [68, 0, 1, 2, 3, 8, 9, 10, 11] (aD _ _) rfl rfl rfl (fun K hK => ?_)
     simp (disch := omega) only [Tryd.f48, go_sem, Nat.reduceAdd, Int.reduceEq, ↓reduceIte, gM, decide_false]
     refine hK _ ?_
     refine aB ?_
     refine eC (.tmp 68) rfl rfl rfl (fun h => ?_) (fun h => ?_)
     ·skip
      refine aI rfl ?_
      cases h
     ·skip
      refine aI rfl ?_
      refine aQ rfl ?_
      exact hQ _ _ (by omega) rfl
    ·skip
     simp only [Bool.and_true, decide_true, if_true] at hpi
     refine aA rfl ?_
     refine aC (Γ := aL) [68, 0, 1, 2, 3, 8, 9, 10, 11] (aD _ _) rfl rfl rfl (fun K hK => ?_)
     simp (disch := omega) only [Tryd.f48, go_sem, Nat.reduceAdd, ↓reduceIte, gM, decide_true]
     refine hK _ ?_
     refine aB ?_
     refine eC (.tmp 68) rfl rfl rfl (fun h => ?_) (fun h => ?_)
     ·skip
      refine aI rfl ?_
      refine aA rfl ?_
      refine aC (Γ := bC [(58, .heap (dP piG))]) [72, 0, 1, 2, 3, 8, 9, 10, 11] (aH oku98 aO) rfl rfl rfl (fun K hK => ?_)
      simp (disch := omega) only [Tryd.f48, go_sem, Nat.reduceAdd, ↓reduceIte, hds, hpi, Int.toNat_natCast]
      refine hK _ ?_
      refine aB ?_
      refine eC (.tmp 72) rfl rfl rfl (fun h => ?_) (fun h => ?_)
      ·skip
       refine aI rfl ?_
       refine aS rfl ?_
       exact hQr _ _ _ (by omega) h
      ·skip
       refine aI rfl ?_
       refine aQ rfl ?_
       exact hQ _ _ (by omega) (by simpa using h)
     ·skip
      refine aI rfl ?_
      cases h
    ·skip
     simp only [Bool.and_true, Bool.and_false, reduceCtorEq, decide_false, Bool.false_eq_true, if_false, Prod.mk.injEq] at hpi
     obtain ⟨rfl, rfl⟩ := hpi
     refine aA rfl ?_
     refine aC (Γ := aL) [68, 0, 1, 2, 3, 8, 9, 10, 11] (aD _ _) rfl rfl rfl (fun K hK => ?_)
     simp (disch := omega) only [Tryd.f48, go_sem, Nat.reduceAdd, Int.reduceEq, ↓reduceIte, gM, decide_false]
     refine hK _ ?_
     refine aB ?_
     refine eC (.tmp 68) rfl rfl rfl (fun h => ?_) (fun h => ?_)
     ·skip
      refine aI rfl ?_
      cases h
     ·skip
      refine aI rfl ?_
      refine aQ rfl ?_
      exact hQ _ _ (by omega) rfl
set_option maxHeartbeats 1000000 in
theorem pd_les {id n a b k L nx0 cx0 : Nat} {gg wb wp : Bool} {d : Array T32} {Q : Exit → S → Prop} {pv : Nat} {u : Bool} (hu : (decide (a > 0) && !ltN d[a - 1]! d[pv]!) = u) (hpb : pv < b) (hds : d.size = n) (hab : a < b) (hbn : b ≤ n) (hbig : n ≤ 1000000) (hid : id < cx0)
  (hQ : ∀ n1 c1, id < c1 → Q .normal { fr := [(87, .b u), (0, .os id 0 n 1 gg), (1, .i (a : Int)), (2, .i (b : Int)), (3, .i (k : Int)), (8, .b wb), (9, .b wp), (10, .i (L : Int)), (11, .i (pv : Int))], hp := upd (fun _ => none) id (.cells (cA d) true), nx := n1, cx := c1 }) :
  Awp Tryd.prog GLh Tryd.f48.ntmps (cl (cl (cr (cr (cr (cr (cr (cr (cr (cl (cl (cl (cr (cr (aE Tryd.f48))))))))))))))) { fr := [(0, .os id 0 n 1 gg), (1, .i (a : Int)), (2, .i (b : Int)), (3, .i (k : Int)), (8, .b wb), (9, .b wp), (10, .i (L : Int)), (11, .i (pv : Int))], hp := upd (fun _ => none) id (.cells (cA d) true), nx := nx0, cx := cx0 } Q := by
  by_cases ha : a > 0
  ·skip
   have hd1 : decide (0 < (a : Int)) = true := decide_eq_true (by omega)
   have ea : (a : Int) - 1 = ((a - 1 : Nat) : Int) := by omega
   have han : a < n := by omega
   have hpn : pv < n := by omega
   obtain ⟨v, hv⟩ : ∃ v, ltN d[a - 1]! d[pv]! = v := ⟨_, rfl⟩
   rw [decide_eq_true ha, hv, Bool.true_and] at hu
   subst hu
   refine bB (Γ := bC [(59, .pure true dY)]) (fun k => if k = 12 then 0 else 2) [87, 0, 1, 2, 3, 8, 9, 10, 11] bZ (aH jC aO) rfl rfl rfl (by kernel_rfl) (fun K hK => ?_)
   simp (disch := omega) only [Tryd.f48, go_sem, Nat.reduceAdd, ↓reduceIte, hd1, ea, hv, Int.toNat_natCast]
   refine hK _ ?_
   exact hQ _ _ (by omega)
  ·skip
   have hd1 : decide (0 < (a : Int)) = false := decide_eq_false (by omega)
   rw [decide_eq_false ha, Bool.false_and] at hu
   subst hu
   refine bB (Γ := bC [(59, .pure true dY)]) (fun k => if k = 12 then 0 else 2) [87, 0, 1, 2, 3, 8, 9, 10, 11] bZ (aH jC aO) rfl rfl rfl (by kernel_rfl) (fun K hK => ?_)
   simp (disch := omega) only [Tryd.f48, go_sem, Nat.reduceAdd, reduceCtorEq, ↓reduceIte, hd1]
   refine hK _ ?_
   exact hQ _ _ (by omega)
set_option maxHeartbeats 4000000 in
theorem pdq_okS (N : Nat) (ih : cQ Tryd.prog GLh 48 (dP (pdqG N))) : cQ Tryd.prog GLh 48 (dP (pdqG (N + 1))) := by
 have oku91 : bX Tryd.prog GLh 48 (.heap (dP (pdqG N))) := ⟨⟨_, Tryd.func48, rfl, rfl⟩, ih⟩
 refine dN Tryd.func48 (aT rfl) ?_
 intro id off n e gg rest nx xs r ys hg
 unfold pdqG at hg
 split at hg
 ·rename_i id2 n2 gg2 a0 b0 k0 heq
  simp only [List.cons.injEq, AV.os.injEq] at heq
  obtain ⟨⟨rfl, rfl, rfl, rfl, rfl⟩, rfl⟩ := heq
  replace hg := aJ hg; obtain ⟨l, hl, hg⟩ := hg
  replace hg := aP hg; obtain ⟨⟨hn, ha, hab, hbn, hk0, hk1, hbig, hN⟩, hg⟩ := hg
  replace hg := guardC_inv hg; obtain ⟨hB, hg⟩ := hg
  simp only [Option.some.injEq, Prod.mk.injEq] at hg; obtain ⟨rfl, rfl⟩ := hg
  have := dO hl; subst this
  obtain ⟨a, rfl⟩ := Int.eq_ofNat_of_zero_le ha
  obtain ⟨b, rfl⟩ := Int.eq_ofNat_of_zero_le (show 0 ≤ b0 by omega)
  obtain ⟨k, rfl⟩ := Int.eq_ofNat_of_zero_le hk0
  simp only [Int.toNat_natCast] at *
  obtain ⟨d, hd⟩ : ∃ d, l.toArray = d := ⟨_, rfl⟩
  have hds : d.size = n := by rw [← hd]; simpa using hn
  have hab2 : a ≤ b := by omega
  have hbn2 : b ≤ n := by omega
  have hk2 : k ≤ 1000 := by omega
  have hN2 : b - a < N + 1 := by omega
  rw [hd] at hB ⊢
  refine ⟨Nat.le_of_ble_eq_true rfl, fun hid => ?_⟩
  obtain ⟨R, hR⟩ : ∃ R, Sort.pdq ltN d a b k true true = R := ⟨_, rfl⟩
  rw [hR]
  clear hl hn ha hab hbn hk0 hk1 hN
  refine aA rfl ?_
  refine aC (Γ := aL) [0, 1, 2, 3, 8] (aD _ _) rfl rfl rfl (fun K hK => ?_)
  simp (disch := omega) only [Tryd.f48, go_sem, Nat.reduceAdd, ↓reduceIte]
  refine hK _ ?_
  refine aB ?_
  refine aA rfl ?_
  refine aC (Γ := aL) [0, 1, 2, 3, 8, 9] (aD _ _) rfl rfl rfl (fun K hK => ?_)
  simp (disch := omega) only [Tryd.f48, go_sem, ↓reduceIte]
  refine hK _ ?_
  refine aB ?_
  refine aR 0 rfl rfl ?_
  refine bR (fun p : SPQ => { fr := [(0, .os id 0 n 1 gg), (1, .i p.a), (2, .i p.b), (3, .i p.l), (8, .b p.wb), (9, .b p.wp)], hp := upd (fun _ => none) id (.cells (cA p.d) true), nx := 0, cx := p.c }) (fun p => Sort.pdq ltN p.d p.a p.b p.l p.wb p.wp = R ∧ p.d.size = n ∧ p.a ≤ p.b ∧ p.b ≤ n ∧ p.l ≤ 1000 ∧ p.b - p.a < N + 1 ∧ Sort.Below ltN p.a p.b p.d ∧ id < p.c) (fun p => p.b - p.a) rfl ⟨⟨a, b, k, true, true, d, _⟩, ⟨hR, hds, hab2, hbn2, hk2, hN2, hB, by simp only; omega⟩, bD rfl rfl (Nat.le_refl _)⟩ ?_
  rintro ⟨a, b, k, wb, wp, d, c⟩ ⟨hr, hds, hab, hbn, hk, hN, hB, hc⟩ n0
  simp only at hr hds hab hbn hk hN hB hc ⊢
  have ebL : (b : Int) - (a : Int) = ((b - a : Nat) : Int) := by omega
  refine aR 1 rfl rfl ?_
  refine aA rfl ?_
  refine aC (Γ := aL) [0, 1, 2, 3, 8, 9, 10] (aD _ _) rfl rfl rfl (fun K hK => ?_)
  simp (disch := omega) only [Tryd.f48, go_sem, Nat.reduceAdd, ↓reduceIte, ebL]
  refine hK _ ?_
  refine aB ?_
  refine aA rfl ?_
  refine aA rfl ?_
  refine aC (Γ := aL) [23, 0, 1, 2, 3, 8, 9, 10] (aD _ _) rfl rfl rfl (fun K hK => ?_)
  simp (disch := omega) only [Tryd.f48, go_sem, Nat.reduceAdd, ↓reduceIte]
  refine hK _ ?_
  refine aB ?_
  refine aW (.tmp 23) rfl rfl rfl (fun h => ?_) (fun h => ?_)
  ·skip
   refine aI rfl ?_
   have h12 : b - a ≤ 12 := by omega
   rw [Sort.pdq, if_pos h12] at hr
   refine aA rfl ?_
   refine aC (Γ := bC [(53, .heap (dP insG))]) [] (aH oku93 aO) rfl rfl rfl (fun K hK => ?_)
   simp (disch := omega) only [Tryd.f48, go_sem, Nat.reduceAdd, ↓reduceIte, hds, Int.toNat_natCast]
   refine hK _ ?_
   refine aB ?_
   refine aS rfl ?_
   refine bI (bN (dF (bN ?_)))
   exact ⟨rfl, by simp only [aV, if_true, hr], rfl, dZ _⟩
  ·skip
   refine aI rfl ?_
   have h12 : ¬ b - a ≤ 12 := by omega
   rw [Sort.pdq, if_neg h12] at hr
   refine aQ rfl ?_
   refine aB ?_
   refine aA rfl ?_
   refine aA rfl ?_
   refine aC (Γ := aL) [29, 0, 1, 2, 3, 8, 9, 10] (aD _ _) rfl rfl rfl (fun K hK => ?_)
   simp (disch := omega) only [Tryd.f48, go_sem, Nat.reduceAdd, ↓reduceIte]
   refine hK _ ?_
   refine aB ?_
   refine aW (.tmp 29) rfl rfl rfl (fun h => ?_) (fun h => ?_)
   ·skip
    refine aI rfl ?_
    have hk0 : k = 0 := by omega
    rw [if_pos hk0] at hr
    refine aA rfl ?_
    refine aC (Γ := bC [(54, .heap (dP hepG))]) [] (aH oku94 aO) rfl rfl rfl (fun K hK => ?_)
    simp (disch := omega) only [Tryd.f48, go_sem, Nat.reduceAdd, ↓reduceIte, hds, Int.toNat_natCast]
    refine hK _ ?_
    refine aB ?_
    refine aS rfl ?_
    refine bI (bN (dF (bN ?_)))
    exact ⟨rfl, by simp only [aV, if_true, hr], rfl, dZ _⟩
   ·skip
    refine aI rfl ?_
    have hk0 : ¬ k = 0 := by omega
    rw [if_neg hk0] at hr
    obtain ⟨d1, hd1⟩ : ∃ x, (if (!wb) = true then Sort.breakPatterns d a b else d) = x := ⟨_, rfl⟩
    obtain ⟨k1, hk1⟩ : ∃ x, (if (!wb) = true then k - 1 else k) = x := ⟨_, rfl⟩
    obtain ⟨⟨pv, ht⟩, hch⟩ : ∃ x, Sort.choosePivot ltN d1 a b = x := ⟨_, rfl⟩
    obtain ⟨d2, hd2⟩ : ∃ x, (if ht = Sort.Hint.decreasing then Sort.reverseRange d1 a b else d1) = x := ⟨_, rfl⟩
    obtain ⟨pv2, hpv2⟩ : ∃ x, (if ht = Sort.Hint.decreasing then (b - 1) - (pv - a) else pv) = x := ⟨_, rfl⟩
    obtain ⟨ht2, hht2⟩ : ∃ x, (if ht = Sort.Hint.decreasing then Sort.Hint.increasing else ht) = x := ⟨_, rfl⟩
    obtain ⟨⟨d3, ok⟩, hpi⟩ : ∃ x, (if (wb && wp && decide (ht2 = Sort.Hint.increasing)) = true then Sort.partialInsertionSort ltN d2 a b else (d2, false)) = x := ⟨_, rfl⟩
    simp only [hd1, hk1, hch, hd2, hpv2, hht2, hpi] at hr
    have hk1b : k1 ≤ 1000 := by rw [← hk1]; split <;> omega
    have hab3 : a < b := by omega
    have p1 : Sort.PermIn a b d d1 := by rw [← hd1]; exact perm_if _ (Sort.breakPatterns_holds d a b hab (by omega))
    have s1 : d1.size = n := by rw [p1.1]; exact hds
    refine aQ rfl ?_
    refine aB ?_
    refine aA rfl ?_
    refine pd_brk hd1 hk1 (by omega) hk hds hab3 hbn hbig (by omega) (fun n1 c1 hc1 => ?_)
    refine aB ?_
    refine aA rfl ?_
    refine aC (Γ := bC [(56, .heap (dP chG))]) [0, 1, 2, 3, 8, 9, 10, 11, 12] (aH oku96 aO) rfl rfl rfl (fun K hK => ?_)
    simp (disch := omega) only [Tryd.f48, go_sem, Nat.reduceAdd, ↓reduceIte, s1, hch, Int.toNat_natCast]
    refine hK _ ?_
    refine aB ?_
    have hcr := Sort.choosePivot_holds ltN d1 a b hab3
    rw [hch] at hcr
    simp only at hcr
    have p2 : Sort.PermIn a b d1 d2 := by rw [← hd2]; exact perm_if _ (Sort.reverseRange_holds d1 a b hab (by omega))
    have s2 : d2.size = n := by rw [p2.1]; exact s1
    refine aA rfl ?_
    refine pd_rev hd2 hpv2 hht2 hcr.1 hcr.2 s1 hab3 hbn hbig (by omega) (fun n2 c2 hc2 => ?_)
    refine aB ?_
    have hb2 : Sort.Below ltN a b d2 := (hB.perm (by omega) p1).perm (by omega) p2
    have hps := Sort.step_partial Sort.partialInsertionSort_holds ltN_swo d2 hab3 (by omega) hb2 ((wb && wp && decide (ht2 = Sort.Hint.increasing)) = true)
    have hpi2 : (if _h : (wb && wp && decide (ht2 = Sort.Hint.increasing)) = true then Sort.partialInsertionSort ltN d2 a b else (d2, false)) = (d3, ok) := by rw [← hpi]; split <;> simp_all
    rw [hpi2] at hps
    have p3 : Sort.PermIn a b d2 d3 := hps.1
    have s3 : d3.size = n := by rw [p3.1]; exact s2
    have hb3 : Sort.Below ltN a b d3 := hb2.perm (by omega) p3
    have hpv : a ≤ pv2 ∧ pv2 < b := by rw [← hpv2]; split <;> omega
    refine aA rfl ?_
    refine pd_par hpi s2 hab3 hbn hbig hc2 (fun n3 c3 hc3 hok => ?_) (fun fr n3 c3 hc3 hok => by subst hok; rw [if_pos rfl] at hr; subst hr; exact (show MutEnd Tryd.prog Tryd.f48.results.toList (.tup []) id (cA d3) _ from ⟨rfl, by simp only [aV, if_true], rfl, dZ _⟩))
    refine aB ?_
    subst hok
    simp only [Bool.false_eq_true, if_false] at hr
    obtain ⟨u, hu⟩ : ∃ u, (decide (a > 0) && !ltN d3[a - 1]! d3[pv2]!) = u := ⟨_, rfl⟩
    rw [hu] at hr
    refine aA rfl ?_
    refine aA rfl ?_
    refine pd_les hu hpv.2 s3 hab3 hbn hbig hc3 (fun n4 c4 hc4 => ?_)
    refine aB ?_
    cases u
    ·skip
     obtain ⟨⟨mid, ap, d4⟩, hx⟩ : ∃ x, Sort.partition ltN d3 a b pv2 = x := ⟨_, rfl⟩
     obtain ⟨g1, g2, hs4, hBa, hBr, hleft, hright⟩ := Sort.round_part ltN_swo (Sort.partition_holds ltN) hpv.1 hpv.2 (by omega) hb3 hx
     have s4 : d4.size = n := by rw [hs4]; exact s3
     have hpn : pv2 < n := by omega
     simp only [Bool.false_eq_true, if_false, hx, dif_pos (And.intro g1 g2)] at hr
     have eL : (mid : Int) - (a : Int) = ((mid - a : Nat) : Int) := by omega
     have eR : (b : Int) - (mid : Int) = ((b - mid : Nat) : Int) := by omega
     have e8 : ((b - a : Nat) : Int).tdiv 8 = (((b - a) / 8 : Nat) : Int) := by rw [Int.tdiv_eq_ediv_of_nonneg (by omega)]; omega
     have em : (mid : Int) + 1 = ((mid + 1 : Nat) : Int) := by omega
     have hd1 : decide ((((b - a) / 8 : Nat) : Int) ≤ ((mid - a : Nat) : Int)) = decide (mid - a ≥ (b - a) / 8) := decide_eq_decide.2 (by omega)
     have hd2 : decide ((((b - a) / 8 : Nat) : Int) ≤ ((b - mid : Nat) : Int)) = decide (b - mid ≥ (b - a) / 8) := decide_eq_decide.2 (by omega)
     refine eC (.tmp 87) rfl rfl rfl (fun h => ?_) (fun h => ?_)
     ·skip
      cases h
     ·skip
      refine aQ rfl ?_
      refine aB ?_
      refine aA rfl ?_
      refine aC (Γ := bC [(61, .heap (dP ptG))]) [0, 1, 2, 3, 10, 14, 15] (aH oku101 aO) rfl rfl rfl (fun K hK => ?_)
      simp (disch := omega) only [Tryd.f48, go_sem, Nat.reduceAdd, ↓reduceIte, s3, hx, Int.toNat_natCast]
      refine hK _ ?_
      refine aB ?_
      refine aA rfl ?_
      refine aC (Γ := aL) [0, 1, 2, 3, 9, 10, 14] (aD _ _) rfl rfl rfl (fun K hK => ?_)
      simp (disch := omega) only [Tryd.f48, go_sem, Nat.reduceAdd, ↓reduceIte]
      refine hK _ ?_
      refine aB ?_
      refine aA rfl ?_
      refine aC (Γ := aL) [0, 1, 2, 3, 9, 10, 14, 16, 17] (aD _ _) rfl rfl rfl (fun K hK => ?_)
      simp (disch := omega) only [Tryd.f48, go_sem, Nat.reduceAdd, ↓reduceIte, eL, eR]
      refine hK _ ?_
      refine aB ?_
      refine aA rfl ?_
      refine aC (Γ := aL) [0, 1, 2, 3, 9, 14, 16, 17, 18] (aD _ _) rfl rfl rfl (fun K hK => ?_)
      simp (disch := omega) only [Tryd.f48, go_sem, Nat.reduceAdd, Int.reduceEq, ↓reduceIte, e8]
      refine hK _ ?_
      refine aB ?_
      refine aA rfl ?_
      refine aC (Γ := aL) [113, 0, 1, 2, 3, 9, 14, 16, 17, 18] (aD _ _) rfl rfl rfl (fun K hK => ?_)
      simp (disch := omega) only [Tryd.f48, go_sem, Nat.reduceAdd, ↓reduceIte]
      refine hK _ ?_
      refine aB ?_
      refine aW (.tmp 113) rfl rfl rfl (fun h => ?_) (fun h => ?_)
      ·skip
       refine aI rfl ?_
       have hlr : mid - a < b - mid := by omega
       rw [if_pos hlr] at hr
       obtain ⟨q1, q2⟩ := Sort.pdq_sorts ltN ltN_swo d4 a mid k1 true true g1 (by omega) hBa
       obtain ⟨d5, hd5⟩ : ∃ x, Sort.pdq ltN d4 a mid k1 true true = x := ⟨_, rfl⟩
       rw [hd5] at hr q1 q2
       have s5 : d5.size = n := by rw [q1.1]; exact s4
       have hB5 := (hleft d5 q1 q2).1
       refine aA rfl ?_
       refine aC (Γ := aL) [0, 1, 2, 3, 8, 9, 14] (aD _ _) rfl rfl rfl (fun K hK => ?_)
       simp (disch := omega) only [Tryd.f48, go_sem, Nat.reduceAdd, ↓reduceIte, hd1]
       refine hK _ ?_
       refine aB ?_
       refine aA rfl ?_
       refine aC (Γ := bC [(48, .heap (dP (pdqG N)))]) [0, 2, 3, 8, 9, 14] (aH oku91 aO) rfl rfl rfl (fun K hK => ?_)
       simp (disch := omega) only [Tryd.f48, go_sem, Nat.reduceAdd, ↓reduceIte, s4, hBa, hd5, Int.toNat_natCast]
       refine hK _ ?_
       refine aB ?_
       refine aC (Γ := aL) [0, 1, 2, 3, 8, 9] (aD _ _) rfl rfl rfl (fun K hK => ?_)
       simp (disch := omega) only [Tryd.f48, go_sem, Nat.reduceAdd, ↓reduceIte, em]
       refine hK _ ?_
       refine bU (bT ?_)
       refine ⟨⟨mid + 1, b, k1, decide (mid - a ≥ (b - a) / 8), ap, d5, _⟩, ⟨hr, s5, by simp only; omega, by simp only; omega, by simp only; omega, by simp only; omega, hB5, by simp only; omega⟩, by simp only; omega, ⟨fun _ => .inr rfl, bS (by simp (disch := omega) only [aV, ↓reduceIte, eq_self]) cB, Nat.le_refl _⟩⟩
      ·skip
       refine aI rfl ?_
       have hlr : ¬ mid - a < b - mid := by omega
       rw [if_neg hlr] at hr
       obtain ⟨q1, q2⟩ := Sort.pdq_sorts ltN ltN_swo d4 (mid + 1) b k1 true true (by omega) (by omega) hBr
       obtain ⟨d5, hd5⟩ : ∃ x, Sort.pdq ltN d4 (mid + 1) b k1 true true = x := ⟨_, rfl⟩
       rw [hd5] at hr q1 q2
       have s5 : d5.size = n := by rw [q1.1]; exact s4
       have hB5 := (hright d5 q1 q2).1
       refine aA rfl ?_
       refine aC (Γ := aL) [0, 1, 2, 3, 8, 9, 14] (aD _ _) rfl rfl rfl (fun K hK => ?_)
       simp (disch := omega) only [Tryd.f48, go_sem, Nat.reduceAdd, ↓reduceIte, hd2]
       refine hK _ ?_
       refine aB ?_
       refine aA rfl ?_
       refine aC (Γ := bC [(48, .heap (dP (pdqG N)))]) [0, 1, 3, 8, 9, 14] (aH oku91 aO) rfl rfl rfl (fun K hK => ?_)
       simp (disch := omega) only [Tryd.f48, go_sem, Nat.reduceAdd, ↓reduceIte, em, s4, hBr, hd5, Int.toNat_natCast]
       refine hK _ ?_
       refine aB ?_
       refine aC (Γ := aL) [0, 1, 2, 3, 8, 9] (aD _ _) rfl rfl rfl (fun K hK => ?_)
       simp (disch := omega) only [Tryd.f48, go_sem, Nat.reduceAdd, ↓reduceIte]
       refine hK _ ?_
       refine bU (bT ?_)
       refine ⟨⟨a, mid, k1, decide (b - mid ≥ (b - a) / 8), ap, d5, _⟩, ⟨hr, s5, by simp only; omega, by simp only; omega, by simp only; omega, by simp only; omega, hB5, by simp only; omega⟩, by simp only; omega, ⟨fun _ => .inr rfl, bS (by simp (disch := omega) only [aV, ↓reduceIte, eq_self]) cB, Nat.le_refl _⟩⟩
    ·skip
     obtain ⟨⟨mid, d4⟩, hx⟩ : ∃ x, Sort.partitionEqual ltN d3 a b pv2 = x := ⟨_, rfl⟩
     simp only [Bool.and_eq_true, decide_eq_true_eq, Bool.not_eq_true'] at hu
     obtain ⟨g1, g2, hs4, hB4, _⟩ := Sort.round_eq ltN_swo (Sort.partitionEqual_holds ltN) hu.1 hpv.1 hpv.2 (by omega) hb3 hu.2 hx
     have s4 : d4.size = n := by rw [hs4]; exact s3
     have hpn : pv2 < n := by omega
     simp only [if_true, hx, dif_pos (And.intro g1 g2)] at hr
     refine eC (.tmp 87) rfl rfl rfl (fun h => ?_) (fun h => ?_)
     ·skip
      refine aA rfl ?_
      refine aC (Γ := bC [(60, .heap (dP peG))]) [0, 2, 3, 8, 9, 13] (aH oku100 aO) rfl rfl rfl (fun K hK => ?_)
      simp (disch := omega) only [Tryd.f48, go_sem, Nat.reduceAdd, ↓reduceIte, s3, hx, Int.toNat_natCast]
      refine hK _ ?_
      refine aB ?_
      refine aA rfl ?_
      refine aC (Γ := aL) [0, 1, 2, 3, 8, 9] (aD _ _) rfl rfl rfl (fun K hK => ?_)
      simp (disch := omega) only [Tryd.f48, go_sem, Nat.reduceAdd, ↓reduceIte]
      refine hK _ ?_
      refine aB ?_
      refine bF 1 rfl rfl ?_
      refine aY (bE ?_)
      refine bT ?_
      refine ⟨⟨mid, b, k1, wb, wp, d4, _⟩, ⟨hr, s4, by simp only; omega, by simp only; omega, by simp only; omega, by simp only; omega, hB4, by simp only; omega⟩, by simp only; omega, ⟨fun _ => .inr rfl, bS (by simp (disch := omega) only [aV, ↓reduceIte, eq_self]) cB, Nat.le_refl _⟩⟩
     ·skip
      cases h
 ·cases hg
end Go.AX
namespace Go.AX
open Go Go.Proofs
theorem pdq_okN : ∀ N : Nat, cQ Tryd.prog GLh 48 (dP (pdqG N))
 | 0 => pdq_ok0
 | N + 1 => pdq_okS N (pdq_okN N)
theorem oku91 : bX Tryd.prog GLh 48 (.heap (dP (pdqG 1000001))) := ⟨⟨_, Tryd.func48, rfl, rfl⟩, pdq_okN 1000001⟩
def srtG : List AV → List AV → Option (AV × List AV)
 | [.os _ 0 n 1 _], xs => aK (unA xs) fun l => aN (l.length = n ∧ n ≤ 1000000) (some (.tup [], cA (iU l).toArray))
 | _, _ => none
theorem srtG_eq (id n : Nat) (gg : Bool) (xs : List AV) : srtG [.os id 0 n 1 gg] xs = aK (unA xs) fun l => aN (l.length = n ∧ n ≤ 1000000) (some (.tup [], cA (iU l).toArray)) := (rfl)
theorem frzArg_fn (hp : H) (f : FuncId) (xs : List AV) : dW hp (.fn f xs) = some (.fn f xs, hp) := (rfl)
attribute [go_sem] srtG_eq frzArg_fn
set_option maxHeartbeats 1000000 in
theorem srt_ok : cQ Tryd.prog GLh 41 (dP srtG) := by
 refine dN Tryd.func41 (aT rfl) ?_
 intro id off n e gg rest nx xs r ys hg
 unfold srtG at hg
 split at hg
 ·rename_i id2 n2 gg2 heq
  simp only [List.cons.injEq, AV.os.injEq] at heq
  obtain ⟨⟨rfl, rfl, rfl, rfl, rfl⟩, rfl⟩ := heq
  replace hg := aJ hg; obtain ⟨l, hl, hg⟩ := hg
  replace hg := aP hg; obtain ⟨⟨hn, hbig⟩, hg⟩ := hg
  simp only [Option.some.injEq, Prod.mk.injEq] at hg; obtain ⟨rfl, rfl⟩ := hg
  have := dO hl; subst this
  obtain ⟨R, hR⟩ : ∃ R, (iU l).toArray = R := ⟨_, rfl⟩
  obtain ⟨d, hd⟩ : ∃ d, l.toArray = d := ⟨_, rfl⟩
  have hds : d.size = n := by rw [← hd]; simpa using hn
  have hR2 : Sort.pdq ltN d 0 n (Sort.bitsLen n) true true = R := by
   rw [← hR, ← hd]; unfold iU Sort.sort; simp [← hds, ← hd]
  rw [hR, hd]
  have h20 := bits20 hbig
  have e1 := ofI_nat hbig
  have hB : Sort.Below ltN 0 n d := .inl rfl
  refine ⟨Nat.le_of_ble_eq_true rfl, fun hid => ?_⟩
  clear hl hn
  refine aA rfl ?_
  refine aC (Γ := aL) [0, 2] (aD _ _) rfl rfl rfl (fun K hK => ?_)
  simp (disch := omega) only [Tryd.f41, go_sem, Nat.reduceAdd, ↓reduceIte]
  refine hK _ ?_
  refine aB ?_
  refine aC (Γ := bC [(49, .pure true blenG), (48, .heap (dP (pdqG 1000001)))]) [] (aH oku92 (aH oku91 aO)) rfl rfl rfl (fun K hK => ?_)
  simp (disch := omega) only [Tryd.f41, go_sem, Nat.reduceAdd, Int.reduceLE, ↓reduceIte, e1, hds, hB, hR2, Int.toNat_natCast, Int.toNat_zero]
  refine hK _ ?_
  exact ⟨rfl, by simp only [aV, if_true], rfl, dZ _⟩
 ·cases hg
end Go.AX
namespace Go.AX
open Go Go.Proofs Go.RowKit Go.Shelf Go.Maps Go.Sort
abbrev encU : Int → Value := Value.int .u32
theorem encU_inj {x y : Int} (h : encU x = encU y) : x = y := by simpa [encU] using h
theorem keyOf_u32 {P : Program} {k : TypeId} (hk : P.underlying k = some (.int .u32)) {key : Value} {kl : Lit} (h : keyOf P k key = some kl) : ∃ x : Int, key = encU x ∧ kl = .int .u32 x ∧ (Lit.int .u32 x).wf = true := by
 cases key <;> simp [keyOf, hk, mapKey] at h
 rename_i q a
 obtain ⟨⟨rfl, hw⟩, rfl⟩ := h
 exact ⟨a, rfl, rfl, hw⟩
theorem perm_keysU {H : Type} {es : List (Lit × DataW H)} (hp : es.Pairwise (fun p q => p.1 ≠ q.1)) (hk : ∀ p ∈ es, ∃ x, p.1 = .int .u32 x) {ss : List Int} (hnd : ss.Nodup) (hm : ∀ x, x ∈ ss ↔ has (.map es) (.int .u32 x) = true) :
  ss.Perm (intKeys (.map es)) := by
 refine (List.perm_ext_iff_of_nodup hnd ?_).2 fun x => ?_
 ·show (es.map fun p => intOf p.1).Nodup
  refine List.pairwise_map.2 (hp.imp_of_mem fun {p q} hp' hq' hne e => hne ?_)
  obtain ⟨a, ha⟩ := hk p hp'
  obtain ⟨b, hb⟩ := hk q hq'
  rw [ha, hb] at e ⊢
  exact congrArg _ e
 ·rw [hm x, has_eq, List.any_eq_true]
  show _ ↔ x ∈ es.map fun p => intOf p.1
  rw [List.mem_map]
  constructor
  ·rintro ⟨p, hp', hs⟩
   obtain ⟨a, ha⟩ := hk p hp'
   rw [ha] at hs
   exact ⟨p, hp', by rw [ha]; simpa [Lit.sameKey, intOf] using hs⟩
  ·rintro ⟨p, hp', rfl⟩
   obtain ⟨a, ha⟩ := hk p hp'
   exact ⟨p, hp', by rw [ha]; simp [Lit.sameKey, intOf]⟩
def CollU {H : Type} (D0 : DataW H) (left : Lit → Bool) (ss : List Int) : Prop := ss.Nodup ∧ ∀ x, x ∈ ss ↔ (has D0 (.int .u32 x) = true ∧ left (.int .u32 x) = false)
section
variable {H : Type} {D0 : DataW H} {left : Lit → Bool} {ss : List Int}
theorem CollU.start (D0 : DataW H) : CollU D0 (has D0) [] := ⟨List.nodup_nil, fun x => by cases has D0 (.int .u32 x) <;> simp⟩
theorem CollU.step (h : CollU D0 left ss) {x : Int} {y : DataW H} (hlk : left (.int .u32 x) = true) (hat : ∀ zd, D0.atKey (.int .u32 x) zd = y) : CollU D0 (fun z => left z && !z.sameKey (.int .u32 x)) (ss ++ [x]) := by
 have hhas : has D0 (.int .u32 x) = true := has_true_of_atKey hat
 have hnew : x ∉ ss := fun hx => by have := ((h.2 x).1 hx).2; rw [hlk] at this; cases this
 refine ⟨List.nodup_append.2 ⟨h.1, by simp, fun a ha b hb => by simp at hb; subst hb; exact fun e => hnew (e ▸ ha)⟩, fun y => ?_⟩
 by_cases hy : y = x
 ·subst hy; simp [hhas, Lit.sameKey]
 ·simp [h.2 y, hy, Lit.sameKey]
variable {P : Program} {k : TypeId} {R : Value → Option (DataW H × List MemPlace)} {w : World} {b n : Nat}
theorem CollU.perm (h : CollU D0 left ss) (hown : w.ownsMap P k R b n D0) (K : Keyed P k) (hk : P.underlying k = some (.int .u32)) (hl : ∀ kl, left kl = false) : ss.Perm (intKeys D0) := by
 obtain ⟨es, hD, hpw, _⟩ := hown.entries K
 obtain ⟨es', hD', hko⟩ := hown.keysOf
 obtain rfl : es = es' := by rw [hD] at hD'; simpa using hD'
 subst hD
 exact perm_keysU hpw (fun p hp => by obtain ⟨v, hv⟩ := hko p hp; obtain ⟨x, _, hx, _⟩ := keyOf_u32 hk hv; exact ⟨x, hx⟩) h.1 (fun x => by rw [h.2 x, hl]; simp)
end
attribute [local go_sem] Oper.semAt_some
set_option maxRecDepth 100000 in
set_option maxHeartbeats 2000000 in
theorem keysU_in {H : Type} (F : Fence) (n : Nat) (h10 : F.fn 42) (hro : F.round = none) (hn : 1 ≤ n) (l Bm ob b nn : Nat) (D0 : DataW H) {R : Value → Option (DataW H × List MemPlace)} (J Jx : List Int → World → Prop)
  (hY : ∀ pre x W, J pre W → pre.length < Maps.size D0 → YieldAt F (n - 1) Tryd.prog l #[encU x] W fun e W' =>
   (e = .returned (.bool true) ∧ J (pre ++ [x]) W' ∧ KeepsWalks W W') ∨ (e = .returned (.bool false) ∧ Jx (pre ++ [x]) W'))
  (W : World) (hJ : AbidesFrom W.heap.size J) (hm : W.cell? ⟨Bm, ob, none⟩ = some (.map (some b))) (hown : W.ownsMap Tryd.prog 23 R b nn D0) (h0 : J [] W) :
  CallsIn F n Tryd.prog 42 #[.func (.yield l) #[] #[], .pointer (some ⟨Bm, ob, none⟩)] W fun e W' => (∃ v, e = .returned v) ∧
   ((∃ ss : List Int, ss.Perm (intKeys D0) ∧ J ss W') ∨ (∃ pre : List Int, True ∧ Jx pre W')) := by
 refine callsIn_of_wp Tryd.func42 rfl h10 ?_ hro
 simp only [Tryd.ntmps42, List.size_toArray, List.length_cons, List.length_nil, Nat.reduceAdd, Nat.reduceSub, Array.replicate_succ, Array.replicate_zero, List.push_toArray, List.append_toArray, List.nil_append, List.cons_append]
 gi_wp2_with (first
  | (gi_at_range; refine wpListIn_range_own _ rfl _ 78 rfl 23 43 (int_keyed Tryd.underlying23) Tryd.underlying78 _ b nn _ rfl hown ?_; intro w0 hrg0 hg0 hs0)
  | gi_in)
 go_frame
 gi_loopw [3] (fun _ wr => ∃ (left : Lit → Bool) (cnt : Nat) (ss : List Int), wr.ranges Tryd.prog 23 R b W.heap.size nn D0 left cnt ∧ ss.length + cnt ≤ Maps.size D0 ∧ CollU D0 left ss ∧ J ss wr)
  (fun _ wr => wr.rangeLeft b W.heap.size)
 case atStart =>
  exact ⟨_, _, [], hrg0, by simp, CollU.start D0, hJ [] W w0 none h0 hg0 (fun r e => by cases e)⟩
 case round =>
  obtain ⟨left, cnt, ss, hrg, hcs, hC, hJs⟩ := hrel
  gi_wp2_with (first
   | (gi_at_next; refine wpListIn_next_ranges _ rfl _ rfl 23 (int_keyed Tryd.underlying23) R encU id (fun key kl hk => by obtain ⟨x, hx, _⟩ := keyOf_u32 Tryd.underlying23 hk; exact ⟨x, hx⟩) (fun v _ _ => ⟨v, rfl⟩) b W.heap.size nn _ _ _ rfl hrg ?_ ?_)
   | gi_in)
  ·intro hc0 hl0
   gi_wp2
   go_end0
   exact ⟨⟨_, rfl⟩, .inl ⟨ss, hC.perm hown (int_keyed Tryd.underlying23) Tryd.underlying23 hl0, hJs⟩⟩
  ·intro x c kl yd yp w2 cnt2 hkey hlk hv hat hrg2 hlt hg2 hs2 hen
   obtain ⟨x', ex, rfl, _⟩ := keyOf_u32 Tryd.underlying23 hkey
   obtain rfl : x = x' := encU_inj ex
   have hJ2 : J ss w2 := hJ ss wr w2 (some W.heap.size) hJs hg2 (fun r e => by cases e; exact ⟨Nat.le_refl _, hrg.iter_walk⟩)
   obtain ⟨fn, tmps, assign, body, hy, hR⟩ := hY ss x w2 hJ2 (by omega)
   clear hs2
   gi_wp2
   refine hR.mono ?_
   have hC2 := hC.step hlk hat
   rintro e W3 (⟨rfl, hJ3, hk3⟩ | ⟨rfl, hJx3⟩)
   ·gi_wp2
    have hrg3 := hrg2.of_walks hk3
    go_roundw
    case rel => exact ⟨_, cnt2, ss ++ [x], hrg3, by simp; omega, hC2, hJ3⟩
    case measure => rw [hrg3.left_eq, hrg.left_eq]; exact hlt
   ·gi_wp2
    refine bodyPost_ret (results_none rfl _ _ _) rfl ?_
    exact ⟨⟨_, rfl⟩, .inr ⟨ss ++ [x], trivial, hJx3⟩⟩
theorem keysU_stops {H : Type} (F : Fence) (n : Nat) (h10 : F.fn 42) (hro : F.round = none) (hn : 1 ≤ n) (Bm ob b nn : Nat) (D0 : DataW H) {R : Value → Option (DataW H × List MemPlace)} (w : World) (hBm : Bm < w.heap.size)
  (hm : w.cell? ⟨Bm, ob, none⟩ = some (.map (some b))) (hown : w.ownsMap Tryd.prog 23 R b nn D0) :
  SeqStopsK F n Tryd.prog 42 #[.pointer (some ⟨Bm, ob, none⟩)] (fun x : Int => #[encU x]) KeepsWalks (fun ss => ss.Perm (intKeys D0)) (fun _ => True) (Maps.size D0) w := fun l J Jx W hW hJ _ hY h0 => by
 have hown' : W.ownsMap Tryd.prog 23 R b nn D0 := by
  have hbl := hown.lt
  obtain ⟨es, clock, hb, Ft, hs, hD⟩ := hown
  exact ⟨es, clock, (hW.block b hbl).trans hb, Ft, hs, hD⟩
 exact keysU_in F n h10 hro hn l Bm ob b nn D0 J Jx hY W hJ ((hW.cell (p := ⟨Bm, ob, none⟩) hBm).trans hm) hown' h0
theorem infoU : (Tryd.prog.info? 23).map (fun i => (i.zero, i.size, i.bytes)) = some (some (.int .u32 0), 1, 4) := by kernel_rfl
theorem row_not_walk {W : World} {base : Nat} {e : TypeId} {size : Nat} {v : Value} {k : Nat} {xs : List Value} (h : W.ownsRow base e size v k xs) : ∀ (j : Nat) (o : Obj), v.ownBlock = some j → W.heap[j]? = some o → o.isWalk = false := by
 intro j o hj ho
 rcases h.2 with ⟨rfl, _⟩ | ⟨g, cap, cur, rfl, _, hgb, _⟩
 ·simp [Value.ownBlock] at hj
 ·have : g = j := by simpa [Value.ownBlock] using hj
  subst this; rw [hgb] at ho; cases ho; rfl
set_option maxRecDepth 100000 in
set_option maxHeartbeats 2000000 in
theorem appU_in {H : Type} (F : Fence) (n : Nat) (h3 : F.fn 47) (h5 : F.fn 42) (hro : F.round = none) (hn : 3 ≤ n) (Bm ob b nn : Nat) (D0 : DataW H) (R : Value → Option (DataW H × List MemPlace)) (hlen : Maps.size D0 ≤ 1000000) (w : World) (hBm : Bm < w.heap.size)
  (hm : w.cell? ⟨Bm, ob, none⟩ = some (.map (some b))) (hown : w.ownsMap Tryd.prog 23 R b nn D0) :
  CallsIn F n Tryd.prog 47 #[.slice none 0 0, .func (.func 42) #[] #[.pointer (some ⟨Bm, ob, none⟩)]] w fun e W' => ∃ (v : Value) (ss : List Int), e = .returned v ∧ ss.Perm (intKeys D0) ∧ W'.ownsRow w.heap.size 23 1 v ss.length (ss.map encU) ∧ (v = .slice none 0 0 ↔ ss = []) ∧ Below w.heap.size w W' := by
 have h1 : 1 ≤ n := by omega
 obtain ⟨i0, hi, hz0, hz1, hz2⟩ := info_parts infoU
 refine callsIn_of_wp_marks Tryd.func47 rfl h3 ?_ hro
 simp only [Tryd.ntmps47, List.size_toArray, List.length_cons, List.length_nil, Nat.reduceAdd, Nat.reduceSub, Array.replicate_succ, Array.replicate_zero, List.push_toArray, List.append_toArray, List.nil_append, List.cons_append]
 gi_wp2
 have bO := Boxed.new w 49 (.slice none 0 0)
 have hB0 : Below w.heap.size w (w.alloc (.cells #[.slice none 0 0] 49)) := (Below.refl _ w).alloc (Nat.le_refl _) _
 have hown0 : (w.alloc (.cells #[.slice none 0 0] 49)).ownsMap Tryd.prog 23 R b nn D0 := by
  have hbl := hown.lt
  obtain ⟨es, clock, hb, Ft, hs, hD⟩ := hown
  exact ⟨es, clock, (hB0.block b hbl).trans hb, Ft, hs, hD⟩
 refine wpIn_rangeFunc_ownG hro h1 (gf := 42) (lb := #[.pointer (some ⟨Bm, ob, none⟩)]) rfl h5 (enters_of Tryd.func42 (by kernel_rfl) rfl)
  (keysU_stops F (n - 1) h5 hro (by omega) Bm ob b nn D0 _ (by simp; omega) ((hB0.cell (p := ⟨Bm, ob, none⟩) hBm).trans hm) hown0) walksK_t walksK_b (Below.refl _ _) (fun _ => rfl)
  (fun pre W => (∃ v, Boxed W w.heap.size 49 v ∧ W.ownsRow w.heap.size 23 1 v pre.length (pre.map encU) ∧ (v = .slice none 0 0 ↔ pre = [])) ∧ Below w.heap.size w W)
  (fun _ _ _ => False)
  (OwnFrom.and (Own.from (holdsRow_own w.heap.size w.heap.size 49 23 1 (fun pre => pre.length) (fun pre => pre.map encU) (fun pre v => v = .slice none 0 0 ↔ pre = [])) _) (ownFrom_below (Nat.le_refl _) (by simp)))
  (fun _ _ _ _ _ hs _ _ => hs)
  ⟨⟨_, bO, World.ownsRow_nil _ _ _ _, by simp⟩, hB0⟩
  (fun x => { tmps := #[.slice none 0 0, .func (.func 42) #[] #[.pointer (some ⟨Bm, ob, none⟩)], .pointer (some ⟨w.heap.size, 0, none⟩), undef, .slice none 0 0, .int .u32 x, .func (.func 42) #[] #[.pointer (some ⟨Bm, ob, none⟩)], .int .u32 x, undef, undef, undef, undef, undef], defers := [] }) ?assign ?body ?done ?stop
 case assign =>
  intro l x W K hK
  gi_wp2
  exact hK
 case body =>
  rintro l pre x W ⟨⟨v, hv, hrow, hnil⟩, hB⟩ hlt
  have hc := hv.cell
  gi_wp2_with (gi_at_builtin; refine wpListIn_append_own _ rfl _ _ 49 rfl w.heap.size 23 i0 (.int .u32 0) 1 4 Tryd.underlying49 hi hz0 hz1 hz2 rfl (by decide) _ _ _ rfl (hrow.alloc _) ⟨W.heap.size, 0, none⟩ 1 1 [.int .u32 x] rfl rfl (cell_one_new _ _ _) (by simp [Value.oneCell']) (by simp [maxLen]; omega) (by omega) (by have := hB.size; simp; omega) ?_; intro v' w1 hown' hgrow _; obtain ⟨g', cap', rfl⟩ := ownsRow_succ hown'; obtain ⟨hv1, hv2, hr2, hk2, hb2⟩ := hv.appended (by decide) hrow hB.size (Nat.le_refl _) hown' hgrow; have hc1 := hv1.cell; have hf1 := hv1.frozen)
  exact ⟨hk2.from _, ((KeepsWalks.alloc _ _).trans (KeepsWalks.of_grownBy hgrow (row_not_walk (hrow.alloc _)))).trans (KeepsWalks.setCell _ _ _), ⟨_, hv2, by simpa using hr2, by simp⟩, hB.trans hb2⟩
 case done =>
  rintro D ys W hD hp ⟨⟨v, hv, hrow, hnil⟩, hB⟩ hK
  have hc := hv.cell
  gi_wp2
  refine ⟨by simp, .inl ⟨_, _, rfl, run_takeDeferred hK, ?_⟩⟩
  exact ⟨_, results_tmp rfl _ _ _, v, ys, rfl, hp, ownsRow_putObj hrow _ hK rfl, hnil, hB.trans (belowK_b (w := w) (Nat.le_refl _) W D _ _ (by simp at hD; omega) hK rfl rfl)⟩
 case stop =>
  rintro D c pre W _ _ h _
  exact h.elim
set_option maxHeartbeats 1000000 in
theorem collU_in {H : Type} (F : Fence) (n : Nat) (h8 : F.fn 40) (h3 : F.fn 47) (h5 : F.fn 42) (hro : F.round = none) (hn : 4 ≤ n) (Bm ob b nn : Nat) (D0 : DataW H) (R : Value → Option (DataW H × List MemPlace)) (hlen : Maps.size D0 ≤ 1000000) (w : World) (hBm : Bm < w.heap.size)
  (hm : w.cell? ⟨Bm, ob, none⟩ = some (.map (some b))) (hown : w.ownsMap Tryd.prog 23 R b nn D0) :
  CallsIn F n Tryd.prog 40 #[.func (.func 42) #[] #[.pointer (some ⟨Bm, ob, none⟩)]] w fun e W' => ∃ (v : Value) (ss : List Int), e = .returned v ∧ ss.Perm (intKeys D0) ∧ W'.ownsRow w.heap.size 23 1 v ss.length (ss.map encU) ∧ (v = .slice none 0 0 ↔ ss = []) ∧ Below w.heap.size w W' := by
 have h1 : 1 ≤ n := by omega
 refine callsIn_of_wp Tryd.func40 rfl h8 ?_ hro
 simp only [Tryd.ntmps40, List.size_toArray, List.length_cons, List.length_nil, Nat.reduceAdd, Nat.reduceSub, Array.replicate_succ, Array.replicate_zero, List.push_toArray, List.append_toArray, List.nil_append, List.cons_append]
 gi_wp2_with (gi_at_call 47; refine (appU_in F (n - 1) h3 h5 hro (by omega) Bm ob b nn D0 R hlen _ hBm hm hown).mono ?_; rintro e w' ⟨v, ss, rfl, hp, hrow, hnil, hb⟩)
 go_ret
 exact ⟨v, ss, rfl, hp, hrow, hnil, hb⟩
end Go.AX
namespace Go.AX
open Go Go.Proofs
open Go.WideElems (Fit rd rg)
theorem sortL_of_perm {l l' : List T32} (h : l.Perm l') : iU l = iU l' := by
 refine List.Perm.eq_of_pairwise (le := fun a b => a.toNat ≤ b.toNat) (fun a b _ _ h1 h2 => BitVec.eq_of_toNat_eq (Nat.le_antisymm h1 h2)) (sortL_sorted l) (sortL_sorted l') (((sortL_perm l).trans h).trans (sortL_perm l').symm)
def keysG : List AV → H → Nat → Option (AV × H × Nat)
 | [.mp m], hp, nx => some (.fn 42 [.op nx 0], upd hp nx (.cells [.mp m] true), nx + 10)
 | _, _, _ => none
theorem keysG_eq (m : Nat) (hp : H) (nx : Nat) : keysG [.mp m] hp nx = some (.fn 42 [.op nx 0], upd hp nx (.cells [.mp m] true), nx + 10) := (rfl)
attribute [go_sem] keysG_eq
theorem keys_ok : cQ Tryd.prog GLh 29 keysG := by
 refine gF Tryd.func29 (aT rfl) ?_
 intro args hp nx r hp' nx' hg
 unfold keysG at hg
 split at hg
 ·rename_i m
  simp only [Option.some.injEq, Prod.mk.injEq] at hg; obtain ⟨rfl, rfl, rfl⟩ := hg
  refine ⟨Nat.le_of_ble_eq_true rfl, by omega, fun hnone => ?_⟩
  refine aA rfl ?_
  refine aC (Γ := aL) [1] (aD _ _) rfl rfl rfl (fun K hK => ?_)
  simp (disch := omega) only [Tryd.f29, go_sem, Nat.reduceAdd, ↓reduceIte]
  refine hK _ ?_
  refine aB ?_
  refine aA rfl ?_
  refine aC (Γ := aL) [2] (aD _ _) rfl rfl rfl (fun K hK => ?_)
  simp (disch := omega) only [Tryd.f29, go_sem, Nat.reduceAdd, ↓reduceIte]
  refine hK _ ?_
  refine aB ?_
  refine aS rfl ?_
  exact ⟨rfl, fun j o h => h, by simp only; omega⟩
 ·cases hg
theorem okd36 : bX Tryd.prog GLh 29 (.heap keysG) := ⟨⟨_, Tryd.func29, rfl, rfl⟩, keys_ok⟩
def keysU : List (AV × AV) → Option (List T32)
 | [] => some []
 | p :: r => match p.1 with
  | .w32 k => aK (keysU r) fun l => some (k :: l)
  | _ => none
theorem keysU_B (l : List (W32 × KY)) : keysU (encB l) = some (l.map (·.1)) := by
 induction l with
 | nil => rfl
 | cons p r ih => simp only [encB, List.map_cons, keysU] at ih ⊢; rw [ih]; rfl
theorem keysU_inv : ∀ {es : List (AV × AV)} {ks : List T32}, keysU es = some ks → ks.length = es.length ∧ ∀ i (h : i < es.length), es[i].1 = .w32 (ks.getD i 0#32)
 | [], ks, h => by obtain rfl := Option.some.inj h; exact ⟨rfl, fun i h => by simp at h⟩
 | p :: r, ks, h => by
  simp only [keysU] at h
  split at h
  ·rename_i k e
   replace h := aJ h; obtain ⟨l, hl, h⟩ := h
   obtain rfl := Option.some.inj h
   obtain ⟨i1, i2⟩ := keysU_inv hl
   refine ⟨by simp [i1], fun i hi => ?_⟩
   cases i with
   | zero => exact e
   | succ i => simpa using i2 i (by simpa using hi)
  ·cases h
def sdO (nx : Nat) (hp : H) : AO → Option (AV × H × Nat)
 | .mapo es _ => aK (keysU es) fun ks => aN (ks.length ≤ 1000000) (some (.os nx 0 ks.length 1 true, upd hp nx (.cells (c32 (iU ks)) true), nx + 1))
 | _ => none
def sdP (nx : Nat) (hp : H) : AO → Option (AV × H × Nat)
 | .cells [.mp m] _ => aK (hp m) (sdO nx hp)
 | _ => none
def sdG : List AV → H → Nat → Option (AV × H × Nat)
 | [.fn 42 [.op b 0]], hp, nx => aK (hp b) (sdP nx hp)
 | _, _, _ => none
theorem sdG_eq (b : Nat) (hp : H) (nx : Nat) : sdG [.fn 42 [.op b 0]] hp nx = aK (hp b) (sdP nx hp) := (rfl)
theorem sdP_eq (m nx : Nat) (hp : H) (mt : Bool) : sdP nx hp (.cells [.mp m] mt) = aK (hp m) (sdO nx hp) := (rfl)
theorem sdO_eq (nx : Nat) (hp : H) (es : List (AV × AV)) (mt : Bool) : sdO nx hp (.mapo es mt) = aK (keysU es) fun ks => aN (ks.length ≤ 1000000) (some (.os nx 0 ks.length 1 true, upd hp nx (.cells (c32 (iU ks)) true), nx + 1)) := (rfl)
attribute [go_sem] sdG_eq sdP_eq sdO_eq keysU_B
def oneRU : Value → Option (DataW Unit × List MemPlace) := fun _ => some (.lit (.bool true), [])
theorem ins_permU (x : Lit × DataW Unit) : ∀ l, (DataW.insert x l).Perm (x :: l)
 | [] => List.Perm.refl _
 | y :: r => by
  simp only [DataW.insert]
  split
  ·exact List.Perm.refl _
  ·exact ((ins_permU x r).cons y).trans (List.Perm.swap x y r)
theorem foldr_permU : ∀ l : List (Lit × DataW Unit), (l.foldr DataW.insert []).Perm l
 | [] => List.Perm.refl _
 | x :: r => (ins_permU x _).trans ((foldr_permU r).cons x)
theorem rw32_inv {σ : Nat → Loc} {I : Nat → Prop} {w : World} {n : W32} {v : Value} (h : Rel σ I w (.w32 n) v) : v = .int .u32 (n.toNat : Int) := by cases h; rfl
theorem wf_u32 (k : W32) : (Lit.int .u32 (k.toNat : Int)).wf = true := by
 have := k.isLt
 simp [Lit.wf, IntKind.min, IntKind.max, IntKind.signed, IntKind.bits]
 omega
theorem owns_of_rowU {σ : Nat → Loc} {I : Nat → Prop} {w : World} {es : List (AV × AV)} {blk : Nat} {ks : List T32} (h : MapRow σ I w es blk) (hk : keysU es = some ks) (hlen : ks.length ≤ 1000000) :
  ∃ D : DataW Unit, w.ownsMap Tryd.prog 23 oneRU blk ks.length D ∧ (intKeys D).Perm (ks.map fun k => (k.toNat : Int)) ∧ Maps.size D = ks.length := by
 obtain ⟨⟨ents, cl, h1, h2, h3, h4⟩⟩ := h
 obtain ⟨k1, k2⟩ := keysU_inv hk
 have hkey : ∀ i (hi : i < ents.size), ents[i].key = .int .u32 ((ks.getD i 0#32).toNat : Int) := by
  intro i hi
  have := (h4 i (by omega)).2.1
  rw [k2 i (by omega)] at this
  have e : ents.getD i default = ents[i] := by rw [Array.getD_eq_getD_getElem?, Array.getElem?_eq_getElem hi]; rfl
  rw [e] at this
  exact rw32_inv this
 have hrd : ∀ i (hi : i < ents.size), rd Tryd.prog 23 oneRU ents[i] = some (.int .u32 ((ks.getD i 0#32).toNat : Int), .lit (.bool true)) := by
  intro i hi
  have hw := wf_u32 (ks.getD i 0#32)
  have hk := hkey i hi
  generalize ks.getD i 0#32 = k at hw hk ⊢
  simp [rd, hk, keyOf, mapKey, Tryd.underlying23, hw, oneRU]
 have hmap : ents.toList.map (rg Tryd.prog 23 oneRU) = ks.map fun k => (.int .u32 (k.toNat : Int), .lit (.bool true)) := by
  apply List.ext_getElem
  ·simp [h2, k1]
  ·intro i hi1 hi2
   simp at hi1 hi2
   simp only [List.getElem_map, Array.getElem_toList, rg, hrd i hi1, Option.getD_some]
   rw [List.getD_eq_getElem?_getD, List.getElem?_eq_getElem hi2]; rfl
 refine ⟨.map ((ents.toList.map (rg Tryd.prog 23 oneRU)).foldr DataW.insert []), ⟨ents, cl, h1, ⟨by simp only [maxLen]; omega, h3, fun x hx => ?_⟩, by omega, rfl⟩, ?_, ?_⟩
 ·obtain ⟨i, hi, rfl⟩ := List.getElem_of_mem hx
  exact ⟨_, hrd i (by simpa using hi)⟩
 ·rw [hmap]
  simp only [intKeys]
  refine ((foldr_permU _).map _).trans (List.Perm.of_eq ?_)
  rw [List.map_map]
  rfl
 ·rw [hmap, Maps.size_eq, (foldr_permU _).length_eq, List.length_map]
attribute [local go_sem] Oper.semAt_some
set_option maxRecDepth 100000 in
set_option maxHeartbeats 2000000 in
theorem sortedU_in {H : Type} (F : Fence) (n : Nat) (h6 : F.fn 28) (h8 : F.fn 40) (h9 : F.fn 41) (h3 : F.fn 47) (h5 : F.fn 42) (hro : F.round = none) (hn : 5 ≤ n) (Bm ob b nn : Nat) (D0 : DataW H) (R : Value → Option (DataW H × List MemPlace)) (hlen : Maps.size D0 ≤ 1000000) (w : World) (hBm : Bm < w.heap.size)
  (hm : w.cell? ⟨Bm, ob, none⟩ = some (.map (some b))) (hown : w.ownsMap Tryd.prog 23 R b nn D0) (Post : Value → World → Prop)
  (hsort : ∀ (v : Value) (ss : List Int) (w1 : World), ss.Perm (intKeys D0) → w1.ownsRow w.heap.size 23 1 v ss.length (ss.map encU) → (v = .slice none 0 0 ↔ ss = []) → RowKit.Below w.heap.size w w1 → CallsIn F (n - 1) Tryd.prog 41 #[v] w1 fun e w2 => e = .returned (.tuple #[]) ∧ Post v w2) :
  CallsIn F n Tryd.prog 28 #[.func (.func 42) #[] #[.pointer (some ⟨Bm, ob, none⟩)]] w fun e w' => ∃ v, e = .returned v ∧ Post v w' := by
 have h1 : 1 ≤ n := by omega
 refine callsIn_of_wp Tryd.func28 rfl h6 ?_ hro
 simp only [Tryd.ntmps28, List.size_toArray, List.length_cons, List.length_nil, Nat.reduceAdd, Nat.reduceSub, Array.replicate_succ, Array.replicate_zero, List.push_toArray, List.append_toArray, List.nil_append, List.cons_append]
 gi_wp2_with (gi_at_call 40; refine (collU_in F (n - 1) h8 h3 h5 hro (by omega) Bm ob b nn D0 R hlen _ hBm hm hown).mono ?_; rintro e w1 ⟨v, ss, rfl, hp, hrow, hnil, hb⟩)
 gi_wp2_with (gi_at_call 41; refine (hsort v ss w1 hp hrow hnil hb).mono ?_; rintro e w2 ⟨rfl, hpost⟩)
 go_ret
 exact ⟨v, rfl, hpost⟩
theorem sortedU_calls {H : Type} (Bm ob b nn : Nat) (D0 : DataW H) (R : Value → Option (DataW H × List MemPlace)) (hlen : Maps.size D0 ≤ 1000000) (w : World) (hBm : Bm < w.heap.size)
  (hm : w.cell? ⟨Bm, ob, none⟩ = some (.map (some b))) (hown : w.ownsMap Tryd.prog 23 R b nn D0) (Post : Value → World → Prop)
  (hsort : ∀ (v : Value) (ss : List Int) (w1 : World), ss.Perm (intKeys D0) → w1.ownsRow w.heap.size 23 1 v ss.length (ss.map encU) → (v = .slice none 0 0 ↔ ss = []) → RowKit.Below w.heap.size w w1 → Calls Tryd.prog 41 #[v] w1 fun e w2 => e = .returned (.tuple #[]) ∧ Post v w2) :
  Calls Tryd.prog 28 #[.func (.func 42) #[] #[.pointer (some ⟨Bm, ob, none⟩)]] w fun e w' => ∃ v, e = .returned v ∧ Post v w' :=
 callsIn_wide.1 (sortedU_in Fence.wide 6 trivial trivial trivial trivial trivial rfl (by omega) Bm ob b nn D0 R hlen w hBm hm hown Post (fun v ss w1 a b c d => callsIn_wide.2 (hsort v ss w1 a b c d)))
set_option maxHeartbeats 1000000 in
theorem sd_ok : cQ Tryd.prog GLh 28 sdG := by
 intro c σ I w hp nx args vals r hp' nx' hGL hi hs hr hg
 unfold sdG at hg
 split at hg
 ·rename_i b
  replace hg := aJ hg; obtain ⟨o, ho, hg⟩ := hg
  unfold sdP at hg
  split at hg
  ·rename_i m mt
   replace hg := aJ hg; obtain ⟨o2, ho2, hg⟩ := hg
   cases o2 with
   | cells xs mt2 => cases hg
   | mapo es mt2 =>
   rw [sdO_eq] at hg
   replace hg := aJ hg; obtain ⟨ks, hks, hg⟩ := hg
   replace hg := aP hg; obtain ⟨hlen, hg⟩ := hg
   simp only [Option.some.injEq, Prod.mk.injEq] at hg; obtain ⟨rfl, rfl, rfl⟩ := hg
   refine ⟨by omega, ?_⟩
   have hr0 := hr 0 (by simp)
   simp only [List.getElem_cons_zero] at hr0
   generalize hv0 : vals.getD 0 undef = v0 at hr0
   cases hr0 with
   | fn f xs vs hvs hrel =>
   have hrp := hrel 0 (by simp)
   simp only [List.getElem_cons_zero] at hrp
   obtain ⟨blk, base, sz, hl, hp0⟩ := op_inv hrp
   have hvs1 : vs = #[.pointer (some ⟨blk, base + 0, none⟩)] := by
    apply Array.ext
    ·rw [hvs]; rfl
    ·intro i h1 h2
     obtain rfl : i = 0 := by simp at h2; omega
     have : vs.getD 0 undef = vs[0] := by simp [Array.getD, h1]
     rw [← this]; simpa using hp0
   have hvals : vals = #[.func (.func 42) #[] #[.pointer (some ⟨blk, base + 0, none⟩)]] := by
    apply Array.ext
    ·rw [hs]; rfl
    ·intro i h1 h2
     obtain rfl : i = 0 := by simp at h2; omega
     have : vals.getD 0 undef = vals[0] := by simp [Array.getD, h1]
     rw [← this, hv0, hvs1]; rfl
   have hob := hi.own b _ ho
   have hrow := fH hob hl
   obtain ⟨v1, hc1, _, hr1⟩ := hrow.get 0 (by simp)
   simp only [List.getElem_cons_zero] at hr1
   obtain ⟨mb, e1, hmr, _⟩ := hi.own m _ ho2
   obtain rfl := mp_at hr1 e1
   have hlt : blk < w.heap.size := hob.lt hl
   obtain ⟨D, d1, d2, d3⟩ := owns_of_rowU hmr hks hlen
   rw [hvals]
   refine (sortedU_calls blk (base + 0) mb ks.length D oneRU (by omega) w hlt hc1 d1 (fun v w2 => ∃ σ' I', Inv c σ' I' w2 (upd hp nx (.cells (c32 (iU ks)) true)) (fun id => nx + 1 ≤ id) ∧ Rel σ' I' w2 (.os nx 0 ks.length 1 true) v ∧ iO σ I w σ' I' w2 ∧ (∀ id, id < nx → σ id = .unset → σ' id = .unset)) ?_).mono ?_
   ·intro v ss w' hperm hrow2 hnil hb
    have hp2 := hperm.trans d2
    have hsl : ss.length = ks.length := by rw [hp2.length_eq, List.length_map]
    have hinr : ∀ x ∈ ss, (((BitVec.ofInt 32 x).toNat : Nat) : Int) = x := by
     intro x hx
     obtain ⟨k, _, rfl⟩ := List.mem_map.1 (hp2.mem_iff.1 hx)
     have := k.isLt
     rw [BitVec.toNat_ofInt]
     omega
    obtain ⟨l, hl2⟩ : ∃ l, l = ss.map (BitVec.ofInt 32) := ⟨_, rfl⟩
    have hss : ss = l.map fun k => (k.toNat : Int) := by
     rw [hl2, List.map_map]
     exact (List.map_id' ss).symm.trans (List.map_congr_left fun x hx => (hinr x hx).symm)
    have hlp : l.Perm ks := by
     rw [hl2]
     refine (hp2.map _).trans (List.Perm.of_eq ?_)
     rw [List.map_map]
     refine (List.map_congr_left fun k _ => ?_).trans (List.map_id' ks)
     apply BitVec.eq_of_toNat_eq
     have := k.isLt
     simp only [Function.comp, BitVec.toNat_ofInt]
     omega
    have hll : l.length = ks.length := hlp.length_eq
    rw [hss, List.length_map, List.map_map, hll] at hrow2
    have hext := hi.extend hb.os hb.tape hb.output hb.size (fun k hk => hb.block k hk) I (fun _ h => h) (fun k hk => .inl hk)
    have hun : ∀ id, (nx + 1 ≤ id ∨ (id = nx ∨ (id < nx ∧ σ id = .unset))) → σ id = .unset := by
     intro id h
     rcases h with h | h | h
     ·exact hi.un id (by omega)
     ·exact hi.un id (by omega)
     ·exact h.2
    have hext2 : Inv c σ I w' hp (fun k => nx + 1 ≤ k ∨ (k = nx ∨ (k < nx ∧ σ k = .unset))) := { hext with un := hun }
    obtain ⟨v2, σ2, I2, a1, a2, a3, a4⟩ := freshFin (I := I) (Iw := I) (w := w) (cx := nx + 1) (un := fun k => k = nx ∨ (k < nx ∧ σ k = .unset)) (id := nx) (nn := ks.length) (ee := 1) (xs := c32 l) (v := v) (I1 := I) hext2 (.inl rfl) hi.size (fun k hk => hi.ilt k hk)
     (fun k o blk base sz h1 h2 => (hi.own k o h1).lt h2) ⟨fun _ _ => rfl, fun _ h => h, fun k hk => hb.block k (hi.ilt k hk)⟩ (by
      rcases hrow2.2 with ⟨rfl, h0⟩ | ⟨g, cap, cur, rfl, hbg, hgb, hcap, hmax, hsz, htake⟩
      ·left
       refine ⟨.inl rfl, h0, ?_⟩
       rw [h0] at hll
       rw [List.eq_nil_of_length_eq_zero hll]; rfl
      ·right
       refine ⟨g, 0, cap, cap, rfl, hcap, by omega, hbg, fun hI5 => absurd (hi.ilt g hI5) (by omega), ⟨cur, 23, 0, 0, hgb, by omega, by rw [iY]; omega, ⟨Nat.le_refl _, fun _ _ => by omega⟩, fun i hi5 => ?_⟩, fun i hi5 => ?_⟩
       ·have hil : i < l.length := by rw [iY] at hi5; exact hi5
        have e5 : (c32 l)[i]'hi5 = .w32 l[i] := by simp [c32]
        rw [e5]
        have h6 : (cur.toList.take (ks.length * 1))[i]? = some (.int .u32 (l[i].toNat : Int)) := by rw [htake]; simp [hil]
        rw [List.getElem?_take_of_lt (by omega)] at h6
        have e6 : cur.getD (0 + i) undef = .int .u32 (l[i].toNat : Int) := by
         rw [Nat.zero_add, Array.getD_eq_getD_getElem?, ← Array.getElem?_toList, h6]; rfl
        rw [e6]; exact .w32 _
       ·have hil : i < l.length := by rw [iY] at hi5; exact hi5
        have e5 : (c32 l)[i]'hi5 = .w32 l[i] := by simp [c32]
        rw [e5]; rfl) (fun k h => by omega)
    cases a1
    have hca : c32 l = cA l.toArray := by simp [cA, c32]
    have hmut : dP srtG [.os nx 0 ks.length 1 true] (upd hp nx (.cells (c32 l) true)) (nx + 1) = some (.tup [], upd hp nx (.cells (c32 (iU ks)) true), nx + 1) := by
     rw [mutH_os, bJ, if_pos rfl, aX, mutO_c, cU _ rfl, srtG_eq, hca, unA_cA, aX, cU _ ⟨by simpa using hll, hlen⟩, aX]
     have e7 : iU l = iU ks := sortL_of_perm hlp
     have e8 : cA (iU ks).toArray = c32 (iU ks) := by simp [cA, c32]
     simp only [Option.some.injEq, Prod.mk.injEq, true_and, and_true]
     rw [e7, e8]
     funext k
     simp only [bJ]
     split <;> rfl
    obtain ⟨_, hcall⟩ := srt_ok c σ2 I2 w' (upd hp nx (.cells (c32 l) true)) (nx + 1) [.os nx 0 ks.length 1 true] #[v] _ _ _ hGL (a2.mono_un (fun k hk => .inl hk)) rfl (fun i hi6 => by
     obtain rfl : i = 0 := by simp at hi6; omega
     exact a3) hmut
    refine hcall.mono ?_
    rintro e w2 ⟨v3, σ3, I3, rfl, b2, b3, b4, b5⟩
    have hv3 : v3 = .tuple #[] := by
     cases b3 with
     | tup xs vs h1 h2 =>
      have : vs = #[] := Array.eq_empty_of_size_eq_zero h1
      rw [this]
    rw [hv3]
    exact ⟨rfl, σ3, I3, b2, a3.grow b4, a4.trans b4, fun id hid hun2 => b5 id (by omega) (a2.un id (.inr ⟨.inr ⟨hid, hun2⟩, by omega⟩))⟩
   ·rintro e w2 ⟨v, rfl, σ', I', b2, b3, b4, b5⟩
    exact ⟨v, σ', I', rfl, b2, b3, b4, b5⟩
  ·cases hg
 ·cases hg
theorem okd35 : bX Tryd.prog GLh 28 (.heap sdG) := ⟨⟨_, Tryd.func28, rfl, rfl⟩, sd_ok⟩
end Go.AX
namespace Go.AX
open Go Go.Proofs
set_option maxRecDepth 8000
def ky0 : KY := ⟨0#32, 0, 0, ⟨0#8, 0#8, 0#8, 0#8, 0#8, 0#8, 0#8, 0#8⟩, 0, 0#32, 0#32, 0#32⟩
def hP : List KY → List AV
 | [] => []
 | k :: r => kyC k ++ hP r
theorem iJ (l : List KY) : (hP l).length = 15 * l.length := by
 induction l with
 | nil => rfl
 | cons k r ih => rw [hP, List.length_append, ih, List.length_cons]; show 15 + _ = _; omega
theorem kysC_app (l m : List KY) : hP (l ++ m) = hP l ++ hP m := by
 induction l with
 | nil => rfl
 | cons k r ih => rw [List.cons_append, hP, ih, hP, List.append_assoc]
theorem kysC_one (k : KY) : hP [k] = kyC k := by rw [hP, hP, List.append_nil]
def idsL (C : RC) : List W32 := iU (C.by'.map (·.1))
def iP (C : RC) : List KY := (idsL C).map fun id => (iK id C.by').getD ky0
theorem idsL_len (C : RC) : (idsL C).length = C.by'.length := by rw [idsL, sortL_len, List.length_map]
theorem allL_len (C : RC) : (iP C).length = C.by'.length := by rw [iP, List.length_map, idsL_len]
theorem getK_mem {β : Type} (id : W32) : ∀ l : List (W32 × β), id ∈ l.map (·.1) → ∃ v, iK id l = some v
 | [], h => by cases h
 | p :: r, h => by
  simp only [iK]
  by_cases e : id = p.1
  ·exact ⟨p.2, by rw [if_pos e]⟩
  ·rw [if_neg e]
   rw [List.map_cons, List.mem_cons] at h
   exact getK_mem id r (h.resolve_left e)
theorem idsL_get (C : RC) (k : Nat) (hk : k < (idsL C).length) : iK ((idsL C).getD k 0#32) C.by' = some ((iP C).getD k ky0) := by
 have hm : (idsL C).getD k 0#32 ∈ C.by'.map (·.1) := by
  rw [List.getD_eq_getElem?_getD, List.getElem?_eq_getElem hk]
  exact (sortL_perm _).mem_iff.1 (List.getElem_mem hk)
 obtain ⟨v, hv⟩ := getK_mem _ _ hm
 rw [hv]
 have e : (iP C).getD k ky0 = ((iK ((idsL C).getD k 0#32) C.by').getD ky0) := by
  simp [iP, List.getD_eq_getElem?_getD, List.getElem?_eq_getElem hk]
 rw [e, hv]; rfl
theorem allL_take (C : RC) (k : Nat) (hk : k < (iP C).length) : (iP C).take (k + 1) = (iP C).take k ++ [(iP C).getD k ky0] := by
 rw [List.take_add_one, List.getElem?_eq_getElem hk, List.getD_eq_getElem?_getD, List.getElem?_eq_getElem hk]; rfl
noncomputable def allG : List AV → H → Nat → Option (AV × H × Nat)
 | [.op d 0], hp, nx => aK (iN hp d) fun t => aN (t.C.by'.length ≤ 1000) (some (.sl t.C.by'.length (hP (iP t.C)), hp, nx + 200 + 100 * t.C.by'.length))
 | _, _, _ => none
theorem allG_eq (d : Nat) (hp : H) (nx : Nat) : allG [.op d 0] hp nx = aK (iN hp d) fun t => aN (t.C.by'.length ≤ 1000) (some (.sl t.C.by'.length (hP (iP t.C)), hp, nx + 200 + 100 * t.C.by'.length)) := (rfl)
attribute [go_sem] allG_eq
set_option maxHeartbeats 1000000 in
theorem all_ok : cQ Tryd.prog GLh 10 allG := by
 refine gF Tryd.func10 (aT rfl) ?_
 intro args hp nx r hp' nx' hg
 unfold allG at hg
 split at hg
 ·rename_i d
  replace hg := aJ hg; obtain ⟨⟨s, m, C⟩, hD0, hg⟩ := hg
  have hD := iV hD0
  replace hg := aP hg; obtain ⟨hlen, hg⟩ := hg
  simp only [Option.some.injEq, Prod.mk.injEq] at hg hD hlen; obtain ⟨rfl, rfl, rfl⟩ := hg
  refine ⟨Nat.le_of_ble_eq_true rfl, by omega, fun hnone => ?_⟩
  have h1 := hD.hd; have h2 := hD.hs; have h3 := hD.hm
  obtain ⟨n1, n2, n3, n4, n5, n6⟩ := hD.ne
  have hlt : ∀ k o, hp k = some o → k < nx := fun k o hk => gI hnone hk
  have hd := hlt _ _ h1
  have hs := hlt _ _ h2
  have hm := hlt _ _ h3
  have hil := idsL_len C
  have hal := allL_len C
  have hid : iU (C.by'.map (·.1)) = idsL C := rfl
  obtain ⟨N, hN⟩ : ∃ N, C.by'.length = N := ⟨_, rfl⟩
  rw [hN] at hlen hil hal ⊢
  refine aA rfl ?_
  refine aC (Γ := aL) [0] (aD _ _) rfl rfl rfl (fun K hK => ?_)
  simp (disch := omega) only [Tryd.f10, go_sem, ↓reduceIte]
  refine hK _ ?_
  refine aB ?_
  refine aA rfl ?_
  refine aC (Γ := aL) [0, 3] (aD _ _) rfl rfl rfl (fun K hK => ?_)
  simp (disch := omega) only [Tryd.f10, go_sem, ↓reduceIte]
  refine hK _ ?_
  refine aB ?_
  refine aA rfl ?_
  refine aA rfl ?_
  refine aC (Γ := bC [(29, .heap keysG), (28, .heap sdG)]) [0, 3, 11, 12, 13] (aH okd36 (aH okd35 aO)) rfl rfl rfl (fun K hK => ?_)
  simp (disch := omega) only [Tryd.f10, go_sem, Nat.reduceAdd, Nat.reduceLT, ↓reduceIte, h1, h2, jA, hid, hN, List.length_map, List.head?_cons, List.drop_succ_cons, List.drop_zero]
  refine hK _ ?_
  refine aB ?_
  refine iE 3 15 rfl ?_
  refine fF [0, 3, 11, 12, 13] ?_
  simp only [iB, fU, eB, ↓reduceIte, Nat.reduceEqDiff]
  refine aR 0 rfl rfl ?_
  refine bR (fun p : KIC => { fr := [(0, .op d 0), (3, .os p.id 0 p.k 15 true), (11, .os (nx + 1 + 1 + 8 + 10) 0 N 1 true), (12, .i N), (13, .i p.k)], hp := upd (upd (upd hp (nx + 1 + 1 + 8) (.cells [.mp s] true)) (nx + 1 + 1 + 8 + 10) (.cells (c32 (idsL C)) true)) p.id (.cells (hP ((iP C).take p.k)) true), nx := 0, cx := p.c }) (fun p => p.k ≤ N ∧ nx + 20 < p.id ∧ p.id < p.c ∧ p.c ≤ nx + 60 + 60 * p.k) (fun p => N - p.k) rfl ⟨⟨0, _, _⟩, ⟨Nat.zero_le _, by simp only; omega, by simp only; omega, by simp only; omega⟩, bD rfl rfl (Nat.le_refl _)⟩ ?_
  rintro ⟨k, id, c⟩ ⟨hk, hid1, hid2, hcc⟩ n0
  simp only at hk hid1 hid2 hcc ⊢
  refine aA rfl ?_
  refine aC (Γ := aL) [14, 0, 3, 11, 12, 13] (aD _ _) rfl rfl rfl (fun K hK => ?_)
  simp (disch := omega) only [Tryd.f10, go_sem, ↓reduceIte]
  refine hK _ ?_
  refine aB ?_
  refine aA rfl ?_
  refine aW (.tmp 14) rfl rfl rfl (fun h => ?_) (fun h => ?_)
  ·skip
   refine aI rfl ?_
   have hkN : k < N := by omega
   have hgk := idsL_get C k (by omega)
   have hta := allL_take C k (by omega)
   have htl : ((iP C).take k).length = k := by rw [List.length_take]; omega
   refine aQ rfl ?_
   refine aB ?_
   refine aA rfl ?_
   refine aR 1 rfl rfl ?_
   refine aA rfl ?_
   refine aC (Γ := aL) [0, 3, 5, 11, 12, 13] (aD _ _) rfl rfl rfl (fun K hK => ?_)
   simp (disch := omega) only [Tryd.f10, go_sem, Nat.reduceAdd, ↓reduceIte]
   refine hK _ ?_
   refine aB ?_
   have hkt := iJ ((iP C).take k)
   rw [htl] at hkt
   have htA : hP ((iP C).take (k + 1)) = hP ((iP C).take k) ++ kyC ((iP C).getD k ky0) := by rw [hta, kysC_app, kysC_one]
   generalize (iP C).getD k ky0 = X at hgk htA
   refine aC (Γ := aL) [0, 3, 11, 12, 13] (aD _ _) rfl rfl rfl (fun K hK => ?_)
   simp (disch := omega) only [Tryd.f10, go_sem, Nat.reduceAdd, Nat.reduceLeDiff, Nat.reduceLT, ↓reduceIte, h1, h2, hgk, jA, encK_eq, cK, List.nil_append, List.cons_append, List.head?_cons, List.take_succ_cons, List.take_zero, List.drop_succ_cons, List.drop_zero, List.length_cons, List.length_nil, hkt]
   refine hK _ ?_
   refine bU (aB ?_)
   refine aC (Γ := aL) [0, 3, 11, 12, 13] (aD _ _) rfl rfl rfl (fun K hK => ?_)
   simp (disch := omega) only [Tryd.f10, go_sem, Nat.reduceAdd, ↓reduceIte]
   refine hK _ ?_
   refine bT ?_
   refine ⟨⟨k + 1, c + 1 + 3 + 8, _⟩, ⟨by simp only; omega, by simp only; omega, by simp only; omega, by simp only; omega⟩, by simp only; omega, ⟨fun _ => .inr ?_, fun j o h => ?_, Nat.le_refl _⟩⟩
   ·simp only [Int.natCast_add, Int.natCast_one]
   ·simp only at h
    refine bS ?_ (bS ?_ (bS ?_ (fun j o h => ?_))) j o h
    ·simp (disch := omega) only [aV, ↓reduceIte, eq_self, htA] <;> rfl
    ·simp (disch := omega) only [aV, de_app, bY, ↓reduceIte, eq_self]
    ·simp (disch := omega) only [aV, de_app, bY, ↓reduceIte, eq_self]
    ·have := hlt j o h
     simp (disch := omega) only [aV, de_app, bY, ↓reduceIte]
     exact h
  ·skip
   refine aI rfl ?_
   refine bF 0 rfl rfl ?_
   refine aY (aZ (bE ?_))
   refine aB ?_
   refine aA rfl ?_
   obtain rfl : k = N := by omega
   rw [List.take_of_length_le (by omega)]
   have hkl := iJ (iP C)
   refine awp_sl 3 id 0 k 15 rfl (by rw [bJ, if_pos rfl]) (by omega) ?_
   rw [List.drop_zero, List.take_of_length_le (by omega)]
   refine aC (Γ := aL) [2] (aD _ _) rfl rfl rfl (fun K hK => ?_)
   simp (disch := omega) only [Tryd.f10, go_sem, Nat.reduceAdd, ↓reduceIte]
   refine hK _ ?_
   refine aB ?_
   refine aS rfl ?_
   refine ⟨rfl, fun j o h => ?_, by simp only; omega⟩
   have := hlt j o h
   simp (disch := omega) only [aV, bY, ↓reduceIte]
   exact h
 ·cases hg
theorem okd15 : bX Tryd.prog GLh 10 (.heap allG) := ⟨⟨_, Tryd.func10, rfl, rfl⟩, all_ok⟩
end Go.AX
namespace Go.AX
open Go Go.Proofs
set_option maxRecDepth 8000
def tnC (C : RC) (id : W32) (k : KY) (st : Int) (now : W32) : RC := { C with by' := putK id { k with st := st, since := now } C.by' }
def goC (C : RC) (id : W32) : RC := { C with by' := delK id C.by', tr := delK id C.tr }
def tnV (C : RC) (id : W32) (st : Int) (now : W32) : Int × RC := match iK id C.by' with
 | none => (130, C)
 | some k => if st ≤ k.st ∨ 4 < st then (131, C) else if st = 4 then (0, goC C id) else (0, tnC C id k st now)
theorem tnV_n {C : RC} {id : W32} {st : Int} {now : W32} (h : iK id C.by' = none) : tnV C id st now = (130, C) := by rw [tnV, h]
theorem tnV_y {C : RC} {id : W32} {st : Int} {now : W32} {k : KY} (h : iK id C.by' = some k) : tnV C id st now = if st ≤ k.st ∨ 4 < st then (131, C) else if st = 4 then (0, goC C id) else (0, tnC C id k st now) := by rw [tnV, h]
theorem ROk.upd {C : RC} (h : ROk C) {id : W32} {k k' : KY} (hk : iK id C.by' = some k) (e1 : k'.id = k.id) (e2 : k'.h = k.h) (e3 : k'.next = k.next) (e4 : k'.seed = k.seed) : ROk { C with by' := putK id k' C.by' } := by
 obtain ⟨b1, b2, b3, b4⟩ := h.key _ _ hk
 refine ⟨fun i k2 hk2 => ?_, fun i t ht => ?_, put_nodup _ _ _ h.nb, h.nt⟩
 ·simp only [jK] at hk2
  split at hk2
  ·rename_i e
   obtain rfl := Option.some.inj hk2
   subst e
   exact ⟨e1.trans b1, by rw [e2]; exact b2, by rw [e2, e3]; exact b3, b4⟩
  ·exact h.key _ _ hk2
 ·obtain ⟨k2, a1, a2⟩ := h.tree _ _ ht
  by_cases e : i = id
  ·subst e
   obtain rfl := Option.some.inj (hk.symm.trans a1)
   exact ⟨k', by simp only [jK, if_true], by rw [e2, e4]; exact a2⟩
  ·exact ⟨k2, by simp only [jK]; rw [if_neg e]; exact a1, a2⟩
theorem ROk.goC {C : RC} (h : ROk C) (id : W32) : ROk (goC C id) := by
 refine ⟨fun i k2 hk2 => ?_, fun i t ht => ?_, del_nodup _ _ h.nb, del_nodup _ _ h.nt⟩
 ·simp only [AX.goC] at hk2
  rw [getK_del _ _ _ h.nb] at hk2
  split at hk2
  ·cases hk2
  ·exact h.key _ _ hk2
 ·simp only [AX.goC] at ht ⊢
  rw [getK_del _ _ _ h.nt] at ht
  split at ht
  ·cases ht
  ·rename_i e
   obtain ⟨k2, a1, a2⟩ := h.tree _ _ ht
   exact ⟨k2, by rw [getK_del _ _ _ h.nb, if_neg e]; exact a1, a2⟩
theorem ROk.tnV {C : RC} (h : ROk C) (id : W32) (st : Int) (now : W32) : ROk (tnV C id st now).2 := by
 rcases hk : iK id C.by' with _ | k
 ·rw [tnV_n hk]; exact h
 ·rw [tnV_y hk]
  split
  ·exact h
  ·split
   ·exact h.goC id
   ·exact h.upd hk rfl rfl rfl rfl
noncomputable def turnG20 : List AV → H → Nat → Option (AV × H × Nat)
 | [.op d 0, .w32 id, .i st, .w32 now], hp, nx => aK (iN hp d) fun t => some (.i (tnV t.C id st now).1, iL d t.s t.m (tnV t.C id st now).2 hp, nx + 90)
 | _, _, _ => none
theorem turnG20_eq (d : Nat) (id now : W32) (st : Int) (hp : H) (nx : Nat) : turnG20 [.op d 0, .w32 id, .i st, .w32 now] hp nx = aK (iN hp d) fun t => some (.i (tnV t.C id st now).1, iL d t.s t.m (tnV t.C id st now).2 hp, nx + 90) := (rfl)
attribute [go_sem] turnG20_eq
set_option maxHeartbeats 1000000 in
theorem turn20_ok : cQ Tryd.prog GLh 26 turnG20 := by
 refine gF Tryd.func26 (aT rfl) ?_
 intro args hp nx r hp' nx' hg
 unfold turnG20 at hg
 split at hg
 ·rename_i d id st now
  replace hg := aJ hg; obtain ⟨⟨s, m, C⟩, hD0, hg⟩ := hg
  have hD := iV hD0
  simp only [Option.some.injEq, Prod.mk.injEq] at hg hD; obtain ⟨rfl, rfl, rfl⟩ := hg
  refine ⟨Nat.le_of_ble_eq_true rfl, by omega, fun hnone => ?_⟩
  have h1 := hD.hd; have h2 := hD.hs; have h3 := hD.hm
  obtain ⟨n1, n2, n3, n4, n5, n6⟩ := hD.ne
  have hlt : ∀ k o, hp k = some o → k < nx := fun k o hk => gI hnone hk
  have hd := hlt _ _ h1
  have hs := hlt _ _ h2
  have hm := hlt _ _ h3
  refine aA rfl ?_
  refine aC (Γ := aL) [0, 1, 2, 3] (aD _ _) rfl rfl rfl (fun K hK => ?_)
  simp (disch := omega) only [Tryd.f26, go_sem, Nat.reduceAdd, ↓reduceIte]
  refine hK _ ?_
  refine aB ?_
  rcases hk : iK id C.by' with _ | k
  ·skip
   rw [tnV_n hk]
   refine aA rfl ?_
   refine aC (Γ := aL) [0, 1, 2, 3, 9, 10] (aD _ _) rfl rfl rfl (fun K hK => ?_)
   simp (disch := omega) only [Tryd.f26, go_sem, Nat.reduceAdd, Nat.reduceLeDiff, Nat.reduceLT, ↓reduceIte, h1, h2, hk, jA, List.head?_cons, List.drop_succ_cons, List.drop_zero]
   refine hK _ ?_
   refine aB ?_
   refine aA rfl ?_
   refine aR 0 rfl rfl ?_
   refine aA rfl ?_
   refine aC (Γ := aL) [20, 0, 1, 2, 3, 9] (aD _ _) rfl rfl rfl (fun K hK => ?_)
   simp (disch := omega) only [Tryd.f26, go_sem, Nat.reduceAdd, ↓reduceIte]
   refine hK _ ?_
   refine aB ?_
   refine eC (.tmp 20) rfl rfl rfl (fun h => ?_) (fun h => ?_)
   ·skip
    refine aI rfl ?_
    refine aA rfl ?_
    refine aC (Γ := aL) [8] (aD _ _) rfl rfl rfl (fun K hK => ?_)
    simp (disch := omega) only [Tryd.f26, go_sem, ↓reduceIte]
    refine hK _ ?_
    refine aB ?_
    refine aS rfl ?_
    refine bN (bI ?_)
    rw [iQ hD]
    exact ⟨rfl, fun j o h => jB hnone (by omega) j o h, by simp only; omega⟩
   ·skip
    refine aI rfl ?_
    cases h
  ·skip
   have ek := tnV_y (st := st) (now := now) hk
   refine aA rfl ?_
   refine aC (Γ := aL) [0, 1, 2, 3, 9, 10] (aD _ _) rfl rfl rfl (fun K hK => ?_)
   simp (disch := omega) only [Tryd.f26, go_sem, Nat.reduceAdd, Nat.reduceLeDiff, Nat.reduceLT, ↓reduceIte, h1, h2, hk, jA, encK_eq, List.head?_cons, List.drop_succ_cons, List.drop_zero]
   refine hK _ ?_
   refine aB ?_
   refine aA rfl ?_
   refine aR 0 rfl rfl ?_
   refine aA rfl ?_
   refine aC (Γ := aL) [20, 0, 1, 2, 3, 9] (aD _ _) rfl rfl rfl (fun K hK => ?_)
   simp (disch := omega) only [Tryd.f26, go_sem, Nat.reduceAdd, ↓reduceIte]
   refine hK _ ?_
   refine aB ?_
   refine eC (.tmp 20) rfl rfl rfl (fun h => ?_) (fun h => ?_)
   ·skip
    refine aI rfl ?_
    cases h
   ·skip
    refine aI rfl ?_
    clear h
    by_cases hb : st ≤ k.st
    ·skip
     have db : decide (st ≤ k.st) = true := decide_eq_true hb
     rw [if_pos (.inl hb)] at ek
     rw [ek]
     refine aA rfl ?_
     refine aC (Γ := aL) [23, 0, 1, 2, 3, 9] (aD _ _) rfl rfl rfl (fun K hK => ?_)
     simp (disch := omega) only [Tryd.f26, go_sem, Nat.reduceAdd, Nat.reduceLT, ↓reduceIte, db, List.head?_cons, List.drop_succ_cons, List.drop_zero]
     refine hK _ ?_
     refine aB ?_
     refine eC (.tmp 23) rfl rfl rfl (fun h => ?_) (fun h => ?_)
     ·skip
      refine aI rfl ?_
      refine aA rfl ?_
      refine aC (Γ := aL) [8] (aD _ _) rfl rfl rfl (fun K hK => ?_)
      simp (disch := omega) only [Tryd.f26, go_sem, ↓reduceIte]
      refine hK _ ?_
      refine aB ?_
      refine aS rfl ?_
      refine bN (bI ?_)
      rw [iQ hD]
      exact ⟨rfl, fun j o h => jB hnone (by omega) j o h, by simp only; omega⟩
     ·skip
      refine aI rfl ?_
      cases h
    ·skip
     have db : decide (st ≤ k.st) = false := decide_eq_false hb
     refine aA rfl ?_
     refine aC (Γ := aL) [23, 0, 1, 2, 3, 9] (aD _ _) rfl rfl rfl (fun K hK => ?_)
     simp (disch := omega) only [Tryd.f26, go_sem, Nat.reduceAdd, Nat.reduceLT, reduceCtorEq, ↓reduceIte, db, List.head?_cons, List.drop_succ_cons, List.drop_zero]
     refine hK _ ?_
     refine aB ?_
     refine aW (.tmp 23) rfl rfl rfl (fun h => ?_) (fun h => ?_)
     ·skip
      refine aI rfl ?_
      rw [if_pos (.inr h)] at ek
      rw [ek]
      refine aA rfl ?_
      refine aC (Γ := aL) [8] (aD _ _) rfl rfl rfl (fun K hK => ?_)
      simp (disch := omega) only [Tryd.f26, go_sem, ↓reduceIte]
      refine hK _ ?_
      refine aB ?_
      refine aS rfl ?_
      refine bN (bI ?_)
      rw [iQ hD]
      exact ⟨rfl, fun j o h => jB hnone (by omega) j o h, by simp only; omega⟩
     ·skip
      refine aI rfl ?_
      rw [if_neg (fun e => e.elim hb h)] at ek
      clear h
      refine aA rfl ?_
      refine aC (Γ := aL) [32, 0, 1, 2, 3, 9] (aD _ _) rfl rfl rfl (fun K hK => ?_)
      simp (disch := omega) only [Tryd.f26, go_sem, Nat.reduceAdd, ↓reduceIte]
      refine hK _ ?_
      refine aB ?_
      refine aW (.tmp 32) rfl rfl rfl (fun h => ?_) (fun h => ?_)
      ·skip
       refine aI rfl ?_
       rw [if_pos h] at ek
       rw [ek]
       refine aA rfl ?_
       refine aC (Γ := aL) [0, 1] (aD _ _) rfl rfl rfl (fun K hK => ?_)
       simp (disch := omega) only [Tryd.f26, go_sem, Nat.reduceAdd, Nat.reduceLT, ↓reduceIte, h1, h2, jA, List.head?_cons, List.drop_succ_cons, List.drop_zero]
       refine hK _ ?_
       refine aB ?_
       refine aA rfl ?_
       refine aC (Γ := aL) [] (aD _ _) rfl rfl rfl (fun K hK => ?_)
       simp (disch := omega) only [Tryd.f26, go_sem, Nat.reduceAdd, Nat.reduceLT, ↓reduceIte, h1, h3, jA, List.head?_cons, List.drop_succ_cons, List.drop_zero]
       refine hK _ ?_
       refine aB ?_
       refine aA rfl ?_
       refine aC (Γ := aL) [8] (aD _ _) rfl rfl rfl (fun K hK => ?_)
       simp (disch := omega) only [Tryd.f26, go_sem, ↓reduceIte]
       refine hK _ ?_
       refine aB ?_
       refine aS rfl ?_
       refine bN (bI ?_)
       refine ⟨rfl, fun j o hj => setR_sub (C := goC C id) ?_ ?_ ?_ ?_ j o hj, by simp only; omega⟩
       ·simp (disch := omega) only [aV, bY, ↓reduceIte] <;> first | exact h1 | rfl
       ·simp (disch := omega) only [aV, bY, ↓reduceIte, eq_self] <;> first | exact h2 | rfl
       ·simp (disch := omega) only [aV, ↓reduceIte, eq_self] <;> first | exact h3 | rfl
       ·intro k o k1 k2 k3 hk
        have := hlt k o hk
        simp (disch := omega) only [aV, bY, ↓reduceIte]
        exact hk
      ·skip
       refine aI rfl ?_
       rw [if_neg h] at ek
       rw [ek]
       refine aQ rfl ?_
       refine bU (aB ?_)
       refine aA rfl ?_
       refine aC (Γ := aL) [0, 1, 9] (aD _ _) rfl rfl rfl (fun K hK => ?_)
       simp (disch := omega) only [Tryd.f26, go_sem, Nat.reduceAdd, Nat.reduceLeDiff, Nat.reduceLT, ↓reduceIte, List.set_cons_succ, List.set_cons_zero]
       refine hK _ ?_
       refine aB ?_
       refine aA rfl ?_
       refine bB (Γ := aL) (fun _ => 2) [] bZ (aD _ _) rfl rfl rfl (by kernel_rfl) (fun K hK => ?_)
       simp (disch := omega) only [Tryd.f26, go_sem, Nat.reduceAdd, Nat.reduceLeDiff, Nat.reduceLT, ↓reduceIte, h1, h2, jA, List.head?_cons, List.take_succ_cons, List.take_zero, List.drop_succ_cons, List.drop_zero]
       refine hK _ ?_
       refine aB ?_
       refine aA rfl ?_
       refine aC (Γ := aL) [8] (aD _ _) rfl rfl rfl (fun K hK => ?_)
       simp (disch := omega) only [Tryd.f26, go_sem, ↓reduceIte]
       refine hK _ ?_
       refine aB ?_
       refine aS rfl ?_
       refine ⟨rfl, fun j o hj => setR_sub (C := tnC C id k st now) ?_ ?_ ?_ ?_ j o hj, by simp only; omega⟩
       ·simp (disch := omega) only [aV, bY, ↓reduceIte] <;> first | exact h1 | rfl
       ·simp (disch := omega) only [aV, ↓reduceIte, eq_self] <;> first | exact h2 | rfl
       ·simp (disch := omega) only [aV, bY, ↓reduceIte] <;> first | exact h3 | rfl
       ·intro k o k1 k2 k3 hk
        have := hlt k o hk
        simp (disch := omega) only [aV, bY, ↓reduceIte]
        exact hk
 ·cases hg
theorem okd16 : bX Tryd.prog GLh 26 (.heap turnG20) := ⟨⟨_, Tryd.func26, rfl, rfl⟩, turn20_ok⟩
def kyR : Option KY → AV
 | none => .tup [encK ky0, .b false]
 | some k => .tup [encK k, .b true]
noncomputable def keyG20 : List AV → H → Nat → Option (AV × H × Nat)
 | [.op d 0, .w32 id], hp, nx => aK (iN hp d) fun t => some (kyR (iK id t.C.by'), hp, nx + 60)
 | _, _, _ => none
theorem keyG20_eq (d : Nat) (id : W32) (hp : H) (nx : Nat) : keyG20 [.op d 0, .w32 id] hp nx = aK (iN hp d) fun t => some (kyR (iK id t.C.by'), hp, nx + 60) := (rfl)
theorem kyR_n : kyR none = .tup [encK ky0, .b false] := rfl
theorem kyR_y (k : KY) : kyR (some k) = .tup [encK k, .b true] := rfl
attribute [go_sem] keyG20_eq
set_option maxHeartbeats 1000000 in
theorem key20_ok : cQ Tryd.prog GLh 25 keyG20 := by
 refine gF Tryd.func25 (aT rfl) ?_
 intro args hp nx r hp' nx' hg
 unfold keyG20 at hg
 split at hg
 ·rename_i d id
  replace hg := aJ hg; obtain ⟨⟨s, m, C⟩, hD0, hg⟩ := hg
  have hD := iV hD0
  simp only [Option.some.injEq, Prod.mk.injEq] at hg hD; obtain ⟨rfl, rfl, rfl⟩ := hg
  refine ⟨Nat.le_of_ble_eq_true rfl, by omega, fun hnone => ?_⟩
  have h1 := hD.hd; have h2 := hD.hs; have h3 := hD.hm
  obtain ⟨n1, n2, n3, n4, n5, n6⟩ := hD.ne
  have hlt : ∀ k o, hp k = some o → k < nx := fun k o hk => gI hnone hk
  have hd := hlt _ _ h1
  have hs := hlt _ _ h2
  have hm := hlt _ _ h3
  refine aA rfl ?_
  refine aC (Γ := aL) [0, 1, 4] (aD _ _) rfl rfl rfl (fun K hK => ?_)
  simp (disch := omega) only [Tryd.f25, go_sem, Nat.reduceAdd, ↓reduceIte]
  refine hK _ ?_
  refine aB ?_
  rcases hk : iK id C.by' with _ | k
  ·skip
   refine aA rfl ?_
   refine aC (Γ := aL) [4, 6, 7] (aD _ _) rfl rfl rfl (fun K hK => ?_)
   simp (disch := omega) only [Tryd.f25, go_sem, Nat.reduceAdd, Nat.reduceLeDiff, Nat.reduceLT, ↓reduceIte, h1, h2, hk, jA, List.head?_cons, List.drop_succ_cons, List.drop_zero]
   refine hK _ ?_
   refine aB ?_
   refine aA rfl ?_
   refine aC (Γ := aL) [4, 5] (aD _ _) rfl rfl rfl (fun K hK => ?_)
   simp (disch := omega) only [Tryd.f25, go_sem, Nat.reduceAdd, Nat.reduceLeDiff, ↓reduceIte, List.take_succ_cons, List.take_zero, List.drop_zero]
   refine hK _ ?_
   refine aB ?_
   refine aS rfl ?_
   refine ⟨by simp (disch := omega) only [bV, bK, bQ, Tryd.f25, go_sem, aV, ldV, encK_eq, List.take_succ_cons, List.take_zero, List.drop_zero, kyR_n] <;> rfl, fun j o h => ?_, by simp only; omega⟩
   have := hlt j o h
   simp (disch := omega) only [aV, bY, ↓reduceIte]
   exact h
  ·skip
   refine aA rfl ?_
   refine aC (Γ := aL) [4, 6, 7] (aD _ _) rfl rfl rfl (fun K hK => ?_)
   simp (disch := omega) only [Tryd.f25, go_sem, Nat.reduceAdd, Nat.reduceLeDiff, Nat.reduceLT, ↓reduceIte, h1, h2, hk, jA, encK_eq, List.head?_cons, List.drop_succ_cons, List.drop_zero]
   refine hK _ ?_
   refine aB ?_
   refine aA rfl ?_
   refine aC (Γ := aL) [4, 5] (aD _ _) rfl rfl rfl (fun K hK => ?_)
   simp (disch := omega) only [Tryd.f25, go_sem, Nat.reduceAdd, Nat.reduceLeDiff, ↓reduceIte, List.take_succ_cons, List.take_zero, List.drop_zero]
   refine hK _ ?_
   refine aB ?_
   refine aS rfl ?_
   refine ⟨by simp (disch := omega) only [bV, bK, bQ, Tryd.f25, go_sem, aV, ldV, encK_eq, List.take_succ_cons, List.take_zero, List.drop_zero, kyR_y] <;> rfl, fun j o h => ?_, by simp only; omega⟩
   have := hlt j o h
   simp (disch := omega) only [aV, bY, ↓reduceIte]
   exact h
 ·cases hg
theorem okd17 : bX Tryd.prog GLh 25 (.heap keyG20) := ⟨⟨_, Tryd.func25, rfl, rfl⟩, key20_ok⟩
end Go.AX
namespace Go.AX
open Go Go.Proofs
set_option maxRecDepth 8000
theorem kysC_inj : ∀ {a b : List KY}, hP a = hP b → a = b
 | [], [], _ => rfl
 | [], y :: s, h => by have := congrArg List.length h; rw [iJ, iJ] at this; simp at this
 | x :: r, [], h => by have := congrArg List.length h; rw [iJ, iJ] at this; simp at this
 | x :: r, y :: s, h => by
  rw [hP, hP] at h
  obtain ⟨h1, h2⟩ := List.append_inj h rfl
  rw [kyC_inj h1, kysC_inj h2]
structure MC where
 c : CF
 q : Nat
 L : List KY
 last : W32
def mgC (l : Nat) (M : MC) : List AV := [.sl M.c.apx.length (cS M.c.apx), .w32 M.c.kt, .w32 M.c.pr, .w32 M.c.dt, .w32 M.c.dp, .w32 M.c.va, .w32 M.c.le, .w32 M.c.ga, .w32 M.c.mx, .sl M.c.salt.length (c8 M.c.salt), .w16 M.c.iter, .i M.c.h, .w16 M.c.size, .op M.q 0, .os l 0 M.L.length 15 true, .w32 M.last]
theorem mgC_eq (l : Nat) (M : MC) : mgC l M = [.sl M.c.apx.length (cS M.c.apx), .w32 M.c.kt, .w32 M.c.pr, .w32 M.c.dt, .w32 M.c.dp, .w32 M.c.va, .w32 M.c.le, .w32 M.c.ga, .w32 M.c.mx, .sl M.c.salt.length (c8 M.c.salt), .w16 M.c.iter, .i M.c.h, .w16 M.c.size, .op M.q 0, .os l 0 M.L.length 15 true, .w32 M.last] := rfl
theorem mgC_inj {l l' : Nat} {M M' : MC} (h : mgC l M = mgC l' M') : l = l' ∧ M.c = M'.c ∧ M.q = M'.q ∧ M.last = M'.last := by
 have e : mgC l M = cfC M.c ++ [.op M.q 0, .os l 0 M.L.length 15 true, .w32 M.last] := rfl
 have e' : mgC l' M' = cfC M'.c ++ [.op M'.q 0, .os l' 0 M'.L.length 15 true, .w32 M'.last] := rfl
 rw [e, e'] at h
 obtain ⟨h1, h2⟩ := List.append_inj h rfl
 simp only [List.cons.injEq, AV.op.injEq, AV.os.injEq, AV.w32.injEq, and_true, true_and] at h2
 exact ⟨h2.2.1.1, cfC_inj h1, h2.1, h2.2.2⟩
structure MHas (hp : H) (d l : Nat) (M : MC) : Prop where
 hd : hp d = some (.cells (mgC l M) true)
 hl : hp l = some (.cells (hP M.L) true)
 ne : d ≠ l ∧ l ≠ d
def iZ (d l : Nat) (M : MC) (hp : H) : H := upd (upd hp l (.cells (hP M.L) true)) d (.cells (mgC l M) true)
theorem MHas.uniq {hp : H} {d l l' : Nat} {M M' : MC} (h : MHas hp d l M) (h' : MHas hp d l' M') : l = l' ∧ M = M' := by
 have e := h.hd.symm.trans h'.hd
 obtain ⟨rfl, ec, eq, el⟩ := mgC_inj (AO.cells.inj (Option.some.inj e)).1
 have eb := kysC_inj (AO.cells.inj (Option.some.inj (h.hl.symm.trans h'.hl))).1
 obtain ⟨c1, q1, b1, l1⟩ := M
 obtain ⟨c2, q2, b2, l2⟩ := M'
 simp only at ec eq el eb
 subst ec; subst eq; subst el; subst eb
 exact ⟨rfl, rfl⟩
structure MT where
 l : Nat
 M : MC
open Classical in
noncomputable def mrgOf (hp : H) (d : Nat) : Option MT := if h : ∃ t : MT, MHas hp d t.l t.M then some (Classical.choose h) else none
theorem mrgOf_has {hp : H} {d l : Nat} {M : MC} (h : MHas hp d l M) : mrgOf hp d = some ⟨l, M⟩ := by
 have hx : ∃ t : MT, MHas hp d t.l t.M := ⟨⟨l, M⟩, h⟩
 unfold mrgOf
 rw [dif_pos hx]
 have h2 := Classical.choose_spec hx
 obtain ⟨e1, e2⟩ := h2.uniq h
 congr 1
 generalize Classical.choose hx = t at e1 e2
 cases t; simp only at e1 e2; rw [e1, e2]
theorem mrgOf_inv {hp : H} {d : Nat} {t : MT} (h : mrgOf hp d = some t) : MHas hp d t.l t.M := by
 unfold mrgOf at h
 split at h
 ·rename_i hx
  obtain rfl := Option.some.inj h
  exact Classical.choose_spec hx
 ·cases h
theorem setM_has {hp : H} {d l : Nat} {M : MC} (h1 : d ≠ l) : MHas (iZ d l M hp) d l M :=
 ⟨by simp [iZ, bJ], by simp [iZ, bJ, Ne.symm h1], ⟨h1, Ne.symm h1⟩⟩
theorem mrg_set (hp : H) (d l : Nat) (M : MC) (h1 : d ≠ l) : mrgOf (iZ d l M hp) d = some ⟨l, M⟩ := mrgOf_has (setM_has h1)
theorem setM_set (hp : H) (d l : Nat) (M M' : MC) : iZ d l M' (iZ d l M hp) = iZ d l M' hp := by
 funext k
 simp only [iZ, bJ]
 by_cases h1 : k = d
 ·simp [h1]
 ·by_cases h2 : k = l
  ·simp [h2]
  ·simp [h1, h2]
theorem setM_app (hp : H) (d l : Nat) (M : MC) (k : Nat) (h1 : k ≠ d) (h2 : k ≠ l) : iZ d l M hp k = hp k := by simp [iZ, bJ, h1, h2]
theorem setM_upd (hp : H) (d l : Nat) (M : MC) (k : Nat) (o : AO) (h1 : k ≠ d) (h2 : k ≠ l) : upd (iZ d l M hp) k o = iZ d l M (upd hp k o) := by
 funext j
 simp only [iZ, bJ]
 by_cases e : j = k
 ·subst e; simp [h1, h2]
 ·simp [e]
theorem setM_del (hp : H) (d l : Nat) (M : MC) (k : Nat) (h1 : k ≠ d) (h2 : k ≠ l) : del (iZ d l M hp) k = iZ d l M (del hp k) := by
 funext j
 simp only [iZ, bJ, eV]
 by_cases e : j = k
 ·subst e; simp [h1, h2]
 ·simp [e]
theorem setM_same {hp : H} {d l : Nat} {M : MC} (h : MHas hp d l M) : iZ d l M hp = hp := by
 funext k
 simp only [iZ, bJ]
 by_cases h1 : k = d
 ·subst h1; rw [if_pos rfl, h.hd]
 ·rw [if_neg h1]
  by_cases h2 : k = l
  ·subst h2; rw [if_pos rfl, h.hl]
  ·rw [if_neg h2]
theorem setM_sub {hp t : H} {d l : Nat} {M : MC} (h1 : t d = some (.cells (mgC l M) true)) (h2 : t l = some (.cells (hP M.L) true))
  (h : ∀ k o, k ≠ d → k ≠ l → hp k = some o → t k = some o) (k : Nat) (o : AO) (hk : iZ d l M hp k = some o) : t k = some o := by
 simp only [iZ, bJ] at hk
 by_cases e1 : k = d
 ·subst e1; rw [if_pos rfl] at hk; rw [h1]; exact hk
 ·rw [if_neg e1] at hk
  by_cases e2 : k = l
  ·subst e2; rw [if_pos rfl] at hk; rw [h2]; exact hk
  ·rw [if_neg e2] at hk; exact h k o e1 e2 hk
theorem setM_mono {hp hp2 : H} {d l : Nat} {M : MC} (h : ∀ j o, hp j = some o → hp2 j = some o) (k : Nat) (o : AO) (hk : iZ d l M hp k = some o) : iZ d l M hp2 k = some o := by
 simp only [iZ, bJ] at hk ⊢
 by_cases e1 : k = d
 ·rw [if_pos e1] at hk ⊢; exact hk
 ·rw [if_neg e1] at hk ⊢
  by_cases e2 : k = l
  ·rw [if_pos e2] at hk ⊢; exact hk
  ·rw [if_neg e2] at hk ⊢; exact h k o hk
attribute [go_sem] mrg_set setM_set setM_app setM_upd setM_del
def kyA (L : List KY) (k : Nat) : KY := L.getD k ky0
theorem kys_drop : ∀ (L : List KY) (k j : Nat), k < L.length → List.drop (15 * k + j) (hP L) = List.drop j (kyC (kyA L k) ++ hP (L.drop (k + 1)))
 | [], k, j, h => by simp at h
 | x :: r, 0, j, _ => by simp [hP, kyA]
 | x :: r, k + 1, j, h => by
  have e : 15 * (k + 1) + j = 15 + (15 * k + j) := by omega
  have h15 : (kyC x).length = 15 := rfl
  rw [hP, e, ← List.drop_drop, List.drop_left' h15, kys_drop r k j (by simpa using h)]
  simp [kyA]
theorem kys_at (L : List KY) (k j : Nat) (hk : k < L.length) (hj : j < 15) : (List.drop (15 * k + j) (hP L)).head? = (List.drop j (kyC (kyA L k))).head? := by
 rw [kys_drop L k j hk, List.drop_append_of_le_length (by show j ≤ 15; omega)]
 have : (List.drop j (kyC (kyA L k))) ≠ [] := by
  intro e
  have := congrArg List.length e
  rw [List.length_drop] at this
  have h15 : (kyC (kyA L k)).length = 15 := rfl
  rw [h15] at this
  simp at this; omega
 rw [List.head?_append]
 cases hx : List.drop j (kyC (kyA L k)) with
 | nil => exact absurd hx this
 | cons a r => rfl
def fdN (id : W32) : List KY → Nat → Int
 | [], _ => -1
 | k :: r, n => if k.id = id then n else fdN id r (n + 1)
def findV (L : List KY) (id : W32) : Int := fdN id L 0
theorem fdN_step (id : W32) (L : List KY) (k : Nat) (hk : k < L.length) : fdN id (L.drop k) k = if (kyA L k).id = id then (k : Int) else fdN id (L.drop (k + 1)) (k + 1) := by
 rw [List.drop_eq_getElem_cons hk]
 have e : kyA L k = L[k] := by simp [kyA, List.getD_eq_getElem?_getD, hk]
 rw [e, fdN]
noncomputable def findG : List AV → H → Nat → Option (AV × H × Nat)
 | [.op d 0, .w32 id], hp, nx => aK (mrgOf hp d) fun t => aN (t.M.L.length ≤ 1000) (some (.i (findV t.M.L id), hp, nx + 50 + 60 * t.M.L.length))
 | _, _, _ => none
theorem findG_eq (d : Nat) (id : W32) (hp : H) (nx : Nat) : findG [.op d 0, .w32 id] hp nx = aK (mrgOf hp d) fun t => aN (t.M.L.length ≤ 1000) (some (.i (findV t.M.L id), hp, nx + 50 + 60 * t.M.L.length)) := (rfl)
attribute [go_sem] findG_eq
set_option maxHeartbeats 1000000 in
theorem find_ok : cQ Tryd.prog GLh 36 findG := by
 refine gF Tryd.func36 (aT rfl) ?_
 intro args hp nx r hp' nx' hg
 unfold findG at hg
 split at hg
 ·rename_i d id
  replace hg := aJ hg; obtain ⟨⟨l, M⟩, hD0, hg⟩ := hg
  have hD := mrgOf_inv hD0
  replace hg := aP hg; obtain ⟨hlen, hg⟩ := hg
  simp only [Option.some.injEq, Prod.mk.injEq] at hg hD hlen; obtain ⟨rfl, rfl, rfl⟩ := hg
  refine ⟨Nat.le_of_ble_eq_true rfl, by omega, fun hnone => ?_⟩
  have h1 := hD.hd; have h2 := hD.hl
  obtain ⟨n1, n2⟩ := hD.ne
  have hd := gI hnone h1
  have hl := gI hnone h2
  have hkl := iJ M.L
  refine aA rfl ?_
  refine aC (Γ := aL) [0, 1] (aD _ _) rfl rfl rfl (fun K hK => ?_)
  simp (disch := omega) only [Tryd.f36, go_sem, Int.reduceNeg, ↓reduceIte]
  refine hK _ ?_
  refine aB ?_
  refine aA rfl ?_
  refine aA rfl ?_
  refine aC (Γ := aL) [0, 1, 5] (aD _ _) rfl rfl rfl (fun K hK => ?_)
  simp (disch := omega) only [Tryd.f36, go_sem, Int.reduceNeg, ↓reduceIte]
  refine hK _ ?_
  refine aB ?_
  refine aR 0 rfl rfl ?_
  refine bR (fun g : Nat => { fr := [(0, .op d 0), (1, .w32 id), (5, .i g)], hp := hp, nx := 0, cx := nx + 40 + 50 * g }) (fun g => g ≤ M.L.length ∧ findV M.L id = fdN id (M.L.drop g) g) (fun g => M.L.length - g) rfl ⟨0, ⟨Nat.zero_le _, rfl⟩, ⟨fun _ => .inr rfl, fun j o h => h, by simp only; omega⟩⟩ ?_
  rintro g ⟨hg1, hg2⟩ n0
  simp only at hg1 hg2 ⊢
  refine aA rfl ?_
  refine aA rfl ?_
  refine aC (Γ := aL) [12, 0, 1, 5] (aD _ _) rfl rfl rfl (fun K hK => ?_)
  simp (disch := omega) only [Tryd.f36, go_sem, Nat.reduceAdd, Nat.reduceLT, Int.reduceNeg, ↓reduceIte, h1, mgC_eq, List.head?_cons, List.drop_succ_cons, List.drop_zero]
  refine hK _ ?_
  refine aB ?_
  refine aW (.tmp 12) rfl rfl rfl (fun h => ?_) (fun h => ?_)
  ·skip
   refine aI rfl ?_
   have hgl : g < M.L.length := by omega
   have hst := fdN_step id M.L g hgl
   have hka := kys_at M.L g 0 hgl (by omega)
   rw [Nat.add_zero] at hka
   have e15 : g * 15 = 15 * g := by omega
   refine aQ rfl ?_
   refine aB ?_
   refine aA rfl ?_
   refine aR 1 rfl rfl ?_
   refine aA rfl ?_
   refine aC (Γ := aL) [24, 0, 1, 5] (aD _ _) rfl rfl rfl (fun K hK => ?_)
   simp (disch := omega) only [Tryd.f36, go_sem, Nat.reduceAdd, Nat.reduceLT, Int.reduceNeg, ↓reduceIte, h1, h2, mgC_eq, hka, e15, kyC, List.head?_cons, List.drop_succ_cons, List.drop_zero]
   refine hK _ ?_
   refine aB ?_
   refine aW (.tmp 24) rfl rfl rfl (fun h => ?_) (fun h => ?_)
   ·skip
    refine aI rfl ?_
    rw [if_pos h] at hst
    refine aA rfl ?_
    refine aC (Γ := aL) [4] (aD _ _) rfl rfl rfl (fun K hK => ?_)
    simp (disch := omega) only [Tryd.f36, go_sem, Nat.reduceAdd, Int.reduceNeg, ↓reduceIte]
    refine hK _ ?_
    refine aB ?_
    refine aS rfl ?_
    refine bN (bI (dF (bN (bI ?_))))
    exact ⟨by rw [hg2, hst]; rfl, fun j o h => h, by simp only; omega⟩
   ·skip
    refine aI rfl ?_
    rw [if_neg h] at hst
    refine aQ rfl ?_
    refine bU (aB ?_)
    refine aC (Γ := aL) [0, 1, 5] (aD _ _) rfl rfl rfl (fun K hK => ?_)
    simp (disch := omega) only [Tryd.f36, go_sem, Nat.reduceAdd, Int.reduceNeg, ↓reduceIte]
    refine hK _ ?_
    refine bT ?_
    exact ⟨g + 1, ⟨by omega, by rw [hg2, hst]⟩, by omega, ⟨fun _ => .inr (by simp only [Int.natCast_add, Int.natCast_one]), fun j o h => h, by simp only; omega⟩⟩
  ·skip
   refine aI rfl ?_
   refine bF 0 rfl rfl ?_
   refine aY (aZ (bE ?_))
   refine aB ?_
   refine aA rfl ?_
   obtain rfl : g = M.L.length := by omega
   rw [List.drop_length] at hg2
   refine aC (Γ := aL) [4] (aD _ _) rfl rfl rfl (fun K hK => ?_)
   simp (disch := omega) only [Tryd.f36, go_sem, Int.reduceNeg, ↓reduceIte]
   refine hK _ ?_
   refine aB ?_
   refine aS rfl ?_
   exact ⟨by rw [hg2]; rfl, fun j o h => h, by simp only; omega⟩
 ·cases hg
theorem okd37 : bX Tryd.prog GLh 36 (.heap findG) := ⟨⟨_, Tryd.func36, rfl, rfl⟩, find_ok⟩
def mmkC (M : MC) (k : KY) : MC := { M with last := M.last + 1#32, L := M.L ++ [k] }
def mmkK (M : MC) (role : Int) (seed : S8) (st : Int) (now : W32) : KY := ⟨M.last + 1#32, role, st, seed, M.c.h, 0#32, now, 0#32⟩
def mmkV (M : MC) (role : Int) (seed : S8) (st : Int) (now : W32) : W32 × Int × Option MC :=
 if (role ≠ 0 ∧ role ≠ 1) ∨ st < 0 ∨ 3 < st then (0#32, 131, none)
 else if 16 ≤ M.L.length then (0#32, 133, none)
 else (M.last + 1#32, 0, some (mmkC M (mmkK M role seed st now)))
noncomputable def mmkH (d l : Nat) (_ : MC) (hp : H) (nx : Nat) : Option MC → H
 | none => hp
 | some M' => iZ d (nx + 51) M' (del hp l)
noncomputable def mmakeG : List AV → H → Nat → Option (AV × H × Nat)
 | [.op d 0, .i role, .agg xs, .i st, .w32 now], hp, nx => aK (mrgOf hp d) fun t => aK (un8 xs) fun l => aK (s8L l) fun sd =>
   some (.tup [.w32 (mmkV t.M role sd st now).1, .i (mmkV t.M role sd st now).2.1], mmkH d t.l t.M hp nx (mmkV t.M role sd st now).2.2, nx + 100)
 | _, _, _ => none
theorem mmakeG_eq (d : Nat) (role st : Int) (now : W32) (xs : List AV) (hp : H) (nx : Nat) : mmakeG [.op d 0, .i role, .agg xs, .i st, .w32 now] hp nx = aK (mrgOf hp d) fun t => aK (un8 xs) fun l => aK (s8L l) fun sd =>
   some (.tup [.w32 (mmkV t.M role sd st now).1, .i (mmkV t.M role sd st now).2.1], mmkH d t.l t.M hp nx (mmkV t.M role sd st now).2.2, nx + 100) := (rfl)
attribute [go_sem] mmakeG_eq
theorem mmake_r1 {Q : Exit → S → Prop} {fr0 : AV} {role st : Int} {now : W32} {x7 : AV} {hp : H} {nx cx : Nat} (hQ : Q .normal { fr := [(25, .b (decide ((role ≠ 0 ∧ role ≠ 1) ∨ st < 0 ∨ 3 < st))), (0, fr0), (1, .i role), (3, .i st), (4, .w32 now), (7, x7)], hp := hp, nx := cx, cx := cx + 14 }) :
  Awp Tryd.prog GLh Tryd.f20.ntmps (cl (cl (cr (aE Tryd.f20)))) { fr := [(0, fr0), (1, .i role), (3, .i st), (4, .w32 now), (7, x7)], hp := hp, nx := nx, cx := cx } Q := by
 by_cases h0 : role = 0
 ·have d0 : decide (role = 0) = true := decide_eq_true h0
  by_cases h2 : st < 0
  ·have d2 : decide (st < 0) = true := decide_eq_true h2
   rw [decide_eq_true (by omega)] at hQ
   refine aC (Γ := aL) [25, 0, 1, 3, 4, 7] (aD _ _) rfl rfl rfl (fun K hK => ?_)
   simp (disch := omega) only [Tryd.f20, go_sem, Nat.reduceAdd, reduceCtorEq, ↓reduceIte, d0, d2, Bool.not_true, beq_self_eq_true]
   refine hK _ ?_
   exact hQ
  ·have d2 : decide (st < 0) = false := decide_eq_false h2
   by_cases h3 : 3 < st
   ·have d3 : decide (3 < st) = true := decide_eq_true h3
    rw [decide_eq_true (by omega)] at hQ
    refine aC (Γ := aL) [25, 0, 1, 3, 4, 7] (aD _ _) rfl rfl rfl (fun K hK => ?_)
    simp (disch := omega) only [Tryd.f20, go_sem, Nat.reduceAdd, reduceCtorEq, ↓reduceIte, d0, d2, d3, Bool.not_true, beq_self_eq_true]
    refine hK _ ?_
    exact hQ
   ·have d3 : decide (3 < st) = false := decide_eq_false h3
    rw [decide_eq_false (by omega)] at hQ
    refine aC (Γ := aL) [25, 0, 1, 3, 4, 7] (aD _ _) rfl rfl rfl (fun K hK => ?_)
    simp (disch := omega) only [Tryd.f20, go_sem, Nat.reduceAdd, reduceCtorEq, ↓reduceIte, d0, d2, d3, Bool.not_true, beq_self_eq_true]
    refine hK _ ?_
    exact hQ
 ·have d0 : decide (role = 0) = false := decide_eq_false h0
  by_cases h1 : role = 1
  ·have d1 : decide (role = 1) = true := decide_eq_true h1
   by_cases h2 : st < 0
   ·have d2 : decide (st < 0) = true := decide_eq_true h2
    rw [decide_eq_true (by omega)] at hQ
    refine aC (Γ := aL) [25, 0, 1, 3, 4, 7] (aD _ _) rfl rfl rfl (fun K hK => ?_)
    simp (disch := omega) only [Tryd.f20, go_sem, Nat.reduceAdd, reduceCtorEq, ↓reduceIte, d0, d1, d2, Bool.not_true, Bool.not_false, beq_self_eq_true]
    refine hK _ ?_
    exact hQ
   ·have d2 : decide (st < 0) = false := decide_eq_false h2
    by_cases h3 : 3 < st
    ·have d3 : decide (3 < st) = true := decide_eq_true h3
     rw [decide_eq_true (by omega)] at hQ
     refine aC (Γ := aL) [25, 0, 1, 3, 4, 7] (aD _ _) rfl rfl rfl (fun K hK => ?_)
     simp (disch := omega) only [Tryd.f20, go_sem, Nat.reduceAdd, reduceCtorEq, ↓reduceIte, d0, d1, d2, d3, Bool.not_true, Bool.not_false, beq_self_eq_true]
     refine hK _ ?_
     exact hQ
    ·have d3 : decide (3 < st) = false := decide_eq_false h3
     rw [decide_eq_false (by omega)] at hQ
     refine aC (Γ := aL) [25, 0, 1, 3, 4, 7] (aD _ _) rfl rfl rfl (fun K hK => ?_)
     simp (disch := omega) only [Tryd.f20, go_sem, Nat.reduceAdd, reduceCtorEq, ↓reduceIte, d0, d1, d2, d3, Bool.not_true, Bool.not_false, beq_self_eq_true]
     refine hK _ ?_
     exact hQ
  ·have d1 : decide (role = 1) = false := decide_eq_false h1
   rw [decide_eq_true (by omega)] at hQ
   refine aC (Γ := aL) [25, 0, 1, 3, 4, 7] (aD _ _) rfl rfl rfl (fun K hK => ?_)
   simp (disch := omega) only [Tryd.f20, go_sem, Nat.reduceAdd, ↓reduceIte, d0, d1, Bool.not_false, beq_self_eq_true]
   refine hK _ ?_
   exact hQ
set_option maxHeartbeats 1000000 in
theorem mmake_ok : cQ Tryd.prog GLh 20 mmakeG := by
 refine gF Tryd.func20 (aT rfl) ?_
 intro args hp nx r hp' nx' hg
 unfold mmakeG at hg
 split at hg
 ·rename_i d role xs st now
  replace hg := aJ hg; obtain ⟨⟨l, M⟩, hD0, hg⟩ := hg
  have hD := mrgOf_inv hD0
  replace hg := aJ hg; obtain ⟨l8, hl8, hg⟩ := hg
  have := iX _ hl8; subst this
  replace hg := aJ hg; obtain ⟨S, hS8, hg⟩ := hg
  have := s8L_inv hS8; subst this
  have e0 : c8 S.l = [.w8 S.a, .w8 S.b, .w8 S.c, .w8 S.d, .w8 S.e, .w8 S.f, .w8 S.g, .w8 S.h] := rfl
  rw [e0]
  simp only [Option.some.injEq, Prod.mk.injEq] at hg hD; obtain ⟨rfl, rfl, rfl⟩ := hg
  refine ⟨Nat.le_of_ble_eq_true rfl, by omega, fun hnone => ?_⟩
  have h1 := hD.hd; have h2 := hD.hl
  obtain ⟨n1, n2⟩ := hD.ne
  have hlt : ∀ k o, hp k = some o → k < nx := fun k o hk => gI hnone hk
  have hd := hlt _ _ h1
  have hl := hlt _ _ h2
  have hkl := iJ M.L
  refine aA rfl ?_
  refine aC (Γ := aL) [0, 1, 3, 4, 7] (aD _ _) rfl rfl rfl (fun K hK => ?_)
  simp (disch := omega) only [Tryd.f20, go_sem, Nat.reduceAdd, Int.reduceLE, Int.reduceLT, BitVec.reduceOfInt, ↓reduceIte]
  refine hK _ ?_
  refine aB ?_
  refine aA rfl ?_
  refine aA rfl ?_
  refine mmake_r1 ?_
  refine aB ?_
  refine aW (.tmp 25) rfl rfl rfl (fun h => ?_) (fun h => ?_)
  ·skip
   have e : mmkV M role S st now = (0#32, 131, none) := if_pos h
   rw [e]
   refine aA rfl ?_
   refine aC (Γ := aL) [10, 11] (aD _ _) rfl rfl rfl (fun K hK => ?_)
   simp (disch := omega) only [Tryd.f20, go_sem, Nat.reduceAdd, Int.reduceLE, Int.reduceLT, BitVec.reduceOfInt, ↓reduceIte]
   refine hK _ ?_
   refine aB ?_
   refine aS rfl ?_
   refine bI ?_
   exact ⟨rfl, fun j o h => jB hnone (by omega) j o h, by simp only; omega⟩
  ·skip
   have hbad := h
   clear h
   refine aQ rfl ?_
   refine aB ?_
   refine aA rfl ?_
   refine aA rfl ?_
   refine aC (Γ := aL) [31, 0, 1, 3, 4, 7] (aD _ _) rfl rfl rfl (fun K hK => ?_)
   simp (disch := omega) only [Tryd.f20, go_sem, Nat.reduceAdd, Nat.reduceLT, ↓reduceIte, h1, mgC_eq, List.head?_cons, List.drop_succ_cons, List.drop_zero]
   refine hK _ ?_
   refine aB ?_
   refine aW (.tmp 31) rfl rfl rfl (fun h => ?_) (fun h => ?_)
   ·skip
    refine aI rfl ?_
    have e : mmkV M role S st now = (0#32, 133, none) := by unfold mmkV; rw [if_neg hbad, if_pos (by omega)]
    rw [e]
    refine aA rfl ?_
    refine aC (Γ := aL) [10, 11] (aD _ _) rfl rfl rfl (fun K hK => ?_)
    simp (disch := omega) only [Tryd.f20, go_sem, Nat.reduceAdd, Int.reduceLE, Int.reduceLT, BitVec.reduceOfInt, ↓reduceIte]
    refine hK _ ?_
    refine aB ?_
    refine aS rfl ?_
    refine bI ?_
    exact ⟨rfl, fun j o h => jB hnone (by omega) j o h, by simp only; omega⟩
   ·skip
    refine aI rfl ?_
    have e : mmkV M role S st now = (M.last + 1#32, 0, some (mmkC M (mmkK M role S st now))) := by unfold mmkV; rw [if_neg hbad, if_neg (by omega)]
    rw [e]
    refine aQ rfl ?_
    refine aB ?_
    refine aA rfl ?_
    refine aC (Γ := aL) [0, 1, 3, 4, 7] (aD _ _) rfl rfl rfl (fun K hK => ?_)
    simp (disch := omega) only [Tryd.f20, go_sem, Nat.reduceAdd, Nat.reduceLeDiff, Nat.reduceLT, Int.reduceLE, Int.reduceLT, BitVec.reduceOfInt, ↓reduceIte, h1, mgC_eq, List.head?_cons, List.set_cons_succ, List.set_cons_zero, List.drop_succ_cons, List.drop_zero]
    refine hK _ ?_
    refine aB ?_
    refine aA rfl ?_
    refine bB (Γ := aL) (fun k => if k = 20 then 1048578 else 2) [0] bZ (aD _ _) rfl rfl rfl (by kernel_rfl) (fun K hK => ?_)
    simp (disch := omega) only [Tryd.f20, go_sem, Nat.reduceAdd, Nat.reduceLeDiff, Nat.reduceLT, ↓reduceIte, h2, hkl, cK, List.nil_append, List.cons_append, List.head?_cons, List.set_cons_succ, List.set_cons_zero, List.take_succ_cons, List.take_zero, List.drop_succ_cons, List.drop_zero, List.all_cons, List.all_nil, Option.isSome_some, Bool.and_self, List.length_cons, List.length_nil]
    refine hK _ ?_
    refine aB ?_
    refine aA rfl ?_
    refine aC (Γ := aL) [10, 11] (aD _ _) rfl rfl rfl (fun K hK => ?_)
    simp (disch := omega) only [Tryd.f20, go_sem, Nat.reduceAdd, Nat.reduceLT, ↓reduceIte, List.head?_cons, List.drop_succ_cons, List.drop_zero]
    refine hK _ ?_
    refine aB ?_
    refine aS rfl ?_
    refine ⟨rfl, fun j o hj => setM_sub (M := mmkC M (mmkK M role S st now)) (l := nx + 51) ?_ ?_ ?_ j o hj, by simp only; omega⟩
    ·have e2 : (mmkC M (mmkK M role S st now)).L.length = M.L.length + 1 := by simp [mmkC]
     rw [mgC_eq, e2]
     simp only [Nat.add_assoc, Nat.reduceAdd]
     simp (disch := omega) only [aV, ↓reduceIte, eq_self] <;> rfl
    ·have e2 : hP (mmkC M (mmkK M role S st now)).L = hP M.L ++ kyC (mmkK M role S st now) := by
      show hP (M.L ++ [_]) = _
      rw [kysC_app, kysC_one]
     rw [e2]
     simp only [Nat.add_assoc, Nat.reduceAdd]
     simp (disch := omega) only [aV, bY, ↓reduceIte, eq_self] <;> rfl
    ·intro k o k1 k2 hk
     have hkl2 : k ≠ l ∧ hp k = some o := by
      rw [eV] at hk
      split at hk
      ·cases hk
      ·rename_i e3; exact ⟨e3, hk⟩
     obtain ⟨k3, hk3⟩ := hkl2
     have := hlt k o hk3
     simp only [Nat.add_assoc, Nat.reduceAdd]
     simp (disch := omega) only [aV, de_app, bY, ↓reduceIte]
     exact hk3
 ·cases hg
theorem okd19 : bX Tryd.prog GLh 20 (.heap mmakeG) := ⟨⟨_, Tryd.func20, rfl, rfl⟩, mmake_ok⟩
end Go.AX
namespace Go.AX
open Go Go.Proofs
set_option maxRecDepth 8000
theorem max2_32 (a b : W32) : max2A (.w32 a) (.w32 b) = some (.w32 (if a < b then b else a)) := (rfl)
attribute [go_sem] max2_32
def mx1 (x : W32) : W32 := if x < 1#32 then 1#32 else x
def snC (C : RC) (id : W32) (k : KY) (now : W32) : RC := { C with by' := putK id { k with seen := mx1 now } C.by' }
def snV (C : RC) (id now : W32) : Int × RC := match iK id C.by' with
 | none => (130, C)
 | some k => if k.role ≠ 1 ∨ k.st ≠ 2 ∨ k.seen ≠ 0#32 then (131, C) else (0, snC C id k now)
theorem snV_n {C : RC} {id now : W32} (h : iK id C.by' = none) : snV C id now = (130, C) := by rw [snV, h]
theorem snV_y {C : RC} {id now : W32} {k : KY} (h : iK id C.by' = some k) : snV C id now = if k.role ≠ 1 ∨ k.st ≠ 2 ∨ k.seen ≠ 0#32 then (131, C) else (0, snC C id k now) := by rw [snV, h]
theorem ROk.snV {C : RC} (h : ROk C) (id now : W32) : ROk (snV C id now).2 := by
 rcases hk : iK id C.by' with _ | k
 ·rw [snV_n hk]; exact h
 ·rw [snV_y hk]
  split
  ·exact h
  ·exact h.upd hk rfl rfl rfl rfl
noncomputable def seenG : List AV → H → Nat → Option (AV × H × Nat)
 | [.op d 0, .w32 id, .w32 now], hp, nx => aK (iN hp d) fun t => some (.i (snV t.C id now).1, iL d t.s t.m (snV t.C id now).2 hp, nx + 90)
 | _, _, _ => none
theorem seenG_eq (d : Nat) (id now : W32) (hp : H) (nx : Nat) : seenG [.op d 0, .w32 id, .w32 now] hp nx = aK (iN hp d) fun t => some (.i (snV t.C id now).1, iL d t.s t.m (snV t.C id now).2 hp, nx + 90) := (rfl)
attribute [go_sem] seenG_eq
set_option maxHeartbeats 1000000 in
theorem seen_ok : cQ Tryd.prog GLh 21 seenG := by
 refine gF Tryd.func21 (aT rfl) ?_
 intro args hp nx r hp' nx' hg
 unfold seenG at hg
 split at hg
 ·rename_i d id now
  replace hg := aJ hg; obtain ⟨⟨s, m, C⟩, hD0, hg⟩ := hg
  have hD := iV hD0
  simp only [Option.some.injEq, Prod.mk.injEq] at hg hD; obtain ⟨rfl, rfl, rfl⟩ := hg
  refine ⟨Nat.le_of_ble_eq_true rfl, by omega, fun hnone => ?_⟩
  have h1 := hD.hd; have h2 := hD.hs; have h3 := hD.hm
  obtain ⟨n1, n2, n3, n4, n5, n6⟩ := hD.ne
  have hlt : ∀ k o, hp k = some o → k < nx := fun k o hk => gI hnone hk
  have hd := hlt _ _ h1
  have hs := hlt _ _ h2
  have hm := hlt _ _ h3
  refine aA rfl ?_
  refine aC (Γ := aL) [0, 1, 2] (aD _ _) rfl rfl rfl (fun K hK => ?_)
  simp (disch := omega) only [Tryd.f21, go_sem, Nat.reduceAdd, ↓reduceIte]
  refine hK _ ?_
  refine aB ?_
  rcases hk : iK id C.by' with _ | k
  ·skip
   rw [snV_n hk]
   refine aA rfl ?_
   refine aC (Γ := aL) [0, 1, 2, 7, 8] (aD _ _) rfl rfl rfl (fun K hK => ?_)
   simp (disch := omega) only [Tryd.f21, go_sem, Nat.reduceAdd, Nat.reduceLeDiff, Nat.reduceLT, ↓reduceIte, h1, h2, hk, jA, List.head?_cons, List.drop_succ_cons, List.drop_zero]
   refine hK _ ?_
   refine aB ?_
   refine aA rfl ?_
   refine aR 0 rfl rfl ?_
   refine aA rfl ?_
   refine aC (Γ := aL) [18, 0, 1, 2, 7] (aD _ _) rfl rfl rfl (fun K hK => ?_)
   simp (disch := omega) only [Tryd.f21, go_sem, Nat.reduceAdd, ↓reduceIte]
   refine hK _ ?_
   refine aB ?_
   refine eC (.tmp 18) rfl rfl rfl (fun h => ?_) (fun h => ?_)
   ·skip
    refine aI rfl ?_
    refine aA rfl ?_
    refine aC (Γ := aL) [6] (aD _ _) rfl rfl rfl (fun K hK => ?_)
    simp (disch := omega) only [Tryd.f21, go_sem, ↓reduceIte]
    refine hK _ ?_
    refine aB ?_
    refine aS rfl ?_
    refine bN (bI ?_)
    rw [iQ hD]
    exact ⟨rfl, fun j o h => jB hnone (by omega) j o h, by simp only; omega⟩
   ·skip
    refine aI rfl ?_
    cases h
  ·skip
   have ek := snV_y (now := now) hk
   refine aA rfl ?_
   refine aC (Γ := aL) [0, 1, 2, 7, 8] (aD _ _) rfl rfl rfl (fun K hK => ?_)
   simp (disch := omega) only [Tryd.f21, go_sem, Nat.reduceAdd, Nat.reduceLeDiff, Nat.reduceLT, ↓reduceIte, h1, h2, hk, jA, encK_eq, List.head?_cons, List.drop_succ_cons, List.drop_zero]
   refine hK _ ?_
   refine aB ?_
   refine aA rfl ?_
   refine aR 0 rfl rfl ?_
   refine aA rfl ?_
   refine aC (Γ := aL) [18, 0, 1, 2, 7] (aD _ _) rfl rfl rfl (fun K hK => ?_)
   simp (disch := omega) only [Tryd.f21, go_sem, Nat.reduceAdd, ↓reduceIte]
   refine hK _ ?_
   refine aB ?_
   refine eC (.tmp 18) rfl rfl rfl (fun h => ?_) (fun h => ?_)
   ·skip
    refine aI rfl ?_
    cases h
   ·skip
    refine aI rfl ?_
    clear h
    have hmx : (if now < 1#32 then (1#32 : W32) else now) = mx1 now := rfl
    by_cases hb1 : k.role = 1
    ·skip
     have d1 : decide (k.role = 1) = true := decide_eq_true hb1
     by_cases hb2 : k.st = 2
     ·skip
      have d2 : decide (k.st = 2) = true := decide_eq_true hb2
      by_cases hb3 : k.seen = 0#32
      ·skip
       have d3 : decide (k.seen = 0#32) = true := decide_eq_true hb3
       rw [if_neg (fun e => e.elim (fun e => e hb1) (fun e => e.elim (fun e => e hb2) (fun e => e hb3)))] at ek
       rw [ek]
       refine aA rfl ?_
       refine aC (Γ := aL) [21, 0, 1, 2, 7] (aD _ _) rfl rfl rfl (fun K hK => ?_)
       simp (disch := omega) only [Tryd.f21, go_sem, Nat.reduceAdd, Nat.reduceLT, Int.reduceLE, Int.reduceLT, BitVec.reduceOfInt, reduceCtorEq, ↓reduceIte, d1, d2, d3, Bool.not_true, List.head?_cons, List.drop_succ_cons, List.drop_zero]
       refine hK _ ?_
       refine aB ?_
       refine eC (.tmp 21) rfl rfl rfl (fun h => ?_) (fun h => ?_)
       ·skip
        refine aI rfl ?_
        cases h
       ·skip
        refine aI rfl ?_
        clear h
        refine aQ rfl ?_
        refine bU (aB ?_)
        refine aA rfl ?_
        refine aC (Γ := aL) [0, 1, 7] (aD _ _) rfl rfl rfl (fun K hK => ?_)
        simp (disch := omega) only [Tryd.f21, go_sem, Nat.reduceAdd, Nat.reduceLeDiff, Nat.reduceLT, Int.reduceLE, Int.reduceLT, BitVec.reduceOfInt, ↓reduceIte, hmx, List.set_cons_succ, List.set_cons_zero]
        refine hK _ ?_
        refine aB ?_
        refine aA rfl ?_
        refine bB (Γ := aL) (fun _ => 2) [] bZ (aD _ _) rfl rfl rfl (by kernel_rfl) (fun K hK => ?_)
        simp (disch := omega) only [Tryd.f21, go_sem, Nat.reduceAdd, Nat.reduceLeDiff, Nat.reduceLT, ↓reduceIte, h1, h2, jA, List.head?_cons, List.take_succ_cons, List.take_zero, List.drop_succ_cons, List.drop_zero]
        refine hK _ ?_
        refine aB ?_
        refine aA rfl ?_
        refine aC (Γ := aL) [6] (aD _ _) rfl rfl rfl (fun K hK => ?_)
        simp (disch := omega) only [Tryd.f21, go_sem, ↓reduceIte]
        refine hK _ ?_
        refine aB ?_
        refine aS rfl ?_
        refine ⟨rfl, fun j o hj => setR_sub (C := snC C id k now) ?_ ?_ ?_ ?_ j o hj, by simp only; omega⟩
        ·simp (disch := omega) only [aV, bY, ↓reduceIte] <;> first | exact h1 | rfl
        ·simp (disch := omega) only [aV, ↓reduceIte, eq_self] <;> first | exact h2 | rfl
        ·simp (disch := omega) only [aV, bY, ↓reduceIte] <;> first | exact h3 | rfl
        ·intro k o k1 k2 k3 hk
         have := hlt k o hk
         simp (disch := omega) only [aV, bY, ↓reduceIte]
         exact hk
      ·skip
       have d3 : decide (k.seen = 0#32) = false := decide_eq_false hb3
       refine aA rfl ?_
       refine aC (Γ := aL) [21, 0, 1, 2, 7] (aD _ _) rfl rfl rfl (fun K hK => ?_)
       simp (disch := omega) only [Tryd.f21, go_sem, Nat.reduceAdd, Nat.reduceLT, Int.reduceLE, Int.reduceLT, BitVec.reduceOfInt, reduceCtorEq, ↓reduceIte, d1, d2, d3, Bool.not_true, Bool.not_false, List.head?_cons, List.drop_succ_cons, List.drop_zero]
       refine hK _ ?_
       refine aB ?_
       refine eC (.tmp 21) rfl rfl rfl (fun h => ?_) (fun h => ?_)
       ·skip
        refine aI rfl ?_
        rw [if_pos (.inr (.inr hb3))] at ek
        rw [ek]
        refine aA rfl ?_
        refine aC (Γ := aL) [6] (aD _ _) rfl rfl rfl (fun K hK => ?_)
        simp (disch := omega) only [Tryd.f21, go_sem, ↓reduceIte]
        refine hK _ ?_
        refine aB ?_
        refine aS rfl ?_
        refine bN (bI ?_)
        rw [iQ hD]
        exact ⟨rfl, fun j o h => jB hnone (by omega) j o h, by simp only; omega⟩
       ·skip
        refine aI rfl ?_
        cases h
     ·skip
      have d2 : decide (k.st = 2) = false := decide_eq_false hb2
      refine aA rfl ?_
      refine aC (Γ := aL) [21, 0, 1, 2, 7] (aD _ _) rfl rfl rfl (fun K hK => ?_)
      simp (disch := omega) only [Tryd.f21, go_sem, Nat.reduceAdd, Nat.reduceLT, reduceCtorEq, ↓reduceIte, d1, d2, Bool.not_true, Bool.not_false, List.head?_cons, List.drop_succ_cons, List.drop_zero]
      refine hK _ ?_
      refine aB ?_
      refine eC (.tmp 21) rfl rfl rfl (fun h => ?_) (fun h => ?_)
      ·skip
       refine aI rfl ?_
       rw [if_pos (.inr (.inl hb2))] at ek
       rw [ek]
       refine aA rfl ?_
       refine aC (Γ := aL) [6] (aD _ _) rfl rfl rfl (fun K hK => ?_)
       simp (disch := omega) only [Tryd.f21, go_sem, ↓reduceIte]
       refine hK _ ?_
       refine aB ?_
       refine aS rfl ?_
       refine bN (bI ?_)
       rw [iQ hD]
       exact ⟨rfl, fun j o h => jB hnone (by omega) j o h, by simp only; omega⟩
      ·skip
       refine aI rfl ?_
       cases h
    ·skip
     have d1 : decide (k.role = 1) = false := decide_eq_false hb1
     refine aA rfl ?_
     refine aC (Γ := aL) [21, 0, 1, 2, 7] (aD _ _) rfl rfl rfl (fun K hK => ?_)
     simp (disch := omega) only [Tryd.f21, go_sem, Nat.reduceAdd, Nat.reduceLT, ↓reduceIte, d1, Bool.not_false, List.head?_cons, List.drop_succ_cons, List.drop_zero]
     refine hK _ ?_
     refine aB ?_
     refine eC (.tmp 21) rfl rfl rfl (fun h => ?_) (fun h => ?_)
     ·skip
      refine aI rfl ?_
      rw [if_pos (.inl hb1)] at ek
      rw [ek]
      refine aA rfl ?_
      refine aC (Γ := aL) [6] (aD _ _) rfl rfl rfl (fun K hK => ?_)
      simp (disch := omega) only [Tryd.f21, go_sem, ↓reduceIte]
      refine hK _ ?_
      refine aB ?_
      refine aS rfl ?_
      refine bN (bI ?_)
      rw [iQ hD]
      exact ⟨rfl, fun j o h => jB hnone (by omega) j o h, by simp only; omega⟩
     ·skip
      refine aI rfl ?_
      cases h
 ·cases hg
theorem okd21 : bX Tryd.prog GLh 21 (.heap seenG) := ⟨⟨_, Tryd.func21, rfl, rfl⟩, seen_ok⟩
theorem fdN_lt (id : W32) : ∀ (L : List KY) (n : Nat), (fdN id L n = -1 ∧ ∀ k, k < L.length → (kyA L k).id ≠ id) ∨ ∃ i, i < L.length ∧ fdN id L n = ((n + i : Nat) : Int) ∧ (kyA L i).id = id
 | [], n => .inl ⟨rfl, fun k h => by simp at h⟩
 | x :: r, n => by
  rw [fdN]
  by_cases e : x.id = id
  ·rw [if_pos e]; exact .inr ⟨0, by simp, by simp, by simpa [kyA] using e⟩
  ·rw [if_neg e]
   rcases fdN_lt id r (n + 1) with ⟨h1, h2⟩ | ⟨i, h1, h2, h3⟩
   ·refine .inl ⟨h1, fun k hk => ?_⟩
    cases k with
    | zero => simpa [kyA] using e
    | succ k => have := h2 k (by simpa using hk); simpa [kyA] using this
   ·exact .inr ⟨i + 1, by simpa using h1, by rw [h2]; congr 1; omega, by simpa [kyA] using h3⟩
theorem find_cases (L : List KY) (id : W32) : findV L id = -1 ∨ ∃ i, i < L.length ∧ findV L id = (i : Int) ∧ (kyA L i).id = id := by
 rcases fdN_lt id L 0 with ⟨h, _⟩ | ⟨i, h1, h2, h3⟩
 ·exact .inl h
 ·exact .inr ⟨i, h1, by rw [findV, h2]; simp, h3⟩
theorem kys_set (L : List KY) (k j : Nat) (x : AV) (k' : KY) (hk : k < L.length) (hj : j < 15) (hx : (kyC (kyA L k)).set j x = kyC k') : (hP L).set (15 * k + j) x = hP (L.set k k') := by
 induction L generalizing k with
 | nil => simp at hk
 | cons y r ih =>
  cases k with
  | zero =>
   have e : kyA (y :: r) 0 = y := rfl
   rw [e] at hx
   rw [List.set_cons_zero, hP, hP, List.set_append_left _ _ (by show _ < 15; omega), ← hx, Nat.mul_zero, Nat.zero_add]
  | succ k =>
   have e : 15 * (k + 1) + j = (kyC y).length + (15 * k + j) := by show _ = 15 + _; omega
   rw [List.set_cons_succ, hP, hP, e, List.set_append_right _ _ (by omega), Nat.add_sub_cancel_left]
   rw [ih k (by simpa using hk) (by simpa [kyA] using hx)]
def msnC (M : MC) (i : Nat) (now : W32) : MC := { M with L := M.L.set i { kyA M.L i with seen := mx1 now } }
def msnV (M : MC) (id now : W32) : Int × MC :=
 if findV M.L id < 0 then (130, M)
 else if (kyA M.L (findV M.L id).toNat).role ≠ 1 ∨ (kyA M.L (findV M.L id).toNat).st ≠ 2 ∨ (kyA M.L (findV M.L id).toNat).seen ≠ 0#32 then (131, M)
 else (0, msnC M (findV M.L id).toNat now)
noncomputable def mseenG : List AV → H → Nat → Option (AV × H × Nat)
 | [.op d 0, .w32 id, .w32 now], hp, nx => aK (mrgOf hp d) fun t => aN (t.M.L.length ≤ 1000) (some (.i (msnV t.M id now).1, iZ d t.l (msnV t.M id now).2 hp, nx + 300 + 60 * t.M.L.length))
 | _, _, _ => none
theorem mseenG_eq (d : Nat) (id now : W32) (hp : H) (nx : Nat) : mseenG [.op d 0, .w32 id, .w32 now] hp nx = aK (mrgOf hp d) fun t => aN (t.M.L.length ≤ 1000) (some (.i (msnV t.M id now).1, iZ d t.l (msnV t.M id now).2 hp, nx + 300 + 60 * t.M.L.length)) := (rfl)
attribute [go_sem] mseenG_eq
set_option maxHeartbeats 1000000 in
theorem mseen_ok : cQ Tryd.prog GLh 22 mseenG := by
 refine gF Tryd.func22 (aT rfl) ?_
 intro args hp nx r hp' nx' hg
 unfold mseenG at hg
 split at hg
 ·rename_i d id now
  replace hg := aJ hg; obtain ⟨⟨l, M⟩, hD0, hg⟩ := hg
  have hD := mrgOf_inv hD0
  replace hg := aP hg; obtain ⟨hlen, hg⟩ := hg
  simp only [Option.some.injEq, Prod.mk.injEq] at hg hD hlen; obtain ⟨rfl, rfl, rfl⟩ := hg
  refine ⟨Nat.le_of_ble_eq_true rfl, by omega, fun hnone => ?_⟩
  have h1 := hD.hd; have h2 := hD.hl
  obtain ⟨n1, n2⟩ := hD.ne
  have hlt : ∀ k o, hp k = some o → k < nx := fun k o hk => gI hnone hk
  have hd := hlt _ _ h1
  have hl := hlt _ _ h2
  have hkl := iJ M.L
  refine aA rfl ?_
  refine aC (Γ := aL) [0, 1, 2] (aD _ _) rfl rfl rfl (fun K hK => ?_)
  simp (disch := omega) only [Tryd.f22, go_sem, Nat.reduceAdd, ↓reduceIte]
  refine hK _ ?_
  refine aB ?_
  refine aA rfl ?_
  refine aC (Γ := bC [(36, .heap findG)]) [0, 2, 7] (aH okd37 aO) rfl rfl rfl (fun K hK => ?_)
  simp (disch := omega) only [Tryd.f22, go_sem, Nat.reduceAdd, ↓reduceIte, hD0, hlen]
  refine hK _ ?_
  refine aB ?_
  rcases find_cases M.L id with hf | ⟨i, hi, hf, hid⟩
  ·skip
   have ek : msnV M id now = (130, M) := by unfold msnV; rw [hf]; exact if_pos (by omega)
   rw [hf]
   refine aA rfl ?_
   refine aA rfl ?_
   refine aC (Γ := aL) [12, 0, 2, 7] (aD _ _) rfl rfl rfl (fun K hK => ?_)
   simp (disch := omega) only [Tryd.f22, go_sem, Nat.reduceAdd, Int.reduceLT, Int.reduceNeg, ↓reduceIte]
   refine hK _ ?_
   refine aB ?_
   refine eC (.tmp 12) rfl rfl rfl (fun h => ?_) (fun h => ?_)
   ·skip
    refine aI rfl ?_
    rw [ek]
    refine aA rfl ?_
    refine aC (Γ := aL) [6] (aD _ _) rfl rfl rfl (fun K hK => ?_)
    simp (disch := omega) only [Tryd.f22, go_sem, Int.reduceNeg, ↓reduceIte]
    refine hK _ ?_
    refine aB ?_
    refine aS rfl ?_
    refine bI ?_
    rw [setM_same hD]
    exact ⟨rfl, fun j o h => h, by simp only; omega⟩
   ·skip
    refine aI rfl ?_
    cases h
  ·skip
   have ek : msnV M id now = if (kyA M.L i).role ≠ 1 ∨ (kyA M.L i).st ≠ 2 ∨ (kyA M.L i).seen ≠ 0#32 then (131, M) else (0, msnC M i now) := by
    unfold msnV; rw [hf, Int.toNat_natCast]; exact if_neg (by omega)
   rw [hf]
   refine aA rfl ?_
   refine aA rfl ?_
   refine aC (Γ := aL) [12, 0, 2, 7] (aD _ _) rfl rfl rfl (fun K hK => ?_)
   simp (disch := omega) only [Tryd.f22, go_sem, Nat.reduceAdd, ↓reduceIte]
   refine hK _ ?_
   refine aB ?_
   refine aW (.tmp 12) rfl rfl rfl (fun h => ?_) (fun h => ?_)
   ·skip
    refine aI rfl ?_
    exact absurd h (by omega)
   ·skip
    refine aI rfl ?_
    clear h
    have hmx : (if now < 1#32 then (1#32 : W32) else now) = mx1 now := rfl
    have a1 := kys_at M.L i 1 hi (by omega)
    have a2 := kys_at M.L i 2 hi (by omega)
    have a7 := kys_at M.L i 14 hi (by omega)
    have e15 : i * 15 = 15 * i := by omega
    refine aQ rfl ?_
    refine aB ?_
    refine aA rfl ?_
    refine aA rfl ?_
    by_cases hb1 : (kyA M.L i).role = 1
    ·skip
     have d1 : decide ((kyA M.L i).role = 1) = true := decide_eq_true hb1
     by_cases hb2 : (kyA M.L i).st = 2
     ·skip
      have d2 : decide ((kyA M.L i).st = 2) = true := decide_eq_true hb2
      by_cases hb3 : (kyA M.L i).seen = 0#32
      ·skip
       have d3 : decide ((kyA M.L i).seen = 0#32) = true := decide_eq_true hb3
       rw [if_neg (fun e => e.elim (fun e => e hb1) (fun e => e.elim (fun e => e hb2) (fun e => e hb3)))] at ek
       rw [ek]
       refine aC (Γ := aL) [43, 0, 2, 7] (aD _ _) rfl rfl rfl (fun K hK => ?_)
       simp (disch := omega) only [Tryd.f22, go_sem, Nat.reduceAdd, Nat.reduceLT, Int.reduceLE, Int.reduceLT, BitVec.reduceOfInt, reduceCtorEq, ↓reduceIte, d1, d2, d3, Bool.not_true, h1, h2, mgC_eq, a1, a2, a7, e15, kyC, List.head?_cons, List.drop_succ_cons, List.drop_zero]
       refine hK _ ?_
       refine aB ?_
       refine eC (.tmp 43) rfl rfl rfl (fun h => ?_) (fun h => ?_)
       ·skip
        refine aI rfl ?_
        cases h
       ·skip
        refine aI rfl ?_
        clear h
        refine aQ rfl ?_
        refine aB ?_
        refine aA rfl ?_
        refine aC (Γ := aL) [] (aD _ _) rfl rfl rfl (fun K hK => ?_)
        simp (disch := omega) only [Tryd.f22, go_sem, Nat.reduceAdd, Nat.reduceLT, Int.reduceLE, Int.reduceLT, BitVec.reduceOfInt, ↓reduceIte, h1, h2, mgC_eq, hkl, hmx, e15, List.head?_cons, List.drop_succ_cons, List.drop_zero]
        refine hK _ ?_
        refine aB ?_
        refine aA rfl ?_
        refine aC (Γ := aL) [6] (aD _ _) rfl rfl rfl (fun K hK => ?_)
        simp (disch := omega) only [Tryd.f22, go_sem, ↓reduceIte]
        refine hK _ ?_
        refine aB ?_
        refine aS rfl ?_
        have hset := kys_set M.L i 14 (.w32 (mx1 now)) { kyA M.L i with seen := mx1 now } hi (by omega) rfl
        refine ⟨rfl, fun j o hj => setM_sub (M := msnC M i now) (l := l) ?_ ?_ ?_ j o hj, by simp only; omega⟩
        ·have e2 : mgC l (msnC M i now) = mgC l M := by simp only [mgC, msnC, List.length_set]
         rw [e2]
         simp (disch := omega) only [aV, bY, ↓reduceIte]
         exact h1
        ·simp (disch := omega) only [aV, ↓reduceIte, eq_self, hset] <;> rfl
        ·intro k o k1 k2 hk
         simp (disch := omega) only [aV, bY, ↓reduceIte]
         exact hk
      ·skip
       have d3 : decide ((kyA M.L i).seen = 0#32) = false := decide_eq_false hb3
       refine aC (Γ := aL) [43, 0, 2, 7] (aD _ _) rfl rfl rfl (fun K hK => ?_)
       simp (disch := omega) only [Tryd.f22, go_sem, Nat.reduceAdd, Nat.reduceLT, Int.reduceLE, Int.reduceLT, BitVec.reduceOfInt, reduceCtorEq, ↓reduceIte, d1, d2, d3, Bool.not_true, Bool.not_false, h1, h2, mgC_eq, a1, a2, a7, e15, kyC, List.head?_cons, List.drop_succ_cons, List.drop_zero]
       refine hK _ ?_
       refine aB ?_
       refine eC (.tmp 43) rfl rfl rfl (fun h => ?_) (fun h => ?_)
       ·skip
        refine aI rfl ?_
        rw [if_pos (.inr (.inr hb3))] at ek
        rw [ek]
        refine aA rfl ?_
        refine aC (Γ := aL) [6] (aD _ _) rfl rfl rfl (fun K hK => ?_)
        simp (disch := omega) only [Tryd.f22, go_sem, ↓reduceIte]
        refine hK _ ?_
        refine aB ?_
        refine aS rfl ?_
        refine bI ?_
        rw [setM_same hD]
        exact ⟨rfl, fun j o h => h, by simp only; omega⟩
       ·skip
        refine aI rfl ?_
        cases h
     ·skip
      have d2 : decide ((kyA M.L i).st = 2) = false := decide_eq_false hb2
      refine aC (Γ := aL) [43, 0, 2, 7] (aD _ _) rfl rfl rfl (fun K hK => ?_)
      simp (disch := omega) only [Tryd.f22, go_sem, Nat.reduceAdd, Nat.reduceLT, reduceCtorEq, ↓reduceIte, d1, d2, Bool.not_true, Bool.not_false, h1, h2, mgC_eq, a1, a2, e15, kyC, List.head?_cons, List.drop_succ_cons, List.drop_zero]
      refine hK _ ?_
      refine aB ?_
      refine eC (.tmp 43) rfl rfl rfl (fun h => ?_) (fun h => ?_)
      ·skip
       refine aI rfl ?_
       rw [if_pos (.inr (.inl hb2))] at ek
       rw [ek]
       refine aA rfl ?_
       refine aC (Γ := aL) [6] (aD _ _) rfl rfl rfl (fun K hK => ?_)
       simp (disch := omega) only [Tryd.f22, go_sem, ↓reduceIte]
       refine hK _ ?_
       refine aB ?_
       refine aS rfl ?_
       refine bI ?_
       rw [setM_same hD]
       exact ⟨rfl, fun j o h => h, by simp only; omega⟩
      ·skip
       refine aI rfl ?_
       cases h
    ·skip
     have d1 : decide ((kyA M.L i).role = 1) = false := decide_eq_false hb1
     refine aC (Γ := aL) [43, 0, 2, 7] (aD _ _) rfl rfl rfl (fun K hK => ?_)
     simp (disch := omega) only [Tryd.f22, go_sem, Nat.reduceAdd, Nat.reduceLT, ↓reduceIte, d1, Bool.not_false, h1, h2, mgC_eq, a1, e15, kyC, List.head?_cons, List.drop_succ_cons, List.drop_zero]
     refine hK _ ?_
     refine aB ?_
     refine eC (.tmp 43) rfl rfl rfl (fun h => ?_) (fun h => ?_)
     ·skip
      refine aI rfl ?_
      rw [if_pos (.inl hb1)] at ek
      rw [ek]
      refine aA rfl ?_
      refine aC (Γ := aL) [6] (aD _ _) rfl rfl rfl (fun K hK => ?_)
      simp (disch := omega) only [Tryd.f22, go_sem, ↓reduceIte]
      refine hK _ ?_
      refine aB ?_
      refine aS rfl ?_
      refine bI ?_
      rw [setM_same hD]
      exact ⟨rfl, fun j o h => h, by simp only; omega⟩
     ·skip
      refine aI rfl ?_
      cases h
 ·cases hg
theorem okd22 : bX Tryd.prog GLh 22 (.heap mseenG) := ⟨⟨_, Tryd.func22, rfl, rfl⟩, mseen_ok⟩
end Go.AX
namespace Go.AX
open Go Go.Proofs
set_option maxRecDepth 8000
def mtnC (M : MC) (i : Nat) (st : Int) (now : W32) : MC := { M with L := M.L.set i { kyA M.L i with st := st, since := now } }
def mgoC (M : MC) (i : Nat) : MC := { M with L := M.L.take i ++ M.L.drop (i + 1) }
noncomputable def mtnH (d l : Nat) (M : MC) (id : W32) (st : Int) (now : W32) (hp : H) (nx : Nat) : Int × H :=
 if findV M.L id < 0 then (130, hp)
 else if st ≤ (kyA M.L (findV M.L id).toNat).st ∨ 4 < st then (131, hp)
 else if st = 4 then (0, iZ d (nx + 88 + 60 * M.L.length) (mgoC M (findV M.L id).toNat) (del hp l))
 else (0, iZ d l (mtnC M (findV M.L id).toNat st now) hp)
noncomputable def mturnG : List AV → H → Nat → Option (AV × H × Nat)
 | [.op d 0, .w32 id, .i st, .w32 now], hp, nx => aK (mrgOf hp d) fun t => aN (t.M.L.length ≤ 1000) (some (.i (mtnH d t.l t.M id st now hp nx).1, (mtnH d t.l t.M id st now hp nx).2, nx + 300 + 60 * t.M.L.length))
 | _, _, _ => none
theorem mturnG_eq (d : Nat) (id now : W32) (st : Int) (hp : H) (nx : Nat) : mturnG [.op d 0, .w32 id, .i st, .w32 now] hp nx = aK (mrgOf hp d) fun t => aN (t.M.L.length ≤ 1000) (some (.i (mtnH d t.l t.M id st now hp nx).1, (mtnH d t.l t.M id st now hp nx).2, nx + 300 + 60 * t.M.L.length)) := (rfl)
attribute [go_sem] mturnG_eq
end Go.AX
