/-
  Sort, part F: parting a range, at numbers of 32 bits. Sort, part G: sorting a little, at numbers of 32 bits. Sort, part H: the sort itself, at numbers of 32 bits. Sort, part I: the sort of a slice, at numbers of 32 bits.
-/
import Derived.Test.YtkpgebeipmedeaaDoorUA
namespace Go.AX
open Go Go.Proofs

structure SKC where
  k : Nat
  c : Nat

set_option maxHeartbeats 1000000 in
theorem pt_up1 {id n a I J I2 nx0 cx0 : Nat} {gg : Bool} {D : Array T32} {Q : Exit → S → Prop} (hI : Sort.scanUp (fun x => ltN x D[a]!) D J I = I2) (hs : D.size = n) (hJ : J < n) (ha : a < n) (hbig : n ≤ 1000000) (hid : id < cx0)
    (hQ : ∀ n1 c1, id < c1 → Q .normal { fr := [(0, .os id 0 n 1 gg), (1, .i (a : Int)), (10, .i (I2 : Int)), (11, .i (J : Int))], hp := upd (fun _ => none) id (.cells (cA D) true), nx := n1, cx := c1 }) :
    Awp Tryd.prog GLh Tryd.f86.ntmps (cl (cr (cr (cr (bodyOf Tryd.f86))))) { fr := [(0, .os id 0 n 1 gg), (1, .i (a : Int)), (10, .i (I : Int)), (11, .i (J : Int))], hp := upd (fun _ => none) id (.cells (cA D) true), nx := nx0, cx := cx0 } Q := by
    refine awp_blockN 0 rfl rfl ?_
    refine awp_loopP (fun q : SKC => { fr := [(0, .os id 0 n 1 gg), (1, .i a), (10, .i q.k), (11, .i J)], hp := upd (fun _ => none) id (.cells (cA D) true), nx := 0, cx := q.c }) (fun q => Sort.scanUp (fun x => ltN x D[a]!) D J q.k = I2 ∧ id < q.c) (fun q => J + 1 - q.k) rfl ⟨⟨I, _⟩, ⟨hI, hid⟩, sub_same rfl rfl (Nat.le_refl _)⟩ ?_
    rintro ⟨i, c⟩ ⟨hr, hc⟩ n0
    simp only at hr hc ⊢
    by_cases hij : i ≤ J
    · skip
      have hd1 : decide ((i : Int) ≤ (J : Int)) = true := decide_eq_true (by omega)
      have hin : i < n := by omega
      obtain ⟨v, hv⟩ : ∃ v, ltN D[i]! D[a]! = v := ⟨_, rfl⟩
      rw [Sort.scanUp, decide_eq_true hij, Bool.true_and] at hr
      simp only [hv] at hr
      refine awp_seqP rfl ?_
      refine awp_seqP rfl ?_
      refine awp_drwP (Γ := envL [(84, .pure true lessG)]) (fun k => if k = 12 then 0 else 2) [43, 0, 1, 10, 11] mixed (envOK_cons oku99 envOK_nil) rfl rfl rfl (by kernel_rfl) (fun K hK => ?_)
      simp (disch := omega) only [Tryd.f86, go_sem, Nat.reduceAdd, ↓reduceIte, hd1, hv, Int.toNat_natCast]
      refine hK _ ?_
      refine nx_then ?_
      cases v
      · skip
        simp only [Bool.false_eq_true, if_false] at hr
        subst hr
        refine awp_ifB (.tmp 43) rfl rfl rfl (fun h => ?_) (fun h => ?_)
        · skip
          refine awp_drop rfl ?_
          cases h
        · skip
          refine awp_drop rfl ?_
          refine awp_exitN 0 rfl rfl ?_
          refine nx_ex_then (nx_ex_loop (nx_ex_blk ?_))
          exact hQ _ _ (by omega)
      · skip
        simp only [if_true] at hr
        refine awp_ifB (.tmp 43) rfl rfl rfl (fun h => ?_) (fun h => ?_)
        · skip
          refine awp_drop rfl ?_
          refine awp_skipP rfl ?_
          refine nx_then ?_
          refine awp_blockN 1 rfl rfl ?_
          refine awp_regP (Γ := noEnv) [0, 1, 10, 11] (noEnv_ok _ _) rfl rfl rfl (fun K hK => ?_)
          simp (disch := omega) only [Tryd.f86, go_sem, Nat.reduceAdd, ↓reduceIte]
          refine hK _ ?_
          refine nx_blk (nx_loop ?_)
          refine ⟨⟨i + 1, _⟩, ⟨hr, by simp only; omega⟩, by simp only; omega, sub_same (by simp only [Int.natCast_add, Int.natCast_one]) rfl (Nat.le_refl _)⟩
        · skip
          refine awp_drop rfl ?_
          cases h
    · skip
      have hd1 : decide ((i : Int) ≤ (J : Int)) = false := decide_eq_false (by omega)
      rw [Sort.scanUp, decide_eq_false hij, Bool.false_and] at hr
      simp only [Bool.false_eq_true, if_false] at hr
      subst hr
      refine awp_seqP rfl ?_
      refine awp_seqP rfl ?_
      refine awp_drwP (Γ := envL [(84, .pure true lessG)]) (fun k => if k = 12 then 0 else 2) [43, 0, 1, 10, 11] mixed (envOK_cons oku99 envOK_nil) rfl rfl rfl (by kernel_rfl) (fun K hK => ?_)
      simp (disch := omega) only [Tryd.f86, go_sem, Nat.reduceAdd, reduceCtorEq, ↓reduceIte, hd1]
      refine hK _ ?_
      refine nx_then ?_
      refine awp_ifB (.tmp 43) rfl rfl rfl (fun h => ?_) (fun h => ?_)
      · skip
        refine awp_drop rfl ?_
        cases h
      · skip
        refine awp_drop rfl ?_
        refine awp_exitN 0 rfl rfl ?_
        refine nx_ex_then (nx_ex_loop (nx_ex_blk ?_))
        exact hQ _ _ (by omega)

set_option maxHeartbeats 1000000 in
theorem pt_dn1 {id n a I J J2 nx0 cx0 : Nat} {gg : Bool} {D : Array T32} {Q : Exit → S → Prop} (hJ2 : Sort.scanDown (fun x => !ltN x D[a]!) D I J = J2) (hs : D.size = n) (hJ : J < n) (hI1 : 0 < I) (ha : a < n) (hbig : n ≤ 1000000) (hid : id < cx0)
    (hQ : ∀ n1 c1, id < c1 → Q .normal { fr := [(0, .os id 0 n 1 gg), (1, .i (a : Int)), (10, .i (I : Int)), (11, .i (J2 : Int))], hp := upd (fun _ => none) id (.cells (cA D) true), nx := n1, cx := c1 }) :
    Awp Tryd.prog GLh Tryd.f86.ntmps (cl (cr (cr (cr (cr (bodyOf Tryd.f86)))))) { fr := [(0, .os id 0 n 1 gg), (1, .i (a : Int)), (10, .i (I : Int)), (11, .i (J : Int))], hp := upd (fun _ => none) id (.cells (cA D) true), nx := nx0, cx := cx0 } Q := by
    refine awp_blockN 2 rfl rfl ?_
    refine awp_loopP (fun q : SKC => { fr := [(0, .os id 0 n 1 gg), (1, .i a), (10, .i I), (11, .i q.k)], hp := upd (fun _ => none) id (.cells (cA D) true), nx := 0, cx := q.c }) (fun q => Sort.scanDown (fun x => !ltN x D[a]!) D I q.k = J2 ∧ q.k < n ∧ id < q.c) (fun q => q.k) rfl ⟨⟨J, _⟩, ⟨hJ2, hJ, hid⟩, sub_same rfl rfl (Nat.le_refl _)⟩ ?_
    rintro ⟨j, c⟩ ⟨hr, hjn, hc⟩ n0
    simp only at hr hjn hc ⊢
    by_cases hij : I ≤ j
    · skip
      have hd1 : decide ((I : Int) ≤ (j : Int)) = true := decide_eq_true (by omega)
      obtain ⟨j, rfl⟩ : ∃ j', j = j' + 1 := ⟨j - 1, by omega⟩
      have ej1 : ((j + 1 : Nat) : Int) - 1 = (j : Int) := by omega
      obtain ⟨v, hv⟩ : ∃ v, ltN D[j + 1]! D[a]! = v := ⟨_, rfl⟩
      rw [Sort.scanDown, decide_eq_true hij, Bool.true_and] at hr
      simp only [hv] at hr
      refine awp_seqP rfl ?_
      refine awp_seqP rfl ?_
      refine awp_drwP (Γ := envL [(84, .pure true lessG)]) (fun k => if k = 12 then 0 else 2) [60, 0, 1, 10, 11] mixed (envOK_cons oku99 envOK_nil) rfl rfl rfl (by kernel_rfl) (fun K hK => ?_)
      simp (disch := omega) only [Tryd.f86, go_sem, Nat.reduceAdd, ↓reduceIte, hd1, hv, Int.toNat_natCast]
      refine hK _ ?_
      refine nx_then ?_
      cases v
      · skip
        simp only [Bool.not_false, if_true] at hr
        refine awp_ifB (.tmp 60) rfl rfl rfl (fun h => ?_) (fun h => ?_)
        · skip
          refine awp_drop rfl ?_
          refine awp_skipP rfl ?_
          refine nx_then ?_
          refine awp_blockN 3 rfl rfl ?_
          refine awp_regP (Γ := noEnv) [0, 1, 10, 11] (noEnv_ok _ _) rfl rfl rfl (fun K hK => ?_)
          simp (disch := omega) only [Tryd.f86, go_sem, Nat.reduceAdd, ↓reduceIte, ej1]
          refine hK _ ?_
          refine nx_blk (nx_loop ?_)
          refine ⟨⟨j, _⟩, ⟨hr, by simp only; omega, by simp only; omega⟩, by simp only; omega, sub_same rfl rfl (Nat.le_refl _)⟩
        · skip
          refine awp_drop rfl ?_
          cases h
      · skip
        simp only [Bool.not_true, Bool.false_eq_true, if_false] at hr
        subst hr
        refine awp_ifB (.tmp 60) rfl rfl rfl (fun h => ?_) (fun h => ?_)
        · skip
          refine awp_drop rfl ?_
          cases h
        · skip
          refine awp_drop rfl ?_
          refine awp_exitN 2 rfl rfl ?_
          refine nx_ex_then (nx_ex_loop (nx_ex_blk ?_))
          exact hQ _ _ (by omega)
    · skip
      have hd1 : decide ((I : Int) ≤ (j : Int)) = false := decide_eq_false (by omega)
      have hr2 : j = J2 := by
        rw [← hr]
        cases j with
        | zero => rfl
        | succ k => rw [Sort.scanDown, decide_eq_false hij, Bool.false_and]; rfl
      subst hr2
      refine awp_seqP rfl ?_
      refine awp_seqP rfl ?_
      refine awp_drwP (Γ := envL [(84, .pure true lessG)]) (fun k => if k = 12 then 0 else 2) [60, 0, 1, 10, 11] mixed (envOK_cons oku99 envOK_nil) rfl rfl rfl (by kernel_rfl) (fun K hK => ?_)
      simp (disch := omega) only [Tryd.f86, go_sem, Nat.reduceAdd, reduceCtorEq, ↓reduceIte, hd1]
      refine hK _ ?_
      refine nx_then ?_
      refine awp_ifB (.tmp 60) rfl rfl rfl (fun h => ?_) (fun h => ?_)
      · skip
        refine awp_drop rfl ?_
        cases h
      · skip
        refine awp_drop rfl ?_
        refine awp_exitN 2 rfl rfl ?_
        refine nx_ex_then (nx_ex_loop (nx_ex_blk ?_))
        exact hQ _ _ (by omega)

set_option maxHeartbeats 1000000 in
theorem pt_up2 {id n a I J I2 nx0 cx0 : Nat} {gg : Bool} {D : Array T32} {Q : Exit → S → Prop} (hI : Sort.scanUp (fun x => ltN x D[a]!) D J I = I2) (hs : D.size = n) (hJ : J < n) (ha : a < n) (hbig : n ≤ 1000000) (hid : id < cx0)
    (hQ : ∀ n1 c1, id < c1 → Q .normal { fr := [(0, .os id 0 n 1 gg), (1, .i (a : Int)), (10, .i (I2 : Int)), (11, .i (J : Int))], hp := upd (fun _ => none) id (.cells (cA D) true), nx := n1, cx := c1 }) :
    Awp Tryd.prog GLh Tryd.f86.ntmps (cl (cl (cl (cl (cl (cr (cr (cr (cr (cr (cr (cr (cr (cr (bodyOf Tryd.f86))))))))))))))) { fr := [(0, .os id 0 n 1 gg), (1, .i (a : Int)), (10, .i (I : Int)), (11, .i (J : Int))], hp := upd (fun _ => none) id (.cells (cA D) true), nx := nx0, cx := cx0 } Q := by
    refine awp_blockN 6 rfl rfl ?_
    refine awp_loopP (fun q : SKC => { fr := [(0, .os id 0 n 1 gg), (1, .i a), (10, .i q.k), (11, .i J)], hp := upd (fun _ => none) id (.cells (cA D) true), nx := 0, cx := q.c }) (fun q => Sort.scanUp (fun x => ltN x D[a]!) D J q.k = I2 ∧ id < q.c) (fun q => J + 1 - q.k) rfl ⟨⟨I, _⟩, ⟨hI, hid⟩, sub_same rfl rfl (Nat.le_refl _)⟩ ?_
    rintro ⟨i, c⟩ ⟨hr, hc⟩ n0
    simp only at hr hc ⊢
    by_cases hij : i ≤ J
    · skip
      have hd1 : decide ((i : Int) ≤ (J : Int)) = true := decide_eq_true (by omega)
      have hin : i < n := by omega
      obtain ⟨v, hv⟩ : ∃ v, ltN D[i]! D[a]! = v := ⟨_, rfl⟩
      rw [Sort.scanUp, decide_eq_true hij, Bool.true_and] at hr
      simp only [hv] at hr
      refine awp_seqP rfl ?_
      refine awp_seqP rfl ?_
      refine awp_drwP (Γ := envL [(84, .pure true lessG)]) (fun k => if k = 12 then 0 else 2) [112, 0, 1, 10, 11] mixed (envOK_cons oku99 envOK_nil) rfl rfl rfl (by kernel_rfl) (fun K hK => ?_)
      simp (disch := omega) only [Tryd.f86, go_sem, Nat.reduceAdd, ↓reduceIte, hd1, hv, Int.toNat_natCast]
      refine hK _ ?_
      refine nx_then ?_
      cases v
      · skip
        simp only [Bool.false_eq_true, if_false] at hr
        subst hr
        refine awp_ifB (.tmp 112) rfl rfl rfl (fun h => ?_) (fun h => ?_)
        · skip
          refine awp_drop rfl ?_
          cases h
        · skip
          refine awp_drop rfl ?_
          refine awp_exitN 6 rfl rfl ?_
          refine nx_ex_then (nx_ex_loop (nx_ex_blk ?_))
          exact hQ _ _ (by omega)
      · skip
        simp only [if_true] at hr
        refine awp_ifB (.tmp 112) rfl rfl rfl (fun h => ?_) (fun h => ?_)
        · skip
          refine awp_drop rfl ?_
          refine awp_skipP rfl ?_
          refine nx_then ?_
          refine awp_blockN 7 rfl rfl ?_
          refine awp_regP (Γ := noEnv) [0, 1, 10, 11] (noEnv_ok _ _) rfl rfl rfl (fun K hK => ?_)
          simp (disch := omega) only [Tryd.f86, go_sem, Nat.reduceAdd, ↓reduceIte]
          refine hK _ ?_
          refine nx_blk (nx_loop ?_)
          refine ⟨⟨i + 1, _⟩, ⟨hr, by simp only; omega⟩, by simp only; omega, sub_same (by simp only [Int.natCast_add, Int.natCast_one]) rfl (Nat.le_refl _)⟩
        · skip
          refine awp_drop rfl ?_
          cases h
    · skip
      have hd1 : decide ((i : Int) ≤ (J : Int)) = false := decide_eq_false (by omega)
      rw [Sort.scanUp, decide_eq_false hij, Bool.false_and] at hr
      simp only [Bool.false_eq_true, if_false] at hr
      subst hr
      refine awp_seqP rfl ?_
      refine awp_seqP rfl ?_
      refine awp_drwP (Γ := envL [(84, .pure true lessG)]) (fun k => if k = 12 then 0 else 2) [112, 0, 1, 10, 11] mixed (envOK_cons oku99 envOK_nil) rfl rfl rfl (by kernel_rfl) (fun K hK => ?_)
      simp (disch := omega) only [Tryd.f86, go_sem, Nat.reduceAdd, reduceCtorEq, ↓reduceIte, hd1]
      refine hK _ ?_
      refine nx_then ?_
      refine awp_ifB (.tmp 112) rfl rfl rfl (fun h => ?_) (fun h => ?_)
      · skip
        refine awp_drop rfl ?_
        cases h
      · skip
        refine awp_drop rfl ?_
        refine awp_exitN 6 rfl rfl ?_
        refine nx_ex_then (nx_ex_loop (nx_ex_blk ?_))
        exact hQ _ _ (by omega)

set_option maxHeartbeats 1000000 in
theorem pt_dn2 {id n a I J J2 nx0 cx0 : Nat} {gg : Bool} {D : Array T32} {Q : Exit → S → Prop} (hJ2 : Sort.scanDown (fun x => !ltN x D[a]!) D I J = J2) (hs : D.size = n) (hJ : J < n) (hI1 : 0 < I) (ha : a < n) (hbig : n ≤ 1000000) (hid : id < cx0)
    (hQ : ∀ n1 c1, id < c1 → Q .normal { fr := [(0, .os id 0 n 1 gg), (1, .i (a : Int)), (10, .i (I : Int)), (11, .i (J2 : Int))], hp := upd (fun _ => none) id (.cells (cA D) true), nx := n1, cx := c1 }) :
    Awp Tryd.prog GLh Tryd.f86.ntmps (cl (cr (cl (cl (cl (cl (cr (cr (cr (cr (cr (cr (cr (cr (cr (bodyOf Tryd.f86)))))))))))))))) { fr := [(0, .os id 0 n 1 gg), (1, .i (a : Int)), (10, .i (I : Int)), (11, .i (J : Int))], hp := upd (fun _ => none) id (.cells (cA D) true), nx := nx0, cx := cx0 } Q := by
    refine awp_blockN 8 rfl rfl ?_
    refine awp_loopP (fun q : SKC => { fr := [(0, .os id 0 n 1 gg), (1, .i a), (10, .i I), (11, .i q.k)], hp := upd (fun _ => none) id (.cells (cA D) true), nx := 0, cx := q.c }) (fun q => Sort.scanDown (fun x => !ltN x D[a]!) D I q.k = J2 ∧ q.k < n ∧ id < q.c) (fun q => q.k) rfl ⟨⟨J, _⟩, ⟨hJ2, hJ, hid⟩, sub_same rfl rfl (Nat.le_refl _)⟩ ?_
    rintro ⟨j, c⟩ ⟨hr, hjn, hc⟩ n0
    simp only at hr hjn hc ⊢
    by_cases hij : I ≤ j
    · skip
      have hd1 : decide ((I : Int) ≤ (j : Int)) = true := decide_eq_true (by omega)
      obtain ⟨j, rfl⟩ : ∃ j', j = j' + 1 := ⟨j - 1, by omega⟩
      have ej1 : ((j + 1 : Nat) : Int) - 1 = (j : Int) := by omega
      obtain ⟨v, hv⟩ : ∃ v, ltN D[j + 1]! D[a]! = v := ⟨_, rfl⟩
      rw [Sort.scanDown, decide_eq_true hij, Bool.true_and] at hr
      simp only [hv] at hr
      refine awp_seqP rfl ?_
      refine awp_seqP rfl ?_
      refine awp_drwP (Γ := envL [(84, .pure true lessG)]) (fun k => if k = 12 then 0 else 2) [129, 0, 1, 10, 11] mixed (envOK_cons oku99 envOK_nil) rfl rfl rfl (by kernel_rfl) (fun K hK => ?_)
      simp (disch := omega) only [Tryd.f86, go_sem, Nat.reduceAdd, ↓reduceIte, hd1, hv, Int.toNat_natCast]
      refine hK _ ?_
      refine nx_then ?_
      cases v
      · skip
        simp only [Bool.not_false, if_true] at hr
        refine awp_ifB (.tmp 129) rfl rfl rfl (fun h => ?_) (fun h => ?_)
        · skip
          refine awp_drop rfl ?_
          refine awp_skipP rfl ?_
          refine nx_then ?_
          refine awp_blockN 9 rfl rfl ?_
          refine awp_regP (Γ := noEnv) [0, 1, 10, 11] (noEnv_ok _ _) rfl rfl rfl (fun K hK => ?_)
          simp (disch := omega) only [Tryd.f86, go_sem, Nat.reduceAdd, ↓reduceIte, ej1]
          refine hK _ ?_
          refine nx_blk (nx_loop ?_)
          refine ⟨⟨j, _⟩, ⟨hr, by simp only; omega, by simp only; omega⟩, by simp only; omega, sub_same rfl rfl (Nat.le_refl _)⟩
        · skip
          refine awp_drop rfl ?_
          cases h
      · skip
        simp only [Bool.not_true, Bool.false_eq_true, if_false] at hr
        subst hr
        refine awp_ifB (.tmp 129) rfl rfl rfl (fun h => ?_) (fun h => ?_)
        · skip
          refine awp_drop rfl ?_
          cases h
        · skip
          refine awp_drop rfl ?_
          refine awp_exitN 8 rfl rfl ?_
          refine nx_ex_then (nx_ex_loop (nx_ex_blk ?_))
          exact hQ _ _ (by omega)
    · skip
      have hd1 : decide ((I : Int) ≤ (j : Int)) = false := decide_eq_false (by omega)
      have hr2 : j = J2 := by
        rw [← hr]
        cases j with
        | zero => rfl
        | succ k => rw [Sort.scanDown, decide_eq_false hij, Bool.false_and]; rfl
      subst hr2
      refine awp_seqP rfl ?_
      refine awp_seqP rfl ?_
      refine awp_drwP (Γ := envL [(84, .pure true lessG)]) (fun k => if k = 12 then 0 else 2) [129, 0, 1, 10, 11] mixed (envOK_cons oku99 envOK_nil) rfl rfl rfl (by kernel_rfl) (fun K hK => ?_)
      simp (disch := omega) only [Tryd.f86, go_sem, Nat.reduceAdd, reduceCtorEq, ↓reduceIte, hd1]
      refine hK _ ?_
      refine nx_then ?_
      refine awp_ifB (.tmp 129) rfl rfl rfl (fun h => ?_) (fun h => ?_)
      · skip
        refine awp_drop rfl ?_
        cases h
      · skip
        refine awp_drop rfl ?_
        refine awp_exitN 8 rfl rfl ?_
        refine nx_ex_then (nx_ex_loop (nx_ex_blk ?_))
        exact hQ _ _ (by omega)

set_option maxHeartbeats 1000000 in
theorem pe_up {id n a I J I2 nx0 cx0 : Nat} {gg : Bool} {D : Array T32} {Q : Exit → S → Prop} (hI : Sort.scanUp (fun x => !ltN D[a]! x) D J I = I2) (hs : D.size = n) (hJ : J < n) (ha : a < n) (hbig : n ≤ 1000000) (hid : id < cx0)
    (hQ : ∀ n1 c1, id < c1 → Q .normal { fr := [(0, .os id 0 n 1 gg), (1, .i (a : Int)), (9, .i (I2 : Int)), (10, .i (J : Int))], hp := upd (fun _ => none) id (.cells (cA D) true), nx := n1, cx := c1 }) :
    Awp Tryd.prog GLh Tryd.f85.ntmps (cl (cl (cl (cl (cl (cr (cr (cr (bodyOf Tryd.f85))))))))) { fr := [(0, .os id 0 n 1 gg), (1, .i (a : Int)), (9, .i (I : Int)), (10, .i (J : Int))], hp := upd (fun _ => none) id (.cells (cA D) true), nx := nx0, cx := cx0 } Q := by
    refine awp_blockN 2 rfl rfl ?_
    refine awp_loopP (fun q : SKC => { fr := [(0, .os id 0 n 1 gg), (1, .i a), (9, .i q.k), (10, .i J)], hp := upd (fun _ => none) id (.cells (cA D) true), nx := 0, cx := q.c }) (fun q => Sort.scanUp (fun x => !ltN D[a]! x) D J q.k = I2 ∧ id < q.c) (fun q => J + 1 - q.k) rfl ⟨⟨I, _⟩, ⟨hI, hid⟩, sub_same rfl rfl (Nat.le_refl _)⟩ ?_
    rintro ⟨i, c⟩ ⟨hr, hc⟩ n0
    simp only at hr hc ⊢
    by_cases hij : i ≤ J
    · skip
      have hd1 : decide ((i : Int) ≤ (J : Int)) = true := decide_eq_true (by omega)
      have hin : i < n := by omega
      obtain ⟨v, hv⟩ : ∃ v, ltN D[a]! D[i]! = v := ⟨_, rfl⟩
      rw [Sort.scanUp, decide_eq_true hij, Bool.true_and] at hr
      simp only [hv] at hr
      refine awp_seqP rfl ?_
      refine awp_seqP rfl ?_
      refine awp_drwP (Γ := envL [(84, .pure true lessG)]) (fun k => if k = 12 then 0 else 2) [43, 0, 1, 9, 10] mixed (envOK_cons oku99 envOK_nil) rfl rfl rfl (by kernel_rfl) (fun K hK => ?_)
      simp (disch := omega) only [Tryd.f85, go_sem, Nat.reduceAdd, ↓reduceIte, hd1, hv, Int.toNat_natCast]
      refine hK _ ?_
      refine nx_then ?_
      cases v
      · skip
        simp only [Bool.not_false, if_true] at hr
        refine awp_ifB (.tmp 43) rfl rfl rfl (fun h => ?_) (fun h => ?_)
        · skip
          refine awp_drop rfl ?_
          refine awp_skipP rfl ?_
          refine nx_then ?_
          refine awp_blockN 3 rfl rfl ?_
          refine awp_regP (Γ := noEnv) [0, 1, 9, 10] (noEnv_ok _ _) rfl rfl rfl (fun K hK => ?_)
          simp (disch := omega) only [Tryd.f85, go_sem, Nat.reduceAdd, ↓reduceIte]
          refine hK _ ?_
          refine nx_blk (nx_loop ?_)
          refine ⟨⟨i + 1, _⟩, ⟨hr, by simp only; omega⟩, by simp only; omega, sub_same (by simp only [Int.natCast_add, Int.natCast_one]) rfl (Nat.le_refl _)⟩
        · skip
          refine awp_drop rfl ?_
          cases h
      · skip
        simp only [Bool.not_true, Bool.false_eq_true, if_false] at hr
        subst hr
        refine awp_ifB (.tmp 43) rfl rfl rfl (fun h => ?_) (fun h => ?_)
        · skip
          refine awp_drop rfl ?_
          cases h
        · skip
          refine awp_drop rfl ?_
          refine awp_exitN 2 rfl rfl ?_
          refine nx_ex_then (nx_ex_loop (nx_ex_blk ?_))
          exact hQ _ _ (by omega)
    · skip
      have hd1 : decide ((i : Int) ≤ (J : Int)) = false := decide_eq_false (by omega)
      rw [Sort.scanUp, decide_eq_false hij, Bool.false_and] at hr
      simp only [Bool.false_eq_true, if_false] at hr
      subst hr
      refine awp_seqP rfl ?_
      refine awp_seqP rfl ?_
      refine awp_drwP (Γ := envL [(84, .pure true lessG)]) (fun k => if k = 12 then 0 else 2) [43, 0, 1, 9, 10] mixed (envOK_cons oku99 envOK_nil) rfl rfl rfl (by kernel_rfl) (fun K hK => ?_)
      simp (disch := omega) only [Tryd.f85, go_sem, Nat.reduceAdd, reduceCtorEq, ↓reduceIte, hd1]
      refine hK _ ?_
      refine nx_then ?_
      refine awp_ifB (.tmp 43) rfl rfl rfl (fun h => ?_) (fun h => ?_)
      · skip
        refine awp_drop rfl ?_
        cases h
      · skip
        refine awp_drop rfl ?_
        refine awp_exitN 2 rfl rfl ?_
        refine nx_ex_then (nx_ex_loop (nx_ex_blk ?_))
        exact hQ _ _ (by omega)

set_option maxHeartbeats 1000000 in
theorem pe_dn {id n a I J J2 nx0 cx0 : Nat} {gg : Bool} {D : Array T32} {Q : Exit → S → Prop} (hJ2 : Sort.scanDown (fun x => ltN D[a]! x) D I J = J2) (hs : D.size = n) (hJ : J < n) (hI1 : 0 < I) (ha : a < n) (hbig : n ≤ 1000000) (hid : id < cx0)
    (hQ : ∀ n1 c1, id < c1 → Q .normal { fr := [(0, .os id 0 n 1 gg), (1, .i (a : Int)), (9, .i (I : Int)), (10, .i (J2 : Int))], hp := upd (fun _ => none) id (.cells (cA D) true), nx := n1, cx := c1 }) :
    Awp Tryd.prog GLh Tryd.f85.ntmps (cl (cr (cl (cl (cl (cl (cr (cr (cr (bodyOf Tryd.f85)))))))))) { fr := [(0, .os id 0 n 1 gg), (1, .i (a : Int)), (9, .i (I : Int)), (10, .i (J : Int))], hp := upd (fun _ => none) id (.cells (cA D) true), nx := nx0, cx := cx0 } Q := by
    refine awp_blockN 4 rfl rfl ?_
    refine awp_loopP (fun q : SKC => { fr := [(0, .os id 0 n 1 gg), (1, .i a), (9, .i I), (10, .i q.k)], hp := upd (fun _ => none) id (.cells (cA D) true), nx := 0, cx := q.c }) (fun q => Sort.scanDown (fun x => ltN D[a]! x) D I q.k = J2 ∧ q.k < n ∧ id < q.c) (fun q => q.k) rfl ⟨⟨J, _⟩, ⟨hJ2, hJ, hid⟩, sub_same rfl rfl (Nat.le_refl _)⟩ ?_
    rintro ⟨j, c⟩ ⟨hr, hjn, hc⟩ n0
    simp only at hr hjn hc ⊢
    by_cases hij : I ≤ j
    · skip
      have hd1 : decide ((I : Int) ≤ (j : Int)) = true := decide_eq_true (by omega)
      obtain ⟨j, rfl⟩ : ∃ j', j = j' + 1 := ⟨j - 1, by omega⟩
      have ej1 : ((j + 1 : Nat) : Int) - 1 = (j : Int) := by omega
      obtain ⟨v, hv⟩ : ∃ v, ltN D[a]! D[j + 1]! = v := ⟨_, rfl⟩
      rw [Sort.scanDown, decide_eq_true hij, Bool.true_and] at hr
      simp only [hv] at hr
      refine awp_seqP rfl ?_
      refine awp_seqP rfl ?_
      refine awp_drwP (Γ := envL [(84, .pure true lessG)]) (fun k => if k = 12 then 0 else 2) [59, 0, 1, 9, 10] mixed (envOK_cons oku99 envOK_nil) rfl rfl rfl (by kernel_rfl) (fun K hK => ?_)
      simp (disch := omega) only [Tryd.f85, go_sem, Nat.reduceAdd, ↓reduceIte, hd1, hv, Int.toNat_natCast]
      refine hK _ ?_
      refine nx_then ?_
      cases v
      · skip
        simp only [Bool.false_eq_true, if_false] at hr
        subst hr
        refine awp_ifB (.tmp 59) rfl rfl rfl (fun h => ?_) (fun h => ?_)
        · skip
          refine awp_drop rfl ?_
          cases h
        · skip
          refine awp_drop rfl ?_
          refine awp_exitN 4 rfl rfl ?_
          refine nx_ex_then (nx_ex_loop (nx_ex_blk ?_))
          exact hQ _ _ (by omega)
      · skip
        simp only [if_true] at hr
        refine awp_ifB (.tmp 59) rfl rfl rfl (fun h => ?_) (fun h => ?_)
        · skip
          refine awp_drop rfl ?_
          refine awp_skipP rfl ?_
          refine nx_then ?_
          refine awp_blockN 5 rfl rfl ?_
          refine awp_regP (Γ := noEnv) [0, 1, 9, 10] (noEnv_ok _ _) rfl rfl rfl (fun K hK => ?_)
          simp (disch := omega) only [Tryd.f85, go_sem, Nat.reduceAdd, ↓reduceIte, ej1]
          refine hK _ ?_
          refine nx_blk (nx_loop ?_)
          refine ⟨⟨j, _⟩, ⟨hr, by simp only; omega, by simp only; omega⟩, by simp only; omega, sub_same rfl rfl (Nat.le_refl _)⟩
        · skip
          refine awp_drop rfl ?_
          cases h
    · skip
      have hd1 : decide ((I : Int) ≤ (j : Int)) = false := decide_eq_false (by omega)
      have hr2 : j = J2 := by
        rw [← hr]
        cases j with
        | zero => rfl
        | succ k => rw [Sort.scanDown, decide_eq_false hij, Bool.false_and]; rfl
      subst hr2
      refine awp_seqP rfl ?_
      refine awp_seqP rfl ?_
      refine awp_drwP (Γ := envL [(84, .pure true lessG)]) (fun k => if k = 12 then 0 else 2) [59, 0, 1, 9, 10] mixed (envOK_cons oku99 envOK_nil) rfl rfl rfl (by kernel_rfl) (fun K hK => ?_)
      simp (disch := omega) only [Tryd.f85, go_sem, Nat.reduceAdd, reduceCtorEq, ↓reduceIte, hd1]
      refine hK _ ?_
      refine nx_then ?_
      refine awp_ifB (.tmp 59) rfl rfl rfl (fun h => ?_) (fun h => ?_)
      · skip
        refine awp_drop rfl ?_
        cases h
      · skip
        refine awp_drop rfl ?_
        refine awp_exitN 4 rfl rfl ?_
        refine nx_ex_then (nx_ex_loop (nx_ex_blk ?_))
        exact hQ _ _ (by omega)

def ptG : List AV → List AV → Option (AV × List AV)
  | [.os _ 0 n 1 _, .i a, .i b, .i p], xs => obind (unA xs) fun l => guardO (l.length = n ∧ 0 ≤ a ∧ a < b ∧ b ≤ n ∧ 0 ≤ p ∧ p < n ∧ n ≤ 1000000) (some (.tup [.i (Sort.partition ltN l.toArray a.toNat b.toNat p.toNat).1, .b (Sort.partition ltN l.toArray a.toNat b.toNat p.toNat).2.1], cA (Sort.partition ltN l.toArray a.toNat b.toNat p.toNat).2.2))
  | _, _ => none
theorem ptG_eq (id n : Nat) (gg : Bool) (a b p : Int) (xs : List AV) : ptG [.os id 0 n 1 gg, .i a, .i b, .i p] xs = obind (unA xs) fun l => guardO (l.length = n ∧ 0 ≤ a ∧ a < b ∧ b ≤ n ∧ 0 ≤ p ∧ p < n ∧ n ≤ 1000000) (some (.tup [.i (Sort.partition ltN l.toArray a.toNat b.toNat p.toNat).1, .b (Sort.partition ltN l.toArray a.toNat b.toNat p.toNat).2.1], cA (Sort.partition ltN l.toArray a.toNat b.toNat p.toNat).2.2)) := (rfl)
attribute [go_sem] ptG_eq
set_option maxHeartbeats 2000000 in
theorem pt_ok : HeapOK Tryd.prog GLh 86 (mutH ptG) := by
  refine mut_of_awp Tryd.func86 (bodyOf_some rfl) ?_
  intro id off n e gg rest nx xs r ys hg
  unfold ptG at hg
  split at hg
  · rename_i id2 n2 gg2 a0 b0 p0 heq
    simp only [List.cons.injEq, AV.os.injEq] at heq
    obtain ⟨⟨rfl, rfl, rfl, rfl, rfl⟩, rfl⟩ := heq
    replace hg := obind_inv hg; obtain ⟨l, hl, hg⟩ := hg
    replace hg := guardO_inv hg; obtain ⟨⟨hn, ha, hab, hbn, hp0, hpn, hbig⟩, hg⟩ := hg
    simp only [Option.some.injEq, Prod.mk.injEq] at hg; obtain ⟨rfl, rfl⟩ := hg
    have := unA_inv hl; subst this
    obtain ⟨a, rfl⟩ := Int.eq_ofNat_of_zero_le ha
    obtain ⟨b, rfl⟩ := Int.eq_ofNat_of_zero_le (show 0 ≤ b0 by omega)
    obtain ⟨p, rfl⟩ := Int.eq_ofNat_of_zero_le hp0
    simp only [Int.toNat_natCast] at *
    obtain ⟨d, hd⟩ : ∃ d, l.toArray = d := ⟨_, rfl⟩
    have hds : d.size = n := by rw [← hd]; simpa using hn
    have hab2 : a < b := by omega
    have hbn2 : b ≤ n := by omega
    have hpn2 : p < n := by omega
    rw [hd]
    refine ⟨Nat.le_of_ble_eq_true rfl, fun hid => ?_⟩
    clear hl hn ha hab hbn hp0 hpn
    obtain ⟨R, hR⟩ : ∃ R, Sort.partition ltN d a b p = R := ⟨_, rfl⟩
    rw [hR]
    unfold Sort.partition at hR
    obtain ⟨D, hD⟩ : ∃ D, Sort.swp d a p = D := ⟨_, rfl⟩
    have hDs : D.size = n := by rw [← hD, swp_size]; exact hds
    have hsw : (d.setIfInBounds a d[p]!).setIfInBounds p d[a]! = D := hD
    have ea : (a : Int) + 1 = ((a + 1 : Nat) : Int) := by omega
    have eb : (b : Int) - 1 = ((b - 1 : Nat) : Int) := by omega
    obtain ⟨i2, hi2⟩ : ∃ i2, Sort.scanUp (fun x => ltN x D[a]!) D (b - 1) (a + 1) = i2 := ⟨_, rfl⟩
    have gi2 := Sort.scanUp_ge (fun x => ltN x D[a]!) D (b - 1) (a + 1)
    rw [hi2] at gi2
    obtain ⟨j2, hj2⟩ : ∃ j2, Sort.scanDown (fun x => !ltN x D[a]!) D i2 (b - 1) = j2 := ⟨_, rfl⟩
    have gj2 := Sort.scanDown_le (fun x => !ltN x D[a]!) D i2 (b - 1)
    rw [hj2] at gj2
    simp only [hD, hi2, hj2] at hR
    have han : a < n := by omega
    have hj2n : j2 < n := by omega
    refine awp_seqP rfl ?_
    refine awp_regP (Γ := noEnv) [0, 1, 2, 3] (noEnv_ok _ _) rfl rfl rfl (fun K hK => ?_)
    simp (disch := omega) only [Tryd.f86, go_sem, Nat.reduceAdd, ↓reduceIte]
    refine hK _ ?_
    refine nx_then ?_
    refine awp_seqP rfl ?_
    refine awp_drwP (Γ := noEnv) (fun _ => 2) [0, 1, 2] mixed (noEnv_ok _ _) rfl rfl rfl (by kernel_rfl) (fun K hK => ?_)
    simp (disch := omega) only [Tryd.f86, go_sem, Nat.reduceAdd, ↓reduceIte, hsw, hds, Int.toNat_natCast]
    refine hK _ ?_
    refine nx_then ?_
    refine awp_seqP rfl ?_
    refine awp_regP (Γ := noEnv) [0, 1, 10, 11] (noEnv_ok _ _) rfl rfl rfl (fun K hK => ?_)
    simp (disch := omega) only [Tryd.f86, go_sem, Nat.reduceAdd, ↓reduceIte, ea, eb]
    refine hK _ ?_
    refine nx_then ?_
    refine awp_seqP rfl ?_
    refine pt_up1 hi2 hDs (by omega) han hbig (by omega) (fun n1 c1 hc1 => ?_)
    refine nx_then ?_
    refine awp_seqP rfl ?_
    refine pt_dn1 hj2 hDs (by omega) (by omega) han hbig hc1 (fun n2 c2 hc2 => ?_)
    refine nx_then ?_
    refine awp_seqP rfl ?_
    refine awp_seqP rfl ?_
    refine awp_regP (Γ := noEnv) [65, 0, 1, 10, 11] (noEnv_ok _ _) rfl rfl rfl (fun K hK => ?_)
    simp (disch := omega) only [Tryd.f86, go_sem, Nat.reduceAdd, ↓reduceIte]
    refine hK _ ?_
    refine nx_then ?_
    refine awp_ifD (.tmp 65) rfl rfl rfl (fun h => ?_) (fun h => ?_)
    · skip
      refine awp_drop rfl ?_
      have hij : i2 > j2 := by omega
      rw [if_pos hij] at hR
      subst hR
      have hsw2 : (D.setIfInBounds j2 D[a]!).setIfInBounds a D[j2]! = Sort.swp D j2 a := rfl
      refine awp_seqP rfl ?_
      refine awp_drwP (Γ := noEnv) (fun _ => 2) [11] mixed (noEnv_ok _ _) rfl rfl rfl (by kernel_rfl) (fun K hK => ?_)
      simp (disch := omega) only [Tryd.f86, go_sem, Nat.reduceAdd, ↓reduceIte, hsw2, hDs, Int.toNat_natCast]
      refine hK _ ?_
      refine nx_then ?_
      refine awp_seqP rfl ?_
      refine awp_regP (Γ := noEnv) [8, 9] (noEnv_ok _ _) rfl rfl rfl (fun K hK => ?_)
      simp (disch := omega) only [Tryd.f86, go_sem, Nat.reduceAdd, ↓reduceIte]
      refine hK _ ?_
      refine nx_then ?_
      refine awp_retP rfl ?_
      refine nx_ret_then ?_
      exact ⟨rfl, by simp only [up_app, if_true], rfl, cA_nm _⟩
    · skip
      refine awp_drop rfl ?_
      have hij : ¬ i2 > j2 := by omega
      rw [if_neg hij] at hR
      have hi2n : i2 < n := by omega
      have hsw2 : (D.setIfInBounds i2 D[j2]!).setIfInBounds j2 D[i2]! = Sort.swp D i2 j2 := rfl
      have ei : (i2 : Int) + 1 = ((i2 + 1 : Nat) : Int) := by omega
      have ej : (j2 : Int) - 1 = ((j2 - 1 : Nat) : Int) := by omega
      obtain ⟨⟨M, E⟩, hME⟩ : ∃ r, Sort.partLoop ltN a (i2 + 1) (j2 - 1) (Sort.swp D i2 j2) = r := ⟨_, rfl⟩
      simp only [hME] at hR
      subst hR
      refine awp_skipP rfl ?_
      refine nx_then ?_
      refine awp_seqP rfl ?_
      refine awp_drwP (Γ := noEnv) (fun _ => 2) [0, 1, 10, 11] mixed (noEnv_ok _ _) rfl rfl rfl (by kernel_rfl) (fun K hK => ?_)
      simp (disch := omega) only [Tryd.f86, go_sem, Nat.reduceAdd, ↓reduceIte, hsw2, hDs, Int.toNat_natCast]
      refine hK _ ?_
      refine nx_then ?_
      refine awp_seqP rfl ?_
      refine awp_regP (Γ := noEnv) [0, 1, 10, 11] (noEnv_ok _ _) rfl rfl rfl (fun K hK => ?_)
      simp (disch := omega) only [Tryd.f86, go_sem, Nat.reduceAdd, ↓reduceIte, ei]
      refine hK _ ?_
      refine nx_then ?_
      refine awp_seqP rfl ?_
      refine awp_regP (Γ := noEnv) [0, 1, 10, 11] (noEnv_ok _ _) rfl rfl rfl (fun K hK => ?_)
      simp (disch := omega) only [Tryd.f86, go_sem, Nat.reduceAdd, ↓reduceIte, ej]
      refine hK _ ?_
      refine nx_then ?_
      refine awp_seqP rfl ?_
      refine awp_blockN 4 rfl rfl ?_
      refine awp_loopP (fun p : SDJ => { fr := [(0, .os id 0 n 1 gg), (1, .i a), (10, .i p.k), (11, .i p.j)], hp := upd (fun _ => none) id (.cells (cA p.d) true), nx := 0, cx := p.c }) (fun p => Sort.partLoop ltN a p.k p.j p.d = (M, E) ∧ p.d.size = n ∧ a < p.k ∧ p.j < n ∧ id < p.c) (fun p => p.j + 1 - p.k) rfl ⟨⟨i2 + 1, j2 - 1, Sort.swp D i2 j2, _⟩, ⟨hME, by simp only [swp_size]; exact hDs, by simp only; omega, by simp only; omega, by simp only; omega⟩, sub_same rfl rfl (Nat.le_refl _)⟩ ?_
      rintro ⟨i, j, d1, c⟩ ⟨hr, hs1, hai, hjn, hc⟩ n0
      simp only at hr hs1 hai hjn hc ⊢
      clear hsw hsw2 ei ej
      obtain ⟨i3, hi3⟩ : ∃ i3, Sort.scanUp (fun x => ltN x d1[a]!) d1 j i = i3 := ⟨_, rfl⟩
      have gi3 := Sort.scanUp_ge (fun x => ltN x d1[a]!) d1 j i
      rw [hi3] at gi3
      obtain ⟨j3, hj3⟩ : ∃ j3, Sort.scanDown (fun x => !ltN x d1[a]!) d1 i3 j = j3 := ⟨_, rfl⟩
      have gj3 := Sort.scanDown_le (fun x => !ltN x d1[a]!) d1 i3 j
      rw [hj3] at gj3
      rw [Sort.partLoop_eq, hi3, hj3] at hr
      have hj3n : j3 < n := by omega
      refine awp_blockN 5 rfl rfl ?_
      refine awp_seqP rfl ?_
      refine pt_up2 hi3 hs1 hjn han hbig hc (fun n3 c3 hc3 => ?_)
      refine nx_then ?_
      refine awp_seqP rfl ?_
      refine pt_dn2 hj3 hs1 hjn (by omega) han hbig hc3 (fun n4 c4 hc4 => ?_)
      refine nx_then ?_
      refine awp_seqP rfl ?_
      refine awp_seqP rfl ?_
      refine awp_regP (Γ := noEnv) [134, 0, 1, 10, 11] (noEnv_ok _ _) rfl rfl rfl (fun K hK => ?_)
      simp (disch := omega) only [Tryd.f86, go_sem, Nat.reduceAdd, ↓reduceIte]
      refine hK _ ?_
      refine nx_then ?_
      refine awp_ifD (.tmp 134) rfl rfl rfl (fun h => ?_) (fun h => ?_)
      · skip
        refine awp_drop rfl ?_
        have hij3 : i3 > j3 := by omega
        rw [if_pos hij3] at hr
        simp only [Prod.mk.injEq] at hr
        obtain ⟨rfl, rfl⟩ := hr
        have hsw3 : (d1.setIfInBounds j3 d1[a]!).setIfInBounds a d1[j3]! = Sort.swp d1 j3 a := rfl
        refine awp_exitN 4 rfl rfl ?_
        refine nx_ex_then (nx_ex_out (nx_ex_loop (nx_ex_blk ?_)) rfl)
        refine nx_then ?_
        refine awp_seqP rfl ?_
        refine awp_drwP (Γ := noEnv) (fun _ => 2) [11] mixed (noEnv_ok _ _) rfl rfl rfl (by kernel_rfl) (fun K hK => ?_)
        simp (disch := omega) only [Tryd.f86, go_sem, Nat.reduceAdd, ↓reduceIte, hsw3, hs1, Int.toNat_natCast]
        refine hK _ ?_
        refine nx_then ?_
        refine awp_seqP rfl ?_
        refine awp_regP (Γ := noEnv) [8, 9] (noEnv_ok _ _) rfl rfl rfl (fun K hK => ?_)
        simp (disch := omega) only [Tryd.f86, go_sem, Nat.reduceAdd, ↓reduceIte]
        refine hK _ ?_
        refine nx_then ?_
        refine awp_retP rfl ?_
        exact ⟨rfl, by simp only [up_app, if_true], rfl, cA_nm _⟩
      · skip
        refine awp_drop rfl ?_
        have hij3 : ¬ i3 > j3 := by omega
        rw [if_neg hij3] at hr
        have hi3n : i3 < n := by omega
        have hsw3 : (d1.setIfInBounds i3 d1[j3]!).setIfInBounds j3 d1[i3]! = Sort.swp d1 i3 j3 := rfl
        have ej3 : (j3 : Int) - 1 = ((j3 - 1 : Nat) : Int) := by omega
        refine awp_skipP rfl ?_
        refine nx_then ?_
        refine awp_seqP rfl ?_
        refine awp_drwP (Γ := noEnv) (fun _ => 2) [0, 1, 10, 11] mixed (noEnv_ok _ _) rfl rfl rfl (by kernel_rfl) (fun K hK => ?_)
        simp (disch := omega) only [Tryd.f86, go_sem, Nat.reduceAdd, ↓reduceIte, hsw3, hs1, Int.toNat_natCast]
        refine hK _ ?_
        refine nx_then ?_
        refine awp_seqP rfl ?_
        refine awp_regP (Γ := noEnv) [0, 1, 10, 11] (noEnv_ok _ _) rfl rfl rfl (fun K hK => ?_)
        simp (disch := omega) only [Tryd.f86, go_sem, Nat.reduceAdd, ↓reduceIte]
        refine hK _ ?_
        refine nx_then ?_
        refine awp_regP (Γ := noEnv) [0, 1, 10, 11] (noEnv_ok _ _) rfl rfl rfl (fun K hK => ?_)
        simp (disch := omega) only [Tryd.f86, go_sem, Nat.reduceAdd, ↓reduceIte, ej3]
        refine hK _ ?_
        refine nx_blk (nx_loop ?_)
        refine ⟨⟨i3 + 1, j3 - 1, Sort.swp d1 i3 j3, _⟩, ⟨hr, by simp only [swp_size]; exact hs1, by simp only; omega, by simp only; omega, by simp only; omega⟩, by simp only; omega, ⟨fun _ => .inr (by simp only [Int.natCast_add, Int.natCast_one]), hsub_cons (by simp (disch := omega) only [up_app, ↓reduceIte, eq_self]) hsub_nil, Nat.le_refl _⟩⟩
  · cases hg
theorem oku101 : EntOK Tryd.prog GLh 86 (.heap (mutH ptG)) := ⟨⟨_, Tryd.func86, rfl, rfl⟩, pt_ok⟩

def peG : List AV → List AV → Option (AV × List AV)
  | [.os _ 0 n 1 _, .i a, .i b, .i p], xs => obind (unA xs) fun l => guardO (l.length = n ∧ 0 ≤ a ∧ a < b ∧ b ≤ n ∧ 0 ≤ p ∧ p < n ∧ n ≤ 1000000) (some (.i (Sort.partitionEqual ltN l.toArray a.toNat b.toNat p.toNat).1, cA (Sort.partitionEqual ltN l.toArray a.toNat b.toNat p.toNat).2))
  | _, _ => none
theorem peG_eq (id n : Nat) (gg : Bool) (a b p : Int) (xs : List AV) : peG [.os id 0 n 1 gg, .i a, .i b, .i p] xs = obind (unA xs) fun l => guardO (l.length = n ∧ 0 ≤ a ∧ a < b ∧ b ≤ n ∧ 0 ≤ p ∧ p < n ∧ n ≤ 1000000) (some (.i (Sort.partitionEqual ltN l.toArray a.toNat b.toNat p.toNat).1, cA (Sort.partitionEqual ltN l.toArray a.toNat b.toNat p.toNat).2)) := (rfl)
attribute [go_sem] peG_eq
set_option maxHeartbeats 2000000 in
theorem pe_ok : HeapOK Tryd.prog GLh 85 (mutH peG) := by
  refine mut_of_awp Tryd.func85 (bodyOf_some rfl) ?_
  intro id off n e gg rest nx xs r ys hg
  unfold peG at hg
  split at hg
  · rename_i id2 n2 gg2 a0 b0 p0 heq
    simp only [List.cons.injEq, AV.os.injEq] at heq
    obtain ⟨⟨rfl, rfl, rfl, rfl, rfl⟩, rfl⟩ := heq
    replace hg := obind_inv hg; obtain ⟨l, hl, hg⟩ := hg
    replace hg := guardO_inv hg; obtain ⟨⟨hn, ha, hab, hbn, hp0, hpn, hbig⟩, hg⟩ := hg
    simp only [Option.some.injEq, Prod.mk.injEq] at hg; obtain ⟨rfl, rfl⟩ := hg
    have := unA_inv hl; subst this
    obtain ⟨a, rfl⟩ := Int.eq_ofNat_of_zero_le ha
    obtain ⟨b, rfl⟩ := Int.eq_ofNat_of_zero_le (show 0 ≤ b0 by omega)
    obtain ⟨p, rfl⟩ := Int.eq_ofNat_of_zero_le hp0
    simp only [Int.toNat_natCast] at *
    obtain ⟨d, hd⟩ : ∃ d, l.toArray = d := ⟨_, rfl⟩
    have hds : d.size = n := by rw [← hd]; simpa using hn
    have hab2 : a < b := by omega
    have hbn2 : b ≤ n := by omega
    have hpn2 : p < n := by omega
    rw [hd]
    refine ⟨Nat.le_of_ble_eq_true rfl, fun hid => ?_⟩
    clear hl hn ha hab hbn hp0 hpn
    obtain ⟨⟨M, E⟩, hR⟩ : ∃ R, Sort.partitionEqual ltN d a b p = R := ⟨_, rfl⟩
    rw [hR]
    obtain ⟨D, hD⟩ : ∃ D, Sort.swp d a p = D := ⟨_, rfl⟩
    have hDs : D.size = n := by rw [← hD, swp_size]; exact hds
    have hsw : (d.setIfInBounds a d[p]!).setIfInBounds p d[a]! = D := hD
    have ea : (a : Int) + 1 = ((a + 1 : Nat) : Int) := by omega
    have eb : (b : Int) - 1 = ((b - 1 : Nat) : Int) := by omega
    have hME : Sort.partEqLoop ltN a (a + 1) (b - 1) D = (M, E) := by rw [← hD]; exact hR
    have han : a < n := by omega
    clear hR
    refine awp_seqP rfl ?_
    refine awp_regP (Γ := noEnv) [0, 1, 2, 3] (noEnv_ok _ _) rfl rfl rfl (fun K hK => ?_)
    simp (disch := omega) only [Tryd.f85, go_sem, Nat.reduceAdd, ↓reduceIte]
    refine hK _ ?_
    refine nx_then ?_
    refine awp_seqP rfl ?_
    refine awp_drwP (Γ := noEnv) (fun _ => 2) [0, 1, 2] mixed (noEnv_ok _ _) rfl rfl rfl (by kernel_rfl) (fun K hK => ?_)
    simp (disch := omega) only [Tryd.f85, go_sem, Nat.reduceAdd, ↓reduceIte, hsw, hds, Int.toNat_natCast]
    refine hK _ ?_
    refine nx_then ?_
    refine awp_seqP rfl ?_
    refine awp_regP (Γ := noEnv) [0, 1, 9, 10] (noEnv_ok _ _) rfl rfl rfl (fun K hK => ?_)
    simp (disch := omega) only [Tryd.f85, go_sem, Nat.reduceAdd, ↓reduceIte, ea, eb]
    refine hK _ ?_
    refine nx_then ?_
    refine awp_seqP rfl ?_
    refine awp_blockN 0 rfl rfl ?_
    refine awp_loopP (fun p : SDJ => { fr := [(0, .os id 0 n 1 gg), (1, .i a), (9, .i p.k), (10, .i p.j)], hp := upd (fun _ => none) id (.cells (cA p.d) true), nx := 0, cx := p.c }) (fun p => Sort.partEqLoop ltN a p.k p.j p.d = (M, E) ∧ p.d.size = n ∧ a < p.k ∧ p.j < n ∧ id < p.c) (fun p => p.j + 1 - p.k) rfl ⟨⟨a + 1, b - 1, D, _⟩, ⟨hME, hDs, by simp only; omega, by simp only; omega, by simp only; omega⟩, sub_same rfl rfl (Nat.le_refl _)⟩ ?_
    rintro ⟨i, j, d1, c⟩ ⟨hr, hs1, hai, hjn, hc⟩ n0
    simp only at hr hs1 hai hjn hc ⊢
    clear hsw ea eb
    obtain ⟨i3, hi3⟩ : ∃ i3, Sort.scanUp (fun x => !ltN d1[a]! x) d1 j i = i3 := ⟨_, rfl⟩
    have gi3 := Sort.scanUp_ge (fun x => !ltN d1[a]! x) d1 j i
    rw [hi3] at gi3
    obtain ⟨j3, hj3⟩ : ∃ j3, Sort.scanDown (fun x => ltN d1[a]! x) d1 i3 j = j3 := ⟨_, rfl⟩
    have gj3 := Sort.scanDown_le (fun x => ltN d1[a]! x) d1 i3 j
    rw [hj3] at gj3
    rw [Sort.partEqLoop_eq, hi3, hj3] at hr
    have hj3n : j3 < n := by omega
    refine awp_blockN 1 rfl rfl ?_
    refine awp_seqP rfl ?_
    refine pe_up hi3 hs1 hjn han hbig hc (fun n3 c3 hc3 => ?_)
    refine nx_then ?_
    refine awp_seqP rfl ?_
    refine pe_dn hj3 hs1 hjn (by omega) han hbig hc3 (fun n4 c4 hc4 => ?_)
    refine nx_then ?_
    refine awp_seqP rfl ?_
    refine awp_seqP rfl ?_
    refine awp_regP (Γ := noEnv) [64, 0, 1, 9, 10] (noEnv_ok _ _) rfl rfl rfl (fun K hK => ?_)
    simp (disch := omega) only [Tryd.f85, go_sem, Nat.reduceAdd, ↓reduceIte]
    refine hK _ ?_
    refine nx_then ?_
    refine awp_ifD (.tmp 64) rfl rfl rfl (fun h => ?_) (fun h => ?_)
    · skip
      refine awp_drop rfl ?_
      have hij3 : i3 > j3 := by omega
      rw [if_pos hij3] at hr
      simp only [Prod.mk.injEq] at hr
      obtain ⟨rfl, rfl⟩ := hr
      refine awp_exitN 0 rfl rfl ?_
      refine nx_ex_then (nx_ex_out (nx_ex_loop (nx_ex_blk ?_)) rfl)
      refine nx_then ?_
      refine awp_seqP rfl ?_
      refine awp_regP (Γ := noEnv) [8] (noEnv_ok _ _) rfl rfl rfl (fun K hK => ?_)
      simp (disch := omega) only [Tryd.f85, go_sem, Nat.reduceAdd, ↓reduceIte]
      refine hK _ ?_
      refine nx_then ?_
      refine awp_retP rfl ?_
      exact ⟨rfl, by simp only [up_app, if_true], rfl, cA_nm _⟩
    · skip
      refine awp_drop rfl ?_
      have hij3 : ¬ i3 > j3 := by omega
      rw [if_neg hij3] at hr
      have hi3n : i3 < n := by omega
      have hsw3 : (d1.setIfInBounds i3 d1[j3]!).setIfInBounds j3 d1[i3]! = Sort.swp d1 i3 j3 := rfl
      have ej3 : (j3 : Int) - 1 = ((j3 - 1 : Nat) : Int) := by omega
      refine awp_skipP rfl ?_
      refine nx_then ?_
      refine awp_seqP rfl ?_
      refine awp_drwP (Γ := noEnv) (fun _ => 2) [0, 1, 9, 10] mixed (noEnv_ok _ _) rfl rfl rfl (by kernel_rfl) (fun K hK => ?_)
      simp (disch := omega) only [Tryd.f85, go_sem, Nat.reduceAdd, ↓reduceIte, hsw3, hs1, Int.toNat_natCast]
      refine hK _ ?_
      refine nx_then ?_
      refine awp_seqP rfl ?_
      refine awp_regP (Γ := noEnv) [0, 1, 9, 10] (noEnv_ok _ _) rfl rfl rfl (fun K hK => ?_)
      simp (disch := omega) only [Tryd.f85, go_sem, Nat.reduceAdd, ↓reduceIte]
      refine hK _ ?_
      refine nx_then ?_
      refine awp_regP (Γ := noEnv) [0, 1, 9, 10] (noEnv_ok _ _) rfl rfl rfl (fun K hK => ?_)
      simp (disch := omega) only [Tryd.f85, go_sem, Nat.reduceAdd, ↓reduceIte, ej3]
      refine hK _ ?_
      refine nx_blk (nx_loop ?_)
      refine ⟨⟨i3 + 1, j3 - 1, Sort.swp d1 i3 j3, _⟩, ⟨hr, by simp only [swp_size]; exact hs1, by simp only; omega, by simp only; omega, by simp only; omega⟩, by simp only; omega, ⟨fun _ => .inr (by simp only [Int.natCast_add, Int.natCast_one]), hsub_cons (by simp (disch := omega) only [up_app, ↓reduceIte, eq_self]) hsub_nil, Nat.le_refl _⟩⟩
  · cases hg
theorem oku100 : EntOK Tryd.prog GLh 85 (.heap (mutH peG)) := ⟨⟨_, Tryd.func85, rfl, rfl⟩, pe_ok⟩
end Go.AX

namespace Go.AX
open Go Go.Proofs

theorem sd_size : ∀ (j : Nat) (d : Array T32), (Sort.shiftDown ltN j d).size = d.size
  | 0, d => rfl
  | j + 1, d => by
    rw [Sort.shiftDown]
    split
    · rfl
    · rw [sd_size j, swp_size]
theorem su_size (b : Nat) : ∀ (m j : Nat) (d : Array T32), b - j ≤ m → (Sort.shiftUp ltN b j d).size = d.size := by
  intro m
  induction m with
  | zero => intro j d h; rw [Sort.shiftUp, if_neg (by omega)]
  | succ m ih =>
    intro j d h
    rw [Sort.shiftUp]
    split
    · split
      · rfl
      · rw [ih _ _ (by omega), swp_size]
    · rfl
theorem ss_le (b : Nat) (d : Array T32) : ∀ (m i : Nat), b - i ≤ m → i ≤ b → i ≤ Sort.scanSorted ltN d b i ∧ Sort.scanSorted ltN d b i ≤ b := by
  intro m
  induction m with
  | zero => intro i h hi; rw [Sort.scanSorted, decide_eq_false (by omega : ¬ i < b), Bool.false_and]; simp only [Bool.false_eq_true, if_false]; omega
  | succ m ih =>
    intro i h hi
    rw [Sort.scanSorted]
    by_cases hib : i < b
    · split
      · have := ih (i + 1) (by omega) (by omega); omega
      · omega
    · rw [decide_eq_false hib, Bool.false_and]; simp only [Bool.false_eq_true, if_false]; omega

set_option maxHeartbeats 1000000 in
theorem pi_sc {id n a b I I2 nx0 cx0 : Nat} {s : Int} {gg : Bool} {D : Array T32} {Q : Exit → S → Prop} (hI : Sort.scanSorted ltN D b I = I2) (hs : D.size = n) (hI1 : 0 < I) (hb : b ≤ n) (hbig : n ≤ 1000000) (hid : id < cx0)
    (hQ : ∀ n1 c1, id < c1 → Q .normal { fr := [(0, .os id 0 n 1 gg), (1, .i (a : Int)), (2, .i (b : Int)), (7, .i (I2 : Int)), (8, .i s)], hp := upd (fun _ => none) id (.cells (cA D) true), nx := n1, cx := c1 }) :
    Awp Tryd.prog GLh Tryd.f83.ntmps (cl (cl (cl (cr (cl (cl (cr (cl (cr (cr (bodyOf Tryd.f83))))))))))) { fr := [(0, .os id 0 n 1 gg), (1, .i (a : Int)), (2, .i (b : Int)), (7, .i (I : Int)), (8, .i s)], hp := upd (fun _ => none) id (.cells (cA D) true), nx := nx0, cx := cx0 } Q := by
    refine awp_blockN 2 rfl rfl ?_
    refine awp_loopP (fun q : SKC => { fr := [(0, .os id 0 n 1 gg), (1, .i a), (2, .i b), (7, .i q.k), (8, .i s)], hp := upd (fun _ => none) id (.cells (cA D) true), nx := 0, cx := q.c }) (fun q => Sort.scanSorted ltN D b q.k = I2 ∧ 0 < q.k ∧ id < q.c) (fun q => b - q.k) rfl ⟨⟨I, _⟩, ⟨hI, hI1, hid⟩, sub_same rfl rfl (Nat.le_refl _)⟩ ?_
    rintro ⟨i, c⟩ ⟨hr, hi, hc⟩ n0
    simp only at hr hi hc ⊢
    by_cases hij : i < b
    · skip
      have hd1 : decide ((i : Int) < (b : Int)) = true := decide_eq_true (by omega)
      have hin : i < n := by omega
      have ei : (i : Int) - 1 = ((i - 1 : Nat) : Int) := by omega
      obtain ⟨v, hv⟩ : ∃ v, ltN D[i]! D[i - 1]! = v := ⟨_, rfl⟩
      rw [Sort.scanSorted, decide_eq_true hij, Bool.true_and, hv] at hr
      refine awp_seqP rfl ?_
      refine awp_seqP rfl ?_
      refine awp_drwP (Γ := envL [(84, .pure true lessG)]) (fun k => if k = 13 then 0 else 2) [32, 0, 1, 2, 7, 8] mixed (envOK_cons oku99 envOK_nil) rfl rfl rfl (by kernel_rfl) (fun K hK => ?_)
      simp (disch := omega) only [Tryd.f83, go_sem, Nat.reduceAdd, ↓reduceIte, hd1, ei, hv, Int.toNat_natCast]
      refine hK _ ?_
      refine nx_then ?_
      cases v
      · skip
        simp only [Bool.not_false, if_true] at hr
        refine awp_ifB (.tmp 32) rfl rfl rfl (fun h => ?_) (fun h => ?_)
        · skip
          refine awp_drop rfl ?_
          refine awp_skipP rfl ?_
          refine nx_then ?_
          refine awp_blockN 3 rfl rfl ?_
          refine awp_regP (Γ := noEnv) [0, 1, 2, 7, 8] (noEnv_ok _ _) rfl rfl rfl (fun K hK => ?_)
          simp (disch := omega) only [Tryd.f83, go_sem, Nat.reduceAdd, ↓reduceIte]
          refine hK _ ?_
          refine nx_blk (nx_loop ?_)
          refine ⟨⟨i + 1, _⟩, ⟨hr, by simp only; omega, by simp only; omega⟩, by simp only; omega, sub_same (by simp only [Int.natCast_add, Int.natCast_one]) rfl (Nat.le_refl _)⟩
        · skip
          refine awp_drop rfl ?_
          cases h
      · skip
        simp only [Bool.not_true, Bool.false_eq_true, if_false] at hr
        subst hr
        refine awp_ifB (.tmp 32) rfl rfl rfl (fun h => ?_) (fun h => ?_)
        · skip
          refine awp_drop rfl ?_
          cases h
        · skip
          refine awp_drop rfl ?_
          refine awp_exitN 2 rfl rfl ?_
          refine nx_ex_then (nx_ex_loop (nx_ex_blk ?_))
          exact hQ _ _ (by omega)
    · skip
      have hd1 : decide ((i : Int) < (b : Int)) = false := decide_eq_false (by omega)
      rw [Sort.scanSorted, decide_eq_false hij, Bool.false_and] at hr
      simp only [Bool.false_eq_true, if_false] at hr
      subst hr
      refine awp_seqP rfl ?_
      refine awp_seqP rfl ?_
      refine awp_drwP (Γ := envL [(84, .pure true lessG)]) (fun k => if k = 13 then 0 else 2) [32, 0, 1, 2, 7, 8] mixed (envOK_cons oku99 envOK_nil) rfl rfl rfl (by kernel_rfl) (fun K hK => ?_)
      simp (disch := omega) only [Tryd.f83, go_sem, Nat.reduceAdd, reduceCtorEq, ↓reduceIte, hd1]
      refine hK _ ?_
      refine nx_then ?_
      refine awp_ifB (.tmp 32) rfl rfl rfl (fun h => ?_) (fun h => ?_)
      · skip
        refine awp_drop rfl ?_
        cases h
      · skip
        refine awp_drop rfl ?_
        refine awp_exitN 2 rfl rfl ?_
        refine nx_ex_then (nx_ex_loop (nx_ex_blk ?_))
        exact hQ _ _ (by omega)

set_option maxHeartbeats 1000000 in
theorem pi_sd {id n a b i J nx0 cx0 : Nat} {s : Int} {gg : Bool} {D E : Array T32} {Q : Exit → S → Prop} (hE : Sort.shiftDown ltN J D = E) (hs : D.size = n) (hJ : J < n) (hbig : n ≤ 1000000) (hid : id < cx0)
    (hQ : ∀ jj n1 c1, id < c1 → Q .normal { fr := [(0, .os id 0 n 1 gg), (1, .i (a : Int)), (2, .i (b : Int)), (7, .i (i : Int)), (8, .i s), (9, .i jj)], hp := upd (fun _ => none) id (.cells (cA E) true), nx := n1, cx := c1 }) :
    Awp Tryd.prog GLh Tryd.f83.ntmps (cr (cl (cr (cl (cr (cr (cr (cr (cl (cl (cr (cl (cl (cr (cl (cr (cr (bodyOf Tryd.f83)))))))))))))))))) { fr := [(0, .os id 0 n 1 gg), (1, .i (a : Int)), (2, .i (b : Int)), (7, .i (i : Int)), (8, .i s), (9, .i (J : Int))], hp := upd (fun _ => none) id (.cells (cA D) true), nx := nx0, cx := cx0 } Q := by
    refine awp_blockN 4 rfl rfl ?_
    refine awp_loopP (fun q : SDC => { fr := [(0, .os id 0 n 1 gg), (1, .i a), (2, .i b), (7, .i i), (8, .i s), (9, .i q.k)], hp := upd (fun _ => none) id (.cells (cA q.d) true), nx := 0, cx := q.c }) (fun q => Sort.shiftDown ltN q.k q.d = E ∧ q.d.size = n ∧ q.k < n ∧ id < q.c) (fun q => q.k) rfl ⟨⟨J, D, _⟩, ⟨hE, hs, hJ, hid⟩, sub_same rfl rfl (Nat.le_refl _)⟩ ?_
    rintro ⟨j, d1, c⟩ ⟨hr, hs1, hj, hc⟩ n0
    simp only at hr hs1 hj hc ⊢
    refine awp_seqP rfl ?_
    refine awp_seqP rfl ?_
    refine awp_regP (Γ := noEnv) [65, 0, 1, 2, 7, 8, 9] (noEnv_ok _ _) rfl rfl rfl (fun K hK => ?_)
    simp (disch := omega) only [Tryd.f83, go_sem, Nat.reduceAdd, ↓reduceIte]
    refine hK _ ?_
    refine nx_then ?_
    refine awp_ifD (.tmp 65) rfl rfl rfl (fun h => ?_) (fun h => ?_)
    · skip
      refine awp_drop rfl ?_
      obtain ⟨j, rfl⟩ : ∃ j', j = j' + 1 := ⟨j - 1, by omega⟩
      have ej1 : ((j + 1 : Nat) : Int) - 1 = (j : Int) := by omega
      obtain ⟨v, hv⟩ : ∃ v, ltN d1[j + 1]! d1[j]! = v := ⟨_, rfl⟩
      rw [Sort.shiftDown, hv] at hr
      refine awp_skipP rfl ?_
      refine nx_then ?_
      refine awp_seqP rfl ?_
      refine awp_blockN 5 rfl rfl ?_
      refine awp_seqP rfl ?_
      refine awp_seqP rfl ?_
      refine awp_drwP (Γ := envL [(84, .pure true lessG)]) (fun k => if k = 9 then 0 else 2) [78, 0, 1, 2, 7, 8, 9] mixed (envOK_cons oku99 envOK_nil) rfl rfl rfl (by kernel_rfl) (fun K hK => ?_)
      simp (disch := omega) only [Tryd.f83, go_sem, Nat.reduceAdd, ↓reduceIte, ej1, hv, Int.toNat_natCast]
      refine hK _ ?_
      refine nx_then ?_
      cases v
      · skip
        simp only [Bool.not_false, if_true] at hr
        subst hr
        refine awp_ifB (.tmp 78) rfl rfl rfl (fun h => ?_) (fun h => ?_)
        · skip
          refine awp_drop rfl ?_
          refine awp_exitN 4 rfl rfl ?_
          refine nx_ex_then (nx_ex_out (nx_ex_then (nx_ex_loop (nx_ex_blk ?_))) rfl)
          exact hQ _ _ _ (by omega)
        · skip
          refine awp_drop rfl ?_
          cases h
      · skip
        simp only [Bool.not_true, Bool.false_eq_true, if_false] at hr
        refine awp_ifB (.tmp 78) rfl rfl rfl (fun h => ?_) (fun h => ?_)
        · skip
          refine awp_drop rfl ?_
          cases h
        · skip
          refine awp_drop rfl ?_
          refine awp_skipP rfl ?_
          refine nx_then ?_
          have hsw : (d1.setIfInBounds (j + 1) d1[j]!).setIfInBounds j d1[j + 1]! = Sort.swp d1 (j + 1) j := rfl
          refine awp_drwP (Γ := noEnv) (fun _ => 2) [0, 1, 2, 7, 8, 9] mixed (noEnv_ok _ _) rfl rfl rfl (by kernel_rfl) (fun K hK => ?_)
          simp (disch := omega) only [Tryd.f83, go_sem, Nat.reduceAdd, ↓reduceIte, ej1, hsw, Int.toNat_natCast]
          refine hK _ ?_
          refine nx_blk (nx_then ?_)
          refine awp_regP (Γ := noEnv) [0, 1, 2, 7, 8, 9] (noEnv_ok _ _) rfl rfl rfl (fun K hK => ?_)
          simp (disch := omega) only [Tryd.f83, go_sem, Nat.reduceAdd, ↓reduceIte, ej1]
          refine hK _ ?_
          refine nx_loop ?_
          refine ⟨⟨j, Sort.swp d1 (j + 1) j, _⟩, ⟨hr, by simp only [swp_size]; exact hs1, by simp only; omega, by simp only; omega⟩, by simp only; omega, ⟨fun _ => .inr rfl, hsub_cons (by simp (disch := omega) only [up_app, ↓reduceIte, eq_self]) hsub_nil, Nat.le_refl _⟩⟩
    · skip
      refine awp_drop rfl ?_
      obtain rfl : j = 0 := by omega
      rw [Sort.shiftDown] at hr
      subst hr
      refine awp_exitN 4 rfl rfl ?_
      refine nx_ex_then (nx_ex_loop (nx_ex_blk ?_))
      exact hQ _ _ _ (by omega)

set_option maxHeartbeats 1000000 in
theorem pi_su {id n a b i J nx0 cx0 : Nat} {s : Int} {gg : Bool} {D E : Array T32} {Q : Exit → S → Prop} (hE : Sort.shiftUp ltN b J D = E) (hs : D.size = n) (hJ : 0 < J) (hb : b ≤ n) (hbig : n ≤ 1000000) (hid : id < cx0)
    (hQ : ∀ jj n1 c1, id < c1 → Q .normal { fr := [(0, .os id 0 n 1 gg), (1, .i (a : Int)), (2, .i (b : Int)), (7, .i (i : Int)), (8, .i s), (10, .i jj)], hp := upd (fun _ => none) id (.cells (cA E) true), nx := n1, cx := c1 }) :
    Awp Tryd.prog GLh Tryd.f83.ntmps (cr (cl (cr (cr (cr (cr (cr (cr (cl (cl (cr (cl (cl (cr (cl (cr (cr (bodyOf Tryd.f83)))))))))))))))))) { fr := [(0, .os id 0 n 1 gg), (1, .i (a : Int)), (2, .i (b : Int)), (7, .i (i : Int)), (8, .i s), (10, .i (J : Int))], hp := upd (fun _ => none) id (.cells (cA D) true), nx := nx0, cx := cx0 } Q := by
    refine awp_blockN 6 rfl rfl ?_
    refine awp_loopP (fun q : SDC => { fr := [(0, .os id 0 n 1 gg), (1, .i a), (2, .i b), (7, .i i), (8, .i s), (10, .i q.k)], hp := upd (fun _ => none) id (.cells (cA q.d) true), nx := 0, cx := q.c }) (fun q => Sort.shiftUp ltN b q.k q.d = E ∧ q.d.size = n ∧ 0 < q.k ∧ id < q.c) (fun q => b - q.k) rfl ⟨⟨J, D, _⟩, ⟨hE, hs, hJ, hid⟩, sub_same rfl rfl (Nat.le_refl _)⟩ ?_
    rintro ⟨j, d1, c⟩ ⟨hr, hs1, hj, hc⟩ n0
    simp only at hr hs1 hj hc ⊢
    refine awp_seqP rfl ?_
    refine awp_seqP rfl ?_
    refine awp_regP (Γ := noEnv) [103, 0, 1, 2, 7, 8, 10] (noEnv_ok _ _) rfl rfl rfl (fun K hK => ?_)
    simp (disch := omega) only [Tryd.f83, go_sem, Nat.reduceAdd, ↓reduceIte]
    refine hK _ ?_
    refine nx_then ?_
    refine awp_ifD (.tmp 103) rfl rfl rfl (fun h => ?_) (fun h => ?_)
    · skip
      refine awp_drop rfl ?_
      have hjb : j < b := by omega
      have hjn : j < n := by omega
      have ej1 : (j : Int) - 1 = ((j - 1 : Nat) : Int) := by omega
      obtain ⟨v, hv⟩ : ∃ v, ltN d1[j]! d1[j - 1]! = v := ⟨_, rfl⟩
      rw [Sort.shiftUp, if_pos hjb, hv] at hr
      refine awp_skipP rfl ?_
      refine nx_then ?_
      refine awp_seqP rfl ?_
      refine awp_blockN 7 rfl rfl ?_
      refine awp_seqP rfl ?_
      refine awp_seqP rfl ?_
      refine awp_drwP (Γ := envL [(84, .pure true lessG)]) (fun k => if k = 9 then 0 else 2) [116, 0, 1, 2, 7, 8, 10] mixed (envOK_cons oku99 envOK_nil) rfl rfl rfl (by kernel_rfl) (fun K hK => ?_)
      simp (disch := omega) only [Tryd.f83, go_sem, Nat.reduceAdd, ↓reduceIte, ej1, hv, Int.toNat_natCast]
      refine hK _ ?_
      refine nx_then ?_
      cases v
      · skip
        simp only [Bool.not_false, if_true] at hr
        subst hr
        refine awp_ifB (.tmp 116) rfl rfl rfl (fun h => ?_) (fun h => ?_)
        · skip
          refine awp_drop rfl ?_
          refine awp_exitN 6 rfl rfl ?_
          refine nx_ex_then (nx_ex_out (nx_ex_then (nx_ex_loop (nx_ex_blk ?_))) rfl)
          exact hQ _ _ _ (by omega)
        · skip
          refine awp_drop rfl ?_
          cases h
      · skip
        simp only [Bool.not_true, Bool.false_eq_true, if_false] at hr
        refine awp_ifB (.tmp 116) rfl rfl rfl (fun h => ?_) (fun h => ?_)
        · skip
          refine awp_drop rfl ?_
          cases h
        · skip
          refine awp_drop rfl ?_
          refine awp_skipP rfl ?_
          refine nx_then ?_
          have hsw : (d1.setIfInBounds j d1[j - 1]!).setIfInBounds (j - 1) d1[j]! = Sort.swp d1 j (j - 1) := rfl
          refine awp_drwP (Γ := noEnv) (fun _ => 2) [0, 1, 2, 7, 8, 10] mixed (noEnv_ok _ _) rfl rfl rfl (by kernel_rfl) (fun K hK => ?_)
          simp (disch := omega) only [Tryd.f83, go_sem, Nat.reduceAdd, ↓reduceIte, ej1, hsw, Int.toNat_natCast]
          refine hK _ ?_
          refine nx_blk (nx_then ?_)
          refine awp_regP (Γ := noEnv) [0, 1, 2, 7, 8, 10] (noEnv_ok _ _) rfl rfl rfl (fun K hK => ?_)
          simp (disch := omega) only [Tryd.f83, go_sem, Nat.reduceAdd, ↓reduceIte]
          refine hK _ ?_
          refine nx_loop ?_
          refine ⟨⟨j + 1, Sort.swp d1 j (j - 1), _⟩, ⟨hr, by simp only [swp_size]; exact hs1, by simp only; omega, by simp only; omega⟩, by simp only; omega, ⟨fun _ => .inr (by simp only [Int.natCast_add, Int.natCast_one]), hsub_cons (by simp (disch := omega) only [up_app, ↓reduceIte, eq_self]) hsub_nil, Nat.le_refl _⟩⟩
    · skip
      refine awp_drop rfl ?_
      have hjb : ¬ j < b := by omega
      rw [Sort.shiftUp, if_neg hjb] at hr
      subst hr
      refine awp_exitN 6 rfl rfl ?_
      refine nx_ex_then (nx_ex_loop (nx_ex_blk ?_))
      exact hQ _ _ _ (by omega)

structure SPI where
  s : Nat
  i : Nat
  d : Array T32
  c : Nat
def piG : List AV → List AV → Option (AV × List AV)
  | [.os _ 0 n 1 _, .i a, .i b], xs => obind (unA xs) fun l => guardO (l.length = n ∧ 0 ≤ a ∧ a < b ∧ b ≤ n ∧ n ≤ 1000000) (some (.b (Sort.partialInsertionSort ltN l.toArray a.toNat b.toNat).2, cA (Sort.partialInsertionSort ltN l.toArray a.toNat b.toNat).1))
  | _, _ => none
theorem piG_eq (id n : Nat) (gg : Bool) (a b : Int) (xs : List AV) : piG [.os id 0 n 1 gg, .i a, .i b] xs = obind (unA xs) fun l => guardO (l.length = n ∧ 0 ≤ a ∧ a < b ∧ b ≤ n ∧ n ≤ 1000000) (some (.b (Sort.partialInsertionSort ltN l.toArray a.toNat b.toNat).2, cA (Sort.partialInsertionSort ltN l.toArray a.toNat b.toNat).1)) := (rfl)
attribute [go_sem] piG_eq
set_option maxHeartbeats 2000000 in
theorem pi_ok : HeapOK Tryd.prog GLh 83 (mutH piG) := by
  refine mut_of_awp Tryd.func83 (bodyOf_some rfl) ?_
  intro id off n e gg rest nx xs r ys hg
  unfold piG at hg
  split at hg
  · rename_i id2 n2 gg2 a0 b0 heq
    simp only [List.cons.injEq, AV.os.injEq] at heq
    obtain ⟨⟨rfl, rfl, rfl, rfl, rfl⟩, rfl⟩ := heq
    replace hg := obind_inv hg; obtain ⟨l, hl, hg⟩ := hg
    replace hg := guardO_inv hg; obtain ⟨⟨hn, ha, hab, hbn, hbig⟩, hg⟩ := hg
    simp only [Option.some.injEq, Prod.mk.injEq] at hg; obtain ⟨rfl, rfl⟩ := hg
    have := unA_inv hl; subst this
    obtain ⟨a, rfl⟩ := Int.eq_ofNat_of_zero_le ha
    obtain ⟨b, rfl⟩ := Int.eq_ofNat_of_zero_le (show 0 ≤ b0 by omega)
    simp only [Int.toNat_natCast] at *
    obtain ⟨d, hd⟩ : ∃ d, l.toArray = d := ⟨_, rfl⟩
    have hds : d.size = n := by rw [← hd]; simpa using hn
    have hab2 : a < b := by omega
    have hbn2 : b ≤ n := by omega
    rw [hd]
    refine ⟨Nat.le_of_ble_eq_true rfl, fun hid => ?_⟩
    clear hl hn ha hab hbn
    obtain ⟨⟨E, F⟩, hR⟩ : ∃ R, Sort.partialInsertionSort ltN d a b = R := ⟨_, rfl⟩
    rw [hR]
    have hR0 : Sort.partialIns ltN a b 5 (a + 1) d = (E, F) := hR
    clear hR
    have ebL : (b : Int) - (a : Int) = ((b - a : Nat) : Int) := by omega
    refine awp_seqP rfl ?_
    refine awp_regP (Γ := noEnv) [0, 1, 2] (noEnv_ok _ _) rfl rfl rfl (fun K hK => ?_)
    simp (disch := omega) only [Tryd.f83, go_sem, Nat.reduceAdd, ↓reduceIte]
    refine hK _ ?_
    refine nx_then ?_
    refine awp_seqP rfl ?_
    refine awp_regP (Γ := noEnv) [0, 1, 2, 7] (noEnv_ok _ _) rfl rfl rfl (fun K hK => ?_)
    simp (disch := omega) only [Tryd.f83, go_sem, Nat.reduceAdd, ↓reduceIte]
    refine hK _ ?_
    refine nx_then ?_
    refine awp_seqP rfl ?_
    refine awp_seqP rfl ?_
    refine awp_regP (Γ := noEnv) [0, 1, 2, 7, 8] (noEnv_ok _ _) rfl rfl rfl (fun K hK => ?_)
    simp (disch := omega) only [Tryd.f83, go_sem, ↓reduceIte]
    refine hK _ ?_
    refine nx_then ?_
    refine awp_blockN 0 rfl rfl ?_
    refine awp_loopP (fun p : SPI => { fr := [(0, .os id 0 n 1 gg), (1, .i a), (2, .i b), (7, .i p.i), (8, .i (5 - (p.s : Int)))], hp := upd (fun _ => none) id (.cells (cA p.d) true), nx := 0, cx := p.c }) (fun p => Sort.partialIns ltN a b p.s p.i p.d = (E, F) ∧ p.d.size = n ∧ a < p.i ∧ p.i ≤ b ∧ p.s ≤ 5 ∧ id < p.c) (fun p => p.s) rfl ⟨⟨5, a + 1, d, _⟩, ⟨hR0, hds, by simp only; omega, by simp only; omega, by simp only; omega, by simp only; omega⟩, sub_same (by simp only [Int.natCast_add, Int.cast_ofNat_Int, Int.sub_self]) rfl (Nat.le_refl _)⟩ ?_
    rintro ⟨s, i, d1, c⟩ ⟨hr, hs1, hai, hib, hs5, hc⟩ n0
    simp only at hr hs1 hai hib hs5 hc ⊢
    refine awp_seqP rfl ?_
    refine awp_seqP rfl ?_
    refine awp_regP (Γ := noEnv) [14, 0, 1, 2, 7, 8] (noEnv_ok _ _) rfl rfl rfl (fun K hK => ?_)
    simp (disch := omega) only [Tryd.f83, go_sem, Nat.reduceAdd, ↓reduceIte]
    refine hK _ ?_
    refine nx_then ?_
    refine awp_ifD (.tmp 14) rfl rfl rfl (fun h => ?_) (fun h => ?_)
    · skip
      refine awp_drop rfl ?_
      obtain ⟨s, rfl⟩ : ∃ s', s = s' + 1 := ⟨s - 1, by omega⟩
      obtain ⟨i2, hi2⟩ : ∃ i2, Sort.scanSorted ltN d1 b i = i2 := ⟨_, rfl⟩
      have gi2 := ss_le b d1 _ i (Nat.le_refl _) hib
      rw [hi2] at gi2
      rw [Sort.partialIns, hi2] at hr
      refine awp_skipP rfl ?_
      refine nx_then ?_
      refine awp_seqP rfl ?_
      refine awp_blockN 1 rfl rfl ?_
      refine awp_seqP rfl ?_
      refine pi_sc hi2 hs1 (by omega) hbn2 hbig (by omega) (fun n1 c1 hc1 => ?_)
      refine nx_then ?_
      refine awp_seqP rfl ?_
      refine awp_seqP rfl ?_
      refine awp_regP (Γ := noEnv) [37, 0, 1, 2, 7, 8] (noEnv_ok _ _) rfl rfl rfl (fun K hK => ?_)
      simp (disch := omega) only [Tryd.f83, go_sem, Nat.reduceAdd, ↓reduceIte]
      refine hK _ ?_
      refine nx_then ?_
      refine awp_ifD (.tmp 37) rfl rfl rfl (fun h => ?_) (fun h => ?_)
      · skip
        refine awp_drop rfl ?_
        have hib2 : i2 = b := by omega
        rw [if_pos hib2] at hr
        simp only [Prod.mk.injEq] at hr
        obtain ⟨rfl, rfl⟩ := hr
        refine awp_seqP rfl ?_
        refine awp_regP (Γ := noEnv) [6] (noEnv_ok _ _) rfl rfl rfl (fun K hK => ?_)
        simp (disch := omega) only [Tryd.f83, go_sem, ↓reduceIte]
        refine hK _ ?_
        refine nx_then ?_
        refine awp_retP rfl ?_
        refine nx_ret_then (nx_ret_blk (nx_ret_then (nx_ret_loop (nx_ret_blk (nx_ret_then ?_)))))
        exact ⟨rfl, by simp only [up_app, if_true], rfl, cA_nm _⟩
      · skip
        refine awp_drop rfl ?_
        have hib2 : ¬ i2 = b := by omega
        rw [if_neg hib2] at hr
        refine awp_skipP rfl ?_
        refine nx_then ?_
        refine awp_seqP rfl ?_
        refine awp_seqP rfl ?_
        refine awp_regP (Γ := noEnv) [41, 0, 1, 2, 7, 8] (noEnv_ok _ _) rfl rfl rfl (fun K hK => ?_)
        simp (disch := omega) only [Tryd.f83, go_sem, Nat.reduceAdd, ↓reduceIte]
        refine hK _ ?_
        refine nx_then ?_
        refine awp_ifD (.tmp 41) rfl rfl rfl (fun h => ?_) (fun h => ?_)
        · skip
          refine awp_drop rfl ?_
          have hab50 : b - a < 50 := by omega
          rw [if_pos hab50] at hr
          simp only [Prod.mk.injEq] at hr
          obtain ⟨rfl, rfl⟩ := hr
          refine awp_seqP rfl ?_
          refine awp_regP (Γ := noEnv) [6] (noEnv_ok _ _) rfl rfl rfl (fun K hK => ?_)
          simp (disch := omega) only [Tryd.f83, go_sem, ↓reduceIte]
          refine hK _ ?_
          refine nx_then ?_
          refine awp_retP rfl ?_
          refine nx_ret_then (nx_ret_blk (nx_ret_then (nx_ret_loop (nx_ret_blk (nx_ret_then ?_)))))
          exact ⟨rfl, by simp only [up_app, if_true], rfl, cA_nm _⟩
        · skip
          refine awp_drop rfl ?_
          have hab50 : ¬ b - a < 50 := by omega
          rw [if_neg hab50] at hr
          refine awp_skipP rfl ?_
          refine nx_then ?_
          refine awp_seqP rfl ?_
          have hin : i2 < n := by omega
          have ei2 : (i2 : Int) - 1 = ((i2 - 1 : Nat) : Int) := by omega
          have hsw : (d1.setIfInBounds i2 d1[i2 - 1]!).setIfInBounds (i2 - 1) d1[i2]! = Sort.swp d1 i2 (i2 - 1) := rfl
          refine awp_drwP (Γ := noEnv) (fun _ => 2) [0, 1, 2, 7, 8] mixed (noEnv_ok _ _) rfl rfl rfl (by kernel_rfl) (fun K hK => ?_)
          simp (disch := omega) only [Tryd.f83, go_sem, Nat.reduceAdd, ↓reduceIte, ei2, hsw, Int.toNat_natCast]
          refine hK _ ?_
          refine nx_then ?_
          obtain ⟨d2, hd2⟩ : ∃ d2, Sort.swp d1 i2 (i2 - 1) = d2 := ⟨_, rfl⟩
          have hs2 : d2.size = n := by rw [← hd2, swp_size]; exact hs1
          rw [hd2]
          simp only [hd2] at hr
          have e5 : 5 - ((s + 1 : Nat) : Int) + 1 = 5 - (s : Int) := by omega
          have ei3 : (i2 : Int) + 1 = ((i2 + 1 : Nat) : Int) := by omega
          clear hsw
          refine awp_seqP rfl ?_
          refine awp_seqP rfl ?_
          refine awp_regP (Γ := noEnv) [61, 0, 1, 2, 7, 8] (noEnv_ok _ _) rfl rfl rfl (fun K hK => ?_)
          simp (disch := omega) only [Tryd.f83, go_sem, Nat.reduceAdd, ↓reduceIte]
          refine hK _ ?_
          refine nx_then ?_
          refine awp_ifD (.tmp 61) rfl rfl rfl (fun h => ?_) (fun h => ?_)
          · skip
            refine awp_drop rfl ?_
            have hia : i2 - a ≥ 2 := by omega
            simp only [if_pos hia] at hr
            obtain ⟨d3, hd3⟩ : ∃ d3, Sort.shiftDown ltN (i2 - 1) d2 = d3 := ⟨_, rfl⟩
            have hs3 : d3.size = n := by rw [← hd3, sd_size]; exact hs2
            rw [hd3] at hr
            refine awp_seqP rfl ?_
            refine awp_regP (Γ := noEnv) [0, 1, 2, 7, 8, 9] (noEnv_ok _ _) rfl rfl rfl (fun K hK => ?_)
            simp (disch := omega) only [Tryd.f83, go_sem, Nat.reduceAdd, ↓reduceIte, ei2]
            refine hK _ ?_
            refine nx_then ?_
            refine pi_sd hd3 hs2 (by omega) hbig (by omega) (fun jj n2 c2 hc2 => ?_)
            refine nx_then ?_
            refine awp_seqP rfl ?_
            refine awp_regP (Γ := noEnv) [98, 0, 1, 2, 7, 8] (noEnv_ok _ _) rfl rfl rfl (fun K hK => ?_)
            simp (disch := omega) only [Tryd.f83, go_sem, Nat.reduceAdd, ↓reduceIte]
            refine hK _ ?_
            refine nx_then ?_
            refine awp_ifD (.tmp 98) rfl rfl rfl (fun h => ?_) (fun h => ?_)
            · skip
              refine awp_drop rfl ?_
              have hbi : b - i2 ≥ 2 := by omega
              simp only [if_pos hbi] at hr
              obtain ⟨d4, hd4⟩ : ∃ d4, Sort.shiftUp ltN b (i2 + 1) d3 = d4 := ⟨_, rfl⟩
              have hs4 : d4.size = n := by rw [← hd4, su_size b _ _ _ (Nat.le_refl _)]; exact hs3
              rw [hd4] at hr
              refine awp_seqP rfl ?_
              refine awp_regP (Γ := noEnv) [0, 1, 2, 7, 8, 10] (noEnv_ok _ _) rfl rfl rfl (fun K hK => ?_)
              simp (disch := omega) only [Tryd.f83, go_sem, Nat.reduceAdd, ↓reduceIte, ei3]
              refine hK _ ?_
              refine nx_then ?_
              refine pi_su hd4 hs3 (by omega) hbn2 hbig (by omega) (fun jj n3 c3 hc3 => ?_)
              refine nx_blk (nx_then ?_)
              refine awp_regP (Γ := noEnv) [0, 1, 2, 7, 8] (noEnv_ok _ _) rfl rfl rfl (fun K hK => ?_)
              simp (disch := omega) only [Tryd.f83, go_sem, Nat.reduceAdd, ↓reduceIte]
              refine hK _ ?_
              refine nx_loop ?_
              refine ⟨⟨s, i2, d4, _⟩, ⟨hr, hs4, by simp only; omega, by simp only; omega, by simp only; omega, by simp only; omega⟩, by simp only; omega, sub_same (by simp only [e5]) rfl (Nat.le_refl _)⟩
            · skip
              refine awp_drop rfl ?_
              have hbi : ¬ b - i2 ≥ 2 := by omega
              simp only [if_neg hbi] at hr
              refine awp_skipP rfl ?_
              refine nx_blk (nx_then ?_)
              refine awp_regP (Γ := noEnv) [0, 1, 2, 7, 8] (noEnv_ok _ _) rfl rfl rfl (fun K hK => ?_)
              simp (disch := omega) only [Tryd.f83, go_sem, Nat.reduceAdd, ↓reduceIte]
              refine hK _ ?_
              refine nx_loop ?_
              refine ⟨⟨s, i2, d3, _⟩, ⟨hr, hs3, by simp only; omega, by simp only; omega, by simp only; omega, by simp only; omega⟩, by simp only; omega, sub_same (by simp only [e5]) rfl (Nat.le_refl _)⟩
          · skip
            refine awp_drop rfl ?_
            have hia : ¬ i2 - a ≥ 2 := by omega
            simp only [if_neg hia] at hr
            refine awp_skipP rfl ?_
            refine nx_then ?_
            refine awp_seqP rfl ?_
            refine awp_regP (Γ := noEnv) [98, 0, 1, 2, 7, 8] (noEnv_ok _ _) rfl rfl rfl (fun K hK => ?_)
            simp (disch := omega) only [Tryd.f83, go_sem, Nat.reduceAdd, ↓reduceIte]
            refine hK _ ?_
            refine nx_then ?_
            refine awp_ifD (.tmp 98) rfl rfl rfl (fun h => ?_) (fun h => ?_)
            · skip
              refine awp_drop rfl ?_
              have hbi : b - i2 ≥ 2 := by omega
              simp only [if_pos hbi] at hr
              obtain ⟨d4, hd4⟩ : ∃ d4, Sort.shiftUp ltN b (i2 + 1) d2 = d4 := ⟨_, rfl⟩
              have hs4 : d4.size = n := by rw [← hd4, su_size b _ _ _ (Nat.le_refl _)]; exact hs2
              rw [hd4] at hr
              refine awp_seqP rfl ?_
              refine awp_regP (Γ := noEnv) [0, 1, 2, 7, 8, 10] (noEnv_ok _ _) rfl rfl rfl (fun K hK => ?_)
              simp (disch := omega) only [Tryd.f83, go_sem, Nat.reduceAdd, ↓reduceIte, ei3]
              refine hK _ ?_
              refine nx_then ?_
              refine pi_su hd4 hs2 (by omega) hbn2 hbig (by omega) (fun jj n3 c3 hc3 => ?_)
              refine nx_blk (nx_then ?_)
              refine awp_regP (Γ := noEnv) [0, 1, 2, 7, 8] (noEnv_ok _ _) rfl rfl rfl (fun K hK => ?_)
              simp (disch := omega) only [Tryd.f83, go_sem, Nat.reduceAdd, ↓reduceIte]
              refine hK _ ?_
              refine nx_loop ?_
              refine ⟨⟨s, i2, d4, _⟩, ⟨hr, hs4, by simp only; omega, by simp only; omega, by simp only; omega, by simp only; omega⟩, by simp only; omega, sub_same (by simp only [e5]) rfl (Nat.le_refl _)⟩
            · skip
              refine awp_drop rfl ?_
              have hbi : ¬ b - i2 ≥ 2 := by omega
              simp only [if_neg hbi] at hr
              refine awp_skipP rfl ?_
              refine nx_blk (nx_then ?_)
              refine awp_regP (Γ := noEnv) [0, 1, 2, 7, 8] (noEnv_ok _ _) rfl rfl rfl (fun K hK => ?_)
              simp (disch := omega) only [Tryd.f83, go_sem, Nat.reduceAdd, ↓reduceIte]
              refine hK _ ?_
              refine nx_loop ?_
              refine ⟨⟨s, i2, d2, _⟩, ⟨hr, hs2, by simp only; omega, by simp only; omega, by simp only; omega, by simp only; omega⟩, by simp only; omega, sub_same (by simp only [e5]) rfl (Nat.le_refl _)⟩
    · skip
      refine awp_drop rfl ?_
      obtain rfl : s = 0 := by omega
      rw [Sort.partialIns] at hr
      simp only [Prod.mk.injEq] at hr
      obtain ⟨rfl, rfl⟩ := hr
      refine awp_exitN 0 rfl rfl ?_
      refine nx_ex_then (nx_ex_loop (nx_ex_blk ?_))
      refine nx_then ?_
      refine awp_seqP rfl ?_
      refine awp_regP (Γ := noEnv) [6] (noEnv_ok _ _) rfl rfl rfl (fun K hK => ?_)
      simp (disch := omega) only [Tryd.f83, go_sem, ↓reduceIte]
      refine hK _ ?_
      refine nx_then ?_
      refine awp_retP rfl ?_
      exact ⟨rfl, by simp only [up_app, if_true], rfl, cA_nm _⟩
  · cases hg
theorem oku98 : EntOK Tryd.prog GLh 83 (.heap (mutH piG)) := ⟨⟨_, Tryd.func83, rfl, rfl⟩, pi_ok⟩
end Go.AX

namespace Go.AX
open Go Go.Proofs

noncomputable def guardC {α : Type} (p : Prop) (x : Option α) : Option α := @guardO _ p (Classical.propDecidable p) x
theorem guardC_inv {α : Type} {p : Prop} {x : Option α} {y : α} (h : guardC p x = some y) : p ∧ x = some y := @guardO_inv _ p (Classical.propDecidable p) x y h
theorem guardC_T {α : Type} (x : Option α) : guardC True x = x := @guardO_true _ True (Classical.propDecidable True) x trivial
attribute [go_sem] guardC_T
noncomputable def pdqG (N : Nat) : List AV → List AV → Option (AV × List AV)
  | [.os _ 0 n 1 _, .i a, .i b, .i k], xs => obind (unA xs) fun l => guardO (l.length = n ∧ 0 ≤ a ∧ a ≤ b ∧ b ≤ n ∧ 0 ≤ k ∧ k ≤ 1000 ∧ n ≤ 1000000 ∧ b - a < N) (guardC (Sort.Below ltN a.toNat b.toNat l.toArray) (some (.tup [], cA (Sort.pdq ltN l.toArray a.toNat b.toNat k.toNat true true))))
  | _, _ => none
theorem pdqG_eq (N id n : Nat) (gg : Bool) (a b k : Int) (xs : List AV) : pdqG N [.os id 0 n 1 gg, .i a, .i b, .i k] xs = obind (unA xs) fun l => guardO (l.length = n ∧ 0 ≤ a ∧ a ≤ b ∧ b ≤ n ∧ 0 ≤ k ∧ k ≤ 1000 ∧ n ≤ 1000000 ∧ b - a < N) (guardC (Sort.Below ltN a.toNat b.toNat l.toArray) (some (.tup [], cA (Sort.pdq ltN l.toArray a.toNat b.toNat k.toNat true true)))) := (rfl)
attribute [go_sem] pdqG_eq
structure SPQ where
  a : Nat
  b : Nat
  l : Nat
  wb : Bool
  wp : Bool
  d : Array T32
  c : Nat
theorem pdq_ok0 : HeapOK Tryd.prog GLh 69 (mutH (pdqG 0)) := by
  refine mut_of_awp Tryd.func69 (bodyOf_some rfl) ?_
  intro id off n e gg rest nx xs r ys hg
  exfalso
  unfold pdqG at hg
  split at hg
  · replace hg := obind_inv hg; obtain ⟨l, hl, hg⟩ := hg
    replace hg := guardO_inv hg; obtain ⟨⟨hn, ha, hab, hbn, hk, hk2, hbig, hN⟩, hg⟩ := hg
    omega
  · cases hg
theorem perm_if {a b : Nat} {d x : Array T32} (c : Prop) [Decidable c] (h : Sort.PermIn a b d x) : Sort.PermIn a b d (if c then x else d) := by
  split
  · exact h
  · exact Sort.permIn_refl _ _ _

set_option maxHeartbeats 1000000 in
theorem pd_brk {id n a b k L nx0 cx0 : Nat} {gg wb wp : Bool} {d : Array T32} {Q : Exit → S → Prop} {k1 : Nat} {d1 : Array T32} (hd1 : (if (!wb) = true then Sort.breakPatterns d a b else d) = d1) (hk1 : (if (!wb) = true then k - 1 else k) = k1) (hk : 0 < k) (hk2 : k ≤ 1000) (hds : d.size = n) (hab : a < b) (hbn : b ≤ n) (hbig : n ≤ 1000000) (hid : id < cx0)
    (hQ : ∀ n1 c1, id < c1 → Q .normal { fr := [(0, .os id 0 n 1 gg), (1, .i (a : Int)), (2, .i (b : Int)), (3, .i (k1 : Int)), (8, .b wb), (9, .b wp), (10, .i (L : Int))], hp := upd (fun _ => none) id (.cells (cA d1) true), nx := n1, cx := c1 }) :
    Awp Tryd.prog GLh Tryd.f69.ntmps (cl (cr (cr (cr (cl (cl (cl (cr (cr (bodyOf Tryd.f69)))))))))) { fr := [(0, .os id 0 n 1 gg), (1, .i (a : Int)), (2, .i (b : Int)), (3, .i (k : Int)), (8, .b wb), (9, .b wp), (10, .i (L : Int))], hp := upd (fun _ => none) id (.cells (cA d) true), nx := nx0, cx := cx0 } Q := by
    cases wb
    · skip
      simp only [Bool.not_false, if_true] at hd1 hk1
      have ek : (k : Int) - 1 = (k1 : Int) := by omega
      refine awp_seqP rfl ?_
      refine awp_regP (Γ := noEnv) [35, 0, 1, 2, 3, 8, 9, 10] (noEnv_ok _ _) rfl rfl rfl (fun K hK => ?_)
      simp (disch := omega) only [Tryd.f69, go_sem, Nat.reduceAdd, ↓reduceIte]
      refine hK _ ?_
      refine nx_then ?_
      refine awp_ifB (.tmp 35) rfl rfl rfl (fun h => ?_) (fun h => ?_)
      · skip
        refine awp_drop rfl ?_
        refine awp_seqP rfl ?_
        refine awp_regP (Γ := envL [(80, .heap (mutH brkG))]) [0, 1, 2, 3, 8, 9, 10] (envOK_cons oku95 envOK_nil) rfl rfl rfl (fun K hK => ?_)
        simp (disch := omega) only [Tryd.f69, go_sem, Nat.reduceAdd, ↓reduceIte, hds, hd1, Int.toNat_natCast]
        refine hK _ ?_
        refine nx_then ?_
        refine awp_regP (Γ := noEnv) [0, 1, 2, 3, 8, 9, 10] (noEnv_ok _ _) rfl rfl rfl (fun K hK => ?_)
        simp (disch := omega) only [Tryd.f69, go_sem, Nat.reduceAdd, ↓reduceIte, ek]
        refine hK _ ?_
        exact hQ _ _ (by omega)
      · skip
        refine awp_drop rfl ?_
        cases h
    · skip
      simp only [Bool.not_true, Bool.false_eq_true, if_false] at hd1 hk1
      subst hd1; subst hk1
      refine awp_seqP rfl ?_
      refine awp_regP (Γ := noEnv) [35, 0, 1, 2, 3, 8, 9, 10] (noEnv_ok _ _) rfl rfl rfl (fun K hK => ?_)
      simp (disch := omega) only [Tryd.f69, go_sem, Nat.reduceAdd, ↓reduceIte]
      refine hK _ ?_
      refine nx_then ?_
      refine awp_ifB (.tmp 35) rfl rfl rfl (fun h => ?_) (fun h => ?_)
      · skip
        refine awp_drop rfl ?_
        cases h
      · skip
        refine awp_drop rfl ?_
        refine awp_skipP rfl ?_
        exact hQ _ _ (by omega)

set_option maxHeartbeats 1000000 in
theorem pd_rev {id n a b k L nx0 cx0 : Nat} {gg wb wp : Bool} {d : Array T32} {Q : Exit → S → Prop} {pv pv2 : Nat} {ht ht2 : Sort.Hint} {d2 : Array T32} (hd2 : (if ht = Sort.Hint.decreasing then Sort.reverseRange d a b else d) = d2) (hpv2 : (if ht = Sort.Hint.decreasing then (b - 1) - (pv - a) else pv) = pv2) (hht2 : (if ht = Sort.Hint.decreasing then Sort.Hint.increasing else ht) = ht2) (hpa : a ≤ pv) (hpb : pv < b) (hds : d.size = n) (hab : a < b) (hbn : b ≤ n) (hbig : n ≤ 1000000) (hid : id < cx0)
    (hQ : ∀ n1 c1, id < c1 → Q .normal { fr := [(0, .os id 0 n 1 gg), (1, .i (a : Int)), (2, .i (b : Int)), (3, .i (k : Int)), (8, .b wb), (9, .b wp), (10, .i (L : Int)), (11, .i (pv2 : Int)), (12, .i (hintI ht2))], hp := upd (fun _ => none) id (.cells (cA d2) true), nx := n1, cx := c1 }) :
    Awp Tryd.prog GLh Tryd.f69.ntmps (cl (cr (cr (cr (cr (cr (cl (cl (cl (cr (cr (bodyOf Tryd.f69)))))))))))) { fr := [(0, .os id 0 n 1 gg), (1, .i (a : Int)), (2, .i (b : Int)), (3, .i (k : Int)), (8, .b wb), (9, .b wp), (10, .i (L : Int)), (11, .i (pv : Int)), (12, .i (hintI ht))], hp := upd (fun _ => none) id (.cells (cA d) true), nx := nx0, cx := cx0 } Q := by
    cases ht
    · skip
      simp only [reduceCtorEq, if_false] at hd2 hpv2 hht2
      subst hd2; subst hpv2; subst hht2
      refine awp_seqP rfl ?_
      refine awp_regP (Γ := noEnv) [50, 0, 1, 2, 3, 8, 9, 10, 11, 12] (noEnv_ok _ _) rfl rfl rfl (fun K hK => ?_)
      simp (disch := omega) only [Tryd.f69, go_sem, Nat.reduceAdd, Int.reduceEq, ↓reduceIte, hintI, decide_false]
      refine hK _ ?_
      refine nx_then ?_
      refine awp_ifB (.tmp 50) rfl rfl rfl (fun h => ?_) (fun h => ?_)
      · skip
        refine awp_drop rfl ?_
        cases h
      · skip
        refine awp_drop rfl ?_
        refine awp_skipP rfl ?_
        exact hQ _ _ (by omega)
    · skip
      simp only [reduceCtorEq, if_false] at hd2 hpv2 hht2
      subst hd2; subst hpv2; subst hht2
      refine awp_seqP rfl ?_
      refine awp_regP (Γ := noEnv) [50, 0, 1, 2, 3, 8, 9, 10, 11, 12] (noEnv_ok _ _) rfl rfl rfl (fun K hK => ?_)
      simp (disch := omega) only [Tryd.f69, go_sem, Nat.reduceAdd, Int.reduceEq, ↓reduceIte, hintI, decide_false]
      refine hK _ ?_
      refine nx_then ?_
      refine awp_ifB (.tmp 50) rfl rfl rfl (fun h => ?_) (fun h => ?_)
      · skip
        refine awp_drop rfl ?_
        cases h
      · skip
        refine awp_drop rfl ?_
        refine awp_skipP rfl ?_
        exact hQ _ _ (by omega)
    · skip
      simp only [if_true] at hd2 hpv2 hht2
      subst hht2
      have ep : (b : Int) - 1 - ((pv : Int) - (a : Int)) = (pv2 : Int) := by omega
      refine awp_seqP rfl ?_
      refine awp_regP (Γ := noEnv) [50, 0, 1, 2, 3, 8, 9, 10, 11, 12] (noEnv_ok _ _) rfl rfl rfl (fun K hK => ?_)
      simp (disch := omega) only [Tryd.f69, go_sem, Nat.reduceAdd, ↓reduceIte, hintI, decide_true]
      refine hK _ ?_
      refine nx_then ?_
      refine awp_ifB (.tmp 50) rfl rfl rfl (fun h => ?_) (fun h => ?_)
      · skip
        refine awp_drop rfl ?_
        refine awp_seqP rfl ?_
        refine awp_regP (Γ := envL [(82, .heap (mutH revG))]) [0, 1, 2, 3, 8, 9, 10, 11] (envOK_cons oku97 envOK_nil) rfl rfl rfl (fun K hK => ?_)
        simp (disch := omega) only [Tryd.f69, go_sem, Nat.reduceAdd, ↓reduceIte, hds, hd2, Int.toNat_natCast]
        refine hK _ ?_
        refine nx_then ?_
        refine awp_seqP rfl ?_
        refine awp_regP (Γ := noEnv) [0, 1, 2, 3, 8, 9, 10, 11] (noEnv_ok _ _) rfl rfl rfl (fun K hK => ?_)
        simp (disch := omega) only [Tryd.f69, go_sem, Nat.reduceAdd, ↓reduceIte, ep]
        refine hK _ ?_
        refine nx_then ?_
        refine awp_regP (Γ := noEnv) [0, 1, 2, 3, 8, 9, 10, 11, 12] (noEnv_ok _ _) rfl rfl rfl (fun K hK => ?_)
        simp (disch := omega) only [Tryd.f69, go_sem, ↓reduceIte]
        refine hK _ ?_
        exact hQ _ _ (by omega)
      · skip
        refine awp_drop rfl ?_
        cases h

set_option maxHeartbeats 1000000 in
theorem pd_par {id n a b k L nx0 cx0 : Nat} {gg wb wp : Bool} {d : Array T32} {Q : Exit → S → Prop} {pv : Nat} {ht : Sort.Hint} {d3 : Array T32} {ok : Bool} (hpi : (if (wb && wp && decide (ht = Sort.Hint.increasing)) = true then Sort.partialInsertionSort ltN d a b else (d, false)) = (d3, ok)) (hds : d.size = n) (hab : a < b) (hbn : b ≤ n) (hbig : n ≤ 1000000) (hid : id < cx0)
    (hQ : ∀ n1 c1, id < c1 → ok = false → Q .normal { fr := [(0, .os id 0 n 1 gg), (1, .i (a : Int)), (2, .i (b : Int)), (3, .i (k : Int)), (8, .b wb), (9, .b wp), (10, .i (L : Int)), (11, .i (pv : Int))], hp := upd (fun _ => none) id (.cells (cA d3) true), nx := n1, cx := c1 })
    (hQr : ∀ fr n1 c1, id < c1 → ok = true → Q .ret { fr := fr, hp := upd (fun _ => none) id (.cells (cA d3) true), nx := n1, cx := c1 }) :
    Awp Tryd.prog GLh Tryd.f69.ntmps (cl (cr (cr (cr (cr (cr (cr (cl (cl (cl (cr (cr (bodyOf Tryd.f69))))))))))))) { fr := [(0, .os id 0 n 1 gg), (1, .i (a : Int)), (2, .i (b : Int)), (3, .i (k : Int)), (8, .b wb), (9, .b wp), (10, .i (L : Int)), (11, .i (pv : Int)), (12, .i (hintI ht))], hp := upd (fun _ => none) id (.cells (cA d) true), nx := nx0, cx := cx0 } Q := by
    cases wb
    · skip
      simp only [Bool.false_and, Bool.false_eq_true, if_false, Prod.mk.injEq] at hpi
      obtain ⟨rfl, rfl⟩ := hpi
      refine awp_seqP rfl ?_
      refine awp_regP (Γ := noEnv) [68, 0, 1, 2, 3, 8, 9, 10, 11] (noEnv_ok _ _) rfl rfl rfl (fun K hK => ?_)
      simp (disch := omega) only [Tryd.f69, go_sem, Nat.reduceAdd, reduceCtorEq, ↓reduceIte, hintI]
      refine hK _ ?_
      refine nx_then ?_
      refine awp_ifB (.tmp 68) rfl rfl rfl (fun h => ?_) (fun h => ?_)
      · skip
        refine awp_drop rfl ?_
        cases h
      · skip
        refine awp_drop rfl ?_
        refine awp_skipP rfl ?_
        exact hQ _ _ (by omega) rfl
    · skip
      cases wp
      · skip
        simp only [Bool.and_false, Bool.false_and, Bool.false_eq_true, if_false, Prod.mk.injEq] at hpi
        obtain ⟨rfl, rfl⟩ := hpi
        refine awp_seqP rfl ?_
        refine awp_regP (Γ := noEnv) [68, 0, 1, 2, 3, 8, 9, 10, 11] (noEnv_ok _ _) rfl rfl rfl (fun K hK => ?_)
        simp (disch := omega) only [Tryd.f69, go_sem, Nat.reduceAdd, reduceCtorEq, ↓reduceIte, hintI]
        refine hK _ ?_
        refine nx_then ?_
        refine awp_ifB (.tmp 68) rfl rfl rfl (fun h => ?_) (fun h => ?_)
        · skip
          refine awp_drop rfl ?_
          cases h
        · skip
          refine awp_drop rfl ?_
          refine awp_skipP rfl ?_
          exact hQ _ _ (by omega) rfl
      · skip
        cases ht
        · skip
          simp only [Bool.and_true, Bool.and_false, reduceCtorEq, decide_false, Bool.false_eq_true, if_false, Prod.mk.injEq] at hpi
          obtain ⟨rfl, rfl⟩ := hpi
          refine awp_seqP rfl ?_
          refine awp_regP (Γ := noEnv) [68, 0, 1, 2, 3, 8, 9, 10, 11] (noEnv_ok _ _) rfl rfl rfl (fun K hK => ?_)
          simp (disch := omega) only [Tryd.f69, go_sem, Nat.reduceAdd, Int.reduceEq, ↓reduceIte, hintI, decide_false]
          refine hK _ ?_
          refine nx_then ?_
          refine awp_ifB (.tmp 68) rfl rfl rfl (fun h => ?_) (fun h => ?_)
          · skip
            refine awp_drop rfl ?_
            cases h
          · skip
            refine awp_drop rfl ?_
            refine awp_skipP rfl ?_
            exact hQ _ _ (by omega) rfl
        · skip
          simp only [Bool.and_true, decide_true, if_true] at hpi
          refine awp_seqP rfl ?_
          refine awp_regP (Γ := noEnv) [68, 0, 1, 2, 3, 8, 9, 10, 11] (noEnv_ok _ _) rfl rfl rfl (fun K hK => ?_)
          simp (disch := omega) only [Tryd.f69, go_sem, Nat.reduceAdd, ↓reduceIte, hintI, decide_true]
          refine hK _ ?_
          refine nx_then ?_
          refine awp_ifB (.tmp 68) rfl rfl rfl (fun h => ?_) (fun h => ?_)
          · skip
            refine awp_drop rfl ?_
            refine awp_seqP rfl ?_
            refine awp_regP (Γ := envL [(83, .heap (mutH piG))]) [72, 0, 1, 2, 3, 8, 9, 10, 11] (envOK_cons oku98 envOK_nil) rfl rfl rfl (fun K hK => ?_)
            simp (disch := omega) only [Tryd.f69, go_sem, Nat.reduceAdd, ↓reduceIte, hds, hpi, Int.toNat_natCast]
            refine hK _ ?_
            refine nx_then ?_
            refine awp_ifB (.tmp 72) rfl rfl rfl (fun h => ?_) (fun h => ?_)
            · skip
              refine awp_drop rfl ?_
              refine awp_retP rfl ?_
              exact hQr _ _ _ (by omega) h
            · skip
              refine awp_drop rfl ?_
              refine awp_skipP rfl ?_
              exact hQ _ _ (by omega) (by simpa using h)
          · skip
            refine awp_drop rfl ?_
            cases h
        · skip
          simp only [Bool.and_true, Bool.and_false, reduceCtorEq, decide_false, Bool.false_eq_true, if_false, Prod.mk.injEq] at hpi
          obtain ⟨rfl, rfl⟩ := hpi
          refine awp_seqP rfl ?_
          refine awp_regP (Γ := noEnv) [68, 0, 1, 2, 3, 8, 9, 10, 11] (noEnv_ok _ _) rfl rfl rfl (fun K hK => ?_)
          simp (disch := omega) only [Tryd.f69, go_sem, Nat.reduceAdd, Int.reduceEq, ↓reduceIte, hintI, decide_false]
          refine hK _ ?_
          refine nx_then ?_
          refine awp_ifB (.tmp 68) rfl rfl rfl (fun h => ?_) (fun h => ?_)
          · skip
            refine awp_drop rfl ?_
            cases h
          · skip
            refine awp_drop rfl ?_
            refine awp_skipP rfl ?_
            exact hQ _ _ (by omega) rfl

set_option maxHeartbeats 1000000 in
theorem pd_les {id n a b k L nx0 cx0 : Nat} {gg wb wp : Bool} {d : Array T32} {Q : Exit → S → Prop} {pv : Nat} {u : Bool} (hu : (decide (a > 0) && !ltN d[a - 1]! d[pv]!) = u) (hpb : pv < b) (hds : d.size = n) (hab : a < b) (hbn : b ≤ n) (hbig : n ≤ 1000000) (hid : id < cx0)
    (hQ : ∀ n1 c1, id < c1 → Q .normal { fr := [(87, .b u), (0, .os id 0 n 1 gg), (1, .i (a : Int)), (2, .i (b : Int)), (3, .i (k : Int)), (8, .b wb), (9, .b wp), (10, .i (L : Int)), (11, .i (pv : Int))], hp := upd (fun _ => none) id (.cells (cA d) true), nx := n1, cx := c1 }) :
    Awp Tryd.prog GLh Tryd.f69.ntmps (cl (cl (cr (cr (cr (cr (cr (cr (cr (cl (cl (cl (cr (cr (bodyOf Tryd.f69))))))))))))))) { fr := [(0, .os id 0 n 1 gg), (1, .i (a : Int)), (2, .i (b : Int)), (3, .i (k : Int)), (8, .b wb), (9, .b wp), (10, .i (L : Int)), (11, .i (pv : Int))], hp := upd (fun _ => none) id (.cells (cA d) true), nx := nx0, cx := cx0 } Q := by
    by_cases ha : a > 0
    · skip
      have hd1 : decide (0 < (a : Int)) = true := decide_eq_true (by omega)
      have ea : (a : Int) - 1 = ((a - 1 : Nat) : Int) := by omega
      have han : a < n := by omega
      have hpn : pv < n := by omega
      obtain ⟨v, hv⟩ : ∃ v, ltN d[a - 1]! d[pv]! = v := ⟨_, rfl⟩
      rw [decide_eq_true ha, hv, Bool.true_and] at hu
      subst hu
      refine awp_drwP (Γ := envL [(84, .pure true lessG)]) (fun k => if k = 12 then 0 else 2) [87, 0, 1, 2, 3, 8, 9, 10, 11] mixed (envOK_cons oku99 envOK_nil) rfl rfl rfl (by kernel_rfl) (fun K hK => ?_)
      simp (disch := omega) only [Tryd.f69, go_sem, Nat.reduceAdd, ↓reduceIte, hd1, ea, hv, Int.toNat_natCast]
      refine hK _ ?_
      exact hQ _ _ (by omega)
    · skip
      have hd1 : decide (0 < (a : Int)) = false := decide_eq_false (by omega)
      rw [decide_eq_false ha, Bool.false_and] at hu
      subst hu
      refine awp_drwP (Γ := envL [(84, .pure true lessG)]) (fun k => if k = 12 then 0 else 2) [87, 0, 1, 2, 3, 8, 9, 10, 11] mixed (envOK_cons oku99 envOK_nil) rfl rfl rfl (by kernel_rfl) (fun K hK => ?_)
      simp (disch := omega) only [Tryd.f69, go_sem, Nat.reduceAdd, reduceCtorEq, ↓reduceIte, hd1]
      refine hK _ ?_
      exact hQ _ _ (by omega)

set_option maxHeartbeats 4000000 in
theorem pdq_okS (N : Nat) (ih : HeapOK Tryd.prog GLh 69 (mutH (pdqG N))) : HeapOK Tryd.prog GLh 69 (mutH (pdqG (N + 1))) := by
  have oku91 : EntOK Tryd.prog GLh 69 (.heap (mutH (pdqG N))) := ⟨⟨_, Tryd.func69, rfl, rfl⟩, ih⟩
  refine mut_of_awp Tryd.func69 (bodyOf_some rfl) ?_
  intro id off n e gg rest nx xs r ys hg
  unfold pdqG at hg
  split at hg
  · rename_i id2 n2 gg2 a0 b0 k0 heq
    simp only [List.cons.injEq, AV.os.injEq] at heq
    obtain ⟨⟨rfl, rfl, rfl, rfl, rfl⟩, rfl⟩ := heq
    replace hg := obind_inv hg; obtain ⟨l, hl, hg⟩ := hg
    replace hg := guardO_inv hg; obtain ⟨⟨hn, ha, hab, hbn, hk0, hk1, hbig, hN⟩, hg⟩ := hg
    replace hg := guardC_inv hg; obtain ⟨hB, hg⟩ := hg
    simp only [Option.some.injEq, Prod.mk.injEq] at hg; obtain ⟨rfl, rfl⟩ := hg
    have := unA_inv hl; subst this
    obtain ⟨a, rfl⟩ := Int.eq_ofNat_of_zero_le ha
    obtain ⟨b, rfl⟩ := Int.eq_ofNat_of_zero_le (show 0 ≤ b0 by omega)
    obtain ⟨k, rfl⟩ := Int.eq_ofNat_of_zero_le hk0
    simp only [Int.toNat_natCast] at *
    obtain ⟨d, hd⟩ : ∃ d, l.toArray = d := ⟨_, rfl⟩
    have hds : d.size = n := by rw [← hd]; simpa using hn
    have hab2 : a ≤ b := by omega
    have hbn2 : b ≤ n := by omega
    have hk2 : k ≤ 1000 := by omega
    have hN2 : b - a < N + 1 := by omega
    rw [hd] at hB ⊢
    refine ⟨Nat.le_of_ble_eq_true rfl, fun hid => ?_⟩
    obtain ⟨R, hR⟩ : ∃ R, Sort.pdq ltN d a b k true true = R := ⟨_, rfl⟩
    rw [hR]
    clear hl hn ha hab hbn hk0 hk1 hN
    refine awp_seqP rfl ?_
    refine awp_regP (Γ := noEnv) [0, 1, 2, 3, 8] (noEnv_ok _ _) rfl rfl rfl (fun K hK => ?_)
    simp (disch := omega) only [Tryd.f69, go_sem, Nat.reduceAdd, ↓reduceIte]
    refine hK _ ?_
    refine nx_then ?_
    refine awp_seqP rfl ?_
    refine awp_regP (Γ := noEnv) [0, 1, 2, 3, 8, 9] (noEnv_ok _ _) rfl rfl rfl (fun K hK => ?_)
    simp (disch := omega) only [Tryd.f69, go_sem, ↓reduceIte]
    refine hK _ ?_
    refine nx_then ?_
    refine awp_blockN 0 rfl rfl ?_
    refine awp_loopP (fun p : SPQ => { fr := [(0, .os id 0 n 1 gg), (1, .i p.a), (2, .i p.b), (3, .i p.l), (8, .b p.wb), (9, .b p.wp)], hp := upd (fun _ => none) id (.cells (cA p.d) true), nx := 0, cx := p.c }) (fun p => Sort.pdq ltN p.d p.a p.b p.l p.wb p.wp = R ∧ p.d.size = n ∧ p.a ≤ p.b ∧ p.b ≤ n ∧ p.l ≤ 1000 ∧ p.b - p.a < N + 1 ∧ Sort.Below ltN p.a p.b p.d ∧ id < p.c) (fun p => p.b - p.a) rfl ⟨⟨a, b, k, true, true, d, _⟩, ⟨hR, hds, hab2, hbn2, hk2, hN2, hB, by simp only; omega⟩, sub_same rfl rfl (Nat.le_refl _)⟩ ?_
    rintro ⟨a, b, k, wb, wp, d, c⟩ ⟨hr, hds, hab, hbn, hk, hN, hB, hc⟩ n0
    simp only at hr hds hab hbn hk hN hB hc ⊢
    have ebL : (b : Int) - (a : Int) = ((b - a : Nat) : Int) := by omega
    refine awp_blockN 1 rfl rfl ?_
    refine awp_seqP rfl ?_
    refine awp_regP (Γ := noEnv) [0, 1, 2, 3, 8, 9, 10] (noEnv_ok _ _) rfl rfl rfl (fun K hK => ?_)
    simp (disch := omega) only [Tryd.f69, go_sem, Nat.reduceAdd, ↓reduceIte, ebL]
    refine hK _ ?_
    refine nx_then ?_
    refine awp_seqP rfl ?_
    refine awp_seqP rfl ?_
    refine awp_regP (Γ := noEnv) [23, 0, 1, 2, 3, 8, 9, 10] (noEnv_ok _ _) rfl rfl rfl (fun K hK => ?_)
    simp (disch := omega) only [Tryd.f69, go_sem, Nat.reduceAdd, ↓reduceIte]
    refine hK _ ?_
    refine nx_then ?_
    refine awp_ifD (.tmp 23) rfl rfl rfl (fun h => ?_) (fun h => ?_)
    · skip
      refine awp_drop rfl ?_
      have h12 : b - a ≤ 12 := by omega
      rw [Sort.pdq, if_pos h12] at hr
      refine awp_seqP rfl ?_
      refine awp_regP (Γ := envL [(78, .heap (mutH insG))]) [] (envOK_cons oku93 envOK_nil) rfl rfl rfl (fun K hK => ?_)
      simp (disch := omega) only [Tryd.f69, go_sem, Nat.reduceAdd, ↓reduceIte, hds, Int.toNat_natCast]
      refine hK _ ?_
      refine nx_then ?_
      refine awp_retP rfl ?_
      refine nx_ret_then (nx_ret_blk (nx_ret_loop (nx_ret_blk ?_)))
      exact ⟨rfl, by simp only [up_app, if_true, hr], rfl, cA_nm _⟩
    · skip
      refine awp_drop rfl ?_
      have h12 : ¬ b - a ≤ 12 := by omega
      rw [Sort.pdq, if_neg h12] at hr
      refine awp_skipP rfl ?_
      refine nx_then ?_
      refine awp_seqP rfl ?_
      refine awp_seqP rfl ?_
      refine awp_regP (Γ := noEnv) [29, 0, 1, 2, 3, 8, 9, 10] (noEnv_ok _ _) rfl rfl rfl (fun K hK => ?_)
      simp (disch := omega) only [Tryd.f69, go_sem, Nat.reduceAdd, ↓reduceIte]
      refine hK _ ?_
      refine nx_then ?_
      refine awp_ifD (.tmp 29) rfl rfl rfl (fun h => ?_) (fun h => ?_)
      · skip
        refine awp_drop rfl ?_
        have hk0 : k = 0 := by omega
        rw [if_pos hk0] at hr
        refine awp_seqP rfl ?_
        refine awp_regP (Γ := envL [(79, .heap (mutH hepG))]) [] (envOK_cons oku94 envOK_nil) rfl rfl rfl (fun K hK => ?_)
        simp (disch := omega) only [Tryd.f69, go_sem, Nat.reduceAdd, ↓reduceIte, hds, Int.toNat_natCast]
        refine hK _ ?_
        refine nx_then ?_
        refine awp_retP rfl ?_
        refine nx_ret_then (nx_ret_blk (nx_ret_loop (nx_ret_blk ?_)))
        exact ⟨rfl, by simp only [up_app, if_true, hr], rfl, cA_nm _⟩
      · skip
        refine awp_drop rfl ?_
        have hk0 : ¬ k = 0 := by omega
        rw [if_neg hk0] at hr
        obtain ⟨d1, hd1⟩ : ∃ x, (if (!wb) = true then Sort.breakPatterns d a b else d) = x := ⟨_, rfl⟩
        obtain ⟨k1, hk1⟩ : ∃ x, (if (!wb) = true then k - 1 else k) = x := ⟨_, rfl⟩
        obtain ⟨⟨pv, ht⟩, hch⟩ : ∃ x, Sort.choosePivot ltN d1 a b = x := ⟨_, rfl⟩
        obtain ⟨d2, hd2⟩ : ∃ x, (if ht = Sort.Hint.decreasing then Sort.reverseRange d1 a b else d1) = x := ⟨_, rfl⟩
        obtain ⟨pv2, hpv2⟩ : ∃ x, (if ht = Sort.Hint.decreasing then (b - 1) - (pv - a) else pv) = x := ⟨_, rfl⟩
        obtain ⟨ht2, hht2⟩ : ∃ x, (if ht = Sort.Hint.decreasing then Sort.Hint.increasing else ht) = x := ⟨_, rfl⟩
        obtain ⟨⟨d3, ok⟩, hpi⟩ : ∃ x, (if (wb && wp && decide (ht2 = Sort.Hint.increasing)) = true then Sort.partialInsertionSort ltN d2 a b else (d2, false)) = x := ⟨_, rfl⟩
        simp only [hd1, hk1, hch, hd2, hpv2, hht2, hpi] at hr
        have hk1b : k1 ≤ 1000 := by rw [← hk1]; split <;> omega
        have hab3 : a < b := by omega
        have p1 : Sort.PermIn a b d d1 := by rw [← hd1]; exact perm_if _ (Sort.breakPatterns_holds d a b hab (by omega))
        have s1 : d1.size = n := by rw [p1.1]; exact hds
        refine awp_skipP rfl ?_
        refine nx_then ?_
        refine awp_seqP rfl ?_
        refine pd_brk hd1 hk1 (by omega) hk hds hab3 hbn hbig (by omega) (fun n1 c1 hc1 => ?_)
        refine nx_then ?_
        refine awp_seqP rfl ?_
        refine awp_regP (Γ := envL [(81, .heap (mutH chG))]) [0, 1, 2, 3, 8, 9, 10, 11, 12] (envOK_cons oku96 envOK_nil) rfl rfl rfl (fun K hK => ?_)
        simp (disch := omega) only [Tryd.f69, go_sem, Nat.reduceAdd, ↓reduceIte, s1, hch, Int.toNat_natCast]
        refine hK _ ?_
        refine nx_then ?_
        have hcr := Sort.choosePivot_holds ltN d1 a b hab3
        rw [hch] at hcr
        simp only at hcr
        have p2 : Sort.PermIn a b d1 d2 := by rw [← hd2]; exact perm_if _ (Sort.reverseRange_holds d1 a b hab (by omega))
        have s2 : d2.size = n := by rw [p2.1]; exact s1
        refine awp_seqP rfl ?_
        refine pd_rev hd2 hpv2 hht2 hcr.1 hcr.2 s1 hab3 hbn hbig (by omega) (fun n2 c2 hc2 => ?_)
        refine nx_then ?_
        have hb2 : Sort.Below ltN a b d2 := (hB.perm (by omega) p1).perm (by omega) p2
        have hps := Sort.step_partial Sort.partialInsertionSort_holds ltN_swo d2 hab3 (by omega) hb2 ((wb && wp && decide (ht2 = Sort.Hint.increasing)) = true)
        have hpi2 : (if _h : (wb && wp && decide (ht2 = Sort.Hint.increasing)) = true then Sort.partialInsertionSort ltN d2 a b else (d2, false)) = (d3, ok) := by rw [← hpi]; split <;> simp_all
        rw [hpi2] at hps
        have p3 : Sort.PermIn a b d2 d3 := hps.1
        have s3 : d3.size = n := by rw [p3.1]; exact s2
        have hb3 : Sort.Below ltN a b d3 := hb2.perm (by omega) p3
        have hpv : a ≤ pv2 ∧ pv2 < b := by rw [← hpv2]; split <;> omega
        refine awp_seqP rfl ?_
        refine pd_par hpi s2 hab3 hbn hbig hc2 (fun n3 c3 hc3 hok => ?_) (fun fr n3 c3 hc3 hok => by subst hok; rw [if_pos rfl] at hr; subst hr; exact (show MutEnd Tryd.prog Tryd.f69.results.toList (.tup []) id (cA d3) _ from ⟨rfl, by simp only [up_app, if_true], rfl, cA_nm _⟩))
        refine nx_then ?_
        subst hok
        simp only [Bool.false_eq_true, if_false] at hr
        obtain ⟨u, hu⟩ : ∃ u, (decide (a > 0) && !ltN d3[a - 1]! d3[pv2]!) = u := ⟨_, rfl⟩
        rw [hu] at hr
        refine awp_seqP rfl ?_
        refine awp_seqP rfl ?_
        refine pd_les hu hpv.2 s3 hab3 hbn hbig hc3 (fun n4 c4 hc4 => ?_)
        refine nx_then ?_
        cases u
        · skip
          obtain ⟨⟨mid, ap, d4⟩, hx⟩ : ∃ x, Sort.partition ltN d3 a b pv2 = x := ⟨_, rfl⟩
          obtain ⟨g1, g2, hs4, hBa, hBr, hleft, hright⟩ := Sort.round_part ltN_swo (Sort.partition_holds ltN) hpv.1 hpv.2 (by omega) hb3 hx
          have s4 : d4.size = n := by rw [hs4]; exact s3
          have hpn : pv2 < n := by omega
          simp only [Bool.false_eq_true, if_false, hx, dif_pos (And.intro g1 g2)] at hr
          have eL : (mid : Int) - (a : Int) = ((mid - a : Nat) : Int) := by omega
          have eR : (b : Int) - (mid : Int) = ((b - mid : Nat) : Int) := by omega
          have e8 : ((b - a : Nat) : Int).tdiv 8 = (((b - a) / 8 : Nat) : Int) := by rw [Int.tdiv_eq_ediv_of_nonneg (by omega)]; omega
          have em : (mid : Int) + 1 = ((mid + 1 : Nat) : Int) := by omega
          have hd1 : decide ((((b - a) / 8 : Nat) : Int) ≤ ((mid - a : Nat) : Int)) = decide (mid - a ≥ (b - a) / 8) := decide_eq_decide.2 (by omega)
          have hd2 : decide ((((b - a) / 8 : Nat) : Int) ≤ ((b - mid : Nat) : Int)) = decide (b - mid ≥ (b - a) / 8) := decide_eq_decide.2 (by omega)
          refine awp_ifB (.tmp 87) rfl rfl rfl (fun h => ?_) (fun h => ?_)
          · skip
            cases h
          · skip
            refine awp_skipP rfl ?_
            refine nx_then ?_
            refine awp_seqP rfl ?_
            refine awp_regP (Γ := envL [(86, .heap (mutH ptG))]) [0, 1, 2, 3, 10, 14, 15] (envOK_cons oku101 envOK_nil) rfl rfl rfl (fun K hK => ?_)
            simp (disch := omega) only [Tryd.f69, go_sem, Nat.reduceAdd, ↓reduceIte, s3, hx, Int.toNat_natCast]
            refine hK _ ?_
            refine nx_then ?_
            refine awp_seqP rfl ?_
            refine awp_regP (Γ := noEnv) [0, 1, 2, 3, 9, 10, 14] (noEnv_ok _ _) rfl rfl rfl (fun K hK => ?_)
            simp (disch := omega) only [Tryd.f69, go_sem, Nat.reduceAdd, ↓reduceIte]
            refine hK _ ?_
            refine nx_then ?_
            refine awp_seqP rfl ?_
            refine awp_regP (Γ := noEnv) [0, 1, 2, 3, 9, 10, 14, 16, 17] (noEnv_ok _ _) rfl rfl rfl (fun K hK => ?_)
            simp (disch := omega) only [Tryd.f69, go_sem, Nat.reduceAdd, ↓reduceIte, eL, eR]
            refine hK _ ?_
            refine nx_then ?_
            refine awp_seqP rfl ?_
            refine awp_regP (Γ := noEnv) [0, 1, 2, 3, 9, 14, 16, 17, 18] (noEnv_ok _ _) rfl rfl rfl (fun K hK => ?_)
            simp (disch := omega) only [Tryd.f69, go_sem, Nat.reduceAdd, Int.reduceEq, ↓reduceIte, e8]
            refine hK _ ?_
            refine nx_then ?_
            refine awp_seqP rfl ?_
            refine awp_regP (Γ := noEnv) [113, 0, 1, 2, 3, 9, 14, 16, 17, 18] (noEnv_ok _ _) rfl rfl rfl (fun K hK => ?_)
            simp (disch := omega) only [Tryd.f69, go_sem, Nat.reduceAdd, ↓reduceIte]
            refine hK _ ?_
            refine nx_then ?_
            refine awp_ifD (.tmp 113) rfl rfl rfl (fun h => ?_) (fun h => ?_)
            · skip
              refine awp_drop rfl ?_
              have hlr : mid - a < b - mid := by omega
              rw [if_pos hlr] at hr
              obtain ⟨q1, q2⟩ := Sort.pdq_sorts ltN ltN_swo d4 a mid k1 true true g1 (by omega) hBa
              obtain ⟨d5, hd5⟩ : ∃ x, Sort.pdq ltN d4 a mid k1 true true = x := ⟨_, rfl⟩
              rw [hd5] at hr q1 q2
              have s5 : d5.size = n := by rw [q1.1]; exact s4
              have hB5 := (hleft d5 q1 q2).1
              refine awp_seqP rfl ?_
              refine awp_regP (Γ := noEnv) [0, 1, 2, 3, 8, 9, 14] (noEnv_ok _ _) rfl rfl rfl (fun K hK => ?_)
              simp (disch := omega) only [Tryd.f69, go_sem, Nat.reduceAdd, ↓reduceIte, hd1]
              refine hK _ ?_
              refine nx_then ?_
              refine awp_seqP rfl ?_
              refine awp_regP (Γ := envL [(69, .heap (mutH (pdqG N)))]) [0, 2, 3, 8, 9, 14] (envOK_cons oku91 envOK_nil) rfl rfl rfl (fun K hK => ?_)
              simp (disch := omega) only [Tryd.f69, go_sem, Nat.reduceAdd, ↓reduceIte, s4, hBa, hd5, Int.toNat_natCast]
              refine hK _ ?_
              refine nx_then ?_
              refine awp_regP (Γ := noEnv) [0, 1, 2, 3, 8, 9] (noEnv_ok _ _) rfl rfl rfl (fun K hK => ?_)
              simp (disch := omega) only [Tryd.f69, go_sem, Nat.reduceAdd, ↓reduceIte, em]
              refine hK _ ?_
              refine nx_blk (nx_loop ?_)
              refine ⟨⟨mid + 1, b, k1, decide (mid - a ≥ (b - a) / 8), ap, d5, _⟩, ⟨hr, s5, by simp only; omega, by simp only; omega, by simp only; omega, by simp only; omega, hB5, by simp only; omega⟩, by simp only; omega, ⟨fun _ => .inr rfl, hsub_cons (by simp (disch := omega) only [up_app, ↓reduceIte, eq_self]) hsub_nil, Nat.le_refl _⟩⟩
            · skip
              refine awp_drop rfl ?_
              have hlr : ¬ mid - a < b - mid := by omega
              rw [if_neg hlr] at hr
              obtain ⟨q1, q2⟩ := Sort.pdq_sorts ltN ltN_swo d4 (mid + 1) b k1 true true (by omega) (by omega) hBr
              obtain ⟨d5, hd5⟩ : ∃ x, Sort.pdq ltN d4 (mid + 1) b k1 true true = x := ⟨_, rfl⟩
              rw [hd5] at hr q1 q2
              have s5 : d5.size = n := by rw [q1.1]; exact s4
              have hB5 := (hright d5 q1 q2).1
              refine awp_seqP rfl ?_
              refine awp_regP (Γ := noEnv) [0, 1, 2, 3, 8, 9, 14] (noEnv_ok _ _) rfl rfl rfl (fun K hK => ?_)
              simp (disch := omega) only [Tryd.f69, go_sem, Nat.reduceAdd, ↓reduceIte, hd2]
              refine hK _ ?_
              refine nx_then ?_
              refine awp_seqP rfl ?_
              refine awp_regP (Γ := envL [(69, .heap (mutH (pdqG N)))]) [0, 1, 3, 8, 9, 14] (envOK_cons oku91 envOK_nil) rfl rfl rfl (fun K hK => ?_)
              simp (disch := omega) only [Tryd.f69, go_sem, Nat.reduceAdd, ↓reduceIte, em, s4, hBr, hd5, Int.toNat_natCast]
              refine hK _ ?_
              refine nx_then ?_
              refine awp_regP (Γ := noEnv) [0, 1, 2, 3, 8, 9] (noEnv_ok _ _) rfl rfl rfl (fun K hK => ?_)
              simp (disch := omega) only [Tryd.f69, go_sem, Nat.reduceAdd, ↓reduceIte]
              refine hK _ ?_
              refine nx_blk (nx_loop ?_)
              refine ⟨⟨a, mid, k1, decide (b - mid ≥ (b - a) / 8), ap, d5, _⟩, ⟨hr, s5, by simp only; omega, by simp only; omega, by simp only; omega, by simp only; omega, hB5, by simp only; omega⟩, by simp only; omega, ⟨fun _ => .inr rfl, hsub_cons (by simp (disch := omega) only [up_app, ↓reduceIte, eq_self]) hsub_nil, Nat.le_refl _⟩⟩
        · skip
          obtain ⟨⟨mid, d4⟩, hx⟩ : ∃ x, Sort.partitionEqual ltN d3 a b pv2 = x := ⟨_, rfl⟩
          simp only [Bool.and_eq_true, decide_eq_true_eq, Bool.not_eq_true'] at hu
          obtain ⟨g1, g2, hs4, hB4, _⟩ := Sort.round_eq ltN_swo (Sort.partitionEqual_holds ltN) hu.1 hpv.1 hpv.2 (by omega) hb3 hu.2 hx
          have s4 : d4.size = n := by rw [hs4]; exact s3
          have hpn : pv2 < n := by omega
          simp only [if_true, hx, dif_pos (And.intro g1 g2)] at hr
          refine awp_ifB (.tmp 87) rfl rfl rfl (fun h => ?_) (fun h => ?_)
          · skip
            refine awp_seqP rfl ?_
            refine awp_regP (Γ := envL [(85, .heap (mutH peG))]) [0, 2, 3, 8, 9, 13] (envOK_cons oku100 envOK_nil) rfl rfl rfl (fun K hK => ?_)
            simp (disch := omega) only [Tryd.f69, go_sem, Nat.reduceAdd, ↓reduceIte, s3, hx, Int.toNat_natCast]
            refine hK _ ?_
            refine nx_then ?_
            refine awp_seqP rfl ?_
            refine awp_regP (Γ := noEnv) [0, 1, 2, 3, 8, 9] (noEnv_ok _ _) rfl rfl rfl (fun K hK => ?_)
            simp (disch := omega) only [Tryd.f69, go_sem, Nat.reduceAdd, ↓reduceIte]
            refine hK _ ?_
            refine nx_then ?_
            refine awp_exitN 1 rfl rfl ?_
            refine nx_ex_then (nx_ex_blk ?_)
            refine nx_loop ?_
            refine ⟨⟨mid, b, k1, wb, wp, d4, _⟩, ⟨hr, s4, by simp only; omega, by simp only; omega, by simp only; omega, by simp only; omega, hB4, by simp only; omega⟩, by simp only; omega, ⟨fun _ => .inr rfl, hsub_cons (by simp (disch := omega) only [up_app, ↓reduceIte, eq_self]) hsub_nil, Nat.le_refl _⟩⟩
          · skip
            cases h
  · cases hg
end Go.AX

namespace Go.AX
open Go Go.Proofs

theorem pdq_okN : ∀ N : Nat, HeapOK Tryd.prog GLh 69 (mutH (pdqG N))
  | 0 => pdq_ok0
  | N + 1 => pdq_okS N (pdq_okN N)
theorem oku91 : EntOK Tryd.prog GLh 69 (.heap (mutH (pdqG 1000001))) := ⟨⟨_, Tryd.func69, rfl, rfl⟩, pdq_okN 1000001⟩

def srtG : List AV → List AV → Option (AV × List AV)
  | [.os _ 0 n 1 _], xs => obind (unA xs) fun l => guardO (l.length = n ∧ n ≤ 1000000) (some (.tup [], cA (sortL l).toArray))
  | _, _ => none
theorem srtG_eq (id n : Nat) (gg : Bool) (xs : List AV) : srtG [.os id 0 n 1 gg] xs = obind (unA xs) fun l => guardO (l.length = n ∧ n ≤ 1000000) (some (.tup [], cA (sortL l).toArray)) := (rfl)
theorem frzArg_fn (hp : H) (f : FuncId) (xs : List AV) : frzArg hp (.fn f xs) = some (.fn f xs, hp) := (rfl)
attribute [go_sem] srtG_eq frzArg_fn
set_option maxHeartbeats 1000000 in
theorem srt_ok : HeapOK Tryd.prog GLh 55 (mutH srtG) := by
  refine mut_of_awp Tryd.func55 (bodyOf_some rfl) ?_
  intro id off n e gg rest nx xs r ys hg
  unfold srtG at hg
  split at hg
  · rename_i id2 n2 gg2 heq
    simp only [List.cons.injEq, AV.os.injEq] at heq
    obtain ⟨⟨rfl, rfl, rfl, rfl, rfl⟩, rfl⟩ := heq
    replace hg := obind_inv hg; obtain ⟨l, hl, hg⟩ := hg
    replace hg := guardO_inv hg; obtain ⟨⟨hn, hbig⟩, hg⟩ := hg
    simp only [Option.some.injEq, Prod.mk.injEq] at hg; obtain ⟨rfl, rfl⟩ := hg
    have := unA_inv hl; subst this
    obtain ⟨R, hR⟩ : ∃ R, (sortL l).toArray = R := ⟨_, rfl⟩
    obtain ⟨d, hd⟩ : ∃ d, l.toArray = d := ⟨_, rfl⟩
    have hds : d.size = n := by rw [← hd]; simpa using hn
    have hR2 : Sort.pdq ltN d 0 n (Sort.bitsLen n) true true = R := by
      rw [← hR, ← hd]; unfold sortL Sort.sort; simp [← hds, ← hd]
    rw [hR, hd]
    have h20 := bits20 hbig
    have e1 := ofI_nat hbig
    have hB : Sort.Below ltN 0 n d := .inl rfl
    refine ⟨Nat.le_of_ble_eq_true rfl, fun hid => ?_⟩
    clear hl hn
    refine awp_seqP rfl ?_
    refine awp_regP (Γ := noEnv) [0, 2] (noEnv_ok _ _) rfl rfl rfl (fun K hK => ?_)
    simp (disch := omega) only [Tryd.f55, go_sem, Nat.reduceAdd, ↓reduceIte]
    refine hK _ ?_
    refine nx_then ?_
    refine awp_regP (Γ := envL [(70, .pure true blenG), (69, .heap (mutH (pdqG 1000001)))]) [] (envOK_cons oku92 (envOK_cons oku91 envOK_nil)) rfl rfl rfl (fun K hK => ?_)
    simp (disch := omega) only [Tryd.f55, go_sem, Nat.reduceAdd, Int.reduceLE, ↓reduceIte, e1, hds, hB, hR2, Int.toNat_natCast, Int.toNat_zero]
    refine hK _ ?_
    exact ⟨rfl, by simp only [up_app, if_true], rfl, cA_nm _⟩
  · cases hg
end Go.AX
