/-
  Data, part zF: the law DataBack.
-/
import Derived.Test.YtndohkbppgmbjaaCO
import Derived.Test.YtndohkbppgmbjaaCK
import Derived.Test.YtndohkbppgmbjaaCN
namespace Go.AX
open Go Go.Proofs
structure BackIn where
 n1 : Nm
 n2 : Nm
 a1 : W32
 a2 : W32
 a3 : W32
 a4 : W32
 a5 : W32
 t : BitVec 16
 al : B8
 lb : B8
 b1 : W32
 b2 : W32
 b3 : W32
 tag : BitVec 16
 n3 : Nm
 sg : List B8
 h : B8
 f : B8
 it : BitVec 16
 salt : List B8
 next : List B8
 ty : List T16
 kf : BitVec 16
 kp : B8
 ka : B8
 kk : List B8
def smN (n : Nm) : Prop := n.length ≤ 9223372036854775807 ∧ ∀ l ∈ n, l.length ≤ 9223372036854775807
def backA (x : BackIn) : List AV := [.agg [.sl x.n1.length (cS x.n1), .sl x.n2.length (cS x.n2), .w32 x.a1, .w32 x.a2, .w32 x.a3, .w32 x.a4, .w32 x.a5], .agg [.w16 x.t, .w8 x.al, .w8 x.lb, .w32 x.b1, .w32 x.b2, .w32 x.b3, .w16 x.tag, .sl x.n3.length (cS x.n3), .sl x.sg.length (c8 x.sg)], .agg [.w8 x.h, .w8 x.f, .w16 x.it, .sl x.salt.length (c8 x.salt), .sl x.next.length (c8 x.next), .sl x.ty.length (c16 x.ty)], .agg [.w16 x.kf, .w8 x.kp, .w8 x.ka, .sl x.kk.length (c8 x.kk)]]
set_option maxHeartbeats 16000000 in
theorem back_go (n1 n2 : Nm) (a1 a2 a3 a4 a5 : W32) (t : BitVec 16) (al lb : B8) (v1 v2 v3 : W32) (tag : BitVec 16) (n3 : Nm) (sg : List B8) (hh ff : B8) (it : BitVec 16) (salt next : List B8) (ty : List T16) (kf : BitVec 16) (kp ka : B8) (kk : List B8) (s1 : smN n1) (s2 : smN n2) (s3 : smN n3) (nx : Nat) :
  Awp Try.prog GLh Try.f8.ntmps (aE Try.f8) (initS (backA ⟨n1, n2, a1, a2, a3, a4, a5, t, al, lb, v1, v2, v3, tag, n3, sg, hh, ff, it, salt, next, ty, kf, kp, ka, kk⟩) (fun _ => none) nx) (cN Try.prog Try.f8.results.toList (.b true)) := by
 have g1 : ∀ x : Option AV, aN (n1.length ≤ 9223372036854775807 ∧ ∀ l ∈ n1, l.length ≤ 9223372036854775807) x = x := fun x => cU x s1
 have g2 : ∀ x : Option AV, aN (n2.length ≤ 9223372036854775807 ∧ ∀ l ∈ n2, l.length ≤ 9223372036854775807) x = x := fun x => cU x s2
 have g3 : ∀ x : Option AV, aN (n3.length ≤ 9223372036854775807 ∧ ∀ l ∈ n3, l.length ≤ 9223372036854775807) x = x := fun x => cU x s3
 unfold backA
 refine aA rfl ?_
 refine aC (Γ := aL) [4, 5, 6, 7] (aD _ _) rfl rfl rfl (fun K hK => ?_)
 simp (disch := omega) only [Try.f8, go_sem, Nat.reduceAdd, ↓reduceIte]
 refine hK _ ?_
 refine aB ?_
 refine aA rfl ?_
 refine aA rfl ?_
 refine aC (Γ := bC [(9, .pure true knownG)]) [18, 4, 5, 6, 7] (aH ok9 aO) rfl rfl rfl (fun K hK => ?_)
 simp (disch := omega) only [Try.f8, go_sem, Nat.reduceAdd, ↓reduceIte]
 refine hK _ ?_
 refine aB ?_
 refine bA (.tmp 18) rfl rfl rfl (fun h => ?_) (fun h => ?_)
 ·skip
  refine aI rfl ?_
  cases h
 ·skip
  refine aI rfl ?_
  clear h
  refine aQ rfl ?_
  refine aB ?_
  refine aA rfl ?_
  refine aA rfl ?_
  by_cases q0 : okN n1
  ·skip
   have d0 : decide (okN n1) = true := decide_eq_true q0
   by_cases q1 : okN n2
   ·skip
    have d1 : decide (okN n2) = true := decide_eq_true q1
    by_cases q2 : okN n3
    ·skip
     have d2 : decide (okN n3) = true := decide_eq_true q2
     by_cases q3 : sg.length ≤ 1000
     ·skip
      have d3 : decide ((1000 : Int) < (sg.length : Int)) = false := decide_eq_false (by omega)
      by_cases q4 : salt.length ≤ 255
      ·skip
       have d4 : decide ((255 : Int) < (salt.length : Int)) = false := decide_eq_false (by omega)
       by_cases q5 : next.length ≤ 255
       ·skip
        have d5 : decide ((255 : Int) < (next.length : Int)) = false := decide_eq_false (by omega)
        by_cases q6 : 0 < next.length
        ·skip
         have d6 : decide ((next.length : Int) = 0) = false := decide_eq_false (by omega)
         by_cases q7 : ty.length ≤ 100
         ·skip
          have d7 : decide ((100 : Int) < (ty.length : Int)) = false := decide_eq_false (by omega)
          by_cases q8 : kk.length ≤ 1000
          ·skip
           have d8 : decide ((1000 : Int) < (kk.length : Int)) = false := decide_eq_false (by omega)
           refine aC (Γ := bC [(14, .pure true gY)]) [70, 4, 5, 6, 7] (aH ok14 aO) rfl rfl rfl (fun K hK => ?_)
           simp (maxSteps := 300000) (disch := omega) only [Try.f8, go_sem, Nat.reduceAdd, Nat.reduceLT, reduceCtorEq, ↓reduceIte, g1, g2, g3, d0, d1, d2, d3, d4, d5, d6, d7, d8, Bool.not_true]
           refine hK _ ?_
           refine aB ?_
           refine bA (.tmp 70) rfl rfl rfl (fun h => ?_) (fun h => ?_)
           ·skip
            refine aI rfl ?_
            cases h
           ·skip
            refine aI rfl ?_
            clear h
            refine aQ rfl ?_
            refine aB ?_
            refine aA rfl ?_
            have w1 := q0.2
            have z1 := okN_len q0
            have z2 := okN_len q1
            have z3 := okN_len q2
            have w2 := q1.2
            have w3 := q2.2
            have cl1 := cleanL_len ty
            have cl2 : eA (eA ty) = eA ty := cleanL_id (cleanL_inc ty)
            have bl := bmL_le _ (eA ty) (Nat.le_refl _)
            have r1 := soaT_at n1 n2 a1 a2 a3 a4 a5 q0 q1
            have r2 := sigT_at t al lb v1 v2 v3 tag n3 sg q2
            have r3 := chnT_at hh ff it salt next (eA ty) q4 q5 q6
            have r4 := keyT_at kf kp ka kk
            rw [cl2] at r3
            have m1 := soaB_len n1 n2 [a1, a2, a3, a4, a5]
            have m2 := sigB_len t al lb [v1, v2, v3] tag n3 sg
            have m3 := chnB_len hh ff it salt next (eA ty)
            have m4 := keyB_len kf kp ka kk
            rw [cl2] at m3
            simp only [List.length_cons, List.length_nil] at m1 m2
            obtain ⟨S, hS⟩ : ∃ S, soaB n1 n2 [a1, a2, a3, a4, a5] = S := ⟨_, rfl⟩
            obtain ⟨G, hG⟩ : ∃ G, sigB t al lb [v1, v2, v3] tag n3 sg = G := ⟨_, rfl⟩
            obtain ⟨D, hD⟩ : ∃ D, chnB hh ff it salt next (eA ty) = D := ⟨_, rfl⟩
            obtain ⟨K4, hK4⟩ : ∃ K4, keyB kf kp ka kk = K4 := ⟨_, rfl⟩
            rw [hS] at r1 m1
            rw [hG] at r2 m2
            rw [hD] at r3 m3
            rw [hK4] at r4 m4
            have tS : S.take S.length = S := List.take_length
            have tG : G.take G.length = G := List.take_length
            have tD : D.take D.length = D := List.take_length
            have tK : K4.take K4.length = K4 := List.take_length
            have hc16 : (c16 (eA ty)).length = (eA ty).length := c16_len _
            refine aC (Γ := bC [(35, .fresh true clnG)]) [4, 5, 6, 7] (aH ok35 aO) rfl rfl rfl (fun K hK => ?_)
            simp (disch := omega) only [Try.f8, go_sem, Nat.reduceAdd, Nat.reduceLeDiff, Nat.reduceLT, ↓reduceIte]
            refine hK _ ?_
            refine aB ?_
            refine aA rfl ?_
            refine aC (Γ := bC [(22, .fresh true soaBG), (18, .pure false soaG)]) [4, 5, 6, 7, 9, 10] (aH ok22 (aH ok18 aO)) rfl rfl rfl (fun K hK => ?_)
            simp (disch := omega) only [Try.f8, go_sem, Nat.reduceAdd, Nat.reduceLeDiff, ↓reduceIte, hS, tS, r1]
            refine hK _ ?_
            refine aB ?_
            refine aA rfl ?_
            refine aC (Γ := bC [(26, .fresh true sigBG), (23, .pure false sigG)]) [4, 5, 6, 7, 9, 10, 11, 12] (aH ok26 (aH ok23 aO)) rfl rfl rfl (fun K hK => ?_)
            simp (disch := omega) only [Try.f8, go_sem, Nat.reduceAdd, Nat.reduceLeDiff, ↓reduceIte, hG, tG, r2]
            refine hK _ ?_
            refine aB ?_
            refine aA rfl ?_
            refine aC (Γ := bC [(30, .fresh true chnBG), (27, .pure false chnG)]) [4, 5, 6, 7, 9, 10, 11, 12, 13, 14] (aH ok30 (aH ok27 aO)) rfl rfl rfl (fun K hK => ?_)
            simp (disch := omega) only [Try.f8, go_sem, Nat.reduceAdd, Nat.reduceLeDiff, ↓reduceIte, cl2, hD, tD, r3]
            refine hK _ ?_
            refine aB ?_
            refine aA rfl ?_
            refine aC (Γ := bC [(34, .fresh true keyBG), (31, .pure false keyG)]) [4, 5, 6, 7, 9, 10, 11, 12, 13, 14, 15, 16] (aH ok34 (aH ok31 aO)) rfl rfl rfl (fun K hK => ?_)
            simp (disch := omega) only [Try.f8, go_sem, Nat.reduceAdd, Nat.reduceLeDiff, ↓reduceIte, hK4, tK, r4]
            refine hK _ ?_
            refine aB ?_
            refine aA rfl ?_
            refine aC (Γ := bC [(21, .pure true soaEG), (25, .pure true sigEG), (11, .pure true beqG), (29, .pure true chnEG), (33, .pure true keyEG)]) [8] (aH ok21 (aH ok25 (aH ok11 (aH ok29 (aH ok33 aO))))) rfl rfl rfl (fun K hK => ?_)
            simp (maxSteps := 300000) (disch := omega) only [Try.f8, go_sem, Nat.reduceAdd, Nat.reduceLeDiff, Nat.reduceLT, Int.reduceAdd, ↓reduceIte, iA]
            refine hK _ ?_
            refine aB ?_
            refine aS rfl ?_
            simp (disch := omega) only [cN, bV, bK, bQ, Try.f8, go_sem, ↓reduceIte]
          ·skip
           have d8 : decide ((1000 : Int) < (kk.length : Int)) = true := decide_eq_true (by omega)
           refine aC (Γ := bC [(14, .pure true gY)]) [70, 4, 5, 6, 7] (aH ok14 aO) rfl rfl rfl (fun K hK => ?_)
           simp (maxSteps := 300000) (disch := omega) only [Try.f8, go_sem, Nat.reduceAdd, Nat.reduceLT, reduceCtorEq, ↓reduceIte, g1, g2, g3, d0, d1, d2, d3, d4, d5, d6, d7, d8, Bool.not_true]
           refine hK _ ?_
           refine aB ?_
           refine bA (.tmp 70) rfl rfl rfl (fun h => ?_) (fun h => ?_)
           ·skip
            refine aI rfl ?_
            refine aA rfl ?_
            refine aC (Γ := aL) [8] (aD _ _) rfl rfl rfl (fun K hK => ?_)
            simp (disch := omega) only [Try.f8, go_sem, ↓reduceIte]
            refine hK _ ?_
            refine aB ?_
            refine aS rfl ?_
            refine bI ?_
            simp (disch := omega) only [cN, bV, bK, bQ, Try.f8, go_sem, ↓reduceIte]
           ·skip
            refine aI rfl ?_
            cases h
         ·skip
          have d7 : decide ((100 : Int) < (ty.length : Int)) = true := decide_eq_true (by omega)
          refine aC (Γ := bC [(14, .pure true gY)]) [70, 4, 5, 6, 7] (aH ok14 aO) rfl rfl rfl (fun K hK => ?_)
          simp (maxSteps := 300000) (disch := omega) only [Try.f8, go_sem, Nat.reduceAdd, Nat.reduceLT, reduceCtorEq, ↓reduceIte, g1, g2, g3, d0, d1, d2, d3, d4, d5, d6, d7, Bool.not_true]
          refine hK _ ?_
          refine aB ?_
          refine bA (.tmp 70) rfl rfl rfl (fun h => ?_) (fun h => ?_)
          ·skip
           refine aI rfl ?_
           refine aA rfl ?_
           refine aC (Γ := aL) [8] (aD _ _) rfl rfl rfl (fun K hK => ?_)
           simp (disch := omega) only [Try.f8, go_sem, ↓reduceIte]
           refine hK _ ?_
           refine aB ?_
           refine aS rfl ?_
           refine bI ?_
           simp (disch := omega) only [cN, bV, bK, bQ, Try.f8, go_sem, ↓reduceIte]
          ·skip
           refine aI rfl ?_
           cases h
        ·skip
         have d6 : decide ((next.length : Int) = 0) = true := decide_eq_true (by omega)
         refine aC (Γ := bC [(14, .pure true gY)]) [70, 4, 5, 6, 7] (aH ok14 aO) rfl rfl rfl (fun K hK => ?_)
         simp (maxSteps := 300000) (disch := omega) only [Try.f8, go_sem, Nat.reduceAdd, Nat.reduceLT, reduceCtorEq, ↓reduceIte, g1, g2, g3, d0, d1, d2, d3, d4, d5, d6, Bool.not_true]
         refine hK _ ?_
         refine aB ?_
         refine bA (.tmp 70) rfl rfl rfl (fun h => ?_) (fun h => ?_)
         ·skip
          refine aI rfl ?_
          refine aA rfl ?_
          refine aC (Γ := aL) [8] (aD _ _) rfl rfl rfl (fun K hK => ?_)
          simp (disch := omega) only [Try.f8, go_sem, ↓reduceIte]
          refine hK _ ?_
          refine aB ?_
          refine aS rfl ?_
          refine bI ?_
          simp (disch := omega) only [cN, bV, bK, bQ, Try.f8, go_sem, ↓reduceIte]
         ·skip
          refine aI rfl ?_
          cases h
       ·skip
        have d5 : decide ((255 : Int) < (next.length : Int)) = true := decide_eq_true (by omega)
        refine aC (Γ := bC [(14, .pure true gY)]) [70, 4, 5, 6, 7] (aH ok14 aO) rfl rfl rfl (fun K hK => ?_)
        simp (maxSteps := 300000) (disch := omega) only [Try.f8, go_sem, Nat.reduceAdd, Nat.reduceLT, reduceCtorEq, ↓reduceIte, g1, g2, g3, d0, d1, d2, d3, d4, d5, Bool.not_true]
        refine hK _ ?_
        refine aB ?_
        refine bA (.tmp 70) rfl rfl rfl (fun h => ?_) (fun h => ?_)
        ·skip
         refine aI rfl ?_
         refine aA rfl ?_
         refine aC (Γ := aL) [8] (aD _ _) rfl rfl rfl (fun K hK => ?_)
         simp (disch := omega) only [Try.f8, go_sem, ↓reduceIte]
         refine hK _ ?_
         refine aB ?_
         refine aS rfl ?_
         refine bI ?_
         simp (disch := omega) only [cN, bV, bK, bQ, Try.f8, go_sem, ↓reduceIte]
        ·skip
         refine aI rfl ?_
         cases h
      ·skip
       have d4 : decide ((255 : Int) < (salt.length : Int)) = true := decide_eq_true (by omega)
       refine aC (Γ := bC [(14, .pure true gY)]) [70, 4, 5, 6, 7] (aH ok14 aO) rfl rfl rfl (fun K hK => ?_)
       simp (maxSteps := 300000) (disch := omega) only [Try.f8, go_sem, Nat.reduceAdd, Nat.reduceLT, reduceCtorEq, ↓reduceIte, g1, g2, g3, d0, d1, d2, d3, d4, Bool.not_true]
       refine hK _ ?_
       refine aB ?_
       refine bA (.tmp 70) rfl rfl rfl (fun h => ?_) (fun h => ?_)
       ·skip
        refine aI rfl ?_
        refine aA rfl ?_
        refine aC (Γ := aL) [8] (aD _ _) rfl rfl rfl (fun K hK => ?_)
        simp (disch := omega) only [Try.f8, go_sem, ↓reduceIte]
        refine hK _ ?_
        refine aB ?_
        refine aS rfl ?_
        refine bI ?_
        simp (disch := omega) only [cN, bV, bK, bQ, Try.f8, go_sem, ↓reduceIte]
       ·skip
        refine aI rfl ?_
        cases h
     ·skip
      have d3 : decide ((1000 : Int) < (sg.length : Int)) = true := decide_eq_true (by omega)
      refine aC (Γ := bC [(14, .pure true gY)]) [70, 4, 5, 6, 7] (aH ok14 aO) rfl rfl rfl (fun K hK => ?_)
      simp (maxSteps := 300000) (disch := omega) only [Try.f8, go_sem, Nat.reduceAdd, Nat.reduceLT, reduceCtorEq, ↓reduceIte, g1, g2, g3, d0, d1, d2, d3, Bool.not_true]
      refine hK _ ?_
      refine aB ?_
      refine bA (.tmp 70) rfl rfl rfl (fun h => ?_) (fun h => ?_)
      ·skip
       refine aI rfl ?_
       refine aA rfl ?_
       refine aC (Γ := aL) [8] (aD _ _) rfl rfl rfl (fun K hK => ?_)
       simp (disch := omega) only [Try.f8, go_sem, ↓reduceIte]
       refine hK _ ?_
       refine aB ?_
       refine aS rfl ?_
       refine bI ?_
       simp (disch := omega) only [cN, bV, bK, bQ, Try.f8, go_sem, ↓reduceIte]
      ·skip
       refine aI rfl ?_
       cases h
    ·skip
     have d2 : decide (okN n3) = false := decide_eq_false q2
     refine aC (Γ := bC [(14, .pure true gY)]) [70, 4, 5, 6, 7] (aH ok14 aO) rfl rfl rfl (fun K hK => ?_)
     simp (maxSteps := 300000) (disch := omega) only [Try.f8, go_sem, Nat.reduceAdd, Nat.reduceLT, reduceCtorEq, ↓reduceIte, g1, g2, g3, d0, d1, d2, Bool.not_true, Bool.not_false]
     refine hK _ ?_
     refine aB ?_
     refine bA (.tmp 70) rfl rfl rfl (fun h => ?_) (fun h => ?_)
     ·skip
      refine aI rfl ?_
      refine aA rfl ?_
      refine aC (Γ := aL) [8] (aD _ _) rfl rfl rfl (fun K hK => ?_)
      simp (disch := omega) only [Try.f8, go_sem, ↓reduceIte]
      refine hK _ ?_
      refine aB ?_
      refine aS rfl ?_
      refine bI ?_
      simp (disch := omega) only [cN, bV, bK, bQ, Try.f8, go_sem, ↓reduceIte]
     ·skip
      refine aI rfl ?_
      cases h
   ·skip
    have d1 : decide (okN n2) = false := decide_eq_false q1
    refine aC (Γ := bC [(14, .pure true gY)]) [70, 4, 5, 6, 7] (aH ok14 aO) rfl rfl rfl (fun K hK => ?_)
    simp (maxSteps := 300000) (disch := omega) only [Try.f8, go_sem, Nat.reduceAdd, Nat.reduceLT, reduceCtorEq, ↓reduceIte, g1, g2, d0, d1, Bool.not_true, Bool.not_false]
    refine hK _ ?_
    refine aB ?_
    refine bA (.tmp 70) rfl rfl rfl (fun h => ?_) (fun h => ?_)
    ·skip
     refine aI rfl ?_
     refine aA rfl ?_
     refine aC (Γ := aL) [8] (aD _ _) rfl rfl rfl (fun K hK => ?_)
     simp (disch := omega) only [Try.f8, go_sem, ↓reduceIte]
     refine hK _ ?_
     refine aB ?_
     refine aS rfl ?_
     refine bI ?_
     simp (disch := omega) only [cN, bV, bK, bQ, Try.f8, go_sem, ↓reduceIte]
    ·skip
     refine aI rfl ?_
     cases h
  ·skip
   have d0 : decide (okN n1) = false := decide_eq_false q0
   refine aC (Γ := bC [(14, .pure true gY)]) [70, 4, 5, 6, 7] (aH ok14 aO) rfl rfl rfl (fun K hK => ?_)
   simp (maxSteps := 300000) (disch := omega) only [Try.f8, go_sem, Nat.reduceAdd, Nat.reduceLT, ↓reduceIte, g1, d0, Bool.not_false]
   refine hK _ ?_
   refine aB ?_
   refine bA (.tmp 70) rfl rfl rfl (fun h => ?_) (fun h => ?_)
   ·skip
    refine aI rfl ?_
    refine aA rfl ?_
    refine aC (Γ := aL) [8] (aD _ _) rfl rfl rfl (fun K hK => ?_)
    simp (disch := omega) only [Try.f8, go_sem, ↓reduceIte]
    refine hK _ ?_
    refine aB ?_
    refine aS rfl ?_
    refine bI ?_
    simp (disch := omega) only [cN, bV, bK, bQ, Try.f8, go_sem, ↓reduceIte]
   ·skip
    refine aI rfl ?_
    cases h
noncomputable def backG (args : List AV) : Option AV := @ite _ (∃ x : BackIn, args = backA x ∧ smN x.n1 ∧ smN x.n2 ∧ smN x.n3) (Classical.propDecidable _) (some (.b true)) none
theorem backG_y (x : BackIn) (h1 : smN x.n1) (h2 : smN x.n2) (h3 : smN x.n3) : backG (backA x) = some (.b true) := if_pos ⟨x, rfl, h1, h2, h3⟩
theorem back_ok : cL Try.prog GLh 8 backG := by
 refine cC Try.func8 (aT rfl) ?_
 intro args r hg
 unfold backG at hg
 split at hg
 ·rename_i hx
  obtain ⟨x, rfl, s1, s2, s3⟩ := hx
  obtain rfl := Option.some.inj hg
  obtain ⟨n1, n2, a1, a2, a3, a4, a5, t, al, lb, v1, v2, v3, tag, n3, sg, hh, ff, it, salt, next, ty, kf, kp, ka, kk⟩ := x
  exact ⟨Nat.le_of_ble_eq_true rfl, fun nx => back_go n1 n2 a1 a2 a3 a4 a5 t al lb v1 v2 v3 tag n3 sg hh ff it salt next ty kf kp ka kk s1 s2 s3 nx⟩
 ·cases hg
end Go.AX
