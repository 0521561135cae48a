/-
  Rolls, part J: settings; first keys. Rolls, part K: what the first rolls come to, in plain. Rolls, part L: times that don't overflow; what the statements ask ahead of all. Rolls, part M: the statement RollBusy, walked. Rolls, part N: the statement RollLate, walked. Rolls, part P: a DS that was seen. Rolls, part Q: what the rolls of RollWhole, RollNothing come to, in plain. Rolls, part S: the statement RollWhole, walked. Rolls, part T: rows of no keys. Rolls, part R: the statement RollNothing, walked.
-/
import Derived.Test.YthemkfbedajmpaaDoorBG
import Derived.Test.YthemkfbedajmpaaDoorBE
import Derived.Test.YthemkfbedajmpaaDoorBD
namespace Go.AX
open Go Go.Proofs
set_option maxRecDepth 8000
def setV (k : BitVec 16) : CF := { cfgV k with h := 1 }
def setG21 : List AV → Option AV
 | [.w16 k] => some (.agg (cfC (setV k)))
 | _ => none
theorem setG21_eq (k : BitVec 16) : setG21 [.w16 k] = some (.agg (cfC (setV k))) := (rfl)
attribute [go_sem] setG21_eq
theorem set21_ok : cL Tryd.prog GLh 6 setG21 := by
 refine cC Tryd.func6 (aT rfl) ?_
 intro args r hg
 unfold setG21 at hg
 split at hg
 ·rename_i k
  obtain rfl := Option.some.inj hg
  refine ⟨Nat.le_of_ble_eq_true rfl, fun nx => ?_⟩
  refine aA rfl ?_
  refine aC (Γ := aL) [0, 2] (aD _ _) rfl rfl rfl (fun K hK => ?_)
  simp (disch := omega) only [Tryd.f6, go_sem, ↓reduceIte]
  refine hK _ ?_
  refine aB ?_
  refine aA rfl ?_
  refine aC (Γ := bC [(18, .pure false cfgG21)]) [2, 3] (aH okh15 aO) rfl rfl rfl (fun K hK => ?_)
  simp (disch := omega) only [Tryd.f6, go_sem, Nat.reduceAdd, Nat.reduceLeDiff, ↓reduceIte, jI, List.nil_append, List.cons_append]
  refine hK _ ?_
  refine aB ?_
  refine aA rfl ?_
  refine aC (Γ := aL) [2, 3] (aD _ _) rfl rfl rfl (fun K hK => ?_)
  simp (disch := omega) only [Tryd.f6, go_sem, Nat.reduceAdd, Nat.reduceLeDiff, Nat.reduceLT, ↓reduceIte, List.set_cons_succ, List.set_cons_zero]
  refine hK _ ?_
  refine aB ?_
  refine aA rfl ?_
  refine aC (Γ := aL) [2] (aD _ _) rfl rfl rfl (fun K hK => ?_)
  simp (disch := omega) only [Tryd.f6, go_sem, Nat.reduceAdd, Nat.reduceLeDiff, ↓reduceIte, List.take_succ_cons, List.take_zero, List.drop_zero]
  refine hK _ ?_
  refine aB ?_
  refine aS rfl ?_
  simp (maxSteps := 400000) (disch := omega) only [cN, bV, bK, bQ, Tryd.f6, go_sem, Nat.reduceAdd, Nat.reduceLeDiff, ↓reduceIte, jI, ldV, List.take_succ_cons, List.take_zero, List.drop_zero]
  rfl
 ·cases hg
theorem okh6 : bX Tryd.prog GLh 6 (.pure false setG21) := ⟨⟨_, Tryd.func6, rfl, rfl⟩, set21_ok⟩
theorem mrg_setR (hp : H) (d s m : Nat) (C : RC) (e l : Nat) (M : MC) (h1 : e ≠ l) (h2 : e ≠ d) (h3 : e ≠ s) (h4 : e ≠ m) (h5 : l ≠ d) (h6 : l ≠ s) (h7 : l ≠ m) : mrgOf (iL d s m C (iZ e l M hp)) e = some ⟨l, M⟩ :=
 mrgOf_has ⟨by rw [jN _ _ _ _ _ _ h2 h3 h4]; exact (setM_has h1).hd, by rw [jN _ _ _ _ _ _ h5 h6 h7]; exact (setM_has h1).hl, ⟨h1, Ne.symm h1⟩⟩
theorem setM_setR (hp : H) (d s m : Nat) (C : RC) (e l : Nat) (M : MC) (h2 : e ≠ d) (h3 : e ≠ s) (h4 : e ≠ m) (h5 : l ≠ d) (h6 : l ≠ s) (h7 : l ≠ m) : iZ e l M (iL d s m C hp) = iL d s m C (iZ e l M hp) := by
 unfold iZ
 rw [jJ _ _ _ _ _ _ _ h5 h6 h7, jJ _ _ _ _ _ _ _ h2 h3 h4]
theorem setM_delM (hp : H) (e l l' : Nat) (M M' : MC) (_ : e ≠ l) : iZ e l' M' (del (iZ e l M hp) l) = iZ e l' M' (del hp l) := by
 funext k
 simp only [iZ, bJ, eV]
 by_cases q1 : k = e
 ·simp [q1]
 ·by_cases q2 : k = l'
  ·simp [q2]
  ·by_cases q3 : k = l
   ·simp [q3]
   ·simp [q1, q2, q3]
theorem mmkH_some (d l : Nat) (M M' : MC) (hp : H) (nx : Nat) : mmkH d l M hp nx (some M') = iZ d (nx + 51) M' (del hp l) := (rfl)
theorem s8L_8 (a b c d e f g h : B8) : s8L [a, b, c, d, e, f, g, h] = some ⟨a, b, c, d, e, f, g, h⟩ := (rfl)
attribute [go_sem] mrg_setR setM_setR setM_delM mmkH_some s8L_8
def fsK (c : CF) (now : W32) : KY := ⟨1#32, 0, 1, ⟨0#8, 0#8, 0#8, 0#8, 0#8, 0#8, 0#8, 0#8⟩, c.h, 0#32, now, 0#32⟩
def scK (c : CF) (now seen : W32) : KY := ⟨2#32, 1, 2, ⟨1#8, 0#8, 0#8, 0#8, 0#8, 0#8, 0#8, 0#8⟩, c.h, 0#32, now, seen⟩
def bgnC (c : CF) (now : W32) : Nat → RC
 | 0 => ⟨c, [], 0#32, []⟩
 | 1 => ⟨c, [(1#32, fsK c now)], 1#32, []⟩
 | _ => ⟨c, [(1#32, fsK c now), (2#32, scK c now (mx1 now))], 2#32, []⟩
def bgnM (c : CF) (q : Nat) (now : W32) : Nat → MC
 | 0 => ⟨c, q, [], 0#32⟩
 | 1 => ⟨c, q, [fsK c now], 1#32⟩
 | _ => ⟨c, q, [fsK c now, scK c now (mx1 now)], 2#32⟩
theorem bgn_ok (c : CF) (now : W32) (hh : c.h ≤ 10) : ∀ i, ROk (bgnC c now i)
 | 0 => ROk.new c
 | 1 => (ROk.new c).mk' (by show (0#32 : W32).toNat < _; decide) hh 0 ⟨0#8, 0#8, 0#8, 0#8, 0#8, 0#8, 0#8, 0#8⟩ 1 now
 | i + 2 => by
  have h := ((bgn_ok c now hh 1).mk' (by show (1#32 : W32).toNat < _; decide) hh 1 ⟨1#8, 0#8, 0#8, 0#8, 0#8, 0#8, 0#8, 0#8⟩ 2 now).snV 2#32 now
  exact h
def bgnCx (c : CF) (now : W32) : RC := ⟨c, [(1#32, fsK c now), (2#32, scK c now 0#32)], 2#32, []⟩
def bgnMx (c : CF) (q : Nat) (now : W32) : MC := ⟨c, q, [fsK c now, scK c now 0#32], 2#32⟩
theorem bgn_m0 (c : CF) (now : W32) : mkV (bgnC c now 0) 0 ⟨0#8, 0#8, 0#8, 0#8, 0#8, 0#8, 0#8, 0#8⟩ 1 now = (1#32, 0, bgnC c now 1) := rfl
theorem bgn_m1 (c : CF) (now : W32) : mkV (bgnC c now 1) 1 ⟨1#8, 0#8, 0#8, 0#8, 0#8, 0#8, 0#8, 0#8⟩ 2 now = (2#32, 0, bgnCx c now) := rfl
theorem bgn_mm0 (c : CF) (q : Nat) (now : W32) : mmkV (bgnM c q now 0) 0 ⟨0#8, 0#8, 0#8, 0#8, 0#8, 0#8, 0#8, 0#8⟩ 1 now = (1#32, 0, some (bgnM c q now 1)) := rfl
theorem bgn_mm1 (c : CF) (q : Nat) (now : W32) : mmkV (bgnM c q now 1) 1 ⟨1#8, 0#8, 0#8, 0#8, 0#8, 0#8, 0#8, 0#8⟩ 2 now = (2#32, 0, some (bgnMx c q now)) := rfl
theorem bgn_s (c : CF) (now : W32) : snV (bgnCx c now) 2#32 now = (0, bgnC c now 2) := rfl
theorem bgn_ms (c : CF) (q : Nat) (now : W32) : msnV (bgnMx c q now) 2#32 now = (0, bgnM c q now 2) := rfl
theorem bgn_l0 (c : CF) (now : W32) : (bgnC c now 0).last.toNat < 1000000 := by show (0#32 : W32).toNat < _; decide
theorem bgn_l1 (c : CF) (now : W32) : (bgnC c now 1).last.toNat < 1000000 := by show (1#32 : W32).toNat < _; decide
theorem bgn_h (c : CF) (now : W32) : ∀ i, (bgnC c now i).c = c
 | 0 => rfl
 | 1 => rfl
 | _ + 2 => rfl
theorem bgn_len (c : CF) (q : Nat) (now : W32) : (bgnMx c q now).L.length ≤ 1000 := Nat.le_of_ble_eq_true rfl
def rts0 : AO := .cells [.v (.slice none 0 0), .v (.slice none 0 0), .v (.slice none 0 0)] true
def begL (nx : Nat) : Nat → Nat
 | 0 => nx + 32
 | 1 => nx + 232
 | _ => nx + 1233
theorem begL_0 (nx : Nat) : begL nx 0 = nx + 32 := rfl
theorem begL_1 (nx : Nat) : begL nx 1 = nx + 232 := rfl
theorem begL_2 (nx : Nat) : begL nx 2 = nx + 1233 := rfl
theorem isP31 : fM Tryd.prog 31 = true := by kernel_rfl
noncomputable def begG : List AV → H → Nat → Option (AV × H × Nat)
 | [.agg cs, .w32 now], hp, nx => aK (cfOf cs) fun c => aN (c.h ≤ 10) (some (.tup [.op (nx + 18) 0, .op (nx + 9) 0], iL (nx + 18) (nx + 15) (nx + 16) (bgnC c now 2) (iZ (nx + 9) (begL nx 2) (bgnM c (nx + 7) now 2) (upd hp (nx + 7) rts0)), nx + 3000))
 | _, _, _ => none
theorem begG_eq (cs : List AV) (now : W32) (hp : H) (nx : Nat) : begG [.agg cs, .w32 now] hp nx = aK (cfOf cs) fun c => aN (c.h ≤ 10) (some (.tup [.op (nx + 18) 0, .op (nx + 9) 0], iL (nx + 18) (nx + 15) (nx + 16) (bgnC c now 2) (iZ (nx + 9) (begL nx 2) (bgnM c (nx + 7) now 2) (upd hp (nx + 7) rts0)), nx + 3000)) := (rfl)
attribute [go_sem] begG_eq
set_option maxHeartbeats 2000000 in
theorem beg_ok : cQ Tryd.prog GLh 7 begG := by
 refine gF Tryd.func7 (aT rfl) ?_
 intro args hp nx r hp' nx' hg
 unfold begG at hg
 split at hg
 ·rename_i cs now
  replace hg := aJ hg; obtain ⟨c, hcf, hg⟩ := hg
  have := cfOf_inv hcf; subst this
  replace hg := aP hg; obtain ⟨hh, hg⟩ := hg
  simp only [Option.some.injEq, Prod.mk.injEq] at hg; obtain ⟨rfl, rfl, rfl⟩ := hg
  refine ⟨Nat.le_of_ble_eq_true rfl, by omega, fun hnone => ?_⟩
  have hlt : ∀ k o, hp k = some o → k < nx := fun k o hk => gI hnone hk
  have hcl : 13 ≤ (cfC c).length := Nat.le_of_ble_eq_true rfl
  have hct : List.take 13 (cfC c) = cfC c := rfl
  have hno : dB (cfC c) = true := rfl
  have hcfx := hcf
  rw [jI] at hcfx
  refine aA rfl ?_
  refine aC (Γ := aL) [1, 2] (aD _ _) rfl rfl rfl (fun K hK => ?_)
  simp (disch := omega) only [Tryd.f7, go_sem, Nat.reduceAdd, ↓reduceIte]
  refine hK _ ?_
  refine aB ?_
  refine awp_rp 2 nx 0 rfl (by simp (disch := omega) only [aV, ↓reduceIte, eq_self] <;> rfl) ?_
  refine fF [1, 2] ?_
  simp only [iB, fU, eB, ↓reduceIte, Nat.reduceEqDiff, List.drop_zero]
  refine aA rfl ?_
  refine awp_drT (Γ := bC [(17, .heap rnewG)]) [[0, 1, 3, 4, 2, 5, 6, 7, 8], [3, 4, 0, 1, 2, 5, 6, 7, 8], [3, 4, 2, 5, 6, 0, 1, 7, 8]] (fun k => if k = 0 then 1 else if k = 2 then 1 else if k = 1 then 0 else 2) [1, 6, 7] bZ (aH okd7 aO) rfl rfl rfl (by kernel_rfl) (fun K hK => ?_)
  simp (disch := omega) only [Tryd.f7, allO_cons, allO_nil, go_sem, runM_nil, runM_cons, hS, List.getElem?_cons_zero, List.getElem?_cons_succ, and_self, and_true, Nat.reduceAdd, Nat.reduceLeDiff, ↓reduceIte, jI, hcfx, cK, List.nil_append, List.cons_append, List.take_succ_cons, List.take_zero, List.drop_succ_cons, List.drop_zero, List.all_cons, List.all_nil, Option.isSome_some, Bool.and_self]
  refine hK _ ?_
  refine aB ?_
  refine awp_ownC (nx + 3 + 6) 15 (cfC c ++ [.op (nx + 3 + 4) 0]) [.w32 0#32] true (by simp (disch := omega) only [jN, aV, ↓reduceIte, eq_self] <;> rfl) (by omega) ?_
  simp (disch := omega) only [jJ]
  refine aA rfl ?_
  refine aA rfl ?_
  refine aC (Γ := aL) [22, 1, 6, 7] (aD _ _) rfl rfl rfl (fun K hK => ?_)
  simp (disch := omega) only [Tryd.f7, go_sem, Nat.reduceAdd, ↓reduceIte, isP31]
  refine hK _ ?_
  refine aB ?_
  refine eC (.tmp 22) rfl rfl rfl (fun h => ?_) (fun h => ?_)
  ·skip
   refine aI rfl ?_
   cases h
  ·skip
   refine aI rfl ?_
   refine aQ rfl ?_
   refine aB ?_
   refine aA rfl ?_
   refine aA rfl ?_
   refine aC (Γ := aL) [1, 6, 7, 8] (aD _ _) rfl rfl rfl (fun K hK => ?_)
   simp (disch := omega) only [Tryd.f7, go_sem, ↓reduceIte]
   refine hK _ ?_
   refine aB ?_
   refine aR 0 rfl rfl ?_
   refine bR (fun i : Nat => { fr := [(1, .w32 now), (6, .op (nx + 18) 0), (7, .op (nx + 9) 0), (8, .i i)], hp := iL (nx + 18) (nx + 15) (nx + 16) (bgnC c now i) (iZ (nx + 9) (begL nx i) (bgnM c (nx + 7) now i) (upd hp (nx + 7) rts0)), nx := 0, cx := nx + 50 + 1000 * i }) (fun i => i ≤ 2) (fun i => 2 - i) rfl ⟨0, Nat.zero_le _, ⟨fun x => .inr rfl, fun j o hj => hU (fun j o hj => by { simp only [iZ, begL_0, bJ, Nat.add_assoc, Nat.reduceAdd] at hj ⊢; by_cases q1 : j = nx + 9; · { rw [if_pos q1] at hj ⊢; exact hj }; rw [if_neg q1] at hj ⊢; by_cases q2 : j = nx + 32; · { rw [if_pos q2] at hj ⊢; exact hj }; rw [if_neg q2] at hj ⊢; rw [if_neg q1]; by_cases q3 : j = nx + 7; · { rw [if_pos q3] at hj ⊢; exact hj }; rw [if_neg q3] at hj ⊢; have := hlt j o hj; rw [if_neg (by omega)]; exact hj }) j o hj, by simp only; omega⟩⟩ ?_
   rintro i hi n0
   simp only at hi ⊢
   rcases (by omega : i = 0 ∨ i = 1 ∨ i = 2) with rfl | rfl | rfl
   ·skip
    have ok0 := bgn_ok c now hh 0
    have ok1 := bgn_ok c now hh 1
    rw [begL_0, show ((0 : Nat) : Int) = 0 from rfl]
    refine aA rfl ?_
    refine aA rfl ?_
    refine aC (Γ := aL) [24, 1, 6, 7, 8] (aD _ _) rfl rfl rfl (fun K hK => ?_)
    simp (disch := omega) only [Tryd.f7, go_sem, Nat.reduceAdd, Nat.reduceMul, Int.reduceLT, ↓reduceIte, decide_true]
    refine hK _ ?_
    refine aB ?_
    refine eC (.tmp 24) rfl rfl rfl (fun h => ?_) (fun h => ?_)
    ·skip
     refine aI rfl ?_
     refine aQ rfl ?_
     refine aB ?_
     refine aA rfl ?_
     refine aR 1 rfl rfl ?_
     refine aA rfl ?_
     refine aC (Γ := aL) [1, 6, 7, 8, 9] (aD _ _) rfl rfl rfl (fun K hK => ?_)
     simp (disch := omega) only [Tryd.f7, go_sem, ↓reduceIte]
     refine hK _ ?_
     refine aB ?_
     refine aA rfl ?_
     refine aA rfl ?_
     refine aC (Γ := aL) [28, 1, 6, 7, 8, 9] (aD _ _) rfl rfl rfl (fun K hK => ?_)
     simp (disch := omega) only [Tryd.f7, go_sem, Nat.reduceAdd, Int.reduceEq, ↓reduceIte, decide_false]
     refine hK _ ?_
     refine aB ?_
     refine eC (.tmp 28) rfl rfl rfl (fun h => ?_) (fun h => ?_)
     ·skip
      refine aI rfl ?_
      cases h
     ·skip
      refine aI rfl ?_
      refine aQ rfl ?_
      refine aB ?_
      refine aA rfl ?_
      refine aC (Γ := bC [(19, .heap makeG)]) [1, 6, 7, 8, 9, 10] (aH okd9 aO) rfl rfl rfl (fun K hK => ?_)
      simp (disch := omega) only [Tryd.f7, go_sem, Nat.reduceAdd, Nat.reduceLeDiff, BitVec.reduceOfInt, ↓reduceIte, bgn_l0, bgn_h, ok0, hh, true_and, BitVec.reduceOfInt]
      refine hK _ ?_
      refine aB ?_
      refine aA rfl ?_
      refine aC (Γ := bC [(20, .heap mmakeG)]) [1, 6, 7, 8, 10, 12] (aH okd19 aO) rfl rfl rfl (fun K hK => ?_)
      simp (disch := omega) only [Tryd.f7, go_sem, Nat.reduceAdd, Nat.reduceLeDiff, BitVec.reduceOfInt, ↓reduceIte, bgn_m0, true_and, BitVec.reduceOfInt]
      refine hK _ ?_
      refine aB ?_
      refine aA rfl ?_
      refine aC (Γ := aL) [52, 1, 6, 7, 8, 10, 12] (aD _ _) rfl rfl rfl (fun K hK => ?_)
      simp (disch := omega) only [Tryd.f7, go_sem, Nat.reduceAdd, Int.reduceEq, ↓reduceIte, decide_false]
      refine hK _ ?_
      refine aB ?_
      refine eC (.tmp 52) rfl rfl rfl (fun h => ?_) (fun h => ?_)
      ·skip
       refine aI rfl ?_
       cases h
      ·skip
       refine aI rfl ?_
       refine aQ rfl ?_
       refine bU (aB ?_)
       refine aC (Γ := aL) [1, 6, 7, 8] (aD _ _) rfl rfl rfl (fun K hK => ?_)
       simp (disch := omega) only [Tryd.f7, go_sem, Nat.reduceAdd, Int.reduceAdd, ↓reduceIte]
       refine hK _ ?_
       refine bT ?_
       simp (disch := omega) only [bgn_mm0, mmkH_some, setR_del, setM_setR, setM_delM]
       refine ⟨1, by omega, by omega, ⟨fun x => .inr rfl, fun j o hj => hU (fun j o hj => ?_) j o hj, by simp only; omega⟩⟩
       rw [begL_1] at hj
       simp only [Nat.add_assoc, Nat.reduceAdd] at hj ⊢
       refine setM_mono (fun j o hj => ?_) j o hj
       simp only [bJ, eV] at hj ⊢
       by_cases q : j = nx + 7
       ·rw [if_pos q] at hj; rw [if_neg (by omega), if_pos q]; exact hj
       ·rw [if_neg q] at hj; have := hlt j o hj; rw [if_neg (by omega), if_neg q]; exact hj
    ·skip
     refine aI rfl ?_
     cases h
   ·skip
    have ok0 := bgn_ok c now hh 0
    have ok1 := bgn_ok c now hh 1
    rw [begL_1, show ((1 : Nat) : Int) = 1 from rfl]
    refine aA rfl ?_
    refine aA rfl ?_
    refine aC (Γ := aL) [24, 1, 6, 7, 8] (aD _ _) rfl rfl rfl (fun K hK => ?_)
    simp (disch := omega) only [Tryd.f7, go_sem, Nat.reduceAdd, Int.reduceLT, ↓reduceIte, decide_true]
    refine hK _ ?_
    refine aB ?_
    refine eC (.tmp 24) rfl rfl rfl (fun h => ?_) (fun h => ?_)
    ·skip
     refine aI rfl ?_
     refine aQ rfl ?_
     refine aB ?_
     refine aA rfl ?_
     refine aR 1 rfl rfl ?_
     refine aA rfl ?_
     refine aC (Γ := aL) [1, 6, 7, 8, 9] (aD _ _) rfl rfl rfl (fun K hK => ?_)
     simp (disch := omega) only [Tryd.f7, go_sem, ↓reduceIte]
     refine hK _ ?_
     refine aB ?_
     refine aA rfl ?_
     refine aA rfl ?_
     refine aC (Γ := aL) [28, 1, 6, 7, 8, 9] (aD _ _) rfl rfl rfl (fun K hK => ?_)
     simp (disch := omega) only [Tryd.f7, go_sem, Nat.reduceAdd, ↓reduceIte, decide_true]
     refine hK _ ?_
     refine aB ?_
     refine eC (.tmp 28) rfl rfl rfl (fun h => ?_) (fun h => ?_)
     ·skip
      refine aI rfl ?_
      refine aC (Γ := aL) [1, 6, 7, 8, 9] (aD _ _) rfl rfl rfl (fun K hK => ?_)
      simp (disch := omega) only [Tryd.f7, go_sem, ↓reduceIte]
      refine hK _ ?_
      refine aB ?_
      refine aA rfl ?_
      refine aC (Γ := bC [(19, .heap makeG)]) [1, 6, 7, 8, 9, 10] (aH okd9 aO) rfl rfl rfl (fun K hK => ?_)
      simp (disch := omega) only [Tryd.f7, go_sem, Nat.reduceAdd, Nat.reduceLeDiff, BitVec.reduceOfInt, ↓reduceIte, bgn_l1, bgn_h, ok1, hh, true_and, BitVec.reduceOfInt]
      refine hK _ ?_
      refine aB ?_
      refine aA rfl ?_
      refine aC (Γ := bC [(20, .heap mmakeG)]) [1, 6, 7, 8, 10, 12] (aH okd19 aO) rfl rfl rfl (fun K hK => ?_)
      simp (disch := omega) only [Tryd.f7, go_sem, Nat.reduceAdd, Nat.reduceLeDiff, BitVec.reduceOfInt, ↓reduceIte, bgn_m1, true_and, BitVec.reduceOfInt]
      refine hK _ ?_
      refine aB ?_
      refine aA rfl ?_
      refine aC (Γ := aL) [52, 1, 6, 7, 8, 10, 12] (aD _ _) rfl rfl rfl (fun K hK => ?_)
      simp (disch := omega) only [Tryd.f7, go_sem, Nat.reduceAdd, ↓reduceIte, decide_true]
      refine hK _ ?_
      refine aB ?_
      refine eC (.tmp 52) rfl rfl rfl (fun h => ?_) (fun h => ?_)
      ·skip
       refine aI rfl ?_
       refine aA rfl ?_
       refine aC (Γ := bC [(21, .heap seenG)]) [1, 6, 7, 8, 12] (aH okd21 aO) rfl rfl rfl (fun K hK => ?_)
       simp (disch := omega) only [Tryd.f7, go_sem, Nat.reduceAdd, ↓reduceIte, bgn_mm1, bgn_s]
       refine hK _ ?_
       refine aB ?_
       refine aC (Γ := bC [(22, .heap mseenG)]) [1, 6, 7, 8] (aH okd22 aO) rfl rfl rfl (fun K hK => ?_)
       simp (disch := omega) only [Tryd.f7, go_sem, Nat.reduceAdd, ↓reduceIte, bgn_ms, bgn_len]
       refine hK _ ?_
       refine bU (aB ?_)
       refine aC (Γ := aL) [1, 6, 7, 8] (aD _ _) rfl rfl rfl (fun K hK => ?_)
       simp (disch := omega) only [Tryd.f7, go_sem, Nat.reduceAdd, Int.reduceAdd, ↓reduceIte]
       refine hK _ ?_
       refine bT ?_
       have hl2 : (bgnMx c (nx + 7) now).L.length = 2 := rfl
       rw [hl2]
       refine ⟨2, by omega, by omega, ⟨fun x => .inr rfl, fun j o hj => hU (fun j o hj => ?_) j o hj, by simp only; omega⟩⟩
       rw [begL_2] at hj
       simp only [Nat.add_assoc, Nat.reduceAdd] at hj ⊢
       refine setM_mono (fun j o hj => ?_) j o hj
       simp only [bJ, eV] at hj ⊢
       by_cases q : j = nx + 7
       ·rw [if_pos q] at hj; rw [if_neg (by omega), if_pos q]; exact hj
       ·rw [if_neg q] at hj; have := hlt j o hj; rw [if_neg (by omega), if_neg q]; exact hj
      ·skip
       refine aI rfl ?_
       cases h
     ·skip
      refine aI rfl ?_
      cases h
    ·skip
     refine aI rfl ?_
     cases h
   ·skip
    rw [begL_2, show ((2 : Nat) : Int) = 2 from rfl]
    refine aA rfl ?_
    refine aA rfl ?_
    refine aC (Γ := aL) [24, 1, 6, 7, 8] (aD _ _) rfl rfl rfl (fun K hK => ?_)
    simp (disch := omega) only [Tryd.f7, go_sem, Nat.reduceAdd, Nat.reduceMul, Int.reduceLT, ↓reduceIte, decide_false]
    refine hK _ ?_
    refine aB ?_
    refine eC (.tmp 24) rfl rfl rfl (fun h => ?_) (fun h => ?_)
    ·skip
     refine aI rfl ?_
     cases h
    ·skip
     refine aI rfl ?_
     refine bF 0 rfl rfl ?_
     refine aY (aZ (bE ?_))
     refine aB ?_
     refine aA rfl ?_
     refine aC (Γ := aL) [4, 5] (aD _ _) rfl rfl rfl (fun K hK => ?_)
     simp (disch := omega) only [Tryd.f7, go_sem, Nat.reduceAdd, ↓reduceIte]
     refine hK _ ?_
     refine aB ?_
     refine aS rfl ?_
     exact ⟨rfl, fun j o hj => hj, by simp only; omega⟩
 ·cases hg
theorem okh7 : bX Tryd.prog GLh 7 (.heap begG) := ⟨⟨_, Tryd.func7, rfl, rfl⟩, beg_ok⟩
end Go.AX
namespace Go.AX
open Go Go.Proofs
set_option maxRecDepth 8000
theorem sortL_id {l : List W32} (h : l.Pairwise fun a b => a.toNat ≤ b.toNat) : iU l = l :=
 (sortL_perm l).eq_of_pairwise (fun _ _ _ _ h1 h2 => BitVec.eq_of_toNat_eq (Nat.le_antisymm h1 h2)) (sortL_sorted l) h
def r2 (c : CF) (a b : KY) (last : W32) (tr : List (W32 × TK)) : RC := ⟨c, [(1#32, a), (2#32, b)], last, tr⟩
def r3 (c : CF) (a b d : KY) (tr : List (W32 × TK)) : RC := ⟨c, [(1#32, a), (2#32, b), (3#32, d)], 3#32, tr⟩
def r4 (c : CF) (a b d e : KY) : RC := ⟨c, [(1#32, a), (2#32, b), (3#32, d), (4#32, e)], 4#32, []⟩
theorem all_r2 (c : CF) (a b : KY) (last : W32) (tr : List (W32 × TK)) : iP (r2 c a b last tr) = [a, b] := by
 have e : idsL (r2 c a b last tr) = [1#32, 2#32] := by show iU [1#32, 2#32] = _; exact sortL_id (by decide)
 unfold iP; rw [e]; rfl
theorem all_r3 (c : CF) (a b d : KY) (tr : List (W32 × TK)) : iP (r3 c a b d tr) = [a, b, d] := by
 have e : idsL (r3 c a b d tr) = [1#32, 2#32, 3#32] := by show iU [1#32, 2#32, 3#32] = _; exact sortL_id (by decide)
 unfold iP; rw [e]; rfl
theorem all_r4 (c : CF) (a b d e : KY) : iP (r4 c a b d e) = [a, b, d, e] := by
 have e : idsL (r4 c a b d e) = [1#32, 2#32, 3#32, 4#32] := by show iU [1#32, 2#32, 3#32, 4#32] = _; exact sortL_id (by decide)
 unfold iP; rw [e]; rfl
theorem bgn_r2 (c : CF) (now : W32) : bgnC c now 2 = r2 c (fsK c now) (scK c now (mx1 now)) 2#32 [] := rfl
theorem jH (now : W32) : mx1 now ≠ 0#32 := by
 unfold mx1
 split
 ·decide
 ·rename_i h
  intro e
  subst e
  exact h (by decide)
def thK (c : CF) (sd : S8) (t : W32) : KY := ⟨3#32, 0, 0, sd, c.h, 0#32, t, 0#32⟩
def foK (c : CF) (sd : S8) (t : W32) : KY := ⟨4#32, 1, 1, sd, c.h, 0#32, t, 0#32⟩
theorem bg_z (c : CF) (now sn t : W32) (sd : S8) (tr : List (W32 × TK)) : bgV (r2 c (fsK c now) (scK c now sn) 2#32 tr) 0 sd t = (3#32, 0, r3 c (fsK c now) (scK c now sn) (thK c sd t) tr) := by
 unfold bgV
 rw [all_r2]
 rfl
theorem bg_k (c : CF) (now sn t : W32) (sd sd2 : S8) : bgV (r3 c (fsK c now) (scK c now sn) (thK c sd t) []) 1 sd2 t = (4#32, 0, r4 c (fsK c now) (scK c now sn) (thK c sd t) (foK c sd2 t)) := by
 unfold bgV
 rw [all_r3]
 rfl
theorem bg_b0 (c : CF) (now sn t : W32) (sd sd2 sd3 : S8) (t2 : W32) : bgV (r4 c (fsK c now) (scK c now sn) (thK c sd t) (foK c sd2 t)) 0 sd3 t2 = (0#32, 140, r4 c (fsK c now) (scK c now sn) (thK c sd t) (foK c sd2 t)) := by
 unfold bgV
 rw [all_r4]
 rfl
theorem bg_b1 (c : CF) (now sn t : W32) (sd sd2 sd3 : S8) (t2 : W32) : bgV (r4 c (fsK c now) (scK c now sn) (thK c sd t) (foK c sd2 t)) 1 sd3 t2 = (0#32, 140, r4 c (fsK c now) (scK c now sn) (thK c sd t) (foK c sd2 t)) := by
 unfold bgV
 rw [all_r4]
 rfl
def fsR (c : CF) (now at' : W32) : KY := tkV (fsK c now) 3 at'
def thA (c : CF) (sd : S8) (t at' : W32) : KY := tkV (thK c sd t) 1 at'
theorem nx_r3 (c : CF) (now sn t : W32) (sd : S8) (cf : CF) (h : sn ≠ 0#32) : nxV [fsK c now, scK c now sn, thK c sd t] cf = ⟨3#32, 1, bhV t cf.pr cf.kt⟩ := by
 have e2 : iS [fsK c now, scK c now sn, thK c sd t] cf (scK c now sn) = [] := by
  unfold iS
  rw [if_neg (c := (scK c now sn).role = 0) (show ¬ (1 : Int) = 0 by decide), if_pos (by rfl), if_neg (c := (scK c now sn).st = 1) (show ¬ (2 : Int) = 1 by decide), if_pos ⟨rfl, h⟩]
  rfl
 unfold nxV alD
 rw [List.flatMap_cons, List.flatMap_cons, e2]
 rfl
theorem nx_r3' (c : CF) (now sn t at' : W32) (sd : S8) (cf : CF) (h : sn ≠ 0#32) : nxV [fsR c now at', scK c now sn, thA c sd t at'] cf = ⟨1#32, 4, bhV at' cf.pr cf.mx⟩ := by
 have e2 : iS [fsR c now at', scK c now sn, thA c sd t at'] cf (scK c now sn) = [] := by
  unfold iS
  rw [if_neg (c := (scK c now sn).role = 0) (show ¬ (1 : Int) = 0 by decide), if_pos (by rfl), if_neg (c := (scK c now sn).st = 1) (show ¬ (2 : Int) = 1 by decide), if_pos ⟨rfl, h⟩]
  rfl
 unfold nxV alD
 rw [List.flatMap_cons, List.flatMap_cons, e2]
 rfl
theorem step_no (cf : CF) (f : Nat) (C : RC) (now : W32) (out : List KY) (h : (nxV (iP C) cf).id = 0#32 ∨ ¬ (nxV (iP C) cf).w ≤ now) : jF cf (f + 1) C now out = some (out, C) := by
 rw [jF, if_pos h]
theorem step_take (c : CF) (now sn t at' : W32) (sd : S8) (cf : CF) (tr : List (W32 × TK)) (h : sn ≠ 0#32) (h1 : bhV t cf.pr cf.kt ≤ at') (h2 : ¬ bhV at' cf.pr cf.mx ≤ at') (f : Nat) :
  jF cf (f + 2) (r3 c (fsK c now) (scK c now sn) (thK c sd t) tr) at' [] = some ([fsR c now at', thA c sd t at'], r3 c (fsR c now at') (scK c now sn) (thA c sd t at') tr) := by
 have e1 := nx_r3 c now sn t sd cf h
 rw [jF, all_r3, e1, if_neg (fun e => e.elim (fun e => absurd e (show ¬ (3#32 : W32) = 0#32 by decide)) (fun e => e h1))]
 have ea : actV (gP 0 [fsK c now, scK c now sn, thK c sd t]) (r3 c (fsK c now) (scK c now sn) (thK c sd t) tr) at' [] = some ([fsR c now at'], r3 c (fsR c now at') (scK c now sn) (thK c sd t) tr) := rfl
 rw [if_pos rfl, ea, aX]
 have eg : iK 3#32 (r3 c (fsR c now at') (scK c now sn) (thK c sd t) tr).by' = some (thK c sd t) := rfl
 have et : (tnV (r3 c (fsR c now at') (scK c now sn) (thK c sd t) tr) 3#32 1 at').2 = r3 c (fsR c now at') (scK c now sn) (thA c sd t at') tr := rfl
 simp only []
 rw [eg, aX, et]
 refine step_no cf f _ at' _ (.inr ?_)
 rw [all_r3, nx_r3' c now sn t at' sd cf h]
 exact h2
end Go.AX
namespace Go.AX
open Go Go.Proofs
set_option maxRecDepth 8000
theorem plV_add {a b : W32} (h : a.toNat + b.toNat < 4294967296) : plV a b = a + b := by
 unfold plV
 rw [if_neg]
 rw [BitVec.lt_def, BitVec.toNat_sub]
 show ¬ (2 ^ 32 - a.toNat + 4294967295) % 2 ^ 32 < b.toNat
 have := a.isLt
 omega
theorem add_nat {a b : W32} (h : a.toNat + b.toNat < 4294967296) : (a + b).toNat = a.toNat + b.toNat := by
 rw [BitVec.toNat_add]
 exact Nat.mod_eq_of_lt h
theorem bhV_add {t a b : W32} (h : t.toNat + a.toNat + b.toNat < 4294967296) : bhV t a b = t + a + b := by
 unfold bhV
 rw [plV_add (a := t) (by omega), plV_add (by rw [add_nat (by omega)]; omega)]
theorem bhV_nat {t a b : W32} (h : t.toNat + a.toNat + b.toNat < 4294967296) : (bhV t a b).toNat = t.toNat + a.toNat + b.toNat := by
 rw [bhV_add h, add_nat (by rw [add_nat (by omega)]; omega), add_nat (by omega)]
theorem and3_le (x : BitVec 16) : (BitVec.setWidth 32 (x &&& 3#16)).toNat ≤ 3 := by
 rcases and3 x with e | e | e | e <;> rw [e] <;> decide
theorem set_pr (k : BitVec 16) : (setV k).pr.toNat ≤ 3 := and3_le _
theorem set_dp (k : BitVec 16) : (setV k).dp.toNat ≤ 3 := and3_le _
theorem set_kt (k : BitVec 16) : 10 ≤ (setV k).kt.toNat ∧ (setV k).kt.toNat ≤ 40 := by
 show 10 ≤ (10#32 + BitVec.setWidth 32 (k &&& 3#16) * 10#32).toNat ∧ (10#32 + BitVec.setWidth 32 (k &&& 3#16) * 10#32).toNat ≤ 40
 rcases and3 k with e | e | e | e <;> rw [e] <;> decide
theorem set_mx (k : BitVec 16) : (setV k).mx = 60#32 := rfl
theorem set_dt (k : BitVec 16) : (setV k).dt = 8#32 := rfl
theorem set_h (k : BitVec 16) : (setV k).h ≤ 10 := Nat.le_of_ble_eq_true rfl
theorem cfC_len (c : CF) : 13 ≤ (cfC c).length := Nat.le_of_ble_eq_true rfl
theorem cfC_take (c : CF) : List.take 13 (cfC c) = cfC c := rfl
theorem cfC_noOwn (c : CF) : dB (cfC c) = true := rfl
theorem cfC_l (c : CF) : (cfC c).length = 13 := rfl
theorem storeL_cf (a0 a1 a2 a3 a4 a5 a6 a7 a8 a9 a10 a11 a12 : AV) (c : CF) : dV [a0, a1, a2, a3, a4, a5, a6, a7, a8, a9, a10, a11, a12] 0 (cfC c) = cfC c := (rfl)
theorem cf_d1 (c : CF) : (List.drop 1 (cfC c)).head? = some (.w32 c.kt) := (rfl)
theorem cf_d2 (c : CF) : (List.drop 2 (cfC c)).head? = some (.w32 c.pr) := (rfl)
theorem cf_d3 (c : CF) : (List.drop 3 (cfC c)).head? = some (.w32 c.dt) := (rfl)
theorem cf_d4 (c : CF) : (List.drop 4 (cfC c)).head? = some (.w32 c.dp) := (rfl)
theorem cf_d8 (c : CF) : (List.drop 8 (cfC c)).head? = some (.w32 c.mx) := (rfl)
theorem nI_0 : ((0 : Nat) : Int) = 0 := (rfl)
theorem nI_1 : ((1 : Nat) : Int) = 1 := (rfl)
theorem nI_2 : ((2 : Nat) : Int) = 2 := (rfl)
theorem nI_3 : ((3 : Nat) : Int) = 3 := (rfl)
theorem nI_4 : ((4 : Nat) : Int) = 4 := (rfl)
attribute [go_sem] nI_0 nI_1 nI_2 nI_3 nI_4 cf_d1 cf_d2 cf_d3 cf_d4 cf_d8 cfC_len cfC_take cfC_noOwn cfC_l storeL_cf
theorem ok_r2 (c : CF) (now : W32) (hh : c.h ≤ 10) : ROk (r2 c (fsK c now) (scK c now (mx1 now)) 2#32 []) := bgn_ok c now hh 2
theorem r2_last (c : CF) (a b : KY) (tr : List (W32 × TK)) : (r2 c a b 2#32 tr).last.toNat < 1000000 := by show (2#32 : W32).toNat < _; decide
theorem r3_last (c : CF) (a b d : KY) (tr : List (W32 × TK)) : (r3 c a b d tr).last.toNat < 1000000 := by show (3#32 : W32).toNat < _; decide
theorem r4_last (c : CF) (a b d e : KY) : (r4 c a b d e).last.toNat < 1000000 := by show (4#32 : W32).toNat < _; decide
theorem r2_h (c : CF) (a b : KY) (l : W32) (tr : List (W32 × TK)) : (r2 c a b l tr).c.h = c.h := rfl
theorem r3_h (c : CF) (a b d : KY) (tr : List (W32 × TK)) : (r3 c a b d tr).c.h = c.h := rfl
theorem r4_h (c : CF) (a b d e : KY) : (r4 c a b d e).c.h = c.h := rfl
theorem r2_by (c : CF) (a b : KY) (l : W32) (tr : List (W32 × TK)) : (r2 c a b l tr).by'.length = 2 := rfl
theorem r3_by (c : CF) (a b d : KY) (tr : List (W32 × TK)) : (r3 c a b d tr).by'.length = 3 := rfl
theorem r4_by (c : CF) (a b d e : KY) : (r4 c a b d e).by'.length = 4 := rfl
attribute [go_sem] r2_last r3_last r4_last r2_h r3_h r4_h r2_by r3_by r4_by all_r2 all_r3 all_r4 bgn_r2 bg_z bg_k bg_b0 bg_b1
theorem sg_a (c : CF) (now sn t at' : W32) (sd : S8) : sgL 0 [fsR c now at', scK c now sn, thA c sd t at'] = [3#32] := rfl
theorem step_take100 (c : CF) (now sn t at' : W32) (sd : S8) (cf : CF) (tr : List (W32 × TK)) (h : sn ≠ 0#32) (h1 : bhV t cf.pr cf.kt ≤ at') (h2 : ¬ bhV at' cf.pr cf.mx ≤ at') :
  jF cf 100 (r3 c (fsK c now) (scK c now sn) (thK c sd t) tr) at' [] = some ([fsR c now at', thA c sd t at'], r3 c (fsR c now at') (scK c now sn) (thA c sd t at') tr) := step_take c now sn t at' sd cf tr h h1 h2 98
def sdN (n : B8) : S8 := ⟨n, 0#8, 0#8, 0#8, 0#8, 0#8, 0#8, 0#8⟩
def kn21G : List AV → Option AV
 | [] => some (.b true)
 | _ => none
theorem kn21G_eq : kn21G [] = some (.b true) := (rfl)
attribute [go_sem] kn21G_eq
set_option maxHeartbeats 1000000 in
theorem kn21_ok : cL Tryd.prog GLh 5 kn21G := by
 refine cC Tryd.func5 (aT rfl) ?_
 intro args r hg
 unfold kn21G at hg
 split at hg
 ·obtain rfl := Option.some.inj hg
  refine ⟨Nat.le_of_ble_eq_true rfl, fun nx => ?_⟩
  have hpr := set_pr 0#16
  have hkt := set_kt 0#16
  have hmx := set_mx 0#16
  have hh := set_h 0#16
  obtain ⟨c, hc⟩ : ∃ c, setV 0#16 = c := ⟨_, rfl⟩
  rw [hc] at hpr hkt hmx hh
  have ok2 := ok_r2 c 5#32 hh
  have hb1 : bhV 10#32 c.pr c.kt = 10#32 + c.pr + c.kt := bhV_add (by show 10 + _ + _ < _; omega)
  have hb2 : (10#32 + c.pr + c.kt).toNat = 10 + c.pr.toNat + c.kt.toNat := by rw [← hb1]; exact bhV_nat (by show 10 + _ + _ < _; omega)
  have hm60 : c.mx.toNat = 60 := by rw [hmx]; rfl
  have hst := step_take100 c 5#32 (mx1 5#32) 10#32 (10#32 + c.pr + c.kt) (sdN 9#8) c [] (jH _) (by rw [hb1]; exact BitVec.le_refl _) (by
   rw [BitVec.le_def, bhV_nat (by omega)]; omega)
  have hnx := nx_r3 c 5#32 (mx1 5#32) 10#32 (sdN 9#8) c (jH _)
  rw [hb1] at hnx
  unfold sdN at hst hnx
  refine aA rfl ?_
  refine aC (Γ := aL) [] (aD _ _) rfl rfl rfl (fun K hK => ?_)
  simp (disch := omega) only [Tryd.f5, go_sem]
  refine hK _ ?_
  refine aB ?_
  refine aA rfl ?_
  refine aC (Γ := bC [(6, .pure false setG21)]) [1] (aH okh6 aO) rfl rfl rfl (fun K hK => ?_)
  simp (disch := omega) only [Tryd.f5, go_sem, Nat.reduceAdd, Nat.reduceLeDiff, Int.reduceLE, Int.reduceLT, BitVec.reduceOfInt, ↓reduceIte, hc]
  refine hK _ ?_
  refine aB ?_
  refine awp_rp 1 (nx + 1 + 1) 0 rfl (by simp (disch := omega) only [aV, ↓reduceIte, eq_self] <;> rfl) ?_
  refine fF [1] ?_
  simp only [iB, fU, eB, ↓reduceIte, List.drop_zero]
  refine aA rfl ?_
  refine aC (Γ := bC [(7, .heap begG)]) [1, 2] (aH okh7 aO) rfl rfl rfl (fun K hK => ?_)
  simp (disch := omega) only [Tryd.f5, go_sem, Nat.reduceAdd, Nat.reduceLeDiff, Int.reduceLE, Int.reduceLT, BitVec.reduceOfInt, ↓reduceIte, hh]
  refine hK _ ?_
  refine aB ?_
  refine aA rfl ?_
  refine aA rfl ?_
  refine aC (Γ := aL) [17, 1, 2] (aD _ _) rfl rfl rfl (fun K hK => ?_)
  simp (disch := omega) only [Tryd.f5, go_sem, Nat.reduceAdd, ↓reduceIte, isP31]
  refine hK _ ?_
  refine aB ?_
  refine eC (.tmp 17) rfl rfl rfl (fun h => ?_) (fun h => ?_)
  ·skip
   refine aI rfl ?_
   cases h
  ·skip
   refine aI rfl ?_
   refine aQ rfl ?_
   refine aB ?_
   refine aA rfl ?_
   refine aC (Γ := bC [(8, .heap bgG)]) [1, 2, 4, 5] (aH okh8 aO) rfl rfl rfl (fun K hK => ?_)
   simp (disch := omega) only [Tryd.f5, go_sem, Nat.reduceAdd, Nat.reduceLeDiff, Int.reduceLE, Int.reduceLT, BitVec.reduceOfInt, ↓reduceIte, ok2, hh, true_and]
   refine hK _ ?_
   refine aB ?_
   refine aA rfl ?_
   refine bB (Γ := bC [(10, .heap allG), (16, .pure true nxG)]) (fun k => if k = 2 then 1 else if k = 1 then 0 else 2) [1, 2, 4, 5, 6, 7, 8] bZ (aH okd15 (aH okh14 aO)) rfl rfl rfl (by kernel_rfl) (fun K hK => ?_)
   simp (disch := omega) only [Tryd.f5, go_sem, Nat.reduceAdd, Nat.reduceMul, Nat.reduceLeDiff, ↓reduceIte, hnx, duC]
   refine hK _ ?_
   refine aB ?_
   refine aA rfl ?_
   refine aC (Γ := bC [(9, .heap stepG)]) [1, 2, 4, 5, 6, 7, 8, 9] (aH okh12 aO) rfl rfl rfl (fun K hK => ?_)
   simp (disch := omega) only [Tryd.f5, go_sem, Nat.reduceAdd, Nat.reduceLeDiff, ↓reduceIte, hst]
   refine hK _ ?_
   refine aB ?_
   refine aA rfl ?_
   refine aC (Γ := bC [(10, .heap allG), (15, .pure false sgG), (14, .pure true idsG)]) [0] (aH okd15 (aH okh11 (aH okh10 aO))) rfl rfl rfl (fun K hK => ?_)
   simp (maxSteps := 400000) (disch := omega) only [Tryd.f5, go_sem, Nat.reduceAdd, Nat.reduceMul, Nat.reduceLeDiff, Nat.reduceLT, Int.reduceLE, Int.reduceLT, BitVec.reduceOfInt, ↓reduceIte, sg_a, decide_true]
   refine hK _ ?_
   refine aB ?_
   refine aS rfl ?_
   simp (disch := omega) only [cN, bV, bK, bQ, Tryd.f5, go_sem, ↓reduceIte]
 ·cases hg
theorem okh5 : bX Tryd.prog GLh 5 (.pure true kn21G) := ⟨⟨_, Tryd.func5, rfl, rfl⟩, kn21_ok⟩
end Go.AX
namespace Go.AX
open Go Go.Proofs
set_option maxRecDepth 8000
theorem spl_len (a : B8) : (cK (c8 (List.replicate 8 0#8)) 0 [.w8 a]).length = 8 := (rfl)
theorem spl_2 (a b : B8) : cK (cK (c8 (List.replicate 8 0#8)) 0 [.w8 a]) 1 [.w8 b] = [.w8 a, .w8 b, .w8 0#8, .w8 0#8, .w8 0#8, .w8 0#8, .w8 0#8, .w8 0#8] := (rfl)
attribute [go_sem] spl_len spl_2
theorem un32_1 (a : W32) : un32 [.w32 a] = some [a] := un32_c32 [a]
end Go.AX
namespace Go.AX
open Go Go.Proofs
set_option maxRecDepth 8000
theorem step_no100 (c : CF) (now sn t at' t1 : W32) (sd : S8) (cf : CF) (tr : List (W32 × TK)) (h : sn ≠ 0#32) (h2 : ¬ bhV at' cf.pr cf.mx ≤ t1) :
  jF cf 100 (r3 c (fsR c now at') (scK c now sn) (thA c sd t at') tr) t1 [] = some ([], r3 c (fsR c now at') (scK c now sn) (thA c sd t at') tr) := by
 refine step_no cf 99 _ t1 _ (.inr ?_)
 rw [all_r3, nx_r3' c now sn t at' sd cf h]
 exact h2
end Go.AX
namespace Go.AX
open Go Go.Proofs
set_option maxRecDepth 8000
def trC' (C : RC) (k : KY) : RC := { C with tr := trP C k }
theorem trC_eq (C : RC) (k : KY) : { C with tr := trP C k } = trC' C k := rfl
def dsV (tag : BitVec 16) (now : W32) : List KY → RC → Option (Int × RC)
 | [], C => some (130, C)
 | x :: r, C => aK (iK x.id C.by') fun k => if tagL (dkB k) = tag then some (snV (trC' C k) x.id now) else dsV tag now r (trC' C k)
@[irreducible] def dsN21 : Nat := 200000
theorem dsN21_eq : dsN21 = 200000 := by unfold dsN21; rfl
noncomputable def dsG21 : List AV → H → Nat → Option (AV × H × Nat)
 | [.op d 0, .w16 tag, .w32 now], hp, nx => aK (iN hp d) fun t => aN (ROk t.C ∧ 0 < t.C.by'.length ∧ t.C.by'.length ≤ 100) (aK (dsV tag now (gP 1 (iP t.C)) t.C) fun R => some (.i R.1, iL d t.s t.m R.2 hp, nx + dsN21))
 | _, _, _ => none
theorem dsG21_eq (d : Nat) (tag : BitVec 16) (now : W32) (hp : H) (nx : Nat) : dsG21 [.op d 0, .w16 tag, .w32 now] hp nx = aK (iN hp d) fun t => aN (ROk t.C ∧ 0 < t.C.by'.length ∧ t.C.by'.length ≤ 100) (aK (dsV tag now (gP 1 (iP t.C)) t.C) fun R => some (.i R.1, iL d t.s t.m R.2 hp, nx + dsN21)) := (rfl)
attribute [go_sem] dsG21_eq
structure DSI where
 q : Nat
 C : RC
 c : Nat
set_option maxHeartbeats 2000000 in
theorem ds21_ok : cQ Tryd.prog GLh 13 dsG21 := by
 refine gF Tryd.func13 (aT rfl) ?_
 intro args hp nx r hp' nx' hg
 unfold dsG21 at hg
 split at hg
 ·rename_i d tag now
  replace hg := aJ hg; obtain ⟨⟨s, m, C⟩, hD0, hg⟩ := hg
  have hD := iV hD0
  replace hg := aP hg; obtain ⟨⟨hok, hpos, hC⟩, hg⟩ := hg
  replace hg := aJ hg; obtain ⟨R, hR, hg⟩ := hg
  simp only [Option.some.injEq, Prod.mk.injEq] at hg hD hC hok hR hpos; obtain ⟨rfl, rfl, rfl⟩ := hg
  refine ⟨Nat.le_of_ble_eq_true rfl, Nat.le_add_right _ _, fun hnone => ?_⟩
  have hN := dsN21_eq
  have h1 := hD.hd; have h2 := hD.hs; have h3 := hD.hm
  obtain ⟨n1, n2, n3, n4, n5, n6⟩ := hD.ne
  have hlt : ∀ k o, hp k = some o → k < nx := fun k o hk => gI hnone hk
  have hd := hlt _ _ h1
  have hs := hlt _ _ h2
  have hm := hlt _ _ h3
  have hset := iQ hD
  have hC2 : C.by'.length ≤ 1000 := by omega
  have hal := allL_len C
  obtain ⟨Z, hZ⟩ : ∃ Z, gP 1 (iP C) = Z := ⟨_, rfl⟩
  have hZl : Z.length ≤ 100 := by have := jP 1 (iP C); rw [hZ] at this; omega
  rw [hZ] at hR
  rw [← hset, setR_set]
  refine aA rfl ?_
  refine aC (Γ := aL) [0, 1, 2] (aD _ _) rfl rfl rfl (fun K hK => ?_)
  simp (disch := omega) only [Tryd.f13, go_sem, Nat.reduceAdd, ↓reduceIte]
  refine hK _ ?_
  refine aB ?_
  refine aA rfl ?_
  refine aA rfl ?_
  refine aC (Γ := bC [(10, .heap allG), (23, .pure false ofG)]) [0, 1, 2, 13, 14, 15] (aH okd15 (aH okh21 aO)) rfl rfl rfl (fun K hK => ?_)
  simp (disch := omega) only [Tryd.f13, go_sem, Nat.reduceAdd, ↓reduceIte, hC2, hal, hpos, hZ]
  refine hK _ ?_
  refine aB ?_
  refine aR 0 rfl rfl ?_
  refine bR (fun p : DSI => { fr := [(0, .op d 0), (1, .w16 tag), (2, .w32 now), (13, .sl Z.length (hP Z)), (14, .i Z.length), (15, .i p.q)], hp := iL d s m p.C hp, nx := 0, cx := p.c }) (fun p => dsV tag now (Z.drop p.q) p.C = some R ∧ p.q ≤ Z.length ∧ ROk p.C ∧ p.c ≤ nx + 100000 + 900 * p.q ∧ nx ≤ p.c) (fun p => Z.length - p.q) rfl ⟨⟨0, C, _⟩, ⟨hR, Nat.zero_le _, hok, by simp only; omega, by simp only; omega⟩, ⟨fun x => .inr rfl, fun j o hj => hj, Nat.le_refl _⟩⟩ ?_
  rintro ⟨q, C1, c1⟩ ⟨hac, hq, hok1, hcc, hcc2⟩ n0
  simp only at hac hq hok1 hcc hcc2 ⊢
  refine aA rfl ?_
  refine aC (Γ := aL) [16, 0, 1, 2, 13, 14, 15] (aD _ _) rfl rfl rfl (fun K hK => ?_)
  simp (disch := omega) only [Tryd.f13, go_sem, ↓reduceIte]
  refine hK _ ?_
  refine aB ?_
  refine aA rfl ?_
  refine aW (.tmp 16) rfl rfl rfl (fun h => ?_) (fun h => ?_)
  ·skip
   refine aI rfl ?_
   have hqZ : q < Z.length := by omega
   have hrow := kys_row Z q hqZ
   have hkl := iJ Z
   have hdl : 15 ≤ (List.drop (15 * q) (hP Z)).length := by rw [List.length_drop]; omega
   have e15 : q * 15 = 15 * q := by omega
   have hdr : Z.drop q = kyA Z q :: Z.drop (q + 1) := by rw [List.drop_eq_getElem_cons hqZ, kyA_get Z q hqZ]
   obtain ⟨X, hX⟩ : ∃ X, kyA Z q = X := ⟨_, rfl⟩
   rw [hX] at hrow hdr
   rw [hdr, dsV] at hac
   replace hac := aJ hac; obtain ⟨k, hk, hac⟩ := hac
   have hok2 : ROk (trC' C1 k) := hok1.trP (by rw [(hok1.key _ _ hk).1]; exact hk)
   have hdk := dkB_len k
   have hdd : dtN k = 135 ∨ dtN k = 130 := by unfold dtN; split <;> simp
   refine aQ rfl ?_
   refine aB ?_
   refine aA rfl ?_
   refine aR 1 rfl rfl ?_
   refine aA rfl ?_
   refine aC (Γ := aL) [0, 1, 2, 8, 13, 14, 15] (aD _ _) rfl rfl rfl (fun K hK => ?_)
   simp (disch := omega) only [Tryd.f13, go_sem, Nat.reduceAdd, Nat.reduceLeDiff, ↓reduceIte, hrow, hdl, e15]
   refine hK _ ?_
   refine aB ?_
   refine aA rfl ?_
   refine aC (Γ := bC [(11, .heap datG)]) [0, 1, 2, 8, 9, 13, 14, 15] (aH okd11 aO) rfl rfl rfl (fun K hK => ?_)
   simp (disch := omega) only [Tryd.f13, go_sem, Nat.reduceAdd, Nat.reduceLT, ↓reduceIte, kyC, hk, hok1, trC_eq, List.head?_cons, List.drop_zero]
   refine hK _ ?_
   refine aB ?_
   refine aA rfl ?_
   refine aC (Γ := bC [(33, .pure true tagG)]) [29, 0, 1, 2, 8, 13, 14, 15] (aH ok40 aO) rfl rfl rfl (fun K hK => ?_)
   simp (disch := omega) only [Tryd.f13, go_sem, Nat.reduceAdd, Nat.reduceLeDiff, ↓reduceIte, hdk, un8_c8]
   refine hK _ ?_
   refine aB ?_
   by_cases ht : tagL (dkB k) = tag
   ·skip
    rw [if_pos ht] at hac
    obtain rfl := Option.some.inj hac
    refine aW (.tmp 29) rfl rfl rfl (fun h => ?_) (fun h => ?_)
    ·skip
     refine aI rfl ?_
     refine aA rfl ?_
     refine aC (Γ := bC [(21, .heap seenG)]) [6] (aH okd21 aO) rfl rfl rfl (fun K hK => ?_)
     simp (disch := omega) only [Tryd.f13, go_sem, Nat.reduceAdd, Nat.reduceLT, ↓reduceIte, List.head?_cons, List.drop_zero]
     refine hK _ ?_
     refine aB ?_
     refine aS rfl ?_
     refine bN (bI (dF (bN (bI ?_))))
     refine ⟨rfl, fun j oo hj => hU (fun j oo hj => ?_) j oo hj, by simp only; omega⟩
     have := hlt j oo hj
     simp (disch := omega) only [aV, bY, ↓reduceIte]
     exact hj
    ·skip
     refine aI rfl ?_
     exact absurd ht h
   ·skip
    rw [if_neg ht] at hac
    refine aW (.tmp 29) rfl rfl rfl (fun h => ?_) (fun h => ?_)
    ·skip
     refine aI rfl ?_
     exact absurd h ht
    ·skip
     refine aI rfl ?_
     refine aQ rfl ?_
     refine bU (aB ?_)
     refine aC (Γ := aL) [0, 1, 2, 13, 14, 15] (aD _ _) rfl rfl rfl (fun K hK => ?_)
     simp (disch := omega) only [Tryd.f13, go_sem, Nat.reduceAdd, ↓reduceIte]
     refine hK _ ?_
     refine bT ?_
     refine ⟨⟨q + 1, trC' C1 k, _⟩, ⟨hac, by simp only; omega, hok2, by simp only; omega, by simp only; omega⟩, by simp only; omega, ⟨fun x => .inr (by simp only [Int.natCast_add, Int.natCast_one]), fun j oo hj => hU (fun j oo hj => ?_) j oo hj, Nat.le_refl _⟩⟩
     have := hlt j oo hj
     simp (disch := omega) only [aV, bY, ↓reduceIte]
     exact hj
  ·skip
   refine aI rfl ?_
   refine bF 0 rfl rfl ?_
   refine aY (aZ (bE ?_))
   refine aB ?_
   refine aA rfl ?_
   obtain rfl : q = Z.length := by omega
   rw [List.drop_length, dsV] at hac
   obtain rfl := Option.some.inj hac
   refine aC (Γ := aL) [6] (aD _ _) rfl rfl rfl (fun K hK => ?_)
   simp (disch := omega) only [Tryd.f13, go_sem, ↓reduceIte]
   refine hK _ ?_
   refine aB ?_
   refine aS rfl ?_
   exact ⟨rfl, fun j o hj => hj, by simp only; omega⟩
 ·cases hg
theorem okg13 : bX Tryd.prog GLh 13 (.heap dsG21) := ⟨⟨_, Tryd.func13, rfl, rfl⟩, ds21_ok⟩
end Go.AX
namespace Go.AX
open Go Go.Proofs
set_option maxRecDepth 8000
theorem step_nol (cf : CF) (f : Nat) (C : RC) (now : W32) (out L : List KY) (D : DU) (hL : iP C = L) (hD : nxV L cf = D) (h : D.id = 0#32 ∨ ¬ D.w ≤ now) : jF cf (f + 1) C now out = some (out, C) :=
 step_no cf f C now out (by rw [hL, hD]; exact h)
theorem step_one (cf : CF) (f : Nat) (C : RC) (now : W32) (out L : List KY) (D : DU) (k : KY) (hL : iP C = L) (hD : nxV L cf = D) (h1 : D.id ≠ 0#32) (h2 : D.w ≤ now) (h3 : D.st ≠ 1) (hk : iK D.id C.by' = some k) :
  jF cf (f + 1) C now out = jF cf f (tnV C D.id D.st now).2 now (out ++ [tkV k D.st now]) := by
 rw [jF, hL, hD, if_neg (fun e => e.elim h1 (fun e => e h2)), if_neg h3, aX]
 simp only []
 rw [hk, aX]
theorem nx_r2 (c : CF) (now sn : W32) (cf : CF) (h : sn ≠ 0#32) : nxV [fsK c now, scK c now sn] cf = du0 := by
 have e2 : iS [fsK c now, scK c now sn] cf (scK c now sn) = [] := by
  unfold iS
  rw [if_neg (c := (scK c now sn).role = 0) (show ¬ (1 : Int) = 0 by decide), if_pos (by rfl), if_neg (c := (scK c now sn).st = 1) (show ¬ (2 : Int) = 1 by decide), if_pos ⟨rfl, h⟩]
  rfl
 unfold nxV alD
 rw [List.flatMap_cons, List.flatMap_cons, e2]
 rfl
theorem step_r2 (c : CF) (now sn t : W32) (cf : CF) (tr : List (W32 × TK)) (h : sn ≠ 0#32) : jF cf 100 (r2 c (fsK c now) (scK c now sn) 2#32 tr) t [] = some ([], r2 c (fsK c now) (scK c now sn) 2#32 tr) :=
 step_nol cf 99 _ _ _ _ _ (all_r2 c _ _ _ tr) (nx_r2 c now sn cf h) (.inl rfl)
theorem ds_r2 (c : CF) (now sn t : W32) (tag : BitVec 16) (tr : List (W32 × TK)) (h : sn ≠ 0#32) : ∃ n, (n = 130 ∨ n = 131) ∧ ∃ tr', dsV tag t (gP 1 [fsK c now, scK c now sn]) (r2 c (fsK c now) (scK c now sn) 2#32 tr) = some (n, r2 c (fsK c now) (scK c now sn) 2#32 tr') := by
 have e : gP 1 [fsK c now, scK c now sn] = [scK c now sn] := rfl
 have eg : iK (scK c now sn).id (r2 c (fsK c now) (scK c now sn) 2#32 tr).by' = some (scK c now sn) := rfl
 rw [e, dsV, eg, aX]
 by_cases ht : tagL (dkB (scK c now sn)) = tag
 ·refine ⟨131, .inr rfl, trP (r2 c (fsK c now) (scK c now sn) 2#32 tr) (scK c now sn), ?_⟩
  rw [if_pos ht]
  have eg2 : iK (scK c now sn).id (trC' (r2 c (fsK c now) (scK c now sn) 2#32 tr) (scK c now sn)).by' = some (scK c now sn) := rfl
  rw [snV_y eg2, if_pos (.inr (.inr h))]
  rfl
 ·refine ⟨130, .inl rfl, trP (r2 c (fsK c now) (scK c now sn) 2#32 tr) (scK c now sn), ?_⟩
  rw [if_neg ht, dsV]
  rfl
def rg (c : CF) (a b : KY) (tr : List (W32 × TK)) : RC := ⟨c, [(2#32, a), (3#32, b)], 3#32, tr⟩
theorem all_rg (c : CF) (a b : KY) (tr : List (W32 × TK)) : iP (rg c a b tr) = [a, b] := by
 have e : idsL (rg c a b tr) = [2#32, 3#32] := by show iU [2#32, 3#32] = _; exact sortL_id (by decide)
 unfold iP; rw [e]; rfl
theorem step_wait (c : CF) (now sn t t1 : W32) (sd : S8) (cf : CF) (tr : List (W32 × TK)) (h : sn ≠ 0#32) (h2 : ¬ bhV t cf.pr cf.kt ≤ t1) :
  jF cf 100 (r3 c (fsK c now) (scK c now sn) (thK c sd t) tr) t1 [] = some ([], r3 c (fsK c now) (scK c now sn) (thK c sd t) tr) :=
 step_nol cf 99 _ _ _ _ _ (all_r3 c _ _ _ tr) (nx_r3 c now sn t sd cf h) (.inr h2)
theorem nx_rg (c : CF) (now sn t at' : W32) (sd : S8) (cf : CF) (h : sn ≠ 0#32) : nxV [scK c now sn, thA c sd t at'] cf = du0 := by
 have e2 : iS [scK c now sn, thA c sd t at'] cf (scK c now sn) = [] := by
  unfold iS
  rw [if_neg (c := (scK c now sn).role = 0) (show ¬ (1 : Int) = 0 by decide), if_pos (by rfl), if_neg (c := (scK c now sn).st = 1) (show ¬ (2 : Int) = 1 by decide), if_pos ⟨rfl, h⟩]
  rfl
 unfold nxV alD
 rw [List.flatMap_cons, e2]
 rfl
theorem step_gone (c : CF) (now sn t at' t2 : W32) (sd : S8) (cf : CF) (tr : List (W32 × TK)) (h : sn ≠ 0#32) (h2 : bhV at' cf.pr cf.mx ≤ t2) :
  jF cf 100 (r3 c (fsR c now at') (scK c now sn) (thA c sd t at') tr) t2 [] = some ([tkV (fsR c now at') 4 t2], rg c (scK c now sn) (thA c sd t at') (delK 1#32 tr)) := by
 rw [step_one cf 99 _ _ _ _ _ (fsR c now at') (all_r3 c _ _ _ tr) (nx_r3' c now sn t at' sd cf h) (show (1#32 : W32) ≠ 0#32 by decide) h2 (show (4 : Int) ≠ 1 by decide) rfl]
 exact step_nol cf 98 _ _ _ _ _ (all_rg c _ _ _) (nx_rg c now sn t at' sd cf h) (.inl rfl)
def ksK (c : CF) (sd : S8) (t : W32) : KY := ⟨3#32, 1, 1, sd, c.h, 0#32, t, 0#32⟩
def ksR (c : CF) (sd : S8) (t at' : W32) : KY := tkV (ksK c sd t) 2 at'
def ksS (c : CF) (sd : S8) (t at' s : W32) : KY := { ksR c sd t at' with seen := mx1 s }
theorem bg_w (c : CF) (now sn t : W32) (sd : S8) (tr : List (W32 × TK)) : bgV (r2 c (fsK c now) (scK c now sn) 2#32 tr) 1 sd t = (3#32, 0, r3 c (fsK c now) (scK c now sn) (ksK c sd t) tr) := by
 unfold bgV
 rw [all_r2]
 rfl
theorem ok_w {c : CF} (now t : W32) (sd : S8) (hh : c.h ≤ 10) : ROk (r3 c (fsK c now) (scK c now (mx1 now)) (ksK c sd t) []) := (ok_r2 c now hh).mk' (r2_last _ _ _ _) hh 1 sd 1 t
theorem sck_due (L : List KY) (c : CF) (now sn : W32) (cf : CF) (h : sn ≠ 0#32) (hL : (gP 1 L).filter (fun y => decide (y.id < 2#32)) = []) : iS L cf (scK c now sn) = [] := by
 unfold iS
 rw [if_neg (c := (scK c now sn).role = 0) (show ¬ (1 : Int) = 0 by decide), if_pos (by rfl), if_neg (c := (scK c now sn).st = 1) (show ¬ (2 : Int) = 1 by decide), if_pos ⟨rfl, h⟩]
 unfold dueI
 rw [show (scK c now sn).id = 2#32 from rfl, hL]
 rfl
theorem nx_w1 (c : CF) (now sn t : W32) (sd : S8) (cf : CF) (h : sn ≠ 0#32) : nxV [fsK c now, scK c now sn, ksK c sd t] cf = ⟨3#32, 2, bhV t cf.pr cf.kt⟩ := by
 have e2 := sck_due [fsK c now, scK c now sn, ksK c sd t] c now sn cf h rfl
 unfold nxV alD
 rw [List.flatMap_cons, List.flatMap_cons, e2]
 rfl
theorem nx_w2 (c : CF) (now sn t at' : W32) (sd : S8) (cf : CF) (h : sn ≠ 0#32) : nxV [fsK c now, scK c now sn, ksR c sd t at'] cf = du0 := by
 have e2 := sck_due [fsK c now, scK c now sn, ksR c sd t at'] c now sn cf h rfl
 unfold nxV alD
 rw [List.flatMap_cons, List.flatMap_cons, e2]
 rfl
theorem ks_due (L : List KY) (c : CF) (sd : S8) (t at' s : W32) (cf : CF) (K : KY) (hL : (gP 1 L).filter (fun y => decide (y.id < 3#32)) = [K]) : iS L cf (ksS c sd t at' s) = [⟨K.id, 4, bhV (mx1 s) cf.dp cf.dt⟩] := by
 unfold iS
 rw [if_neg (c := (ksS c sd t at' s).role = 0) (show ¬ (1 : Int) = 0 by decide), if_pos (by rfl), if_neg (c := (ksS c sd t at' s).st = 1) (show ¬ (2 : Int) = 1 by decide), if_pos ⟨rfl, jH s⟩]
 unfold dueI
 rw [show (ksS c sd t at' s).id = 3#32 from rfl, hL]
 rfl
theorem nx_w3 (c : CF) (now sn t at' s : W32) (sd : S8) (cf : CF) (h : sn ≠ 0#32) : nxV [fsK c now, scK c now sn, ksS c sd t at' s] cf = ⟨2#32, 4, bhV (mx1 s) cf.dp cf.dt⟩ := by
 have e2 := sck_due [fsK c now, scK c now sn, ksS c sd t at' s] c now sn cf h rfl
 have e3 := ks_due [fsK c now, scK c now sn, ksS c sd t at' s] c sd t at' s cf (scK c now sn) rfl
 unfold nxV alD
 rw [List.flatMap_cons, List.flatMap_cons, List.flatMap_cons, e2, e3]
 rfl
def rh (c : CF) (a b : KY) (tr : List (W32 × TK)) : RC := ⟨c, [(1#32, a), (3#32, b)], 3#32, tr⟩
theorem all_rh (c : CF) (a b : KY) (tr : List (W32 × TK)) : iP (rh c a b tr) = [a, b] := by
 have e : idsL (rh c a b tr) = [1#32, 3#32] := by show iU [1#32, 3#32] = _; exact sortL_id (by decide)
 unfold iP; rw [e]; rfl
theorem nx_w4 (c : CF) (now t at' s : W32) (sd : S8) (cf : CF) : nxV [fsK c now, ksS c sd t at' s] cf = du0 := by
 have e3 : iS [fsK c now, ksS c sd t at' s] cf (ksS c sd t at' s) = [] := by
  unfold iS
  rw [if_neg (c := (ksS c sd t at' s).role = 0) (show ¬ (1 : Int) = 0 by decide), if_pos (by rfl), if_neg (c := (ksS c sd t at' s).st = 1) (show ¬ (2 : Int) = 1 by decide), if_pos ⟨rfl, jH s⟩]
  rfl
 unfold nxV alD
 rw [List.flatMap_cons, List.flatMap_cons, e3]
 rfl
theorem step_w1 (c : CF) (now sn t t1 : W32) (sd : S8) (cf : CF) (tr : List (W32 × TK)) (h : sn ≠ 0#32) (h2 : ¬ bhV t cf.pr cf.kt ≤ t1) :
  jF cf 100 (r3 c (fsK c now) (scK c now sn) (ksK c sd t) tr) t1 [] = some ([], r3 c (fsK c now) (scK c now sn) (ksK c sd t) tr) :=
 step_nol cf 99 _ _ _ _ _ (all_r3 c _ _ _ tr) (nx_w1 c now sn t sd cf h) (.inr h2)
theorem step_w2 (c : CF) (now sn t at' : W32) (sd : S8) (cf : CF) (tr : List (W32 × TK)) (h : sn ≠ 0#32) (h2 : bhV t cf.pr cf.kt ≤ at') :
  jF cf 100 (r3 c (fsK c now) (scK c now sn) (ksK c sd t) tr) at' [] = some ([ksR c sd t at'], r3 c (fsK c now) (scK c now sn) (ksR c sd t at') tr) := by
 rw [step_one cf 99 _ _ _ _ _ (ksK c sd t) (all_r3 c _ _ _ tr) (nx_w1 c now sn t sd cf h) (show (3#32 : W32) ≠ 0#32 by decide) h2 (show (2 : Int) ≠ 1 by decide) rfl]
 exact step_nol cf 98 _ _ _ _ _ (all_r3 c _ _ _ tr) (nx_w2 c now sn t at' sd cf h) (.inl rfl)
theorem step_w3 (c : CF) (now sn t at' s : W32) (sd : S8) (cf : CF) (tr : List (W32 × TK)) (h : sn ≠ 0#32) :
  jF cf 100 (r3 c (fsK c now) (scK c now sn) (ksR c sd t at') tr) s [] = some ([], r3 c (fsK c now) (scK c now sn) (ksR c sd t at') tr) :=
 step_nol cf 99 _ _ _ _ _ (all_r3 c _ _ _ tr) (nx_w2 c now sn t at' sd cf h) (.inl rfl)
theorem step_w4 (c : CF) (now sn t at' s t1 : W32) (sd : S8) (cf : CF) (tr : List (W32 × TK)) (h : sn ≠ 0#32) (h2 : ¬ bhV (mx1 s) cf.dp cf.dt ≤ t1) :
  jF cf 100 (r3 c (fsK c now) (scK c now sn) (ksS c sd t at' s) tr) t1 [] = some ([], r3 c (fsK c now) (scK c now sn) (ksS c sd t at' s) tr) :=
 step_nol cf 99 _ _ _ _ _ (all_r3 c _ _ _ tr) (nx_w3 c now sn t at' s sd cf h) (.inr h2)
theorem step_w5 (c : CF) (now sn t at' s t2 : W32) (sd : S8) (cf : CF) (tr : List (W32 × TK)) (h : sn ≠ 0#32) (h2 : bhV (mx1 s) cf.dp cf.dt ≤ t2) :
  jF cf 100 (r3 c (fsK c now) (scK c now sn) (ksS c sd t at' s) tr) t2 [] = some ([tkV (scK c now sn) 4 t2], rh c (fsK c now) (ksS c sd t at' s) (delK 2#32 tr)) := by
 rw [step_one cf 99 _ _ _ _ _ (scK c now sn) (all_r3 c _ _ _ tr) (nx_w3 c now sn t at' s sd cf h) (show (2#32 : W32) ≠ 0#32 by decide) h2 (show (4 : Int) ≠ 1 by decide) rfl]
 exact step_nol cf 98 _ _ _ _ _ (all_rh c _ _ _) (nx_w4 c now t at' s sd cf) (.inl rfl)
theorem ds_w (c : CF) (now sn t : W32) (x y : KY) (tag : BitVec 16) (tr : List (W32 × TK)) (hx : x.role = 1) (hi : x.id = 3#32) (h1 : ¬ tagL (dkB (scK c now sn)) = tag) (h2 : tagL (dkB x) = tag) (n : Int)
  (hok : ROk (r3 c (fsK c now) (scK c now sn) x tr))
  (hy : ∀ tr', snV (r3 c (fsK c now) (scK c now sn) x tr') 3#32 t = (n, r3 c (fsK c now) (scK c now sn) y tr')) :
  ∃ tr', dsV tag t (gP 1 [fsK c now, scK c now sn, x]) (r3 c (fsK c now) (scK c now sn) x tr) = some (n, r3 c (fsK c now) (scK c now sn) y tr') ∧ ROk (r3 c (fsK c now) (scK c now sn) y tr') := by
 have e : gP 1 [fsK c now, scK c now sn, x] = [scK c now sn, x] := by
  have d1 : decide ((fsK c now).role = 1) = false := rfl
  have d2 : decide ((scK c now sn).role = 1) = true := rfl
  have d3 : decide (x.role = 1) = true := by rw [hx]; rfl
  simp only [gP, List.filter_cons, List.filter_nil, d1, d2, d3, if_true, Bool.false_eq_true, if_false]
 have eg : iK (scK c now sn).id (r3 c (fsK c now) (scK c now sn) x tr).by' = some (scK c now sn) := rfl
 obtain ⟨tr1, he1⟩ : ∃ tr1, trC' (r3 c (fsK c now) (scK c now sn) x tr) (scK c now sn) = r3 c (fsK c now) (scK c now sn) x tr1 := ⟨_, rfl⟩
 have hok1 : ROk (r3 c (fsK c now) (scK c now sn) x tr1) := he1 ▸ hok.trP eg
 have eg2 : iK x.id (r3 c (fsK c now) (scK c now sn) x tr1).by' = some x := by rw [hi]; rfl
 obtain ⟨tr2, he2⟩ : ∃ tr2, trC' (r3 c (fsK c now) (scK c now sn) x tr1) x = r3 c (fsK c now) (scK c now sn) x tr2 := ⟨_, rfl⟩
 have hok2 : ROk (r3 c (fsK c now) (scK c now sn) x tr2) := he2 ▸ hok1.trP eg2
 refine ⟨tr2, ?_, ?_⟩
 ·rw [e, dsV, eg, aX, if_neg h1, he1, dsV, eg2, aX, if_pos h2, he2, hi, hy]
 ·have := hok2.snV 3#32 t
  rw [hy] at this
  exact this
theorem sn_w1 (c : CF) (now sn t t1 : W32) (sd : S8) (tr : List (W32 × TK)) : snV (r3 c (fsK c now) (scK c now sn) (ksK c sd t) tr) 3#32 t1 = (131, r3 c (fsK c now) (scK c now sn) (ksK c sd t) tr) := rfl
theorem sn_w2 (c : CF) (now sn t at' s : W32) (sd : S8) (tr : List (W32 × TK)) : snV (r3 c (fsK c now) (scK c now sn) (ksR c sd t at') tr) 3#32 s = (0, r3 c (fsK c now) (scK c now sn) (ksS c sd t at' s) tr) := rfl
theorem sn_w3 (c : CF) (now sn t at' s t1 : W32) (sd : S8) (tr : List (W32 × TK)) : snV (r3 c (fsK c now) (scK c now sn) (ksS c sd t at' s) tr) 3#32 t1 = (131, r3 c (fsK c now) (scK c now sn) (ksS c sd t at' s) tr) := by
 have e : iK 3#32 (r3 c (fsK c now) (scK c now sn) (ksS c sd t at' s) tr).by' = some (ksS c sd t at' s) := rfl
 rw [snV_y e, if_pos (.inr (.inr (jH s)))]
theorem dat_w (c : CF) (now sn : W32) (x : KY) (tr : List (W32 × TK)) (k : KY) (hk : iK k.id (r3 c (fsK c now) (scK c now sn) x tr).by' = some k) (hok : ROk (r3 c (fsK c now) (scK c now sn) x tr)) :
  ∃ tr', trC' (r3 c (fsK c now) (scK c now sn) x tr) k = r3 c (fsK c now) (scK c now sn) x tr' ∧ ROk (r3 c (fsK c now) (scK c now sn) x tr') := ⟨_, rfl, hok.trP hk⟩
theorem sg_w (c : CF) (now t at' s : W32) (sd : S8) : sgL 1 [fsK c now, ksS c sd t at' s] = [3#32] := rfl
theorem rg_by (c : CF) (a b : KY) (tr : List (W32 × TK)) : (rg c a b tr).by'.length = 2 := rfl
theorem rh_by (c : CF) (a b : KY) (tr : List (W32 × TK)) : (rh c a b tr).by'.length = 2 := rfl
theorem mx1_toNat (s : W32) : (mx1 s).toNat ≤ s.toNat + 1 ∧ (mx1 s).toNat ≥ 1 := by
 unfold mx1
 split
 ·rename_i h; rw [BitVec.lt_def] at h; simp at h ⊢
 ·rename_i h; rw [BitVec.lt_def] at h; simp at h ⊢; omega
attribute [go_sem] rg_by rh_by all_rg all_rh
end Go.AX
namespace Go.AX
open Go Go.Proofs
set_option maxRecDepth 8000
theorem kys_sT (c : CF) (now sn t at' : W32) (sd : S8) : hP [scK c now sn, thA c sd t at'] = [.w32 2#32, .i 1, .i 2, .w8 1#8, .w8 0#8, .w8 0#8, .w8 0#8, .w8 0#8, .w8 0#8, .w8 0#8, .w8 0#8, .i c.h, .w32 0#32, .w32 now, .w32 sn, .w32 3#32, .i 0, .i 1, .w8 sd.a, .w8 sd.b, .w8 sd.c, .w8 sd.d, .w8 sd.e, .w8 sd.f, .w8 sd.g, .w8 sd.h, .i c.h, .w32 0#32, .w32 at', .w32 0#32] := rfl
def wholeG : List AV → Option AV
 | [.w16 _, .w32 _, .w8 _, .b _] => some (.b true)
 | _ => none
set_option maxHeartbeats 4000000 in
theorem whole_ok : cL Tryd.prog GLh 3 wholeG := by
 refine cC Tryd.func3 (aT rfl) ?_
 intro args r hg
 unfold wholeG at hg
 split at hg
 ·rename_i set now seen ksk
  obtain rfl := Option.some.inj hg
  clear hg
  refine ⟨Nat.le_of_ble_eq_true rfl, fun nx => ?_⟩
  have hpr := set_pr set
  have hdp := set_dp set
  have hkt := set_kt set
  have hmx := set_mx set
  have hdt := set_dt set
  have hh := set_h set
  obtain ⟨c, hc⟩ : ∃ c, setV set = c := ⟨_, rfl⟩
  rw [hc] at hpr hkt hmx hh hdp hdt
  obtain ⟨nw, hnw⟩ : ∃ x, now % 1073741824#32 = x := ⟨_, rfl⟩
  have hnl : nw.toNat < 1073741824 := by
   rw [← hnw, BitVec.toNat_umod]
   exact Nat.mod_lt _ (by decide)
  have ok2 := ok_r2 c nw hh
  have hm60 : c.mx.toNat = 60 := by rw [hmx]; rfl
  have hd8 : c.dt.toNat = 8 := by rw [hdt]; rfl
  have hb1 : bhV nw c.pr c.kt = nw + c.pr + c.kt := bhV_add (by omega)
  have hb2 : (nw + c.pr + c.kt).toNat = nw.toNat + c.pr.toNat + c.kt.toNat := by rw [← hb1]; exact bhV_nat (by omega)
  obtain ⟨t, htt⟩ : ∃ x, nw + c.pr + c.kt = x := ⟨_, rfl⟩
  rw [htt] at hb1 hb2
  obtain ⟨t1, ht1⟩ : ∃ x, t - 1#32 = x := ⟨_, rfl⟩
  have ht1n : t1.toNat < t.toNat := by
   rw [← ht1, BitVec.toNat_sub]
   simp only [BitVec.toNat_ofNat]
   have := t.isLt
   omega
  refine aA rfl ?_
  refine aC (Γ := aL) [0, 1, 2, 3] (aD _ _) rfl rfl rfl (fun K hK => ?_)
  simp (disch := omega) only [Tryd.f3, go_sem, Nat.reduceAdd, ↓reduceIte]
  refine hK _ ?_
  refine aB ?_
  refine aA rfl ?_
  refine aA rfl ?_
  refine aC (Γ := bC [(5, .pure true kn21G)]) [27, 0, 1, 2, 3] (aH okh5 aO) rfl rfl rfl (fun K hK => ?_)
  simp (disch := omega) only [Tryd.f3, go_sem, Nat.reduceAdd, ↓reduceIte]
  refine hK _ ?_
  refine aB ?_
  refine eC (.tmp 27) rfl rfl rfl (fun h => ?_) (fun h => ?_)
  ·skip
   refine aI rfl ?_
   cases h
  ·skip
   refine aI rfl ?_
   clear h
   refine aQ rfl ?_
   refine aB ?_
   refine aA rfl ?_
   refine aC (Γ := bC [(6, .pure false setG21)]) [1, 2, 3, 9] (aH okh6 aO) rfl rfl rfl (fun K hK => ?_)
   simp (disch := omega) only [Tryd.f3, go_sem, Nat.reduceAdd, Nat.reduceLeDiff, ↓reduceIte, hc]
   refine hK _ ?_
   refine aB ?_
   refine awp_rp 9 (nx + 1 + 2 + 2) 0 rfl (by simp (disch := omega) only [aV, ↓reduceIte, eq_self] <;> rfl) ?_
   refine fF [1, 2, 3, 9] ?_
   simp only [iB, fU, eB, ↓reduceIte, Nat.reduceEqDiff, List.drop_zero]
   refine aA rfl ?_
   refine aC (Γ := aL) [1, 2, 3, 9] (aD _ _) rfl rfl rfl (fun K hK => ?_)
   simp (disch := omega) only [Tryd.f3, go_sem, Nat.reduceAdd, Int.reduceLE, Int.reduceLT, BitVec.reduceOfInt, ↓reduceIte, BitVec.reduceEq, hnw]
   refine hK _ ?_
   refine aB ?_
   refine aA rfl ?_
   refine aC (Γ := bC [(7, .heap begG)]) [1, 2, 3, 9, 10] (aH okh7 aO) rfl rfl rfl (fun K hK => ?_)
   simp (disch := omega) only [Tryd.f3, go_sem, Nat.reduceAdd, Nat.reduceLeDiff, ↓reduceIte, hh]
   refine hK _ ?_
   refine aB ?_
   refine aA rfl ?_
   refine aA rfl ?_
   refine aC (Γ := aL) [39, 1, 2, 9, 10] (aD _ _) rfl rfl rfl (fun K hK => ?_)
   simp (disch := omega) only [Tryd.f3, go_sem, Nat.reduceAdd, ↓reduceIte]
   refine hK _ ?_
   refine aB ?_
   refine eC (.tmp 39) rfl rfl rfl (fun h => ?_) (fun h => ?_)
   ·skip
    refine aI rfl ?_
    have hst1 := step_wait c nw (mx1 nw) nw t1 (sdN 9#8) c [] (jH _) (by rw [BitVec.le_def, hb1]; omega)
    have hb3 : bhV t c.pr c.mx = t + c.pr + c.mx := bhV_add (by omega)
    have hb4 : (t + c.pr + c.mx).toNat = t.toNat + c.pr.toNat + c.mx.toNat := by rw [← hb3]; exact bhV_nat (by omega)
    have hst2 := step_take100 c nw (mx1 nw) nw t (sdN 9#8) c [] (jH _) (by rw [BitVec.le_def, hb1]; omega) (by rw [BitVec.le_def, hb3]; omega)
    obtain ⟨u, hu⟩ : ∃ x, t + c.pr + c.mx = x := ⟨_, rfl⟩
    rw [hu] at hb3 hb4
    obtain ⟨u1, hu1⟩ : ∃ x, u - 1#32 = x := ⟨_, rfl⟩
    have hu1n : u1.toNat < u.toNat := by
     rw [← hu1, BitVec.toNat_sub]
     simp only [BitVec.toNat_ofNat]
     have := u.isLt
     omega
    have hst3 := step_no100 c nw (mx1 nw) nw t u1 (sdN 9#8) c [] (jH _) (by rw [BitVec.le_def, hb3]; omega)
    have hst4 := step_gone c nw (mx1 nw) nw t u (sdN 9#8) c [] (jH _) (by rw [BitVec.le_def, hb3]; omega)
    unfold sdN at hst1 hst2 hst3 hst4
    refine aA rfl ?_
    refine aC (Γ := bC [(8, .heap bgG)]) [1, 9, 10, 12] (aH okh8 aO) rfl rfl rfl (fun K hK => ?_)
    simp (disch := omega) only [Tryd.f3, go_sem, Nat.reduceAdd, Nat.reduceLeDiff, Int.reduceLE, Int.reduceLT, BitVec.reduceOfInt, ↓reduceIte, ok2, hh, true_and]
    refine hK _ ?_
    refine aB ?_
    refine aA rfl ?_
    refine aC (Γ := aL) [9, 10, 12, 14] (aD _ _) rfl rfl rfl (fun K hK => ?_)
    simp (disch := omega) only [Tryd.f3, go_sem, Nat.reduceAdd, Nat.reduceLT, ↓reduceIte, htt]
    refine hK _ ?_
    refine aB ?_
    refine aA rfl ?_
    refine aA rfl ?_
    refine aC (Γ := bC [(9, .heap stepG)]) [98, 10, 12] (aH okh12 aO) rfl rfl rfl (fun K hK => ?_)
    simp (maxSteps := 400000) (disch := omega) only [Tryd.f3, go_sem, Nat.reduceAdd, Nat.reduceLeDiff, Nat.reduceLT, Int.reduceLE, Int.reduceLT, BitVec.reduceOfInt, reduceCtorEq, ↓reduceIte, ht1, hst1, hst2, hu, hu1, hst3, hst4, decide_true]
    refine hK _ ?_
    refine aB ?_
    refine eC (.tmp 98) rfl rfl rfl (fun h => ?_) (fun h => ?_)
    ·skip
     refine aI rfl ?_
     cases h
    ·skip
     refine aI rfl ?_
     clear h
     refine aQ rfl ?_
     refine aB ?_
     refine aA rfl ?_
     refine aC (Γ := bC [(10, .heap allG)]) [12, 15] (aH okd15 aO) rfl rfl rfl (fun K hK => ?_)
     simp (disch := omega) only [Tryd.f3, go_sem, Nat.reduceAdd, Nat.reduceMul, Nat.reduceLeDiff, ↓reduceIte]
     refine hK _ ?_
     refine aB ?_
     rw [kys_sT]
     refine aA rfl ?_
     refine aC (Γ := aL) [8] (aD _ _) rfl rfl rfl (fun K hK => ?_)
     simp (disch := omega) only [Tryd.f3, go_sem, Nat.reduceAdd, Nat.reduceLT, Int.reduceLE, Int.reduceLT, Int.reduceToNat, ↓reduceIte, decide_true, List.head?_cons, List.drop_succ_cons, List.drop_zero]
     refine hK _ ?_
     refine aB ?_
     refine aS rfl ?_
     refine bI ?_
     simp (disch := omega) only [cN, bV, bK, bQ, Tryd.f3, go_sem, ↓reduceIte]
   ·skip
    refine aI rfl ?_
    have okw := ok_w nw nw (sdN 9#8) hh
    have eg3 : iK 3#32 (r3 c (fsK c nw) (scK c nw (mx1 nw)) (ksK c (sdN 9#8) nw) []).by' = some (ksK c (sdN 9#8) nw) := rfl
    obtain ⟨tr1, htr1, okw1⟩ := dat_w c nw (mx1 nw) (ksK c (sdN 9#8) nw) [] (ksK c (sdN 9#8) nw) rfl okw
    have eg4 : iK 2#32 (r3 c (fsK c nw) (scK c nw (mx1 nw)) (ksK c (sdN 9#8) nw) tr1).by' = some (scK c nw (mx1 nw)) := rfl
    obtain ⟨tr2, htr2, okw2⟩ := dat_w c nw (mx1 nw) (ksK c (sdN 9#8) nw) tr1 (scK c nw (mx1 nw)) rfl okw1
    have hl1 := dkB_len (ksK c (sdN 9#8) nw)
    have hl2 := dkB_len (scK c nw (mx1 nw))
    have hdn1 : dtN (ksK c (sdN 9#8) nw) = 135 := rfl
    have hdn2 : dtN (scK c nw (mx1 nw)) = 135 := rfl
    obtain ⟨tag, htag⟩ : ∃ x, tagL (dkB (ksK c (sdN 9#8) nw)) = x := ⟨_, rfl⟩
    obtain ⟨tag2, htag2⟩ : ∃ x, tagL (dkB (scK c nw (mx1 nw))) = x := ⟨_, rfl⟩
    unfold sdN at okw eg3 htr1 okw1 eg4 htr2 okw2 hl1 hdn1 htag
    refine aQ rfl ?_
    refine aB ?_
    refine aA rfl ?_
    refine aC (Γ := bC [(8, .heap bgG)]) [1, 2, 9, 10, 16] (aH okh8 aO) rfl rfl rfl (fun K hK => ?_)
    simp (disch := omega) only [Tryd.f3, go_sem, Nat.reduceAdd, Nat.reduceLeDiff, Int.reduceLE, Int.reduceLT, BitVec.reduceOfInt, ↓reduceIte, ok2, hh, true_and, bg_w]
    refine hK _ ?_
    refine aB ?_
    refine aA rfl ?_
    refine aC (Γ := bC [(11, .heap datG)]) [1, 2, 9, 10, 16, 18] (aH okd11 aO) rfl rfl rfl (fun K hK => ?_)
    simp (disch := omega) only [Tryd.f3, go_sem, Nat.reduceAdd, ↓reduceIte, okw, eg3, hdn1, trC_eq, htr1]
    refine hK _ ?_
    refine aB ?_
    refine aA rfl ?_
    refine aC (Γ := bC [(12, .pure true tagG)]) [1, 2, 9, 10, 16, 20] (aH ok41 aO) rfl rfl rfl (fun K hK => ?_)
    simp (disch := omega) only [Tryd.f3, go_sem, Nat.reduceAdd, Nat.reduceLeDiff, ↓reduceIte, hl1, un8_c8, htag]
    refine hK _ ?_
    refine aB ?_
    refine aA rfl ?_
    refine aC (Γ := bC [(11, .heap datG)]) [1, 2, 9, 10, 16, 20, 21] (aH okd11 aO) rfl rfl rfl (fun K hK => ?_)
    simp (disch := omega) only [Tryd.f3, go_sem, Nat.reduceAdd, Int.reduceLE, Int.reduceLT, BitVec.reduceOfInt, ↓reduceIte, okw1, eg4, hdn2, trC_eq, htr2]
    refine hK _ ?_
    refine aB ?_
    refine aA rfl ?_
    refine aA rfl ?_
    refine aC (Γ := bC [(12, .pure true tagG)]) [143, 1, 2, 9, 10, 16, 20] (aH ok41 aO) rfl rfl rfl (fun K hK => ?_)
    simp (disch := omega) only [Tryd.f3, go_sem, Nat.reduceAdd, Nat.reduceLeDiff, ↓reduceIte, hl2, un8_c8, htag2]
    refine hK _ ?_
    refine aB ?_
    refine aW (.tmp 143) rfl rfl rfl (fun h => ?_) (fun h => ?_)
    ·skip
     refine aI rfl ?_
     refine aA rfl ?_
     refine aC (Γ := aL) [8] (aD _ _) rfl rfl rfl (fun K hK => ?_)
     simp (disch := omega) only [Tryd.f3, go_sem, ↓reduceIte]
     refine hK _ ?_
     refine aB ?_
     refine aS rfl ?_
     refine bI ?_
     simp (disch := omega) only [cN, bV, bK, bQ, Tryd.f3, go_sem, ↓reduceIte]
    ·skip
     refine aI rfl ?_
     have hne : ¬ tagL (dkB (scK c nw (mx1 nw))) = tag := by rw [htag2]; exact h
     obtain ⟨tr3, hds1, okw3⟩ := ds_w c nw (mx1 nw) nw (ksK c (sdN 9#8) nw) (ksK c (sdN 9#8) nw) tag tr2 rfl rfl hne (by unfold sdN; exact htag) 131 (by unfold sdN; exact okw2) (fun tr' => sn_w1 c nw _ _ _ _ tr')
     have hst1 := step_w1 c nw (mx1 nw) nw t1 (sdN 9#8) c tr3 (jH _) (by rw [BitVec.le_def, hb1]; omega)
     have hst2 := step_w2 c nw (mx1 nw) nw t (sdN 9#8) c tr3 (jH _) (by rw [BitVec.le_def, hb1]; omega)
     unfold sdN at hds1 hst1 hst2
     refine aQ rfl ?_
     refine aB ?_
     refine aA rfl ?_
     refine aC (Γ := aL) [1, 2, 9, 10, 16, 20, 23] (aD _ _) rfl rfl rfl (fun K hK => ?_)
     simp (disch := omega) only [Tryd.f3, go_sem, Nat.reduceAdd, Nat.reduceLT, ↓reduceIte, htt]
     refine hK _ ?_
     refine aB ?_
     refine aA rfl ?_
     refine aA rfl ?_
     refine aC (Γ := bC [(13, .heap dsG21), (9, .heap stepG)]) [172, 2, 9, 10, 16, 20, 23] (aH okg13 (aH okh12 aO)) rfl rfl rfl (fun K hK => ?_)
     simp (maxSteps := 400000) (disch := omega) only [Tryd.f3, go_sem, Nat.reduceAdd, Nat.reduceLeDiff, Int.reduceLE, Int.reduceLT, BitVec.reduceOfInt, reduceCtorEq, ↓reduceIte, okw2, hds1, ht1, hst1, hst2, true_and, decide_true]
     refine hK _ ?_
     refine aB ?_
     refine eC (.tmp 172) rfl rfl rfl (fun h => ?_) (fun h => ?_)
     ·skip
      refine aI rfl ?_
      cases h
     ·skip
      refine aI rfl ?_
      clear h
      have okw4 : ROk (r3 c (fsK c nw) (scK c nw (mx1 nw)) (ksR c (sdN 9#8) nw t) tr3) := okw3.tnV 3#32 2 t
      obtain ⟨s, hs⟩ : ∃ x, t + BitVec.setWidth 32 seen = x := ⟨_, rfl⟩
      have hsw : (BitVec.setWidth 32 seen).toNat = seen.toNat := by rw [BitVec.toNat_setWidth]; have := seen.isLt; omega
      have hsl := seen.isLt
      have hsn : s.toNat = t.toNat + seen.toNat := by rw [← hs, add_nat (by omega), hsw]
      have hst3 := step_w3 c nw (mx1 nw) nw t s (sdN 9#8) c tr3 (jH _)
      have htag3 : tagL (dkB (ksR c (sdN 9#8) nw t)) = tag := by unfold sdN; exact htag
      obtain ⟨tr4, hds2, okw5⟩ := ds_w c nw (mx1 nw) s (ksR c (sdN 9#8) nw t) (ksS c (sdN 9#8) nw t s) tag tr3 rfl rfl hne htag3 0 okw4 (fun tr' => sn_w2 c nw _ _ _ _ _ tr')
      obtain ⟨tr5, hds3, okw6⟩ := ds_w c nw (mx1 nw) s (ksS c (sdN 9#8) nw t s) (ksS c (sdN 9#8) nw t s) tag tr4 rfl rfl hne htag3 131 okw5 (fun tr' => sn_w3 c nw _ _ _ _ _ _ tr')
      obtain ⟨hm1, hm2⟩ := mx1_toNat s
      have hmxe : (if s < 1#32 then 1#32 else s) = mx1 s := rfl
      have hb5 : bhV (mx1 s) c.dp c.dt = mx1 s + c.dp + c.dt := bhV_add (by omega)
      have hb6 : (mx1 s + c.dp + c.dt).toNat = (mx1 s).toNat + c.dp.toNat + c.dt.toNat := by rw [← hb5]; exact bhV_nat (by omega)
      obtain ⟨e, he⟩ : ∃ x, mx1 s + c.dp + c.dt = x := ⟨_, rfl⟩
      rw [he] at hb5 hb6
      obtain ⟨e1, he1⟩ : ∃ x, e - 1#32 = x := ⟨_, rfl⟩
      have he1n : e1.toNat < e.toNat := by
       rw [← he1, BitVec.toNat_sub]
       simp only [BitVec.toNat_ofNat]
       have := e.isLt
       omega
      have hst4 := step_w4 c nw (mx1 nw) nw t s e1 (sdN 9#8) c tr5 (jH _) (by rw [BitVec.le_def, hb5]; omega)
      have hst5 := step_w5 c nw (mx1 nw) nw t s e (sdN 9#8) c tr5 (jH _) (by rw [BitVec.le_def, hb5]; omega)
      have hsg := sg_w c nw nw t s (sdN 9#8)
      unfold sdN at okw4 hst3 hds2 okw5 hds3 okw6 hst4 hst5 hsg
      refine aQ rfl ?_
      refine aB ?_
      refine aA rfl ?_
      refine aC (Γ := aL) [9, 10, 16, 20, 24] (aD _ _) rfl rfl rfl (fun K hK => ?_)
      simp (disch := omega) only [Tryd.f3, go_sem, Nat.reduceAdd, ↓reduceIte, hs]
      refine hK _ ?_
      refine aB ?_
      refine aA rfl ?_
      refine aA rfl ?_
      refine aC (Γ := bC [(9, .heap stepG), (13, .heap dsG21)]) [196, 9, 10, 16, 24] (aH okh12 (aH okg13 aO)) rfl rfl rfl (fun K hK => ?_)
      simp (maxSteps := 400000) (disch := omega) only [Tryd.f3, go_sem, Nat.reduceAdd, Nat.reduceLeDiff, reduceCtorEq, ↓reduceIte, hst3, okw4, hds2, okw5, hds3, true_and, decide_true]
      refine hK _ ?_
      refine aB ?_
      refine eC (.tmp 196) rfl rfl rfl (fun h => ?_) (fun h => ?_)
      ·skip
       refine aI rfl ?_
       cases h
      ·skip
       refine aI rfl ?_
       clear h
       refine aQ rfl ?_
       refine aB ?_
       refine aA rfl ?_
       refine aC (Γ := aL) [9, 10, 16, 25] (aD _ _) rfl rfl rfl (fun K hK => ?_)
       simp (disch := omega) only [Tryd.f3, go_sem, Nat.reduceAdd, Nat.reduceLT, Int.reduceLE, Int.reduceLT, BitVec.reduceOfInt, ↓reduceIte, hmxe, he]
       refine hK _ ?_
       refine aB ?_
       refine aA rfl ?_
       refine aC (Γ := bC [(9, .heap stepG), (10, .heap allG), (15, .pure false sgG), (14, .pure true idsG)]) [8] (aH okh12 (aH okd15 (aH okh11 (aH okh10 aO)))) rfl rfl rfl (fun K hK => ?_)
       simp (maxSteps := 400000) (disch := omega) only [Tryd.f3, go_sem, Nat.reduceAdd, Nat.reduceMul, Nat.reduceLeDiff, Nat.reduceLT, Int.reduceLE, Int.reduceLT, BitVec.reduceOfInt, ↓reduceIte, he1, hst4, hst5, hsg, un32_c32, un32_1, and_self, decide_true]
       refine hK _ ?_
       refine aB ?_
       refine aS rfl ?_
       simp (disch := omega) only [cN, bV, bK, bQ, Tryd.f3, go_sem, ↓reduceIte]
 ·cases hg
end Go.AX
namespace Go.AX
open Go Go.Proofs
set_option maxRecDepth 8000
noncomputable def allZ : List AV → H → Nat → Option (AV × H × Nat)
 | [.op d 0], hp, nx => aK (iN hp d) fun t => if t.C.by'.length = 0 then some (.v (.slice none 0 0), hp, nx + 200) else aN (t.C.by'.length ≤ 1000) (some (.sl t.C.by'.length (hP (iP t.C)), hp, nx + 200 + 100 * t.C.by'.length))
 | _, _, _ => none
theorem allZ_eq (d : Nat) (hp : H) (nx : Nat) : allZ [.op d 0] hp nx = aK (iN hp d) fun t => if t.C.by'.length = 0 then some (.v (.slice none 0 0), hp, nx + 200) else aN (t.C.by'.length ≤ 1000) (some (.sl t.C.by'.length (hP (iP t.C)), hp, nx + 200 + 100 * t.C.by'.length)) := (rfl)
attribute [go_sem] allZ_eq
noncomputable def allN : List AV → H → Nat → Option (AV × H × Nat)
 | [.op d 0], hp, nx => aK (iN hp d) fun t => aN (t.C.by'.length = 0) (some (.v (.slice none 0 0), hp, nx + 200))
 | _, _, _ => none
theorem allN_eq (d : Nat) (hp : H) (nx : Nat) : allN [.op d 0] hp nx = aK (iN hp d) fun t => aN (t.C.by'.length = 0) (some (.v (.slice none 0 0), hp, nx + 200)) := (rfl)
set_option maxHeartbeats 1000000 in
theorem allN_ok : cQ Tryd.prog GLh 10 allN := by
 refine gF Tryd.func10 (aT rfl) ?_
 intro args hp nx r hp' nx' hg
 unfold allN at hg
 split at hg
 ·rename_i d
  replace hg := aJ hg; obtain ⟨⟨s, m, C⟩, hD0, hg⟩ := hg
  have hD := iV hD0
  replace hg := aP hg; obtain ⟨hN, hg⟩ := hg
  simp only [Option.some.injEq, Prod.mk.injEq] at hg hD hN; obtain ⟨rfl, rfl, rfl⟩ := hg
  refine ⟨Nat.le_of_ble_eq_true rfl, by omega, fun hnone => ?_⟩
  have h1 := hD.hd; have h2 := hD.hs; have h3 := hD.hm
  obtain ⟨n1, n2, n3, n4, n5, n6⟩ := hD.ne
  have hlt : ∀ k o, hp k = some o → k < nx := fun k o hk => gI hnone hk
  have hd := hlt _ _ h1
  have hs := hlt _ _ h2
  have hm := hlt _ _ h3
  have hil := idsL_len C
  have hid : iU (C.by'.map (·.1)) = idsL C := rfl
  rw [hN] at hil
  refine aA rfl ?_
  refine aC (Γ := aL) [0] (aD _ _) rfl rfl rfl (fun K hK => ?_)
  simp (disch := omega) only [Tryd.f10, go_sem, ↓reduceIte]
  refine hK _ ?_
  refine aB ?_
  refine aA rfl ?_
  refine aC (Γ := aL) [0, 3] (aD _ _) rfl rfl rfl (fun K hK => ?_)
  simp (disch := omega) only [Tryd.f10, go_sem, ↓reduceIte]
  refine hK _ ?_
  refine aB ?_
  refine aA rfl ?_
  refine aA rfl ?_
  refine aC (Γ := bC [(29, .heap keysG), (28, .heap sdG)]) [0, 3, 11, 12, 13] (aH okd36 (aH okd35 aO)) rfl rfl rfl (fun K hK => ?_)
  simp (disch := omega) only [Tryd.f10, go_sem, Nat.reduceAdd, Nat.reduceLeDiff, Nat.reduceLT, ↓reduceIte, h1, h2, jA, hid, hN, List.length_map, List.head?_cons, List.drop_succ_cons, List.drop_zero]
  refine hK _ ?_
  refine aB ?_
  refine aR 0 rfl rfl ?_
  refine bR (fun p : Nat => { fr := [(0, .op d 0), (3, .v (.slice none 0 0)), (11, .os (nx + 1 + 1 + 8 + 10) 0 0 1 true), (12, .i 0), (13, .i 0)], hp := hp, nx := 0, cx := nx + 100 }) (fun p => p = 0) (fun p => p) rfl ⟨0, rfl, ⟨fun x => .inr rfl, fun j o h => by { have := hlt j o h; simp (disch := omega) only [aV, bY, ↓reduceIte]; exact h }, by simp only; omega⟩⟩ ?_
  rintro k hk n0
  simp only at hk ⊢
  refine aA rfl ?_
  refine aC (Γ := aL) [14, 0, 3, 11, 12, 13] (aD _ _) rfl rfl rfl (fun K hK => ?_)
  simp (disch := omega) only [Tryd.f10, go_sem, Int.reduceLT, ↓reduceIte]
  refine hK _ ?_
  refine aB ?_
  refine aA rfl ?_
  refine eC (.tmp 14) rfl rfl rfl (fun h => ?_) (fun h => ?_)
  ·skip
   refine aI rfl ?_
   cases h
  ·skip
   refine aI rfl ?_
   refine bF 0 rfl rfl ?_
   refine aY (aZ (bE ?_))
   refine aB ?_
   refine aA rfl ?_
   refine aC (Γ := aL) [2] (aD _ _) rfl rfl rfl (fun K hK => ?_)
   simp (disch := omega) only [Tryd.f10, go_sem, Nat.reduceAdd, ↓reduceIte]
   refine hK _ ?_
   refine aB ?_
   refine aS rfl ?_
   exact ⟨rfl, fun j o h => h, by simp only; omega⟩
 ·cases hg
theorem allZ_ok : cQ Tryd.prog GLh 10 allZ := by
 intro c σ I w hp nx args vals r hp' nx' hGL hi hs hr hg
 unfold allZ at hg
 split at hg
 ·rename_i d
  replace hg := aJ hg; obtain ⟨t, ht, hg⟩ := hg
  split at hg
  ·rename_i hz
   exact allN_ok c σ I w hp nx _ vals r hp' nx' hGL hi hs hr (by rw [allN_eq, ht, aX, cU _ hz]; exact hg)
  ·exact all_ok c σ I w hp nx _ vals r hp' nx' hGL hi hs hr (by rw [allG_eq, ht, aX]; exact hg)
 ·cases hg
theorem okg10 : bX Tryd.prog GLh 10 (.heap allZ) := ⟨⟨_, Tryd.func10, rfl, rfl⟩, allZ_ok⟩
def clkZ : List AV → H → Nat → Option (AV × H × Nat)
 | [.v (.slice none 0 0)], hp, nx => some (.v (.slice none 0 0), hp, nx + 20)
 | _, _, _ => none
theorem clkZ_eq (hp : H) (nx : Nat) : clkZ [.v (.slice none 0 0)] hp nx = some (.v (.slice none 0 0), hp, nx + 20) := (rfl)
attribute [go_sem] clkZ_eq
theorem clkZ_ok : cQ Tryd.prog GLh 38 clkZ := by
 refine gF Tryd.func38 (aT rfl) ?_
 intro args hp nx r hp' nx' hg
 unfold clkZ at hg
 split at hg
 ·simp only [Option.some.injEq, Prod.mk.injEq] at hg; obtain ⟨rfl, rfl, rfl⟩ := hg
  refine ⟨Nat.le_of_ble_eq_true rfl, by omega, fun hnone => ?_⟩
  refine aA rfl ?_
  refine aC (Γ := aL) [0] (aD _ _) rfl rfl rfl (fun K hK => ?_)
  simp (disch := omega) only [Tryd.f38, go_sem, ↓reduceIte]
  refine hK _ ?_
  refine aB ?_
  refine aA rfl ?_
  refine aA rfl ?_
  refine aC (Γ := aL) [4, 0] (aD _ _) rfl rfl rfl (fun K hK => ?_)
  simp (disch := omega) only [Tryd.f38, go_sem, Nat.reduceAdd, ↓reduceIte, isK39]
  refine hK _ ?_
  refine aB ?_
  refine eC (.tmp 4) rfl rfl rfl (fun h => ?_) (fun h => ?_)
  ·skip
   refine aI rfl ?_
   refine aA rfl ?_
   refine aC (Γ := aL) [2] (aD _ _) rfl rfl rfl (fun K hK => ?_)
   simp (disch := omega) only [Tryd.f38, go_sem, ↓reduceIte]
   refine hK _ ?_
   refine aB ?_
   refine aS rfl ?_
   refine bI ?_
   exact ⟨rfl, fun j o h => h, by simp only; omega⟩
  ·skip
   refine aI rfl ?_
   cases h
 ·cases hg
theorem okg38 : bX Tryd.prog GLh 38 (.heap clkZ) := ⟨⟨_, Tryd.func38, rfl, rfl⟩, clkZ_ok⟩
def ofZ : List AV → H → Nat → Option (AV × H × Nat)
 | [.v (.slice none 0 0), .i _], hp, nx => some (.v (.slice none 0 0), hp, nx + 1000)
 | _, _, _ => none
theorem ofZ_eq (r : Int) (hp : H) (nx : Nat) : ofZ [.v (.slice none 0 0), .i r] hp nx = some (.v (.slice none 0 0), hp, nx + 1000) := (rfl)
attribute [go_sem] ofZ_eq
theorem ofZ_ok : cQ Tryd.prog GLh 23 ofZ := by
 refine gF Tryd.func23 (aT rfl) ?_
 intro args hp nx r hp' nx' hg
 unfold ofZ at hg
 split at hg
 ·rename_i role
  simp only [Option.some.injEq, Prod.mk.injEq] at hg; obtain ⟨rfl, rfl, rfl⟩ := hg
  refine ⟨Nat.le_of_ble_eq_true rfl, by omega, fun hnone => ?_⟩
  have hlt : ∀ k o, hp k = some o → k < nx := fun k o hk => gI hnone hk
  refine aA rfl ?_
  refine aC (Γ := aL) [0, 3] (aD _ _) rfl rfl rfl (fun K hK => ?_)
  simp (disch := omega) only [Tryd.f23, go_sem, Nat.reduceAdd, ↓reduceIte]
  refine hK _ ?_
  refine aB ?_
  refine aA rfl ?_
  refine aC (Γ := bC [(38, .heap clkZ), (37, .heap dfG)]) [4] (aH okg38 (aH okh30 aO)) rfl rfl rfl (fun K hK => ?_)
  simp (disch := omega) only [Tryd.f23, go_sem, Nat.reduceAdd, ↓reduceIte]
  refine hK _ ?_
  refine aB ?_
  refine aS rfl ?_
  refine ⟨rfl, fun j o h => ?_, by simp only; omega⟩
  have := hlt j o h
  simp (disch := omega) only [aV, bY, ↓reduceIte]
  exact h
 ·cases hg
theorem okg23 : bX Tryd.prog GLh 23 (.heap ofZ) := ⟨⟨_, Tryd.func23, rfl, rfl⟩, ofZ_ok⟩
def sgN : List AV → H → Nat → Option (AV × H × Nat)
 | [.v (.slice none 0 0), .i _], hp, nx => some (.v (.slice none 0 0), hp, nx + 2000)
 | _, _, _ => none
theorem sgN_eq (r : Int) (hp : H) (nx : Nat) : sgN [.v (.slice none 0 0), .i r] hp nx = some (.v (.slice none 0 0), hp, nx + 2000) := (rfl)
attribute [go_sem] sgN_eq
theorem sgN_ok : cQ Tryd.prog GLh 15 sgN := by
 refine gF Tryd.func15 (aT rfl) ?_
 intro args hp nx r hp' nx' hg
 unfold sgN at hg
 split at hg
 ·rename_i role
  simp only [Option.some.injEq, Prod.mk.injEq] at hg; obtain ⟨rfl, rfl, rfl⟩ := hg
  refine ⟨Nat.le_of_ble_eq_true rfl, by omega, fun hnone => ?_⟩
  have hlt : ∀ k o, hp k = some o → k < nx := fun k o hk => gI hnone hk
  refine aA rfl ?_
  refine aC (Γ := aL) [0, 1] (aD _ _) rfl rfl rfl (fun K hK => ?_)
  simp (disch := omega) only [Tryd.f15, go_sem, ↓reduceIte]
  refine hK _ ?_
  refine aB ?_
  refine aA rfl ?_
  refine aC (Γ := aL) [0, 1, 5] (aD _ _) rfl rfl rfl (fun K hK => ?_)
  simp (disch := omega) only [Tryd.f15, go_sem, ↓reduceIte]
  refine hK _ ?_
  refine aB ?_
  refine aA rfl ?_
  refine aA rfl ?_
  refine aC (Γ := bC [(23, .heap ofZ)]) [1, 5, 10, 11, 12] (aH okg23 aO) rfl rfl rfl (fun K hK => ?_)
  simp (disch := omega) only [Tryd.f15, go_sem, Nat.reduceAdd, ↓reduceIte]
  refine hK _ ?_
  refine aB ?_
  refine aR 0 rfl rfl ?_
  refine bR (fun p : Nat => { fr := [(1, .i role), (5, .v (.slice none 0 0)), (10, .v (.slice none 0 0)), (11, .i 0), (12, .i 0)], hp := hp, nx := 0, cx := nx + 1500 }) (fun p => p = 0) (fun p => p) rfl ⟨0, rfl, ⟨fun x => .inr rfl, fun j o h => by { have := hlt j o h; simp (disch := omega) only []; exact h }, by simp only; omega⟩⟩ ?_
  rintro k hk n0
  simp only at hk ⊢
  refine aA rfl ?_
  refine aC (Γ := aL) [13, 1, 5, 10, 11, 12] (aD _ _) rfl rfl rfl (fun K hK => ?_)
  simp (disch := omega) only [Tryd.f15, go_sem, Int.reduceLT, ↓reduceIte]
  refine hK _ ?_
  refine aB ?_
  refine aA rfl ?_
  refine eC (.tmp 13) rfl rfl rfl (fun h => ?_) (fun h => ?_)
  ·skip
   refine aI rfl ?_
   cases h
  ·skip
   refine aI rfl ?_
   refine bF 0 rfl rfl ?_
   refine aY (aZ (bE ?_))
   refine aB ?_
   refine aA rfl ?_
   refine aC (Γ := aL) [4] (aD _ _) rfl rfl rfl (fun K hK => ?_)
   simp (disch := omega) only [Tryd.f15, go_sem, Nat.reduceAdd, ↓reduceIte]
   refine hK _ ?_
   refine aB ?_
   refine aS rfl ?_
   exact ⟨rfl, fun j o h => h, by simp only; omega⟩
 ·cases hg
theorem okg15 : bX Tryd.prog GLh 15 (.heap sgN) := ⟨⟨_, Tryd.func15, rfl, rfl⟩, sgN_ok⟩
end Go.AX
namespace Go.AX
open Go Go.Proofs
set_option maxRecDepth 8000
theorem du0_i : du0.id = 0#32 := (rfl)
theorem du0_s : du0.st = 0 := (rfl)
theorem du0_w : du0.w = 0#32 := (rfl)
theorem nxV_z (c : CF) : nxV [] c = du0 := (rfl)
attribute [go_sem] du0_i du0_s du0_w nxV_z
theorem setR_comm (hp : H) (d s m : Nat) (C : RC) (e t n : Nat) (D : RC) (a1 : d ≠ e) (a2 : d ≠ t) (a3 : d ≠ n) (b1 : s ≠ e) (b2 : s ≠ t) (b3 : s ≠ n) (c1 : m ≠ e) (c2 : m ≠ t) (c3 : m ≠ n) : iL d s m C (iL e t n D hp) = iL e t n D (iL d s m C hp) := by
 show upd (upd (upd (iL e t n D hp) s _) m _) d _ = _
 rw [jJ _ _ _ _ _ _ _ b1 b2 b3, jJ _ _ _ _ _ _ _ c1 c2 c3, jJ _ _ _ _ _ _ _ a1 a2 a3]
 rfl
theorem rng_in (hp : H) (d s m : Nat) (C : RC) (e t n : Nat) (D : RC) (a1 : d ≠ e) (a2 : d ≠ t) (a3 : d ≠ n) (b1 : s ≠ e) (b2 : s ≠ t) (b3 : s ≠ n) (c1 : m ≠ e) (c2 : m ≠ t) (c3 : m ≠ n) (e1 : e ≠ t) (e2 : e ≠ n) (e3 : t ≠ n) :
  iN (iL d s m C (iL e t n D hp)) e = some ⟨t, n, D⟩ := by
 rw [setR_comm hp d s m C e t n D a1 a2 a3 b1 b2 b3 c1 c2 c3, rng_set _ _ _ _ _ e1 e2 e3]
theorem setR_in (hp : H) (d s m : Nat) (C : RC) (e t n : Nat) (D D' : RC) (a1 : d ≠ e) (a2 : d ≠ t) (a3 : d ≠ n) (b1 : s ≠ e) (b2 : s ≠ t) (b3 : s ≠ n) (c1 : m ≠ e) (c2 : m ≠ t) (c3 : m ≠ n) :
  iL e t n D' (iL d s m C (iL e t n D hp)) = iL d s m C (iL e t n D' hp) := by
 rw [setR_comm hp d s m C e t n D a1 a2 a3 b1 b2 b3 c1 c2 c3, setR_set, ← setR_comm _ d s m C e t n D' a1 a2 a3 b1 b2 b3 c1 c2 c3]
attribute [go_sem] rng_in setR_in
def nothingG : List AV → Option AV
 | [.w16 _, .w32 _, .w32 _] => some (.b true)
 | _ => none
set_option maxHeartbeats 2000000 in
theorem nothing_ok : cL Tryd.prog GLh 4 nothingG := by
 refine cC Tryd.func4 (aT rfl) ?_
 intro args r hg
 unfold nothingG at hg
 split at hg
 ·rename_i set now then'
  obtain rfl := Option.some.inj hg
  clear hg
  refine ⟨Nat.le_of_ble_eq_true rfl, fun nx => ?_⟩
  have hh := set_h set
  obtain ⟨c, hc⟩ : ∃ c, setV set = c := ⟨_, rfl⟩
  rw [hc] at hh
  have ok2 := ok_r2 c now hh
  have hnx := nx_r2 c now (mx1 now) c (jH _)
  obtain ⟨n, hn, tr', hds⟩ := ds_r2 c now (mx1 now) then' 1#16 [] (jH _)
  have hst := step_r2 c now (mx1 now) then' c tr' (jH _)
  have hcf := cfOf_cfC c
  refine aA rfl ?_
  refine aC (Γ := aL) [0, 1, 2] (aD _ _) rfl rfl rfl (fun K hK => ?_)
  simp (disch := omega) only [Tryd.f4, go_sem, Nat.reduceAdd, ↓reduceIte]
  refine hK _ ?_
  refine aB ?_
  refine aA rfl ?_
  refine aA rfl ?_
  refine aC (Γ := bC [(5, .pure true kn21G)]) [19, 0, 1, 2] (aH okh5 aO) rfl rfl rfl (fun K hK => ?_)
  simp (disch := omega) only [Tryd.f4, go_sem, Nat.reduceAdd, ↓reduceIte]
  refine hK _ ?_
  refine aB ?_
  refine eC (.tmp 19) rfl rfl rfl (fun h => ?_) (fun h => ?_)
  ·skip
   refine aI rfl ?_
   cases h
  ·skip
   refine aI rfl ?_
   clear h
   refine aQ rfl ?_
   refine aB ?_
   refine aA rfl ?_
   refine aC (Γ := bC [(6, .pure false setG21)]) [1, 2, 7] (aH okh6 aO) rfl rfl rfl (fun K hK => ?_)
   simp (disch := omega) only [Tryd.f4, go_sem, Nat.reduceAdd, Nat.reduceLeDiff, ↓reduceIte, hc]
   refine hK _ ?_
   refine aB ?_
   refine awp_rp 7 (nx + 1 + 2 + 2) 0 rfl (by simp (disch := omega) only [aV, ↓reduceIte, eq_self] <;> rfl) ?_
   refine fF [1, 2, 7] ?_
   simp only [iB, fU, eB, ↓reduceIte, Nat.reduceEqDiff, List.drop_zero]
   refine aA rfl ?_
   refine aC (Γ := bC [(7, .heap begG)]) [2, 7, 8] (aH okh7 aO) rfl rfl rfl (fun K hK => ?_)
   simp (disch := omega) only [Tryd.f4, go_sem, Nat.reduceAdd, Nat.reduceLeDiff, ↓reduceIte, hh]
   refine hK _ ?_
   refine aB ?_
   refine aA rfl ?_
   refine bB (Γ := bC [(10, .heap allZ), (16, .pure true nxG)]) (fun k => if k = 2 then 1 else if k = 1 then 0 else 2) [2, 7, 8, 10, 11, 12] bZ (aH okg10 (aH okh14 aO)) rfl rfl rfl (by kernel_rfl) (fun K hK => ?_)
   simp (disch := omega) only [Tryd.f4, go_sem, Nat.reduceAdd, Nat.reduceMul, Nat.reduceLeDiff, ↓reduceIte, hnx, duC]
   refine hK _ ?_
   refine aB ?_
   refine aA rfl ?_
   refine aC (Γ := bC [(13, .heap dsG21)]) [2, 7, 8, 10, 11, 12, 13] (aH okg13 aO) rfl rfl rfl (fun K hK => ?_)
   simp (disch := omega) only [Tryd.f4, go_sem, Nat.reduceAdd, Nat.reduceLeDiff, Int.reduceLE, Int.reduceLT, BitVec.reduceOfInt, ↓reduceIte, ok2, hds, true_and]
   refine hK _ ?_
   refine aB ?_
   refine aA rfl ?_
   refine aC (Γ := bC [(16, .pure true nxG)]) [2, 7, 8, 10, 11, 12, 13, 14] (aH okh14 aO) rfl rfl rfl (fun K hK => ?_)
   simp (disch := omega) only [Tryd.f4, go_sem, Nat.reduceAdd, Nat.reduceLeDiff, ↓reduceIte]
   refine hK _ ?_
   refine aB ?_
   refine aA rfl ?_
   refine aC (Γ := bC [(17, .heap rnewG)]) [2, 7, 8, 10, 11, 12, 13, 14, 17] (aH okd7 aO) rfl rfl rfl (fun K hK => ?_)
   simp (disch := omega) only [Tryd.f4, go_sem, Nat.reduceAdd, Nat.reduceLeDiff, ↓reduceIte]
   refine hK _ ?_
   refine aB ?_
   rcases hn with rfl | rfl
   ·skip
    refine aA rfl ?_
    refine aC (Γ := bC [(9, .heap stepG), (10, .heap allZ), (15, .heap sgN)]) [6] (aH okh12 (aH okg10 (aH okg15 aO))) rfl rfl rfl (fun K hK => ?_)
    simp (maxSteps := 400000) (disch := omega) only [Tryd.f4, go_sem, Nat.reduceAdd, Nat.reduceMul, Nat.reduceLeDiff, Int.reduceLE, Int.reduceLT, BitVec.reduceOfInt, ↓reduceIte, hst, isP31, decide_true]
    refine hK _ ?_
    refine aB ?_
    refine aS rfl ?_
    simp (disch := omega) only [cN, bV, bK, bQ, Tryd.f4, go_sem, ↓reduceIte]
   ·skip
    refine aA rfl ?_
    refine aC (Γ := bC [(9, .heap stepG), (10, .heap allZ), (15, .heap sgN)]) [6] (aH okh12 (aH okg10 (aH okg15 aO))) rfl rfl rfl (fun K hK => ?_)
    simp (maxSteps := 400000) (disch := omega) only [Tryd.f4, go_sem, Nat.reduceAdd, Nat.reduceMul, Nat.reduceLeDiff, Int.reduceLE, Int.reduceLT, Int.reduceEq, BitVec.reduceOfInt, reduceCtorEq, ↓reduceIte, hst, isP31, decide_true, decide_false]
    refine hK _ ?_
    refine aB ?_
    refine aS rfl ?_
    simp (disch := omega) only [cN, bV, bK, bQ, Tryd.f4, go_sem, ↓reduceIte]
 ·cases hg
end Go.AX
