/-
  Data, part zD: the law DataCanons.
-/
import Derived.Test.YtndohkbppgmbjaaCL
import Derived.Test.YtndohkbppgmbjaaCK
namespace Go.AX
open Go Go.Proofs
def canonsG : List AV → Option AV
 | [.w16 _, .sl n xs] => aK (cI xs) fun l => aN (l.length = n ∧ n ≤ 9223372036854775807) (some (.b true))
 | _ => none
theorem canonsG_y (t : BitVec 16) (l : List B8) (h : l.length ≤ 9223372036854775807) : canonsG [.w16 t, .sl l.length (c8 l)] = some (.b true) := by
 show aK (cI (c8 l)) _ = _
 rw [unW8_c8, aX, cU _ ⟨rfl, h⟩]
set_option maxHeartbeats 8000000 in
theorem canons_go (t : BitVec 16) (l : List B8) (hbig : l.length ≤ 9223372036854775807) (nx : Nat) : Awp Try.prog GLh Try.f3.ntmps (aE Try.f3) (initS [.w16 t, .sl l.length (c8 l)] (fun _ => none) nx) (cN Try.prog Try.f3.results.toList (.b true)) := by
 refine aA rfl ?_
 refine aC (Γ := aL) [0, 1] (aD _ _) rfl rfl rfl (fun K hK => ?_)
 simp only [Try.f3, aE, z0, cl, aM, aF, aG, rN, z1, z2, z3, z4, z5, z6, z7]
 simp (maxSteps := 300000) (disch := omega) only [go_sem, ↓reduceIte]
 with_reducible refine hK _ ?_; clear hK K
 refine aB ?_
 refine aA rfl ?_
 refine aA rfl ?_
 refine aC (Γ := bC [(9, .pure true knownG)]) [10, 0, 1] (aH ok9 aO) rfl rfl rfl (fun K hK => ?_)
 simp only [Try.f3, aE, z0, cl, cr, aM, aF, aG, rN, z1, z2, z3, Nat.reduceAdd, z4, z5, z6, z7]
 simp (maxSteps := 300000) (disch := omega) only [go_sem, Nat.reduceAdd, ↓reduceIte]
 with_reducible refine hK _ ?_; clear hK K
 refine aB ?_
 refine bA (.tmp 10) rfl rfl rfl (fun h => ?_) (fun h => ?_)
 ·skip
  refine aI rfl ?_
  cases h
 ·skip
  refine aI rfl ?_
  clear h
  refine aQ rfl ?_
  refine aB ?_
  refine aA rfl ?_
  refine aA rfl ?_
  refine aC (Γ := aL) [13, 0, 1] (aD _ _) rfl rfl rfl (fun K hK => ?_)
  simp only [Try.f3, aE, z0, cl, cr, aM, aF, aG, rN, z1, z2, z3, Nat.reduceAdd, z4, z5, z6, z7]
  simp (maxSteps := 300000) (disch := omega) only [go_sem, Nat.reduceAdd, ↓reduceIte]
  with_reducible refine hK _ ?_; clear hK K
  refine aB ?_
  refine aW (.tmp 13) rfl rfl rfl (fun h => ?_) (fun h => ?_)
  ·skip
   refine aI rfl ?_
   refine aA rfl ?_
   refine aC (Γ := aL) [4] (aD _ _) rfl rfl rfl (fun K hK => ?_)
   simp only [Try.f3, aE, z0, cl, cr, aM, aF, aG, rN, z1, z2, z3, z4, z5, z6, z7]
   simp (maxSteps := 300000) (disch := omega) only [go_sem, ↓reduceIte]
   with_reducible refine hK _ ?_; clear hK K
   refine aB ?_
   refine aS rfl ?_
   refine bI ?_
   simp (disch := omega) only [cN, bV, bK, bQ, Try.f3, go_sem, ↓reduceIte]
  ·skip
   refine aI rfl ?_
   have hl : l.length ≤ 3000 := by omega
   refine aQ rfl ?_
   refine aB ?_
   refine aA rfl ?_
   have hcan : canFT t l = if gJ t l = 0 then .tup [.sl (gA t l).length (c8 (gA t l)), .i 0] else .tup [.sl 0 [], .i (gJ t l)] := rfl
   by_cases h0 : gJ t l = 0
   ·skip
    rw [if_pos h0] at hcan
    obtain ⟨k1, k2, k3⟩ := canons t l h0
    have hcan2 : canFT t (gA t l) = if gJ t (gA t l) = 0 then .tup [.sl (gA t (gA t l)).length (c8 (gA t (gA t l))), .i 0] else .tup [.sl 0 [], .i (gJ t (gA t l))] := rfl
    rw [if_pos k1, k2] at hcan2
    obtain ⟨c, hc⟩ : ∃ c, gA t l = c := ⟨_, rfl⟩
    rw [hc] at hcan hcan2 k3
    refine aC (Γ := bC [(10, .pure false canFG)]) [0, 1, 5, 6] (aH ok10f aO) rfl rfl rfl (fun K hK => ?_)
    simp only [Try.f3, aE, z0, cl, cr, aM, aF, aG, rN, z1, z2, z3, Nat.reduceAdd, z4, z5, z6, z7]
    simp (maxSteps := 300000) (disch := omega) only [go_sem, Nat.reduceAdd, ↓reduceIte, hcan]
    with_reducible refine hK _ ?_; clear hK K
    refine aB ?_
    refine aA rfl ?_
    refine aA rfl ?_
    refine aC (Γ := aL) [21, 0, 1, 5] (aD _ _) rfl rfl rfl (fun K hK => ?_)
    simp only [Try.f3, aE, z0, cl, cr, aM, aF, aG, rN, z1, z2, z3, Nat.reduceAdd, z4, z5, z6, z7]
    simp (maxSteps := 300000) (disch := omega) only [go_sem, Nat.reduceAdd, ↓reduceIte]
    with_reducible refine hK _ ?_; clear hK K
    refine aB ?_
    refine bA (.tmp 21) rfl rfl rfl (fun h => ?_) (fun h => ?_)
    ·skip
     refine aI rfl ?_
     cases h
    ·skip
     refine aI rfl ?_
     clear h
     refine aQ rfl ?_
     refine aB ?_
     refine aA rfl ?_
     refine aC (Γ := bC [(10, .pure false canFG)]) [1, 5, 7, 8] (aH ok10f aO) rfl rfl rfl (fun K hK => ?_)
     simp only [Try.f3, aE, z0, cl, cr, aM, aF, aG, rN, z1, z2, z3, Nat.reduceAdd, z4, z5, z6, z7]
     simp (maxSteps := 300000) (disch := omega) only [go_sem, Nat.reduceAdd, ↓reduceIte, hcan2]
     with_reducible refine hK _ ?_; clear hK K
     refine aB ?_
     refine aA rfl ?_
     refine aC (Γ := bC [(11, .pure true beqG)]) [4] (aH ok11 aO) rfl rfl rfl (fun K hK => ?_)
     simp only [Try.f3, aE, z0, cl, cr, aM, aF, aG, rN, z1, z2, z3, Nat.reduceAdd, z4, z5, z6, z7, z8, List.getElem?_toArray, List.getElem?_cons_zero, List.getElem?_cons_succ, Option.bind_some]
     simp (maxSteps := 300000) (disch := omega) only [go_sem, Nat.reduceAdd, ↓reduceIte, k3]
     with_reducible refine hK _ ?_; clear hK K
     refine aB ?_
     refine aS rfl ?_
     simp (disch := omega) only [cN, bV, bK, bQ, Try.f3, go_sem, ↓reduceIte]
   ·skip
    rw [if_neg h0] at hcan
    obtain ⟨e, he⟩ : ∃ e, gJ t l = e := ⟨_, rfl⟩
    rw [he] at hcan h0
    have hd : decide (e = 0) = false := decide_eq_false h0
    refine aC (Γ := bC [(10, .pure false canFG)]) [0, 1, 5, 6] (aH ok10f aO) rfl rfl rfl (fun K hK => ?_)
    simp only [Try.f3, aE, z0, cl, cr, aM, aF, aG, rN, z1, z2, z3, Nat.reduceAdd, z4, z5, z6, z7]
    simp (maxSteps := 300000) (disch := omega) only [go_sem, Nat.reduceAdd, ↓reduceIte, hcan]
    with_reducible refine hK _ ?_; clear hK K
    refine aB ?_
    refine aA rfl ?_
    refine aA rfl ?_
    refine aC (Γ := aL) [21, 0, 1, 5] (aD _ _) rfl rfl rfl (fun K hK => ?_)
    simp only [Try.f3, aE, z0, cl, cr, aM, aF, aG, rN, z1, z2, z3, Nat.reduceAdd, z4, z5, z6, z7]
    simp (maxSteps := 300000) (disch := omega) only [go_sem, Nat.reduceAdd, ↓reduceIte, hd, Bool.not_false]
    with_reducible refine hK _ ?_; clear hK K
    refine aB ?_
    refine bA (.tmp 21) rfl rfl rfl (fun h => ?_) (fun h => ?_)
    ·skip
     refine aI rfl ?_
     refine aA rfl ?_
     refine aC (Γ := aL) [4] (aD _ _) rfl rfl rfl (fun K hK => ?_)
     simp only [Try.f3, aE, z0, cl, cr, aM, aF, aG, rN, z1, z2, z3, Nat.reduceAdd, z4, z5, z6, z7]
     simp (maxSteps := 300000) (disch := omega) only [go_sem, Nat.reduceAdd, ↓reduceIte]
     with_reducible refine hK _ ?_; clear hK K
     refine aB ?_
     refine aS rfl ?_
     refine bI ?_
     simp (disch := omega) only [cN, bV, bK, bQ, Try.f3, go_sem, ↓reduceIte]
     rfl
    ·skip
     refine aI rfl ?_
     cases h
theorem canons_ok : cL Try.prog GLh 3 canonsG := by
 refine cC Try.func3 (aT rfl) ?_
 intro args r hg
 unfold canonsG at hg
 split at hg
 ·rename_i t n xs
  replace hg := aJ hg; obtain ⟨l, hl, hg⟩ := hg
  replace hg := aP hg; obtain ⟨⟨rfl, hbig⟩, hg⟩ := hg
  obtain rfl := Option.some.inj hg
  have := bW hl; subst this
  exact ⟨Nat.le_of_ble_eq_true rfl, fun nx => canons_go t l hbig nx⟩
 ·cases hg
end Go.AX
