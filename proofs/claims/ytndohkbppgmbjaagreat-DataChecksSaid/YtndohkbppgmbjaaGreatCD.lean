/-
  Sort, part B: comparing, sorting by insertion, at numbers of sixteen bits. Sort, part C: the heap's sort, at numbers of sixteen bits. Sort, part D: choosing a pivot, at numbers of sixteen bits.
-/
import Derived.Test.YtndohkbppgmbjaaGreatCC
import Derived.Test.YtndohkbppgmbjaaGreatCB
namespace Go.AX
open Go Go.Proofs
structure SDC where
 k : Nat
 d : Array T16
 c : Nat
theorem ltN_eq (x y : T16) : decide (x < y) = ltN x y := by
 unfold ltN; rw [decide_eq_decide, BitVec.lt_def]
def nanG : List AV → Option AV
 | [.w16 _] => some (.b false)
 | _ => none
theorem nanG_eq (x : T16) : nanG [.w16 x] = some (.b false) := (rfl)
def dY : List AV → Option AV
 | [.w16 x, .w16 y] => some (.b (ltN x y))
 | _ => none
theorem lessG_eq (x y : T16) : dY [.w16 x, .w16 y] = some (.b (ltN x y)) := (rfl)
attribute [go_sem] nanG_eq lessG_eq
set_option maxHeartbeats 1000000 in
theorem nan_ok : cL Tryz.prog GLh 104 nanG := by
 refine cC Tryz.func104 (aT rfl) ?_
 intro args r hg
 unfold nanG at hg
 split at hg
 ·rename_i x
  obtain rfl := Option.some.inj hg
  refine ⟨Nat.le_of_ble_eq_true rfl, fun nx => ?_⟩
  refine aA rfl ?_
  refine aC (Γ := aL) [0] (aD _ _) rfl rfl rfl (fun K hK => ?_)
  simp (disch := omega) only [Tryz.f104, go_sem, ↓reduceIte]
  refine hK _ ?_
  refine aB ?_
  refine aA rfl ?_
  refine aC (Γ := aL) [2] (aD _ _) rfl rfl rfl (fun K hK => ?_)
  simp (disch := omega) only [Tryz.f104, go_sem, Nat.reduceAdd, ↓reduceIte, decide_true, Bool.not_true]
  refine hK _ ?_
  refine aB ?_
  refine aS rfl ?_
  simp (disch := omega) only [cN, bV, bK, bQ, Tryz.f104, go_sem, ↓reduceIte]
 ·cases hg
theorem ok109 : bX Tryz.prog GLh 104 (.pure true nanG) := ⟨⟨_, Tryz.func104, rfl, rfl⟩, nan_ok⟩
set_option maxHeartbeats 1000000 in
theorem less_ok : cL Tryz.prog GLh 94 dY := by
 refine cC Tryz.func94 (aT rfl) ?_
 intro args r hg
 unfold dY at hg
 split at hg
 ·rename_i x y
  obtain rfl := Option.some.inj hg
  refine ⟨Nat.le_of_ble_eq_true rfl, fun nx => ?_⟩
  refine aA rfl ?_
  refine aC (Γ := aL) [0, 1] (aD _ _) rfl rfl rfl (fun K hK => ?_)
  simp (disch := omega) only [Tryz.f94, go_sem, ↓reduceIte]
  refine hK _ ?_
  refine aB ?_
  refine aA rfl ?_
  refine aC (Γ := bC [(104, .pure true nanG)]) [4] (aH ok109 aO) rfl rfl rfl (fun K hK => ?_)
  simp (disch := omega) only [Tryz.f94, go_sem, Nat.reduceAdd, reduceCtorEq, ↓reduceIte, ltN_eq]
  refine hK _ ?_
  refine aB ?_
  refine aS rfl ?_
  simp (disch := omega) only [cN, bV, bK, bQ, Tryz.f94, go_sem, ↓reduceIte]
 ·cases hg
theorem ok99 : bX Tryz.prog GLh 94 (.pure true dY) := ⟨⟨_, Tryz.func94, rfl, rfl⟩, less_ok⟩
def insG : List AV → List AV → Option (AV × List AV)
 | [.os _ 0 n 1 _, .i a, .i b], xs => aK (unA xs) fun l => aN (l.length = n ∧ 0 ≤ a ∧ a ≤ b ∧ b ≤ n ∧ n ≤ 1000000) (some (.tup [], cA (Sort.insertionSort ltN l.toArray a.toNat b.toNat)))
 | _, _ => none
theorem insG_eq (id n : Nat) (gg : Bool) (a b : Int) (xs : List AV) : insG [.os id 0 n 1 gg, .i a, .i b] xs = aK (unA xs) fun l => aN (l.length = n ∧ 0 ≤ a ∧ a ≤ b ∧ b ≤ n ∧ n ≤ 1000000) (some (.tup [], cA (Sort.insertionSort ltN l.toArray a.toNat b.toNat))) := (rfl)
attribute [go_sem] insG_eq
theorem insI_s (a j : Nat) (d : Array T16) : Sort.insInner ltN a (j + 1) d = if j + 1 > a && ltN d[j + 1]! d[j]! then Sort.insInner ltN a j (Sort.swp d (j + 1) j) else d := by rw [Sort.insInner]
set_option maxHeartbeats 1000000 in
theorem ins_ok : cQ Tryz.prog GLh 88 (dP insG) := by
 refine dN Tryz.func88 (aT rfl) ?_
 intro id off n e gg rest nx xs r ys hg
 unfold insG at hg
 split at hg
 ·rename_i id2 n2 gg2 a0 b0 heq
  simp only [List.cons.injEq, AV.os.injEq] at heq
  obtain ⟨⟨rfl, rfl, rfl, rfl, rfl⟩, rfl⟩ := heq
  replace hg := aJ hg; obtain ⟨l, hl, hg⟩ := hg
  replace hg := aP hg; obtain ⟨⟨hn, ha, hab, hbn, hbig⟩, hg⟩ := hg
  simp only [Option.some.injEq, Prod.mk.injEq] at hg; obtain ⟨rfl, rfl⟩ := hg
  have := dO hl; subst this
  obtain ⟨a, rfl⟩ := Int.eq_ofNat_of_zero_le ha
  obtain ⟨b, rfl⟩ := Int.eq_ofNat_of_zero_le (show 0 ≤ b0 by omega)
  simp only [Int.toNat_natCast] at *
  obtain ⟨d, hd⟩ : ∃ d, l.toArray = d := ⟨_, rfl⟩
  have hds : d.size = n := by rw [← hd]; simpa using hn
  rw [hd]
  refine ⟨Nat.le_of_ble_eq_true rfl, fun hid => ?_⟩
  obtain ⟨R, hR⟩ : ∃ R, Sort.insertionSort ltN d a b = R := ⟨_, rfl⟩
  have hR0 : Sort.insOuter ltN a b (a + 1) d = R := hR
  rw [hR]
  have hab2 : a ≤ b := by omega
  have hbn2 : b ≤ n := by omega
  clear hR hl hn ha hab hbn
  refine aA rfl ?_
  refine aC (Γ := aL) [0, 1, 2, 6] (aD _ _) rfl rfl rfl (fun K hK => ?_)
  simp (disch := omega) only [Tryz.f88, go_sem, Nat.reduceAdd, ↓reduceIte]
  refine hK _ ?_
  refine aB ?_
  refine aR 0 rfl rfl ?_
  refine bR (fun p : SDC => { fr := [(0, .os id 0 n 1 gg), (1, .i a), (2, .i b), (6, .i p.k)], hp := upd (fun _ => none) id (.cells (cA p.d) true), nx := 0, cx := p.c }) (fun p => Sort.insOuter ltN a b p.k p.d = R ∧ p.d.size = n ∧ a < p.k ∧ id < p.c) (fun p => b - p.k) rfl ⟨⟨a + 1, d, _⟩, ⟨hR0, hds, Nat.lt_succ_self _, by simp only; omega⟩, bD (by simp only [Int.natCast_add, Int.natCast_one]) rfl (Nat.le_refl _)⟩ ?_
  rintro ⟨k, d1, c⟩ ⟨hr1, hs1, hk, hc⟩ n0
  simp only at hr1 hs1 hk hc ⊢
  refine aA rfl ?_
  refine aA rfl ?_
  refine aC (Γ := aL) [12, 0, 1, 2, 6] (aD _ _) rfl rfl rfl (fun K hK => ?_)
  simp (disch := omega) only [Tryz.f88, go_sem, Nat.reduceAdd, ↓reduceIte]
  refine hK _ ?_
  refine aB ?_
  refine aW (.tmp 12) rfl rfl rfl (fun h => ?_) (fun h => ?_)
  ·skip
   refine aI rfl ?_
   have hkb : k < b := by omega
   rw [Sort.insOuter, if_pos hkb] at hr1
   obtain ⟨R2, hR2⟩ : ∃ R2, Sort.insInner ltN a k d1 = R2 := ⟨_, rfl⟩
   rw [hR2] at hr1
   refine aQ rfl ?_
   refine aB ?_
   refine aA rfl ?_
   refine aR 1 rfl rfl ?_
   refine aA rfl ?_
   refine aC (Γ := aL) [0, 1, 2, 6, 7] (aD _ _) rfl rfl rfl (fun K hK => ?_)
   simp (disch := omega) only [Tryz.f88, go_sem, Nat.reduceAdd, ↓reduceIte]
   refine hK _ ?_
   refine aB ?_
   refine aR 2 rfl rfl ?_
   refine bR (fun q : SDC => { fr := [(0, .os id 0 n 1 gg), (1, .i a), (2, .i b), (6, .i k), (7, .i q.k)], hp := upd (fun _ => none) id (.cells (cA q.d) true), nx := 0, cx := q.c }) (fun q => Sort.insInner ltN a q.k q.d = R2 ∧ q.d.size = n ∧ q.k ≤ k ∧ id < q.c) (fun q => q.k) rfl ⟨⟨k, d1, _⟩, ⟨hR2, hs1, Nat.le_refl _, by simp only; omega⟩, bD rfl rfl (Nat.le_refl _)⟩ ?_
   rintro ⟨j, d2, c2⟩ ⟨hr2, hs2, hj, hc2⟩ n0
   simp only at hr2 hs2 hj hc2 ⊢
   by_cases hja : a < j
   ·skip
    obtain ⟨i, rfl⟩ : ∃ i, j = i + 1 := ⟨j - 1, by omega⟩
    have hd1 : decide ((a : Int) < ((i + 1 : Nat) : Int)) = true := decide_eq_true (by omega)
    have e1 : ((i + 1 : Nat) : Int) - 1 = (i : Int) := by omega
    have hgt : (decide (i + 1 > a)) = true := decide_eq_true (by omega)
    rw [insI_s, hgt, Bool.true_and] at hr2
    obtain ⟨v, hv⟩ : ∃ v, ltN d2[i + 1]! d2[i]! = v := ⟨_, rfl⟩
    rw [hv] at hr2
    refine aA rfl ?_
    refine aA rfl ?_
    refine bB (Γ := bC [(94, .pure true dY)]) (fun k => if k = 13 then 0 else 2) [30, 0, 1, 2, 6, 7] bZ (aH ok99 aO) rfl rfl rfl (by kernel_rfl) (fun K hK => ?_)
    simp (disch := omega) only [Tryz.f88, go_sem, Nat.reduceAdd, ↓reduceIte, hd1, e1, hv, Int.toNat_natCast]
    refine hK _ ?_
    refine aB ?_
    cases v
    ·skip
     simp only [Bool.false_eq_true, if_false] at hr2
     refine bA (.tmp 30) rfl rfl rfl (fun h => ?_) (fun h => ?_)
     ·skip
      refine aI rfl ?_
      cases h
     ·skip
      refine aI rfl ?_
      refine bF 2 rfl rfl ?_
      refine aY (aZ (bE ?_))
      refine bU (aB ?_)
      subst hr2
      refine aC (Γ := aL) [0, 1, 2, 6] (aD _ _) rfl rfl rfl (fun K hK => ?_)
      simp (disch := omega) only [Tryz.f88, go_sem, Nat.reduceAdd, ↓reduceIte]
      refine hK _ ?_
      refine bT ?_
      refine ⟨⟨k + 1, d2, _⟩, ⟨hr1, hs2, by simp only; omega, by simp only; omega⟩, by simp only; omega, bD (by simp only [Int.natCast_add, Int.natCast_one]) rfl (Nat.le_refl _)⟩
    ·skip
     simp only [if_true] at hr2
     have hsw : (d2.setIfInBounds (i + 1) d2[i]!).setIfInBounds i d2[i + 1]! = Sort.swp d2 (i + 1) i := rfl
     refine bA (.tmp 30) rfl rfl rfl (fun h => ?_) (fun h => ?_)
     ·skip
      refine aQ rfl ?_
      refine aB ?_
      refine aA rfl ?_
      refine aR 3 rfl rfl ?_
      refine bB (Γ := aL) (fun _ => 2) [0, 1, 2, 6, 7] bZ (aD _ _) rfl rfl rfl (by kernel_rfl) (fun K hK => ?_)
      simp (disch := omega) only [Tryz.f88, go_sem, Nat.reduceAdd, ↓reduceIte, e1, hsw, Int.toNat_natCast]
      refine hK _ ?_
      refine bU (aB ?_)
      refine aC (Γ := aL) [0, 1, 2, 6, 7] (aD _ _) rfl rfl rfl (fun K hK => ?_)
      simp (disch := omega) only [Tryz.f88, go_sem, Nat.reduceAdd, ↓reduceIte, e1]
      refine hK _ ?_
      refine bT ?_
      refine ⟨⟨i, Sort.swp d2 (i + 1) i, _⟩, ⟨hr2, by simp only [cW]; exact hs2, by simp only; omega, by simp only; omega⟩, by simp only; omega, ⟨fun _ => .inr rfl, bS (by simp (disch := omega) only [aV, ↓reduceIte, eq_self]) cB, Nat.le_refl _⟩⟩
     ·skip
      cases h
   ·skip
    have hd1 : decide ((a : Int) < (j : Int)) = false := decide_eq_false (by omega)
    have hr3 : d2 = R2 := by
     rw [← hr2]
     cases j with
     | zero => rfl
     | succ i =>
      have hgt : (decide (i + 1 > a)) = false := decide_eq_false (by omega)
      rw [insI_s, hgt]; rfl
    subst hr3
    refine aA rfl ?_
    refine aA rfl ?_
    refine bB (Γ := bC [(94, .pure true dY)]) (fun k => if k = 13 then 0 else 2) [30, 0, 1, 2, 6, 7] bZ (aH ok99 aO) rfl rfl rfl (by kernel_rfl) (fun K hK => ?_)
    simp (disch := omega) only [Tryz.f88, go_sem, Nat.reduceAdd, reduceCtorEq, ↓reduceIte, hd1]
    refine hK _ ?_
    refine aB ?_
    refine bA (.tmp 30) rfl rfl rfl (fun h => ?_) (fun h => ?_)
    ·skip
     refine aI rfl ?_
     cases h
    ·skip
     refine aI rfl ?_
     refine bF 2 rfl rfl ?_
     refine aY (aZ (bE ?_))
     refine bU (aB ?_)
     refine aC (Γ := aL) [0, 1, 2, 6] (aD _ _) rfl rfl rfl (fun K hK => ?_)
     simp (disch := omega) only [Tryz.f88, go_sem, Nat.reduceAdd, ↓reduceIte]
     refine hK _ ?_
     refine bT ?_
     refine ⟨⟨k + 1, d2, _⟩, ⟨hr1, hs2, by simp only; omega, by simp only; omega⟩, by simp only; omega, bD (by simp only [Int.natCast_add, Int.natCast_one]) rfl (Nat.le_refl _)⟩
  ·skip
   refine aI rfl ?_
   refine bF 0 rfl rfl ?_
   refine aY (aZ (bE ?_))
   have hkb : ¬ k < b := by omega
   rw [Sort.insOuter, if_neg hkb] at hr1
   subst hr1
   exact ⟨rfl, by simp only [aV, if_true], rfl, dZ _⟩
 ·cases hg
theorem ok93 : bX Tryz.prog GLh 88 (.heap (dP insG)) := ⟨⟨_, Tryz.func88, rfl, rfl⟩, ins_ok⟩
end Go.AX
namespace Go.AX
open Go Go.Proofs
theorem sift_end (hi first root : Nat) (d : Array T16) (h : hi ≤ 2 * root + 1) : Sort.siftDown ltN hi first root d = d := by rw [Sort.siftDown, dif_pos h]
theorem sift_two (hi first root : Nat) (d : Array T16) (h : 2 * root + 2 < hi) (hl : ltN d[first + (2 * root + 1)]! d[first + (2 * root + 2)]! = true) : Sort.siftDown ltN hi first root d = if !ltN d[first + root]! d[first + (2 * root + 2)]! then d else Sort.siftDown ltN hi first (2 * root + 2) (Sort.swp d (first + root) (first + (2 * root + 2))) := by
 rw [Sort.siftDown, dif_neg (by omega), if_pos (by rw [show first + (2 * root + 1) + 1 = first + (2 * root + 2) by omega, hl, Bool.and_true]; exact decide_eq_true (by omega)), dif_pos h]
theorem sift_one (hi first root : Nat) (d : Array T16) (h : 2 * root + 1 < hi) (hl : (decide (2 * root + 2 < hi) && ltN d[first + (2 * root + 1)]! d[first + (2 * root + 2)]!) = false) : Sort.siftDown ltN hi first root d = if !ltN d[first + root]! d[first + (2 * root + 1)]! then d else Sort.siftDown ltN hi first (2 * root + 1) (Sort.swp d (first + root) (first + (2 * root + 1))) := by
 rw [Sort.siftDown, dif_neg (by omega), if_neg (by rw [show first + (2 * root + 1) + 1 = first + (2 * root + 2) by omega, show 2 * root + 1 + 1 = 2 * root + 2 by omega, hl]; simp)]
def sifG : List AV → List AV → Option (AV × List AV)
 | [.os _ 0 n 1 _, .i lo, .i hi, .i first], xs => aK (unA xs) fun l => aN (l.length = n ∧ 0 ≤ lo ∧ lo ≤ n ∧ 0 ≤ hi ∧ 0 ≤ first ∧ first + hi ≤ n ∧ n ≤ 1000000) (some (.tup [], cA (Sort.siftDown ltN hi.toNat first.toNat lo.toNat l.toArray)))
 | _, _ => none
theorem sifG_eq (id n : Nat) (gg : Bool) (lo hi first : Int) (xs : List AV) : sifG [.os id 0 n 1 gg, .i lo, .i hi, .i first] xs = aK (unA xs) fun l => aN (l.length = n ∧ 0 ≤ lo ∧ lo ≤ n ∧ 0 ≤ hi ∧ 0 ≤ first ∧ first + hi ≤ n ∧ n ≤ 1000000) (some (.tup [], cA (Sort.siftDown ltN hi.toNat first.toNat lo.toNat l.toArray))) := (rfl)
attribute [go_sem] sifG_eq
set_option maxHeartbeats 2000000 in
theorem sif_ok : cQ Tryz.prog GLh 99 (dP sifG) := by
 refine dN Tryz.func99 (aT rfl) ?_
 intro id off n e gg rest nx xs r ys hg
 unfold sifG at hg
 split at hg
 ·rename_i id2 n2 gg2 lo0 hi0 first0 heq
  simp only [List.cons.injEq, AV.os.injEq] at heq
  obtain ⟨⟨rfl, rfl, rfl, rfl, rfl⟩, rfl⟩ := heq
  replace hg := aJ hg; obtain ⟨l, hl, hg⟩ := hg
  replace hg := aP hg; obtain ⟨⟨hn, hlo, hlon, hhi, hfi, hfn, hbig⟩, hg⟩ := hg
  simp only [Option.some.injEq, Prod.mk.injEq] at hg; obtain ⟨rfl, rfl⟩ := hg
  have := dO hl; subst this
  obtain ⟨lo, rfl⟩ := Int.eq_ofNat_of_zero_le hlo
  obtain ⟨hi, rfl⟩ := Int.eq_ofNat_of_zero_le hhi
  obtain ⟨first, rfl⟩ := Int.eq_ofNat_of_zero_le hfi
  simp only [Int.toNat_natCast] at *
  obtain ⟨d, hd⟩ : ∃ d, l.toArray = d := ⟨_, rfl⟩
  have hds : d.size = n := by rw [← hd]; simpa using hn
  have hlon2 : lo ≤ n := by omega
  have hfn2 : first + hi ≤ n := by omega
  rw [hd]
  refine ⟨Nat.le_of_ble_eq_true rfl, fun hid => ?_⟩
  obtain ⟨R, hR⟩ : ∃ R, Sort.siftDown ltN hi first lo d = R := ⟨_, rfl⟩
  rw [hR]
  clear hl hn hlo hlon hhi hfi hfn
  refine aA rfl ?_
  refine aC (Γ := aL) [0, 2, 3, 8] (aD _ _) rfl rfl rfl (fun K hK => ?_)
  simp (disch := omega) only [Tryz.f99, go_sem, Nat.reduceAdd, ↓reduceIte]
  refine hK _ ?_
  refine aB ?_
  refine aR 0 rfl rfl ?_
  refine bR (fun p : SDC => { fr := [(0, .os id 0 n 1 gg), (2, .i hi), (3, .i first), (8, .i p.k)], hp := upd (fun _ => none) id (.cells (cA p.d) true), nx := 0, cx := p.c }) (fun p => Sort.siftDown ltN hi first p.k p.d = R ∧ p.d.size = n ∧ p.k ≤ n ∧ id < p.c) (fun p => 2 * n - p.k) rfl ⟨⟨lo, d, _⟩, ⟨hR, hds, hlon2, by simp only; omega⟩, bD rfl rfl (Nat.le_refl _)⟩ ?_
  rintro ⟨k, d1, c⟩ ⟨hr1, hs1, hk, hc⟩ n0
  simp only at hr1 hs1 hk hc ⊢
  refine aR 1 rfl rfl ?_
  refine aA rfl ?_
  refine aC (Γ := aL) [0, 2, 3, 8, 9] (aD _ _) rfl rfl rfl (fun K hK => ?_)
  simp (disch := omega) only [Tryz.f99, go_sem, Nat.reduceAdd, ↓reduceIte]
  refine hK _ ?_
  refine aB ?_
  refine aA rfl ?_
  refine aA rfl ?_
  refine aC (Γ := aL) [16, 0, 2, 3, 8, 9] (aD _ _) rfl rfl rfl (fun K hK => ?_)
  simp (disch := omega) only [Tryz.f99, go_sem, Nat.reduceAdd, ↓reduceIte]
  refine hK _ ?_
  refine aB ?_
  refine aW (.tmp 16) rfl rfl rfl (fun h => ?_) (fun h => ?_)
  ·skip
   refine aI rfl ?_
   have hke : hi ≤ 2 * k + 1 := by omega
   rw [sift_end _ _ _ _ hke] at hr1
   subst hr1
   refine bF 0 rfl rfl ?_
   refine aY (nx_ex_out (aZ (bE ?_)) rfl)
   exact ⟨rfl, by simp only [aV, if_true], rfl, dZ _⟩
  ·skip
   refine aI rfl ?_
   refine aQ rfl ?_
   refine aB ?_
   refine aA rfl ?_
   refine aA rfl ?_
   have hk1 : 2 * k + 1 < hi := by omega
   clear h
   have e9 : (first : Int) + (2 * (k : Int) + 1) = ((first + (2 * k + 1) : Nat) : Int) := by omega
   have e9b : ((first + (2 * k + 1) : Nat) : Int) + 1 = ((first + (2 * k + 2) : Nat) : Int) := by omega
   by_cases hk2 : 2 * k + 2 < hi
   ·skip
    have hd1 : decide (2 * (k : Int) + 1 + 1 < (hi : Int)) = true := decide_eq_true (by omega)
    have hb1 : first + (2 * k + 1) < n := by omega
    have hb2 : first + (2 * k + 2) < n := by omega
    obtain ⟨u, hu⟩ : ∃ u, ltN d1[first + (2 * k + 1)]! d1[first + (2 * k + 2)]! = u := ⟨_, rfl⟩
    refine bB (Γ := bC [(94, .pure true dY)]) (fun k => if k = 18 then 0 else 2) [36, 0, 2, 3, 8, 9] bZ (aH ok99 aO) rfl rfl rfl (by kernel_rfl) (fun K hK => ?_)
    simp (disch := omega) only [Tryz.f99, go_sem, Nat.reduceAdd, ↓reduceIte, hd1, e9, e9b, hu, Int.toNat_natCast]
    refine hK _ ?_
    refine aB ?_
    cases u
    ·skip
     rw [sift_one _ _ _ _ hk1 (by rw [hu, Bool.and_false])] at hr1
     refine bA (.tmp 36) rfl rfl rfl (fun h => ?_) (fun h => ?_)
     ·skip
      refine aI rfl ?_
      cases h
     ·skip
      refine aI rfl ?_
      refine aQ rfl ?_
      refine aB ?_
      refine aA rfl ?_
      refine aA rfl ?_
      obtain ⟨ch, hch⟩ : ∃ ch, 2 * k + 1 = ch := ⟨_, rfl⟩
      have ech : 2 * (k : Int) + 1 = (ch : Int) := by omega
      rw [hch] at hr1
      rw [ech]
      clear e9 e9b hu
      have hchn : first + ch < n := by omega
      have hkn : first + k < n := by omega
      obtain ⟨v, hv⟩ : ∃ v, ltN d1[first + k]! d1[first + ch]! = v := ⟨_, rfl⟩
      rw [hv] at hr1
      have e2 : ((first : Int) + (k : Int)).toNat = first + k := by omega
      have e3 : ((first : Int) + (ch : Int)).toNat = first + ch := by omega
      refine bB (Γ := bC [(94, .pure true dY)]) (fun k => if k = 12 then 0 else 2) [52, 0, 2, 3, 8, 9] bZ (aH ok99 aO) rfl rfl rfl (by kernel_rfl) (fun K hK => ?_)
      simp (disch := omega) only [Tryz.f99, go_sem, Nat.reduceAdd, ↓reduceIte, e2, e3, hv]
      refine hK _ ?_
      refine aB ?_
      cases v
      ·skip
       simp only [Bool.not_false, if_true] at hr1
       subst hr1
       refine bA (.tmp 52) rfl rfl rfl (fun h => ?_) (fun h => ?_)
       ·skip
        refine aI rfl ?_
        refine aS rfl ?_
        refine bI (bN (dF (bN ?_)))
        exact ⟨rfl, by simp only [aV, if_true], rfl, dZ _⟩
       ·skip
        refine aI rfl ?_
        cases h
      ·skip
       simp only [Bool.not_true, Bool.false_eq_true, if_false] at hr1
       refine bA (.tmp 52) rfl rfl rfl (fun h => ?_) (fun h => ?_)
       ·skip
        cases h
       ·skip
        refine aQ rfl ?_
        refine aB ?_
        refine aA rfl ?_
        have hsw : (d1.setIfInBounds (first + k) d1[first + ch]!).setIfInBounds (first + ch) d1[first + k]! = Sort.swp d1 (first + k) (first + ch) := rfl
        refine bB (Γ := aL) (fun _ => 2) [0, 2, 3, 9] bZ (aD _ _) rfl rfl rfl (by kernel_rfl) (fun K hK => ?_)
        simp (disch := omega) only [Tryz.f99, go_sem, Nat.reduceAdd, ↓reduceIte, e2, e3, hsw]
        refine hK _ ?_
        refine aB ?_
        refine aC (Γ := aL) [0, 2, 3, 8] (aD _ _) rfl rfl rfl (fun K hK => ?_)
        simp (disch := omega) only [Tryz.f99, go_sem, Nat.reduceAdd, ↓reduceIte]
        refine hK _ ?_
        refine bU (bT ?_)
        refine ⟨⟨ch, Sort.swp d1 (first + k) (first + ch), _⟩, ⟨hr1, by simp only [cW]; exact hs1, by simp only; omega, by simp only; omega⟩, by simp only; omega, ⟨fun _ => .inr rfl, bS (by simp (disch := omega) only [aV, ↓reduceIte, eq_self]) cB, Nat.le_refl _⟩⟩
    ·skip
     rw [sift_two _ _ _ _ hk2 hu] at hr1
     refine bA (.tmp 36) rfl rfl rfl (fun h => ?_) (fun h => ?_)
     ·skip
      refine aC (Γ := aL) [0, 2, 3, 8, 9] (aD _ _) rfl rfl rfl (fun K hK => ?_)
      simp (disch := omega) only [Tryz.f99, go_sem, Nat.reduceAdd, ↓reduceIte]
      refine hK _ ?_
      refine aB ?_
      obtain ⟨ch, hch⟩ : ∃ ch, 2 * k + 2 = ch := ⟨_, rfl⟩
      have ech : 2 * (k : Int) + 1 + 1 = (ch : Int) := by omega
      rw [hch] at hr1
      rw [ech]
      clear e9 e9b hu
      have hchn : first + ch < n := by omega
      have hkn : first + k < n := by omega
      obtain ⟨v, hv⟩ : ∃ v, ltN d1[first + k]! d1[first + ch]! = v := ⟨_, rfl⟩
      rw [hv] at hr1
      have e2 : ((first : Int) + (k : Int)).toNat = first + k := by omega
      have e3 : ((first : Int) + (ch : Int)).toNat = first + ch := by omega
      refine aA rfl ?_
      refine aA rfl ?_
      refine bB (Γ := bC [(94, .pure true dY)]) (fun k => if k = 12 then 0 else 2) [52, 0, 2, 3, 8, 9] bZ (aH ok99 aO) rfl rfl rfl (by kernel_rfl) (fun K hK => ?_)
      simp (disch := omega) only [Tryz.f99, go_sem, Nat.reduceAdd, ↓reduceIte, e2, e3, hv]
      refine hK _ ?_
      refine aB ?_
      cases v
      ·skip
       simp only [Bool.not_false, if_true] at hr1
       subst hr1
       refine bA (.tmp 52) rfl rfl rfl (fun h => ?_) (fun h => ?_)
       ·skip
        refine aI rfl ?_
        refine aS rfl ?_
        refine bI (bN (dF (bN ?_)))
        exact ⟨rfl, by simp only [aV, if_true], rfl, dZ _⟩
       ·skip
        refine aI rfl ?_
        cases h
      ·skip
       simp only [Bool.not_true, Bool.false_eq_true, if_false] at hr1
       refine bA (.tmp 52) rfl rfl rfl (fun h => ?_) (fun h => ?_)
       ·skip
        cases h
       ·skip
        refine aQ rfl ?_
        refine aB ?_
        refine aA rfl ?_
        have hsw : (d1.setIfInBounds (first + k) d1[first + ch]!).setIfInBounds (first + ch) d1[first + k]! = Sort.swp d1 (first + k) (first + ch) := rfl
        refine bB (Γ := aL) (fun _ => 2) [0, 2, 3, 9] bZ (aD _ _) rfl rfl rfl (by kernel_rfl) (fun K hK => ?_)
        simp (disch := omega) only [Tryz.f99, go_sem, Nat.reduceAdd, ↓reduceIte, e2, e3, hsw]
        refine hK _ ?_
        refine aB ?_
        refine aC (Γ := aL) [0, 2, 3, 8] (aD _ _) rfl rfl rfl (fun K hK => ?_)
        simp (disch := omega) only [Tryz.f99, go_sem, Nat.reduceAdd, ↓reduceIte]
        refine hK _ ?_
        refine bU (bT ?_)
        refine ⟨⟨ch, Sort.swp d1 (first + k) (first + ch), _⟩, ⟨hr1, by simp only [cW]; exact hs1, by simp only; omega, by simp only; omega⟩, by simp only; omega, ⟨fun _ => .inr rfl, bS (by simp (disch := omega) only [aV, ↓reduceIte, eq_self]) cB, Nat.le_refl _⟩⟩
     ·skip
      cases h
   ·skip
    have hd1 : decide (2 * (k : Int) + 1 + 1 < (hi : Int)) = false := decide_eq_false (by omega)
    refine bB (Γ := bC [(94, .pure true dY)]) (fun k => if k = 18 then 0 else 2) [36, 0, 2, 3, 8, 9] bZ (aH ok99 aO) rfl rfl rfl (by kernel_rfl) (fun K hK => ?_)
    simp (disch := omega) only [Tryz.f99, go_sem, Nat.reduceAdd, reduceCtorEq, ↓reduceIte, hd1]
    refine hK _ ?_
    refine aB ?_
    rw [sift_one _ _ _ _ hk1 (by rw [decide_eq_false (by omega : ¬ 2 * k + 2 < hi), Bool.false_and])] at hr1
    refine bA (.tmp 36) rfl rfl rfl (fun h => ?_) (fun h => ?_)
    ·skip
     refine aI rfl ?_
     cases h
    ·skip
     refine aI rfl ?_
     refine aQ rfl ?_
     refine aB ?_
     refine aA rfl ?_
     refine aA rfl ?_
     obtain ⟨ch, hch⟩ : ∃ ch, 2 * k + 1 = ch := ⟨_, rfl⟩
     have ech : 2 * (k : Int) + 1 = (ch : Int) := by omega
     rw [hch] at hr1
     rw [ech]
     clear e9 e9b
     have hchn : first + ch < n := by omega
     have hkn : first + k < n := by omega
     obtain ⟨v, hv⟩ : ∃ v, ltN d1[first + k]! d1[first + ch]! = v := ⟨_, rfl⟩
     rw [hv] at hr1
     have e2 : ((first : Int) + (k : Int)).toNat = first + k := by omega
     have e3 : ((first : Int) + (ch : Int)).toNat = first + ch := by omega
     refine bB (Γ := bC [(94, .pure true dY)]) (fun k => if k = 12 then 0 else 2) [52, 0, 2, 3, 8, 9] bZ (aH ok99 aO) rfl rfl rfl (by kernel_rfl) (fun K hK => ?_)
     simp (disch := omega) only [Tryz.f99, go_sem, Nat.reduceAdd, ↓reduceIte, e2, e3, hv]
     refine hK _ ?_
     refine aB ?_
     cases v
     ·skip
      simp only [Bool.not_false, if_true] at hr1
      subst hr1
      refine bA (.tmp 52) rfl rfl rfl (fun h => ?_) (fun h => ?_)
      ·skip
       refine aI rfl ?_
       refine aS rfl ?_
       refine bI (bN (dF (bN ?_)))
       exact ⟨rfl, by simp only [aV, if_true], rfl, dZ _⟩
      ·skip
       refine aI rfl ?_
       cases h
     ·skip
      simp only [Bool.not_true, Bool.false_eq_true, if_false] at hr1
      refine bA (.tmp 52) rfl rfl rfl (fun h => ?_) (fun h => ?_)
      ·skip
       cases h
      ·skip
       refine aQ rfl ?_
       refine aB ?_
       refine aA rfl ?_
       have hsw : (d1.setIfInBounds (first + k) d1[first + ch]!).setIfInBounds (first + ch) d1[first + k]! = Sort.swp d1 (first + k) (first + ch) := rfl
       refine bB (Γ := aL) (fun _ => 2) [0, 2, 3, 9] bZ (aD _ _) rfl rfl rfl (by kernel_rfl) (fun K hK => ?_)
       simp (disch := omega) only [Tryz.f99, go_sem, Nat.reduceAdd, ↓reduceIte, e2, e3, hsw]
       refine hK _ ?_
       refine aB ?_
       refine aC (Γ := aL) [0, 2, 3, 8] (aD _ _) rfl rfl rfl (fun K hK => ?_)
       simp (disch := omega) only [Tryz.f99, go_sem, Nat.reduceAdd, ↓reduceIte]
       refine hK _ ?_
       refine bU (bT ?_)
       refine ⟨⟨ch, Sort.swp d1 (first + k) (first + ch), _⟩, ⟨hr1, by simp only [cW]; exact hs1, by simp only; omega, by simp only; omega⟩, by simp only; omega, ⟨fun _ => .inr rfl, bS (by simp (disch := omega) only [aV, ↓reduceIte, eq_self]) cB, Nat.le_refl _⟩⟩
 ·cases hg
theorem ok104 : bX Tryz.prog GLh 99 (.heap (dP sifG)) := ⟨⟨_, Tryz.func99, rfl, rfl⟩, sif_ok⟩
theorem sif_size0 (hi first : Nat) : ∀ (m root : Nat) (d : Array T16), hi - root ≤ m → (Sort.siftDown ltN hi first root d).size = d.size := by
 intro m
 induction m with
 | zero => intro root d h; rw [sift_end _ _ _ _ (by omega)]
 | succ m ih =>
  intro root d h
  rw [Sort.siftDown]
  split
  ·rfl
  split
  ·split
   ·rfl
   split
   ·rw [ih _ _ (by omega), cW]
   ·rfl
  ·split
   ·rfl
   ·rw [ih _ _ (by omega), cW]
theorem sif_size (hi first root : Nat) (d : Array T16) : (Sort.siftDown ltN hi first root d).size = d.size := sif_size0 hi first _ root d (Nat.le_refl _)
def hepG : List AV → List AV → Option (AV × List AV)
 | [.os _ 0 n 1 _, .i a, .i b], xs => aK (unA xs) fun l => aN (l.length = n ∧ 0 ≤ a ∧ a < b ∧ b ≤ n ∧ n ≤ 1000000) (some (.tup [], cA (Sort.heapSort ltN l.toArray a.toNat b.toNat)))
 | _, _ => none
theorem hepG_eq (id n : Nat) (gg : Bool) (a b : Int) (xs : List AV) : hepG [.os id 0 n 1 gg, .i a, .i b] xs = aK (unA xs) fun l => aN (l.length = n ∧ 0 ≤ a ∧ a < b ∧ b ≤ n ∧ n ≤ 1000000) (some (.tup [], cA (Sort.heapSort ltN l.toArray a.toNat b.toNat))) := (rfl)
attribute [go_sem] hepG_eq sif_size Array.toArray_toList Array.length_toList
set_option maxHeartbeats 2000000 in
theorem hep_ok : cQ Tryz.prog GLh 89 (dP hepG) := by
 refine dN Tryz.func89 (aT rfl) ?_
 intro id off n e gg rest nx xs r ys hg
 unfold hepG at hg
 split at hg
 ·rename_i id2 n2 gg2 a0 b0 heq
  simp only [List.cons.injEq, AV.os.injEq] at heq
  obtain ⟨⟨rfl, rfl, rfl, rfl, rfl⟩, rfl⟩ := heq
  replace hg := aJ hg; obtain ⟨l, hl, hg⟩ := hg
  replace hg := aP hg; obtain ⟨⟨hn, ha, hab, hbn, hbig⟩, hg⟩ := hg
  simp only [Option.some.injEq, Prod.mk.injEq] at hg; obtain ⟨rfl, rfl⟩ := hg
  have := dO hl; subst this
  obtain ⟨a, rfl⟩ := Int.eq_ofNat_of_zero_le ha
  obtain ⟨b, rfl⟩ := Int.eq_ofNat_of_zero_le (show 0 ≤ b0 by omega)
  simp only [Int.toNat_natCast] at *
  obtain ⟨d, hd⟩ : ∃ d, l.toArray = d := ⟨_, rfl⟩
  have hds : d.size = n := by rw [← hd]; simpa using hn
  have hab2 : a < b := by omega
  have hbn2 : b ≤ n := by omega
  rw [hd]
  refine ⟨Nat.le_of_ble_eq_true rfl, fun hid => ?_⟩
  obtain ⟨R, hR⟩ : ∃ R, Sort.heapSort ltN d a b = R := ⟨_, rfl⟩
  obtain ⟨H, hH⟩ : ∃ H : Nat, b - a = H := ⟨_, rfl⟩
  obtain ⟨B, hB⟩ : ∃ B, Sort.heapBuild ltN H a ((H - 1) / 2 + 1) d = B := ⟨_, rfl⟩
  rw [hR]
  rw [Sort.heapSort, hH, hB] at hR
  have eH : (b : Int) - (a : Int) = (H : Int) := by omega
  have eq2 : ((H : Int) - 1).tdiv 2 = (((H - 1) / 2 : Nat) : Int) := by rw [Int.tdiv_eq_ediv_of_nonneg (by omega)]; omega
  clear hl hn ha hab hbn
  refine aA rfl ?_
  refine aC (Γ := aL) [0, 1, 2, 6] (aD _ _) rfl rfl rfl (fun K hK => ?_)
  simp (disch := omega) only [Tryz.f89, go_sem, Nat.reduceAdd, ↓reduceIte]
  refine hK _ ?_
  refine aB ?_
  refine aA rfl ?_
  refine aC (Γ := aL) [0, 1, 2, 6, 7] (aD _ _) rfl rfl rfl (fun K hK => ?_)
  simp (disch := omega) only [Tryz.f89, go_sem, ↓reduceIte]
  refine hK _ ?_
  refine aB ?_
  refine aA rfl ?_
  refine aC (Γ := aL) [0, 6, 7, 8] (aD _ _) rfl rfl rfl (fun K hK => ?_)
  simp (disch := omega) only [Tryz.f89, go_sem, Nat.reduceAdd, ↓reduceIte, eH]
  refine hK _ ?_
  refine aB ?_
  refine aA rfl ?_
  refine aA rfl ?_
  refine aC (Γ := aL) [0, 6, 7, 8, 9] (aD _ _) rfl rfl rfl (fun K hK => ?_)
  simp (disch := omega) only [Tryz.f89, go_sem, Nat.reduceAdd, Int.reduceEq, ↓reduceIte, eq2]
  refine hK _ ?_
  refine aB ?_
  refine aR 0 rfl rfl ?_
  refine bR (fun p : SDC => { fr := [(0, .os id 0 n 1 gg), (6, .i a), (7, .i 0), (8, .i H), (9, .i ((p.k : Int) - 1))], hp := upd (fun _ => none) id (.cells (cA p.d) true), nx := 0, cx := p.c }) (fun p => Sort.heapBuild ltN H a p.k p.d = B ∧ p.d.size = n ∧ p.k ≤ H ∧ id < p.c) (fun p => p.k) rfl ⟨⟨(H - 1) / 2 + 1, d, _⟩, ⟨hB, hds, by simp only; omega, by simp only; omega⟩, bD (by simp only [Int.natCast_add, Int.natCast_one, Int.add_sub_cancel]) rfl (Nat.le_refl _)⟩ ?_
  rintro ⟨k, d1, c⟩ ⟨hr1, hs1, hk, hc⟩ n0
  simp only at hr1 hs1 hk hc ⊢
  refine aA rfl ?_
  refine aA rfl ?_
  refine aC (Γ := aL) [19, 0, 6, 7, 8, 9] (aD _ _) rfl rfl rfl (fun K hK => ?_)
  simp (disch := omega) only [Tryz.f89, go_sem, Nat.reduceAdd, ↓reduceIte]
  refine hK _ ?_
  refine aB ?_
  refine aW (.tmp 19) rfl rfl rfl (fun h => ?_) (fun h => ?_)
  ·skip
   refine aI rfl ?_
   obtain ⟨i, rfl⟩ : ∃ i, k = i + 1 := ⟨k - 1, by omega⟩
   have e1 : ((i + 1 : Nat) : Int) - 1 = (i : Int) := by omega
   rw [Sort.heapBuild] at hr1
   refine aQ rfl ?_
   refine aB ?_
   refine aA rfl ?_
   refine aR 1 rfl rfl ?_
   refine aC (Γ := bC [(99, .heap (dP sifG))]) [0, 6, 7, 8, 9] (aH ok104 aO) rfl rfl rfl (fun K hK => ?_)
   simp (disch := omega) only [Tryz.f89, go_sem, Nat.reduceAdd, ↓reduceIte, e1, hs1, Int.toNat_natCast]
   refine hK _ ?_
   refine bU (aB ?_)
   refine aC (Γ := aL) [0, 6, 7, 8, 9] (aD _ _) rfl rfl rfl (fun K hK => ?_)
   simp (disch := omega) only [Tryz.f89, go_sem, Nat.reduceAdd, ↓reduceIte]
   refine hK _ ?_
   refine bT ?_
   refine ⟨⟨i, Sort.siftDown ltN H a i d1, _⟩, ⟨hr1, by simp only [sif_size]; exact hs1, by simp only; omega, by simp only; omega⟩, by simp only; omega, ⟨fun _ => .inr rfl, bS (by simp (disch := omega) only [aV, ↓reduceIte, eq_self]) cB, Nat.le_refl _⟩⟩
  ·skip
   refine aI rfl ?_
   refine bF 0 rfl rfl ?_
   refine aY (aZ (bE ?_))
   refine aB ?_
   refine aA rfl ?_
   obtain rfl : k = 0 := by omega
   rw [Sort.heapBuild] at hr1
   subst hr1
   refine aC (Γ := aL) [0, 6, 7, 10] (aD _ _) rfl rfl rfl (fun K hK => ?_)
   simp (disch := omega) only [Tryz.f89, go_sem, Nat.reduceAdd, ↓reduceIte]
   refine hK _ ?_
   refine aB ?_
   refine aR 2 rfl rfl ?_
   refine bR (fun p : SDC => { fr := [(0, .os id 0 n 1 gg), (6, .i a), (7, .i 0), (10, .i ((p.k : Int) - 1))], hp := upd (fun _ => none) id (.cells (cA p.d) true), nx := 0, cx := p.c }) (fun p => Sort.heapPop ltN a p.k p.d = R ∧ p.d.size = n ∧ p.k ≤ H ∧ id < p.c) (fun p => p.k) rfl ⟨⟨H, d1, _⟩, ⟨hR, hs1, Nat.le_refl _, by simp only; omega⟩, bD rfl rfl (Nat.le_refl _)⟩ ?_
   rintro ⟨k, d2, c2⟩ ⟨hr2, hs2, hk2, hc2⟩ n0
   simp only at hr2 hs2 hk2 hc2 ⊢
   refine aA rfl ?_
   refine aA rfl ?_
   refine aC (Γ := aL) [30, 0, 6, 7, 10] (aD _ _) rfl rfl rfl (fun K hK => ?_)
   simp (disch := omega) only [Tryz.f89, go_sem, Nat.reduceAdd, ↓reduceIte]
   refine hK _ ?_
   refine aB ?_
   refine aW (.tmp 30) rfl rfl rfl (fun h => ?_) (fun h => ?_)
   ·skip
    refine aI rfl ?_
    obtain ⟨i, rfl⟩ : ∃ i, k = i + 1 := ⟨k - 1, by omega⟩
    have e1 : ((i + 1 : Nat) : Int) - 1 = (i : Int) := by omega
    have e2 : ((a : Int) + (i : Int)).toNat = a + i := by omega
    have hsw : (d2.setIfInBounds a d2[a + i]!).setIfInBounds (a + i) d2[a]! = Sort.swp d2 a (a + i) := rfl
    have hss : (Sort.swp d2 a (a + i)).size = n := by rw [cW]; exact hs2
    rw [Sort.heapPop] at hr2
    refine aQ rfl ?_
    refine aB ?_
    refine aA rfl ?_
    refine aR 3 rfl rfl ?_
    refine aA rfl ?_
    refine bB (Γ := aL) (fun _ => 2) [0, 6, 7, 10] bZ (aD _ _) rfl rfl rfl (by kernel_rfl) (fun K hK => ?_)
    simp (disch := omega) only [Tryz.f89, go_sem, Nat.reduceAdd, ↓reduceIte, e1, e2, hsw]
    refine hK _ ?_
    refine aB ?_
    refine aC (Γ := bC [(99, .heap (dP sifG))]) [0, 6, 7, 10] (aH ok104 aO) rfl rfl rfl (fun K hK => ?_)
    simp (disch := omega) only [Tryz.f89, go_sem, Nat.reduceAdd, Int.reduceLE, Int.reduceToNat, ↓reduceIte, hss, Int.toNat_natCast]
    refine hK _ ?_
    refine bU (aB ?_)
    refine aC (Γ := aL) [0, 6, 7, 10] (aD _ _) rfl rfl rfl (fun K hK => ?_)
    simp (disch := omega) only [Tryz.f89, go_sem, Nat.reduceAdd, ↓reduceIte]
    refine hK _ ?_
    refine bT ?_
    refine ⟨⟨i, Sort.siftDown ltN i a 0 (Sort.swp d2 a (a + i)), _⟩, ⟨hr2, by simp only [sif_size]; exact hss, by simp only; omega, by simp only; omega⟩, by simp only; omega, ⟨fun _ => .inr rfl, bS (by simp (disch := omega) only [aV, ↓reduceIte, eq_self]) cB, Nat.le_refl _⟩⟩
   ·skip
    refine aI rfl ?_
    refine bF 2 rfl rfl ?_
    refine aY (aZ (bE ?_))
    obtain rfl : k = 0 := by omega
    rw [Sort.heapPop] at hr2
    subst hr2
    exact ⟨rfl, by simp only [aV, if_true], rfl, dZ _⟩
 ·cases hg
theorem ok94 : bX Tryz.prog GLh 89 (.heap (dP hepG)) := ⟨⟨_, Tryz.func89, rfl, rfl⟩, hep_ok⟩
end Go.AX
namespace Go.AX
open Go Go.Proofs
def rowO : AO → Option (List AV)
 | .cells xs mt => aN (mt = true) (some xs)
theorem rowO_c (xs : List AV) (mt : Bool) : rowO (.cells xs mt) = aN (mt = true) (some xs) := (rfl)
theorem rowO_inv {o : AO} {xs : List AV} (h : rowO o = some xs) : o = .cells xs true := by
 obtain ⟨ys, mt⟩ := o
 obtain ⟨hm, h⟩ := aP h
 obtain rfl := Option.some.inj h
 rw [hm]
def oneI : List AV → Option Int
 | [.i s] => some s
 | _ => none
theorem oneI_eq (s : Int) : oneI [.i s] = some s := (rfl)
theorem oneI_inv {xs : List AV} {s : Int} (h : oneI xs = some s) : xs = [.i s] := by
 unfold oneI at h
 split at h
 ·obtain rfl := Option.some.inj h; rfl
 ·cases h
attribute [go_sem] rowO_c oneI_eq List.head?_cons List.set_cons_zero
theorem hsub_same {hp : H} {q : Nat} {a : AO} (h : hp q = some a) : ∀ j o, upd hp q a j = some o → hp j = some o := by
 intro j o hj
 rw [bJ] at hj
 split at hj
 ·rename_i e; rw [e, h]; exact hj
 ·exact hj
theorem hsub_up {hp t : H} {q : Nat} {a : AO} (h1 : t q = some a) (h2 : ∀ j, j ≠ q → t j = hp j) : ∀ j o, upd hp q a j = some o → t j = some o := by
 intro j o hj
 rw [bJ] at hj
 split at hj
 ·rename_i e; rw [e, h1]; exact hj
 ·rename_i e; rw [h2 j e]; exact hj
def ordH : List AV → H → Nat → Option (AV × H × Nat)
 | [.os id 0 n 1 _, .i a, .i b, .op q 0], hp, nx => aK (hp id) fun o => aK (rowO o) fun xs => aK (unA xs) fun l => aK (hp q) fun o2 => aK (rowO o2) fun ys => aK (oneI ys) fun s => aN (id ≠ q ∧ l.length = n ∧ 0 ≤ a ∧ a < n ∧ 0 ≤ b ∧ b < n ∧  n ≤ 1000000 ∧ 0 ≤ s ∧ s ≤ 1000) (some (.tup [.i (Sort.order2 ltN l.toArray a.toNat b.toNat s.toNat).1, .i (Sort.order2 ltN l.toArray a.toNat b.toNat s.toNat).2.1], upd hp q (.cells [.i (Sort.order2 ltN l.toArray a.toNat b.toNat s.toNat).2.2] true), nx + 60))
 | _, _, _ => none
theorem ordH_eq (id n q : Nat) (gg : Bool) (a b : Int) (hp : H) (nx : Nat) : ordH [.os id 0 n 1 gg, .i a, .i b, .op q 0] hp nx = aK (hp id) fun o => aK (rowO o) fun xs => aK (unA xs) fun l => aK (hp q) fun o2 => aK (rowO o2) fun ys => aK (oneI ys) fun s => aN (id ≠ q ∧ l.length = n ∧ 0 ≤ a ∧ a < n ∧ 0 ≤ b ∧ b < n ∧  n ≤ 1000000 ∧ 0 ≤ s ∧ s ≤ 1000) (some (.tup [.i (Sort.order2 ltN l.toArray a.toNat b.toNat s.toNat).1, .i (Sort.order2 ltN l.toArray a.toNat b.toNat s.toNat).2.1], upd hp q (.cells [.i (Sort.order2 ltN l.toArray a.toNat b.toNat s.toNat).2.2] true), nx + 60)) := (rfl)
attribute [go_sem] ordH_eq
set_option maxHeartbeats 1000000 in
theorem ord_ok : cQ Tryz.prog GLh 105 ordH := by
 refine gF Tryz.func105 (aT rfl) ?_
 intro args hp nx r hp' nx' hg
 unfold ordH at hg
 split at hg
 ·rename_i hp0 nx0 id n gg a0 b0 q
  replace hg := aJ hg; obtain ⟨o, ho, hg⟩ := hg
  replace hg := aJ hg; obtain ⟨xs, hxs, hg⟩ := hg
  obtain rfl := rowO_inv hxs
  replace hg := aJ hg; obtain ⟨l, hl, hg⟩ := hg
  replace hg := aJ hg; obtain ⟨o2, ho2, hg⟩ := hg
  replace hg := aJ hg; obtain ⟨ys, hys, hg⟩ := hg
  obtain rfl := rowO_inv hys
  replace hg := aJ hg; obtain ⟨s0, hs0, hg⟩ := hg
  obtain rfl := oneI_inv hs0
  replace hg := aP hg; obtain ⟨⟨hne, hn, hal, hau, hbl, hbu, hbig, hsl, hsu⟩, hg⟩ := hg
  simp only [Option.some.injEq, Prod.mk.injEq] at hg; obtain ⟨rfl, rfl, rfl⟩ := hg
  have := dO hl; subst this
  obtain ⟨a, rfl⟩ := Int.eq_ofNat_of_zero_le hal
  obtain ⟨b, rfl⟩ := Int.eq_ofNat_of_zero_le hbl
  obtain ⟨s, rfl⟩ := Int.eq_ofNat_of_zero_le hsl
  simp only [Int.toNat_natCast] at *
  obtain ⟨d, hd⟩ : ∃ d, l.toArray = d := ⟨_, rfl⟩
  have hds : d.size = n := by rw [← hd]; simpa using hn
  rw [hd] at ho ⊢
  have hqi : q ≠ id := fun e => hne e.symm
  refine ⟨Nat.le_of_ble_eq_true rfl, by omega, fun hnone => ?_⟩
  have hidn : id < nx := by
   apply Classical.byContradiction; intro hc; rw [hnone id (by omega)] at ho; cases ho
  have hqn : q < nx := by
   apply Classical.byContradiction; intro hc; rw [hnone q (by omega)] at ho2; cases ho2
  obtain ⟨v, hv⟩ : ∃ v, ltN d[b]! d[a]! = v := ⟨_, rfl⟩
  simp only [Sort.order2, hv]
  refine aA rfl ?_
  refine aC (Γ := aL) [0, 1, 2, 3] (aD _ _) rfl rfl rfl (fun K hK => ?_)
  simp (disch := omega) only [Tryz.f105, go_sem, Nat.reduceAdd, ↓reduceIte]
  refine hK _ ?_
  refine aB ?_
  refine aA rfl ?_
  refine aA rfl ?_
  refine bB (Γ := bC [(94, .pure true dY)]) (fun k => if k = 8 then 0 else 2) [18, 1, 2, 3] bZ (aH ok99 aO) rfl rfl rfl (by kernel_rfl) (fun K hK => ?_)
  simp (disch := omega) only [Tryz.f105, go_sem, Nat.reduceAdd, ↓reduceIte, ho, hv, Int.toNat_natCast]
  refine hK _ ?_
  refine aB ?_
  cases v
  ·skip
   refine bA (.tmp 18) rfl rfl rfl (fun h => ?_) (fun h => ?_)
   ·skip
    refine aI rfl ?_
    cases h
   ·skip
    refine aI rfl ?_
    refine aQ rfl ?_
    refine aB ?_
    refine aA rfl ?_
    refine aC (Γ := aL) [8, 9] (aD _ _) rfl rfl rfl (fun K hK => ?_)
    simp (disch := omega) only [Tryz.f105, go_sem, Nat.reduceAdd, ↓reduceIte]
    refine hK _ ?_
    refine aB ?_
    refine aS rfl ?_
    exact ⟨rfl, hsub_same ho2, by simp only; omega⟩
  ·skip
   refine bA (.tmp 18) rfl rfl rfl (fun h => ?_) (fun h => ?_)
   ·skip
    refine aA rfl ?_
    refine aC (Γ := aL) [1, 2] (aD _ _) rfl rfl rfl (fun K hK => ?_)
    simp (disch := omega) only [Tryz.f105, go_sem, Nat.reduceAdd, Nat.reduceLeDiff, ↓reduceIte, ho2]
    refine hK _ ?_
    refine aB ?_
    refine aA rfl ?_
    refine aC (Γ := aL) [8, 9] (aD _ _) rfl rfl rfl (fun K hK => ?_)
    simp (disch := omega) only [Tryz.f105, go_sem, Nat.reduceAdd, ↓reduceIte]
    refine hK _ ?_
    refine aB ?_
    refine aS rfl ?_
    refine bI ?_
    refine ⟨rfl, hsub_up (by simp only [aV, if_true, Int.natCast_add, Int.natCast_one]; try rfl) (fun j hj => by simp only [aV, if_neg hj]), by simp only; omega⟩
   ·skip
    cases h
 ·cases hg
theorem ok110 : bX Tryz.prog GLh 105 (.heap ordH) := ⟨⟨_, Tryz.func105, rfl, rfl⟩, ord_ok⟩
theorem ord_facts {d : Array T16} {a b s x y t : Nat} (h : Sort.order2 ltN d a b s = (x, y, t)) : ((x = a ∧ y = b) ∨ (x = b ∧ y = a)) ∧ t ≤ s + 1 := by
 unfold Sort.order2 at h
 split at h <;> (simp only [Prod.mk.injEq] at h; obtain ⟨rfl, rfl, rfl⟩ := h; omega)
theorem med_facts {d : Array T16} {a b c s x t : Nat} (h : Sort.median ltN d a b c s = (x, t)) : (x = a ∨ x = b ∨ x = c) ∧ t ≤ s + 3 := by
 obtain ⟨⟨x1, y1, s1⟩, h1⟩ : ∃ r, Sort.order2 ltN d a b s = r := ⟨_, rfl⟩
 have f1 := ord_facts h1
 obtain ⟨⟨x2, y2, s2⟩, h2⟩ : ∃ r, Sort.order2 ltN d y1 c s1 = r := ⟨_, rfl⟩
 have f2 := ord_facts h2
 obtain ⟨⟨x3, y3, s3⟩, h3⟩ : ∃ r, Sort.order2 ltN d x1 x2 s2 = r := ⟨_, rfl⟩
 have f3 := ord_facts h3
 simp only [Sort.median, h1, h2, h3, Prod.mk.injEq] at h
 omega
attribute [go_sem] Array.toArray_toList Array.length_toList
def medH : List AV → H → Nat → Option (AV × H × Nat)
 | [.os id 0 n 1 _, .i a, .i b, .i c, .op q 0], hp, nx => aK (hp id) fun o => aK (rowO o) fun xs => aK (unA xs) fun l => aK (hp q) fun o2 => aK (rowO o2) fun ys => aK (oneI ys) fun s => aN (id ≠ q ∧ l.length = n ∧ 0 ≤ a ∧ a < n ∧ 0 ≤ b ∧ b < n ∧ 0 ≤ c ∧ c < n ∧  n ≤ 1000000 ∧ 0 ≤ s ∧ s ≤ 900) (some (.i (Sort.median ltN l.toArray a.toNat b.toNat c.toNat s.toNat).1, upd hp q (.cells [.i (Sort.median ltN l.toArray a.toNat b.toNat c.toNat s.toNat).2] true), nx + 300))
 | _, _, _ => none
theorem medH_eq (id n q : Nat) (gg : Bool) (a b c : Int) (hp : H) (nx : Nat) : medH [.os id 0 n 1 gg, .i a, .i b, .i c, .op q 0] hp nx = aK (hp id) fun o => aK (rowO o) fun xs => aK (unA xs) fun l => aK (hp q) fun o2 => aK (rowO o2) fun ys => aK (oneI ys) fun s => aN (id ≠ q ∧ l.length = n ∧ 0 ≤ a ∧ a < n ∧ 0 ≤ b ∧ b < n ∧ 0 ≤ c ∧ c < n ∧  n ≤ 1000000 ∧ 0 ≤ s ∧ s ≤ 900) (some (.i (Sort.median ltN l.toArray a.toNat b.toNat c.toNat s.toNat).1, upd hp q (.cells [.i (Sort.median ltN l.toArray a.toNat b.toNat c.toNat s.toNat).2] true), nx + 300)) := (rfl)
attribute [go_sem] medH_eq
set_option maxHeartbeats 1000000 in
theorem med_ok : cQ Tryz.prog GLh 103 medH := by
 refine gF Tryz.func103 (aT rfl) ?_
 intro args hp nx r hp' nx' hg
 unfold medH at hg
 split at hg
 ·rename_i hp0 nx0 id n gg a0 b0 c0 q
  replace hg := aJ hg; obtain ⟨o, ho, hg⟩ := hg
  replace hg := aJ hg; obtain ⟨xs, hxs, hg⟩ := hg
  obtain rfl := rowO_inv hxs
  replace hg := aJ hg; obtain ⟨l, hl, hg⟩ := hg
  replace hg := aJ hg; obtain ⟨o2, ho2, hg⟩ := hg
  replace hg := aJ hg; obtain ⟨ys, hys, hg⟩ := hg
  obtain rfl := rowO_inv hys
  replace hg := aJ hg; obtain ⟨s0, hs0, hg⟩ := hg
  obtain rfl := oneI_inv hs0
  replace hg := aP hg; obtain ⟨⟨hne, hn, hal, hau, hbl, hbu, hcl, hcu, hbig, hsl, hsu⟩, hg⟩ := hg
  simp only [Option.some.injEq, Prod.mk.injEq] at hg; obtain ⟨rfl, rfl, rfl⟩ := hg
  have := dO hl; subst this
  obtain ⟨a, rfl⟩ := Int.eq_ofNat_of_zero_le hal
  obtain ⟨b, rfl⟩ := Int.eq_ofNat_of_zero_le hbl
  obtain ⟨c, rfl⟩ := Int.eq_ofNat_of_zero_le hcl
  obtain ⟨s, rfl⟩ := Int.eq_ofNat_of_zero_le hsl
  simp only [Int.toNat_natCast] at *
  obtain ⟨d, hd⟩ : ∃ d, l.toArray = d := ⟨_, rfl⟩
  have hds : d.size = n := by rw [← hd]; simpa using hn
  rw [hd] at ho ⊢
  have hqi : q ≠ id := fun e => hne e.symm
  refine ⟨Nat.le_of_ble_eq_true rfl, by omega, fun hnone => ?_⟩
  have hidn : id < nx := by
   apply Classical.byContradiction; intro hc; rw [hnone id (by omega)] at ho; cases ho
  have hqn : q < nx := by
   apply Classical.byContradiction; intro hc; rw [hnone q (by omega)] at ho2; cases ho2
  obtain ⟨⟨x1, y1, s1⟩, h1⟩ : ∃ r, Sort.order2 ltN d a b s = r := ⟨_, rfl⟩
  have f1 := ord_facts h1
  obtain ⟨⟨x2, y2, s2⟩, h2⟩ : ∃ r, Sort.order2 ltN d y1 c s1 = r := ⟨_, rfl⟩
  have f2 := ord_facts h2
  obtain ⟨⟨x3, y3, s3⟩, h3⟩ : ∃ r, Sort.order2 ltN d x1 x2 s2 = r := ⟨_, rfl⟩
  have f3 := ord_facts h3
  have hx1 : x1 < n := by omega
  have hy1 : y1 < n := by omega
  have hx2 : x2 < n := by omega
  simp only [Sort.median, h1, h2, h3]
  refine aA rfl ?_
  refine aC (Γ := aL) [0, 1, 2, 3, 4] (aD _ _) rfl rfl rfl (fun K hK => ?_)
  simp (disch := omega) only [Tryz.f103, go_sem, Nat.reduceAdd, ↓reduceIte]
  refine hK _ ?_
  refine aB ?_
  refine aA rfl ?_
  refine aC (Γ := bC [(105, .heap ordH)]) [0, 1, 2, 3, 4] (aH ok110 aO) rfl rfl rfl (fun K hK => ?_)
  simp (disch := omega) only [Tryz.f103, go_sem, Nat.reduceAdd, ↓reduceIte, ho, ho2, hds, h1, Int.toNat_natCast, Int.natCast_nonneg]
  refine hK _ ?_
  refine aB ?_
  refine aA rfl ?_
  refine aC (Γ := bC [(105, .heap ordH)]) [0, 1, 2, 4] (aH ok110 aO) rfl rfl rfl (fun K hK => ?_)
  simp (disch := omega) only [Tryz.f103, go_sem, Nat.reduceAdd, ↓reduceIte, ho, hds, h2, hne, Int.toNat_natCast]
  refine hK _ ?_
  refine aB ?_
  refine aA rfl ?_
  refine aC (Γ := bC [(105, .heap ordH)]) [2] (aH ok110 aO) rfl rfl rfl (fun K hK => ?_)
  simp (disch := omega) only [Tryz.f103, go_sem, Nat.reduceAdd, ↓reduceIte, ho, hds, h3, hne, Int.toNat_natCast]
  refine hK _ ?_
  refine aB ?_
  refine aA rfl ?_
  refine aC (Γ := aL) [10] (aD _ _) rfl rfl rfl (fun K hK => ?_)
  simp (disch := omega) only [Tryz.f103, go_sem, Nat.reduceAdd, ↓reduceIte]
  refine hK _ ?_
  refine aB ?_
  refine aS rfl ?_
  refine ⟨rfl, hsub_up (by simp only [aV, if_true]) (fun j hj => by simp only [aV, if_neg hj]), by simp only; omega⟩
 ·cases hg
theorem ok108 : bX Tryz.prog GLh 103 (.heap medH) := ⟨⟨_, Tryz.func103, rfl, rfl⟩, med_ok⟩
theorem adj_facts {d : Array T16} {a s x t : Nat} (h : Sort.medianAdjacent ltN d a s = (x, t)) : (x = a - 1 ∨ x = a ∨ x = a + 1) ∧ t ≤ s + 3 := med_facts h
def adjH : List AV → H → Nat → Option (AV × H × Nat)
 | [.os id 0 n 1 _, .i a, .op q 0], hp, nx => aK (hp id) fun o => aK (rowO o) fun xs => aK (unA xs) fun l => aK (hp q) fun o2 => aK (rowO o2) fun ys => aK (oneI ys) fun s => aN (id ≠ q ∧ l.length = n ∧ 1 ≤ a ∧ a + 1 < n ∧  n ≤ 1000000 ∧ 0 ≤ s ∧ s ≤ 800) (some (.i (Sort.medianAdjacent ltN l.toArray a.toNat s.toNat).1, upd hp q (.cells [.i (Sort.medianAdjacent ltN l.toArray a.toNat s.toNat).2] true), nx + 400))
 | _, _, _ => none
theorem adjH_eq (id n q : Nat) (gg : Bool) (a : Int) (hp : H) (nx : Nat) : adjH [.os id 0 n 1 gg, .i a, .op q 0] hp nx = aK (hp id) fun o => aK (rowO o) fun xs => aK (unA xs) fun l => aK (hp q) fun o2 => aK (rowO o2) fun ys => aK (oneI ys) fun s => aN (id ≠ q ∧ l.length = n ∧ 1 ≤ a ∧ a + 1 < n ∧  n ≤ 1000000 ∧ 0 ≤ s ∧ s ≤ 800) (some (.i (Sort.medianAdjacent ltN l.toArray a.toNat s.toNat).1, upd hp q (.cells [.i (Sort.medianAdjacent ltN l.toArray a.toNat s.toNat).2] true), nx + 400)) := (rfl)
attribute [go_sem] adjH_eq
set_option maxHeartbeats 1000000 in
theorem adj_ok : cQ Tryz.prog GLh 102 adjH := by
 refine gF Tryz.func102 (aT rfl) ?_
 intro args hp nx r hp' nx' hg
 unfold adjH at hg
 split at hg
 ·rename_i hp0 nx0 id n gg a0 q
  replace hg := aJ hg; obtain ⟨o, ho, hg⟩ := hg
  replace hg := aJ hg; obtain ⟨xs, hxs, hg⟩ := hg
  obtain rfl := rowO_inv hxs
  replace hg := aJ hg; obtain ⟨l, hl, hg⟩ := hg
  replace hg := aJ hg; obtain ⟨o2, ho2, hg⟩ := hg
  replace hg := aJ hg; obtain ⟨ys, hys, hg⟩ := hg
  obtain rfl := rowO_inv hys
  replace hg := aJ hg; obtain ⟨s0, hs0, hg⟩ := hg
  obtain rfl := oneI_inv hs0
  replace hg := aP hg; obtain ⟨⟨hne, hn, hal1, hau, hbig, hsl, hsu⟩, hg⟩ := hg
  simp only [Option.some.injEq, Prod.mk.injEq] at hg; obtain ⟨rfl, rfl, rfl⟩ := hg
  have := dO hl; subst this
  have hal : 0 ≤ a0 := by omega
  obtain ⟨a, rfl⟩ := Int.eq_ofNat_of_zero_le hal
  obtain ⟨s, rfl⟩ := Int.eq_ofNat_of_zero_le hsl
  simp only [Int.toNat_natCast] at *
  obtain ⟨d, hd⟩ : ∃ d, l.toArray = d := ⟨_, rfl⟩
  have hds : d.size = n := by rw [← hd]; simpa using hn
  rw [hd] at ho ⊢
  have hqi : q ≠ id := fun e => hne e.symm
  refine ⟨Nat.le_of_ble_eq_true rfl, by omega, fun hnone => ?_⟩
  have hidn : id < nx := by
   apply Classical.byContradiction; intro hc; rw [hnone id (by omega)] at ho; cases ho
  have hqn : q < nx := by
   apply Classical.byContradiction; intro hc; rw [hnone q (by omega)] at ho2; cases ho2
  obtain ⟨⟨x1, s1⟩, h1⟩ : ∃ r, Sort.median ltN d (a - 1) a (a + 1) s = r := ⟨_, rfl⟩
  simp only [Sort.medianAdjacent, h1]
  have e1 : (a : Int) - 1 = ((a - 1 : Nat) : Int) := by omega
  have e2 : (a : Int) + 1 = ((a + 1 : Nat) : Int) := by omega
  refine aA rfl ?_
  refine aC (Γ := aL) [0, 1, 2] (aD _ _) rfl rfl rfl (fun K hK => ?_)
  simp (disch := omega) only [Tryz.f102, go_sem, Nat.reduceAdd, ↓reduceIte]
  refine hK _ ?_
  refine aB ?_
  refine aA rfl ?_
  refine aC (Γ := bC [(103, .heap medH)]) [6] (aH ok108 aO) rfl rfl rfl (fun K hK => ?_)
  simp (disch := omega) only [Tryz.f102, go_sem, Nat.reduceAdd, ↓reduceIte, ho, ho2, hds, h1, e1, e2, Int.toNat_natCast]
  refine hK _ ?_
  refine aB ?_
  refine aS rfl ?_
  refine ⟨rfl, hsub_up (by simp only [aV, if_true]) (fun j hj => by simp only [aV, if_neg hj]), by simp only; omega⟩
 ·cases hg
theorem ok107 : bX Tryz.prog GLh 102 (.heap adjH) := ⟨⟨_, Tryz.func102, rfl, rfl⟩, adj_ok⟩
def gM : Sort.Hint → Int
 | .unknown => 0
 | .increasing => 1
 | .decreasing => 2
def chG : List AV → List AV → Option (AV × List AV)
 | [.os _ 0 n 1 _, .i a, .i b], xs => aK (unA xs) fun l => aN (l.length = n ∧ 0 ≤ a ∧ a < b ∧ b ≤ n ∧ n ≤ 1000000) (some (.tup [.i (Sort.choosePivot ltN l.toArray a.toNat b.toNat).1, .i (gM (Sort.choosePivot ltN l.toArray a.toNat b.toNat).2)], cA l.toArray))
 | _, _ => none
theorem chG_eq (id n : Nat) (gg : Bool) (a b : Int) (xs : List AV) : chG [.os id 0 n 1 gg, .i a, .i b] xs = aK (unA xs) fun l => aN (l.length = n ∧ 0 ≤ a ∧ a < b ∧ b ≤ n ∧ n ≤ 1000000) (some (.tup [.i (Sort.choosePivot ltN l.toArray a.toNat b.toNat).1, .i (gM (Sort.choosePivot ltN l.toArray a.toNat b.toNat).2)], cA l.toArray)) := (rfl)
attribute [go_sem] chG_eq
set_option maxHeartbeats 2000000 in
theorem ch_ok : cQ Tryz.prog GLh 91 (dP chG) := by
 refine dN Tryz.func91 (aT rfl) ?_
 intro id off n e gg rest nx xs r ys hg
 unfold chG at hg
 split at hg
 ·rename_i id2 n2 gg2 a0 b0 heq
  simp only [List.cons.injEq, AV.os.injEq] at heq
  obtain ⟨⟨rfl, rfl, rfl, rfl, rfl⟩, rfl⟩ := heq
  replace hg := aJ hg; obtain ⟨l, hl, hg⟩ := hg
  replace hg := aP hg; obtain ⟨⟨hn, ha, hab, hbn, hbig⟩, hg⟩ := hg
  simp only [Option.some.injEq, Prod.mk.injEq] at hg; obtain ⟨rfl, rfl⟩ := hg
  have := dO hl; subst this
  obtain ⟨a, rfl⟩ := Int.eq_ofNat_of_zero_le ha
  obtain ⟨b, rfl⟩ := Int.eq_ofNat_of_zero_le (show 0 ≤ b0 by omega)
  simp only [Int.toNat_natCast] at *
  obtain ⟨d, hd⟩ : ∃ d, l.toArray = d := ⟨_, rfl⟩
  have hds : d.size = n := by rw [← hd]; simpa using hn
  have hab2 : a < b := by omega
  have hbn2 : b ≤ n := by omega
  rw [hd]
  refine ⟨Nat.le_of_ble_eq_true rfl, fun hid => ?_⟩
  clear hl hn ha hab hbn
  have eq4 : (((b : Int) - (a : Int)).tdiv 4) = (((b - a) / 4 : Nat) : Int) := by rw [Int.tdiv_eq_ediv_of_nonneg (by omega)]; omega
  obtain ⟨L, hL⟩ : ∃ L : Nat, b - a = L := ⟨_, rfl⟩
  obtain ⟨Q, hQ⟩ : ∃ Q : Nat, (b - a) / 4 = Q := ⟨_, rfl⟩
  have ebL : (b : Int) - (a : Int) = (L : Int) := by omega
  rw [ebL, hQ] at eq4
  have ei : (a : Int) + (Q : Int) * 1 = ((a + Q * 1 : Nat) : Int) := by omega
  have ej : (a : Int) + (Q : Int) * 2 = ((a + Q * 2 : Nat) : Int) := by omega
  have ek : (a : Int) + (Q : Int) * 3 = ((a + Q * 3 : Nat) : Int) := by omega
  obtain ⟨CP, hCP⟩ : ∃ CP, Sort.choosePivot ltN d a b = CP := ⟨_, rfl⟩
  rw [hCP]
  refine aA rfl ?_
  refine aC (Γ := aL) [0, 1, 2] (aD _ _) rfl rfl rfl (fun K hK => ?_)
  simp (disch := omega) only [Tryz.f91, go_sem, Nat.reduceAdd, ↓reduceIte]
  refine hK _ ?_
  refine aB ?_
  refine aA rfl ?_
  refine aC (Γ := aL) [0, 1, 8] (aD _ _) rfl rfl rfl (fun K hK => ?_)
  simp (disch := omega) only [Tryz.f91, go_sem, Nat.reduceAdd, ↓reduceIte, ebL]
  refine hK _ ?_
  refine aB ?_
  refine aA rfl ?_
  refine aC (Γ := aL) [0, 1, 8, 9] (aD _ _) rfl rfl rfl (fun K hK => ?_)
  simp (disch := omega) only [Tryz.f91, go_sem, ↓reduceIte]
  refine hK _ ?_
  refine aB ?_
  refine aA rfl ?_
  refine aC (Γ := aL) [0, 1, 8, 9, 10] (aD _ _) rfl rfl rfl (fun K hK => ?_)
  simp (disch := omega) only [Tryz.f91, go_sem, Nat.reduceAdd, Int.reduceEq, ↓reduceIte, eq4, ei]
  refine hK _ ?_
  refine aB ?_
  refine aA rfl ?_
  refine aC (Γ := aL) [0, 1, 8, 9, 10, 11] (aD _ _) rfl rfl rfl (fun K hK => ?_)
  simp (disch := omega) only [Tryz.f91, go_sem, Nat.reduceAdd, Int.reduceEq, ↓reduceIte, eq4, ej]
  refine hK _ ?_
  refine aB ?_
  refine aA rfl ?_
  refine aC (Γ := aL) [0, 8, 9, 10, 11, 12] (aD _ _) rfl rfl rfl (fun K hK => ?_)
  simp (disch := omega) only [Tryz.f91, go_sem, Nat.reduceAdd, Int.reduceEq, ↓reduceIte, eq4, ek]
  refine hK _ ?_
  refine aB ?_
  refine aA rfl ?_
  refine aA rfl ?_
  refine aC (Γ := aL) [32, 0, 8, 9, 10, 11, 12] (aD _ _) rfl rfl rfl (fun K hK => ?_)
  simp (disch := omega) only [Tryz.f91, go_sem, Nat.reduceAdd, ↓reduceIte]
  refine hK _ ?_
  refine aB ?_
  have hne : id ≠ nx + 6 := by omega
  have hQL : Q = L / 4 := by omega
  refine aW (.tmp 32) rfl rfl rfl (fun h => ?_) (fun h => ?_)
  ·skip
   refine aI rfl ?_
   have hL8 : 8 ≤ L := by omega
   refine aA rfl ?_
   refine aA rfl ?_
   refine aC (Γ := aL) [34, 0, 9, 10, 11, 12] (aD _ _) rfl rfl rfl (fun K hK => ?_)
   simp (disch := omega) only [Tryz.f91, go_sem, Nat.reduceAdd, ↓reduceIte]
   refine hK _ ?_
   refine aB ?_
   refine aW (.tmp 34) rfl rfl rfl (fun h => ?_) (fun h => ?_)
   ·skip
    refine aI rfl ?_
    have hL50 : 50 ≤ L := by omega
    obtain ⟨⟨x1, s1⟩, h1⟩ : ∃ r, Sort.medianAdjacent ltN d (a + Q) 0 = r := ⟨_, rfl⟩
    have f1 := adj_facts h1
    obtain ⟨⟨x2, s2⟩, h2⟩ : ∃ r, Sort.medianAdjacent ltN d (a + Q * 2) s1 = r := ⟨_, rfl⟩
    have f2 := adj_facts h2
    obtain ⟨⟨x3, s3⟩, h3⟩ : ∃ r, Sort.medianAdjacent ltN d (a + Q * 3) s2 = r := ⟨_, rfl⟩
    have f3 := adj_facts h3
    obtain ⟨⟨p, sw⟩, h4⟩ : ∃ r, Sort.median ltN d x1 x2 x3 s3 = r := ⟨_, rfl⟩
    obtain rfl : CP = (p, if sw = 0 then .increasing else if sw = 12 then .decreasing else .unknown) := by
     rw [← hCP]; unfold Sort.choosePivot
     simp only [hL, ← hQL, ge_iff_le, hL8, hL50, if_true, Nat.mul_one, h1, h2, h3, h4]
    have hx1 : x1 < n := by omega
    have hx2 : x2 < n := by omega
    have hx3 : x3 < n := by omega
    have g1 : a + Q + 1 < n := by omega
    have g2 : a + Q * 2 + 1 < n := by omega
    have g3 : a + Q * 3 + 1 < n := by omega
    refine aA rfl ?_
    refine aC (Γ := bC [(102, .heap adjH)]) [0, 9, 10, 11, 12] (aH ok107 aO) rfl rfl rfl (fun K hK => ?_)
    simp (disch := omega) only [Tryz.f91, go_sem, Nat.reduceAdd, Int.reduceLE, ↓reduceIte, hds, h1, hne, Int.toNat_natCast, Int.toNat_zero]
    refine hK _ ?_
    refine aB ?_
    refine aA rfl ?_
    refine aC (Γ := bC [(102, .heap adjH)]) [0, 9, 10, 11, 12] (aH ok107 aO) rfl rfl rfl (fun K hK => ?_)
    simp (disch := omega) only [Tryz.f91, go_sem, Nat.reduceAdd, ↓reduceIte, hds, h2, hne, Int.toNat_natCast]
    refine hK _ ?_
    refine aB ?_
    refine aC (Γ := bC [(102, .heap adjH)]) [0, 9, 10, 11, 12] (aH ok107 aO) rfl rfl rfl (fun K hK => ?_)
    simp (disch := omega) only [Tryz.f91, go_sem, Nat.reduceAdd, ↓reduceIte, hds, h3, hne, Int.toNat_natCast]
    refine hK _ ?_
    refine aB ?_
    refine aC (Γ := bC [(103, .heap medH)]) [9, 11] (aH ok108 aO) rfl rfl rfl (fun K hK => ?_)
    simp (disch := omega) only [Tryz.f91, go_sem, Nat.reduceAdd, ↓reduceIte, hds, h4, hne, Int.toNat_natCast]
    refine hK _ ?_
    refine aB ?_
    refine aA rfl ?_
    refine aC (Γ := aL) [11, 49] (aD _ _) rfl rfl rfl (fun K hK => ?_)
    simp (disch := omega) only [Tryz.f91, go_sem, ↓reduceIte]
    refine hK _ ?_
    refine aB ?_
    refine aR 0 rfl rfl ?_
    refine aA rfl ?_
    refine aC (Γ := aL) [51, 11, 49] (aD _ _) rfl rfl rfl (fun K hK => ?_)
    simp (disch := omega) only [Tryz.f91, go_sem, Nat.reduceAdd, ↓reduceIte]
    refine hK _ ?_
    refine aB ?_
    refine aW (.tmp 51) rfl rfl rfl (fun h => ?_) (fun h => ?_)
    ·skip
     refine aI rfl ?_
     have h0 : sw = 0 := by omega
     refine aA rfl ?_
     refine aC (Γ := aL) [6, 7] (aD _ _) rfl rfl rfl (fun K hK => ?_)
     simp (disch := omega) only [Tryz.f91, go_sem, Nat.reduceAdd, ↓reduceIte]
     refine hK _ ?_
     refine aB ?_
     refine aS rfl ?_
     refine bN ?_
     exact ⟨by simp only [h0, if_true, gM, bV]; rfl, by simp (disch := omega) only [aV, bY, if_true, if_false], rfl, dZ _⟩
    ·skip
     refine aI rfl ?_
     refine aA rfl ?_
     refine aC (Γ := aL) [54, 11] (aD _ _) rfl rfl rfl (fun K hK => ?_)
     simp (disch := omega) only [Tryz.f91, go_sem, Nat.reduceAdd, ↓reduceIte]
     refine hK _ ?_
     refine aB ?_
     refine aW (.tmp 54) rfl rfl rfl (fun h => ?_) (fun h => ?_)
     ·skip
      refine aI rfl ?_
      have h0 : sw = 12 := by omega
      refine aA rfl ?_
      refine aC (Γ := aL) [6, 7] (aD _ _) rfl rfl rfl (fun K hK => ?_)
      simp (disch := omega) only [Tryz.f91, go_sem, Nat.reduceAdd, ↓reduceIte]
      refine hK _ ?_
      refine aB ?_
      refine aS rfl ?_
      refine bN ?_
      exact ⟨by simp only [h0, if_true, gM, bV]; rfl, by simp (disch := omega) only [aV, bY, if_true, if_false], rfl, dZ _⟩
     ·skip
      refine aI rfl ?_
      have h0 : sw ≠ 0 := by omega
      have h1 : sw ≠ 12 := by omega
      refine aA rfl ?_
      refine aC (Γ := aL) [6, 7] (aD _ _) rfl rfl rfl (fun K hK => ?_)
      simp (disch := omega) only [Tryz.f91, go_sem, Nat.reduceAdd, ↓reduceIte]
      refine hK _ ?_
      refine aB ?_
      refine aS rfl ?_
      refine bN ?_
      exact ⟨by simp only [h0, h1, if_false, gM, bV]; rfl, by simp (disch := omega) only [aV, bY, if_true, if_false], rfl, dZ _⟩
   ·skip
    refine aI rfl ?_
    have hL50 : ¬ 50 ≤ L := by omega
    obtain ⟨⟨p, sw⟩, h4⟩ : ∃ r, Sort.median ltN d (a + Q) (a + Q * 2) (a + Q * 3) 0 = r := ⟨_, rfl⟩
    obtain rfl : CP = (p, if sw = 0 then .increasing else if sw = 12 then .decreasing else .unknown) := by
     rw [← hCP]; unfold Sort.choosePivot
     simp only [hL, ← hQL, ge_iff_le, hL8, hL50, if_true, if_false, Nat.mul_one, h4]
    have g1 : a + Q < n := by omega
    have g2 : a + Q * 2 < n := by omega
    have g3 : a + Q * 3 < n := by omega
    refine aQ rfl ?_
    refine aB ?_
    refine aC (Γ := bC [(103, .heap medH)]) [9, 11] (aH ok108 aO) rfl rfl rfl (fun K hK => ?_)
    simp (disch := omega) only [Tryz.f91, go_sem, Nat.reduceAdd, Int.reduceLE, ↓reduceIte, hds, h4, hne, Int.toNat_natCast, Int.toNat_zero]
    refine hK _ ?_
    refine aB ?_
    refine aA rfl ?_
    refine aC (Γ := aL) [11, 49] (aD _ _) rfl rfl rfl (fun K hK => ?_)
    simp (disch := omega) only [Tryz.f91, go_sem, ↓reduceIte]
    refine hK _ ?_
    refine aB ?_
    refine aR 0 rfl rfl ?_
    refine aA rfl ?_
    refine aC (Γ := aL) [51, 11, 49] (aD _ _) rfl rfl rfl (fun K hK => ?_)
    simp (disch := omega) only [Tryz.f91, go_sem, Nat.reduceAdd, ↓reduceIte]
    refine hK _ ?_
    refine aB ?_
    refine aW (.tmp 51) rfl rfl rfl (fun h => ?_) (fun h => ?_)
    ·skip
     refine aI rfl ?_
     have h0 : sw = 0 := by omega
     refine aA rfl ?_
     refine aC (Γ := aL) [6, 7] (aD _ _) rfl rfl rfl (fun K hK => ?_)
     simp (disch := omega) only [Tryz.f91, go_sem, Nat.reduceAdd, ↓reduceIte]
     refine hK _ ?_
     refine aB ?_
     refine aS rfl ?_
     refine bN ?_
     exact ⟨by simp only [h0, if_true, gM, bV]; rfl, by simp (disch := omega) only [aV, bY, if_true, if_false], rfl, dZ _⟩
    ·skip
     refine aI rfl ?_
     refine aA rfl ?_
     refine aC (Γ := aL) [54, 11] (aD _ _) rfl rfl rfl (fun K hK => ?_)
     simp (disch := omega) only [Tryz.f91, go_sem, Nat.reduceAdd, ↓reduceIte]
     refine hK _ ?_
     refine aB ?_
     refine aW (.tmp 54) rfl rfl rfl (fun h => ?_) (fun h => ?_)
     ·skip
      refine aI rfl ?_
      have h0 : sw = 12 := by omega
      refine aA rfl ?_
      refine aC (Γ := aL) [6, 7] (aD _ _) rfl rfl rfl (fun K hK => ?_)
      simp (disch := omega) only [Tryz.f91, go_sem, Nat.reduceAdd, ↓reduceIte]
      refine hK _ ?_
      refine aB ?_
      refine aS rfl ?_
      refine bN ?_
      exact ⟨by simp only [h0, if_true, gM, bV]; rfl, by simp (disch := omega) only [aV, bY, if_true, if_false], rfl, dZ _⟩
     ·skip
      refine aI rfl ?_
      have h0 : sw ≠ 0 := by omega
      have h1 : sw ≠ 12 := by omega
      refine aA rfl ?_
      refine aC (Γ := aL) [6, 7] (aD _ _) rfl rfl rfl (fun K hK => ?_)
      simp (disch := omega) only [Tryz.f91, go_sem, Nat.reduceAdd, ↓reduceIte]
      refine hK _ ?_
      refine aB ?_
      refine aS rfl ?_
      refine bN ?_
      exact ⟨by simp only [h0, h1, if_false, gM, bV]; rfl, by simp (disch := omega) only [aV, bY, if_true, if_false], rfl, dZ _⟩
  ·skip
   refine aI rfl ?_
   have hL8 : ¬ 8 ≤ L := by omega
   obtain rfl : CP = (a + Q * 2, .increasing) := by
    rw [← hCP]; unfold Sort.choosePivot
    simp only [hL, ← hQL, ge_iff_le, hL8, if_true, if_false]
   refine aQ rfl ?_
   refine aB ?_
   refine aA rfl ?_
   refine aC (Γ := aL) [11, 49] (aD _ _) rfl rfl rfl (fun K hK => ?_)
   simp (disch := omega) only [Tryz.f91, go_sem, ↓reduceIte]
   refine hK _ ?_
   refine aB ?_
   refine aR 0 rfl rfl ?_
   refine aA rfl ?_
   refine aC (Γ := aL) [51, 11, 49] (aD _ _) rfl rfl rfl (fun K hK => ?_)
   simp (disch := omega) only [Tryz.f91, go_sem, Nat.reduceAdd, ↓reduceIte]
   refine hK _ ?_
   refine aB ?_
   refine bA (.tmp 51) rfl rfl rfl (fun h => ?_) (fun h => ?_)
   ·skip
    refine aI rfl ?_
    refine aA rfl ?_
    refine aC (Γ := aL) [6, 7] (aD _ _) rfl rfl rfl (fun K hK => ?_)
    simp (disch := omega) only [Tryz.f91, go_sem, Nat.reduceAdd, ↓reduceIte]
    refine hK _ ?_
    refine aB ?_
    refine aS rfl ?_
    refine bN ?_
    exact ⟨rfl, by simp (disch := omega) only [aV, bY, if_true, if_false], rfl, dZ _⟩
   ·skip
    refine aI rfl ?_
    cases h
 ·cases hg
theorem ok96 : bX Tryz.prog GLh 91 (.heap (dP chG)) := ⟨⟨_, Tryz.func91, rfl, rfl⟩, ch_ok⟩
end Go.AX
