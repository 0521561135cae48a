/-
  Data, part yI: names that may stand in data; names held against each other. Data, part yJ: SOAs, RRSIGs, NSEC3s, DNSKEYs that are the same, held against each other. Data, part yK: a NSEC3's bytes.
-/
import Derived.Test.YtndohkbppgmbjaaCL
import Derived.Test.YtndohkbppgmbjaaCJ
import Derived.Test.YtndohkbppgmbjaaCA
namespace Go.AX
open Go Go.Proofs
instance (n : Nm) : Decidable (okN n) := by unfold okN; infer_instance
theorem lab_len : ∀ (n : Nm), (∀ l ∈ n, gZ l) → 2 * n.length + 1 ≤ wl n
 | [], _ => Nat.le_refl _
 | l :: r, h => by
  rw [wl_cons, List.length_cons]
  have := lab_len r fun x hx => h x (by simp [hx])
  have := (h l (by simp)).1
  omega
theorem okN_len {n : Nm} (h : okN n) : n.length ≤ 127 := by
 have := lab_len n h.1
 have := h.2
 omega
theorem okN_no {n : Nm} {k : Nat} (hk : k < n.length) (h : ¬ gZ (n.getD k [])) : ¬ okN n := fun q => h (lab_at q.1 hk)
def gY : List AV → Option AV
 | [.sl n xs] => aK (unS xs) fun p => aN (p.length = n ∧ n ≤ 9223372036854775807 ∧ ∀ l ∈ p, l.length ≤ 9223372036854775807) (some (.b (decide (okN p))))
 | _ => none
theorem rightG_eq (n : Nat) (xs : List AV) : gY [.sl n xs] = aK (unS xs) fun p => aN (p.length = n ∧ n ≤ 9223372036854775807 ∧ ∀ l ∈ p, l.length ≤ 9223372036854775807) (some (.b (decide (okN p)))) := (rfl)
attribute [go_sem] rightG_eq
set_option maxHeartbeats 4000000 in
theorem right_ok : cL Try.prog GLh 14 gY := by
 refine cC Try.func14 (aT rfl) ?_
 intro args r hg
 unfold gY at hg
 split at hg
 ·rename_i n xs
  replace hg := aJ hg; obtain ⟨ps, hl, hg⟩ := hg
  replace hg := aP hg; obtain ⟨⟨rfl, hn, hbig⟩, hg⟩ := hg
  obtain rfl := Option.some.inj hg
  have := gT hl; subst this
  refine ⟨Nat.le_of_ble_eq_true rfl, fun nx => ?_⟩
  clear hl hg
  refine aA rfl ?_
  refine aC (Γ := aL) [0] (aD _ _) rfl rfl rfl (fun K hK => ?_)
  simp (disch := omega) only [Try.f14, go_sem, ↓reduceIte]
  refine hK _ ?_
  refine aB ?_
  refine aA rfl ?_
  refine aA rfl ?_
  refine aC (Γ := aL) [7, 0] (aD _ _) rfl rfl rfl (fun K hK => ?_)
  simp (disch := omega) only [Try.f14, go_sem, Nat.reduceAdd, ↓reduceIte]
  refine hK _ ?_
  refine aB ?_
  refine aW (.tmp 7) rfl rfl rfl (fun h => ?_) (fun h => ?_)
  ·skip
   refine aI rfl ?_
   rw [decide_eq_false (fun q => by have := okN_len q; omega)]
   refine aA rfl ?_
   refine aC (Γ := aL) [2] (aD _ _) rfl rfl rfl (fun K hK => ?_)
   simp (disch := omega) only [Try.f14, go_sem, ↓reduceIte]
   refine hK _ ?_
   refine aB ?_
   refine aS rfl ?_
   refine bI ?_
   simp (disch := omega) only [cN, bV, bK, bQ, Try.f14, go_sem, ↓reduceIte]
  ·skip
   refine aI rfl ?_
   have hn127 : ps.length ≤ 127 := by omega
   refine aQ rfl ?_
   refine aB ?_
   refine aA rfl ?_
   refine aC (Γ := aL) [0, 3] (aD _ _) rfl rfl rfl (fun K hK => ?_)
   simp (disch := omega) only [Try.f14, go_sem, ↓reduceIte]
   refine hK _ ?_
   refine aB ?_
   refine aA rfl ?_
   refine aA rfl ?_
   refine aC (Γ := aL) [0, 3, 4] (aD _ _) rfl rfl rfl (fun K hK => ?_)
   simp (disch := omega) only [Try.f14, go_sem, ↓reduceIte]
   refine hK _ ?_
   refine aB ?_
   refine aR 0 rfl rfl ?_
   refine bR (fun p : KC5 => { fr := [(0, .sl ps.length (cS ps)), (3, .i (wl (ps.take p.k) : Int)), (4, .i (p.k : Int))], hp := fun _ => none, nx := 0, cx := p.c }) (fun p => p.k ≤ ps.length ∧ (∀ l ∈ ps.take p.k, gZ l) ∧ wl (ps.take p.k) ≤ 1 + 64 * p.k) (fun p => ps.length - p.k) rfl ⟨⟨0, _⟩, ⟨Nat.zero_le _, fun l hl => (by cases hl), Nat.le_refl _⟩, bD rfl rfl (Nat.le_refl _)⟩ ?_
   rintro ⟨k, c⟩ ⟨hk, hlab, hwl⟩ n0
   simp only at hk hlab hwl ⊢
   refine aA rfl ?_
   refine aA rfl ?_
   refine aC (Γ := aL) [11, 0, 3, 4] (aD _ _) rfl rfl rfl (fun K hK => ?_)
   simp (disch := omega) only [Try.f14, go_sem, Nat.reduceAdd, ↓reduceIte]
   refine hK _ ?_
   refine aB ?_
   refine aW (.tmp 11) rfl rfl rfl (fun h => ?_) (fun h => ?_)
   ·skip
    refine aI rfl ?_
    have hkl : k < ps.length := by omega
    have hw := wl_take ps k hkl
    have hll : (ps.getD k []).length ≤ 9223372036854775807 := by rw [List.getD_eq_getElem?_getD, List.getElem?_eq_getElem hkl]; exact hbig _ (List.getElem_mem hkl)
    have hno := okN_no (n := ps) hkl
    obtain ⟨x, hx⟩ : ∃ x, ps.getD k [] = x := ⟨_, rfl⟩
    rw [hx] at hw hll hno
    by_cases h0 : x = []
    ·skip
     have d0 : decide (x = []) = true := decide_eq_true h0
     refine aQ rfl ?_
     refine aB ?_
     refine aA rfl ?_
     refine aR 1 rfl rfl ?_
     refine aA rfl ?_
     refine aA rfl ?_
     refine aC (Γ := aL) [26, 0, 3, 4] (aD _ _) rfl rfl rfl (fun K hK => ?_)
     simp (disch := omega) only [Try.f14, go_sem, Nat.reduceAdd, ↓reduceIte, hx, ofv_empty, d0]
     refine hK _ ?_
     refine aB ?_
     refine bA (.tmp 26) rfl rfl rfl (fun h => ?_) (fun h => ?_)
     ·skip
      refine aI rfl ?_
      rw [decide_eq_false (hno (by rw [h0]; unfold gZ; decide))]
      refine aA rfl ?_
      refine aC (Γ := aL) [2] (aD _ _) rfl rfl rfl (fun K hK => ?_)
      simp (disch := omega) only [Try.f14, go_sem, ↓reduceIte]
      refine hK _ ?_
      refine aB ?_
      refine aS rfl ?_
      refine bI (bN (bI (dF (bN (bI ?_)))))
      simp (disch := omega) only [cN, bV, bK, bQ, Try.f14, go_sem, ↓reduceIte]
     ·skip
      refine aI rfl ?_
      cases h
    ·skip
     have d0 : decide (x = []) = false := decide_eq_false h0
     have hx1 : 1 ≤ x.length := by cases x with
      | nil => exact absurd rfl h0
      | cons a r => simp
     by_cases h63 : 63 < x.length
     ·skip
      have d1 : decide ((63 : Int) < (x.length : Int)) = true := decide_eq_true (by omega)
      refine aQ rfl ?_
      refine aB ?_
      refine aA rfl ?_
      refine aR 1 rfl rfl ?_
      refine aA rfl ?_
      refine aA rfl ?_
      refine aC (Γ := aL) [26, 0, 3, 4] (aD _ _) rfl rfl rfl (fun K hK => ?_)
      simp (disch := omega) only [Try.f14, go_sem, Nat.reduceAdd, reduceCtorEq, ↓reduceIte, hx, ofv_empty, d0, d1]
      refine hK _ ?_
      refine aB ?_
      refine bA (.tmp 26) rfl rfl rfl (fun h => ?_) (fun h => ?_)
      ·skip
       refine aI rfl ?_
       rw [decide_eq_false (hno (by unfold gZ; omega))]
       refine aA rfl ?_
       refine aC (Γ := aL) [2] (aD _ _) rfl rfl rfl (fun K hK => ?_)
       simp (disch := omega) only [Try.f14, go_sem, ↓reduceIte]
       refine hK _ ?_
       refine aB ?_
       refine aS rfl ?_
       refine bI (bN (bI (dF (bN (bI ?_)))))
       simp (disch := omega) only [cN, bV, bK, bQ, Try.f14, go_sem, ↓reduceIte]
      ·skip
       refine aI rfl ?_
       cases h
     ·skip
      have d1 : decide ((63 : Int) < (x.length : Int)) = false := decide_eq_false (by omega)
      refine aQ rfl ?_
      refine aB ?_
      refine aA rfl ?_
      refine aR 1 rfl rfl ?_
      refine aA rfl ?_
      refine aA rfl ?_
      refine aC (Γ := aL) [26, 0, 3, 4] (aD _ _) rfl rfl rfl (fun K hK => ?_)
      simp (disch := omega) only [Try.f14, go_sem, Nat.reduceAdd, reduceCtorEq, ↓reduceIte, hx, ofv_empty, d0, d1]
      refine hK _ ?_
      refine aB ?_
      refine bA (.tmp 26) rfl rfl rfl (fun h => ?_) (fun h => ?_)
      ·skip
       refine aI rfl ?_
       cases h
      ·skip
       refine aI rfl ?_
       clear h
       refine aQ rfl ?_
       refine aB ?_
       refine aC (Γ := aL) [0, 3, 4] (aD _ _) rfl rfl rfl (fun K hK => ?_)
       simp (disch := omega) only [Try.f14, go_sem, Nat.reduceAdd, ↓reduceIte, hx]
       refine hK _ ?_
       refine bU (aB ?_)
       refine aC (Γ := aL) [0, 3, 4] (aD _ _) rfl rfl rfl (fun K hK => ?_)
       simp (disch := omega) only [Try.f14, go_sem, Nat.reduceAdd, ↓reduceIte]
       refine hK _ ?_
       refine bT ?_
       refine ⟨⟨k + 1, _⟩, ⟨by simp only; omega, fun l hl => ?_, by simp only; omega⟩, by simp only; omega, bD ?_ rfl (Nat.le_refl _)⟩
       ·simp only at hl
        have e0 : ps.take (k + 1) = ps.take k ++ [x] := by rw [List.take_succ_eq_append_getElem hkl, ← hx, List.getD_eq_getElem?_getD, List.getElem?_eq_getElem hkl]; rfl
        rw [e0] at hl
        rcases List.mem_append.1 hl with hl | hl
        ·exact hlab l hl
        ·obtain rfl : l = x := by simpa using hl
         exact ⟨hx1, by omega⟩
       ·simp only [hw, Int.natCast_add, Int.natCast_one]
   ·skip
    refine aI rfl ?_
    refine bF 0 rfl rfl ?_
    refine aY (aZ (bE ?_))
    refine aB ?_
    refine aA rfl ?_
    obtain rfl : k = ps.length := by omega
    rw [List.take_length] at hlab hwl
    have e8 : ps.take ps.length = ps := List.take_length
    have hfin : decide ((wl ps : Int) ≤ 255) = decide (okN ps) := by
     by_cases hq : wl ps ≤ 255
     ·rw [decide_eq_true (by omega), decide_eq_true ⟨hlab, hq⟩]
     ·rw [decide_eq_false (by omega), decide_eq_false fun q => hq q.2]
    refine aC (Γ := aL) [2] (aD _ _) rfl rfl rfl (fun K hK => ?_)
    simp (disch := omega) only [Try.f14, go_sem, Nat.reduceAdd, ↓reduceIte, e8, hfin]
    refine hK _ ?_
    refine aB ?_
    refine aS rfl ?_
    simp (disch := omega) only [cN, bV, bK, bQ, Try.f14, go_sem, ↓reduceIte]
 ·cases hg
theorem ok14 : bX Try.prog GLh 14 (.pure true gY) := ⟨⟨_, Try.func14, rfl, rfl⟩, right_ok⟩
def nameEG : List AV → Option AV
 | [.sl n xs, .sl m ys] => aK (unS xs) fun p => aK (unS ys) fun q => aN (p.length = n ∧ q.length = m ∧ n ≤ 9223372036854775807 ∧ m ≤ 9223372036854775807) (some (.b (decide (p = q))))
 | _ => none
theorem nameEG_eq (n m : Nat) (xs ys : List AV) : nameEG [.sl n xs, .sl m ys] = aK (unS xs) fun p => aK (unS ys) fun q => aN (p.length = n ∧ q.length = m ∧ n ≤ 9223372036854775807 ∧ m ≤ 9223372036854775807) (some (.b (decide (p = q)))) := (rfl)
attribute [go_sem] nameEG_eq
theorem take_nextS {a b : Nm} {k : Nat} (ha : k < a.length) (hb : k < b.length) (h : a.take k = b.take k) (e : a.getD k [] = b.getD k []) : a.take (k + 1) = b.take (k + 1) := by
 rw [List.take_succ_eq_append_getElem ha, List.take_succ_eq_append_getElem hb, h]
 rw [List.getD_eq_getElem?_getD, List.getD_eq_getElem?_getD, List.getElem?_eq_getElem ha, List.getElem?_eq_getElem hb] at e
 simp only [Option.getD_some] at e
 rw [e]
set_option maxHeartbeats 4000000 in
theorem nameE_ok : cL Try.prog GLh 19 nameEG := by
 refine cC Try.func19 (aT rfl) ?_
 intro args r hg
 unfold nameEG at hg
 split at hg
 ·rename_i n xs m ys
  replace hg := aJ hg; obtain ⟨a, ha, hg⟩ := hg
  replace hg := aJ hg; obtain ⟨b, hb, hg⟩ := hg
  replace hg := aP hg; obtain ⟨⟨rfl, rfl, hn, hm⟩, hg⟩ := hg
  obtain rfl := Option.some.inj hg
  have := gT ha; subst this
  have := gT hb; subst this
  refine ⟨Nat.le_of_ble_eq_true rfl, fun nx => ?_⟩
  clear ha hb hg
  refine aA rfl ?_
  refine aC (Γ := aL) [0, 1] (aD _ _) rfl rfl rfl (fun K hK => ?_)
  simp (disch := omega) only [Try.f19, go_sem, ↓reduceIte]
  refine hK _ ?_
  refine aB ?_
  refine aA rfl ?_
  refine aA rfl ?_
  refine aC (Γ := aL) [10, 0, 1] (aD _ _) rfl rfl rfl (fun K hK => ?_)
  simp (disch := omega) only [Try.f19, go_sem, Nat.reduceAdd, ↓reduceIte]
  refine hK _ ?_
  refine aB ?_
  refine awp_ifE (.tmp 10) rfl rfl rfl (fun h => ?_) (fun h => ?_)
  ·skip
   refine aI rfl ?_
   rw [decide_eq_false (fun q => by rw [q] at h; exact h rfl)]
   refine aA rfl ?_
   refine aC (Γ := aL) [4] (aD _ _) rfl rfl rfl (fun K hK => ?_)
   simp (disch := omega) only [Try.f19, go_sem, ↓reduceIte]
   refine hK _ ?_
   refine aB ?_
   refine aS rfl ?_
   refine bI ?_
   simp (disch := omega) only [cN, bV, bK, bQ, Try.f19, go_sem, ↓reduceIte]
  ·skip
   refine aI rfl ?_
   have hab : a.length = b.length := by omega
   refine aQ rfl ?_
   refine aB ?_
   refine aA rfl ?_
   refine aA rfl ?_
   refine aC (Γ := aL) [0, 1, 5] (aD _ _) rfl rfl rfl (fun K hK => ?_)
   simp (disch := omega) only [Try.f19, go_sem, ↓reduceIte]
   refine hK _ ?_
   refine aB ?_
   refine aR 0 rfl rfl ?_
   refine bR (fun p : KC5 => { fr := [(0, .sl a.length (cS a)), (1, .sl b.length (cS b)), (5, .i (p.k : Int))], hp := fun _ => none, nx := 0, cx := p.c }) (fun p => p.k ≤ a.length ∧ a.take p.k = b.take p.k) (fun p => a.length - p.k) rfl ⟨⟨0, _⟩, ⟨Nat.zero_le _, rfl⟩, bD rfl rfl (Nat.le_refl _)⟩ ?_
   rintro ⟨k, c⟩ ⟨hk, he⟩ n0
   simp only at hk he ⊢
   refine aA rfl ?_
   refine aA rfl ?_
   refine aC (Γ := aL) [14, 0, 1, 5] (aD _ _) rfl rfl rfl (fun K hK => ?_)
   simp (disch := omega) only [Try.f19, go_sem, Nat.reduceAdd, ↓reduceIte]
   refine hK _ ?_
   refine aB ?_
   refine aW (.tmp 14) rfl rfl rfl (fun h => ?_) (fun h => ?_)
   ·skip
    refine aI rfl ?_
    have hka : k < a.length := by omega
    have hkb : k < b.length := by omega
    have hnx := take_nextS hka hkb he
    obtain ⟨x, hx⟩ : ∃ x, a.getD k [] = x := ⟨_, rfl⟩
    obtain ⟨y, hy⟩ : ∃ y, b.getD k [] = y := ⟨_, rfl⟩
    rw [hx, hy] at hnx
    refine aQ rfl ?_
    refine aB ?_
    refine aA rfl ?_
    refine aR 1 rfl rfl ?_
    refine aA rfl ?_
    refine bB (Γ := aL) (fun _ => 2) [25, 0, 1, 5] bZ (aD _ _) rfl rfl rfl (by kernel_rfl) (fun K hK => ?_)
    simp (disch := omega) only [Try.f19, go_sem, Nat.reduceAdd, ↓reduceIte, hx, hy]
    refine hK _ ?_
    refine aB ?_
    refine awp_ifE (.tmp 25) rfl rfl rfl (fun h => ?_) (fun h => ?_)
    ·skip
     refine aI rfl ?_
     rw [decide_eq_false (fun q => h (by rw [← hx, ← hy, q]))]
     refine aA rfl ?_
     refine aC (Γ := aL) [4] (aD _ _) rfl rfl rfl (fun K hK => ?_)
     simp (disch := omega) only [Try.f19, go_sem, ↓reduceIte]
     refine hK _ ?_
     refine aB ?_
     refine aS rfl ?_
     refine bN (bI (dF (bN (bI ?_))))
     simp (disch := omega) only [cN, bV, bK, bQ, Try.f19, go_sem, ↓reduceIte]
    ·skip
     refine aI rfl ?_
     refine aQ rfl ?_
     refine bU (aB ?_)
     refine aC (Γ := aL) [0, 1, 5] (aD _ _) rfl rfl rfl (fun K hK => ?_)
     simp (disch := omega) only [Try.f19, go_sem, Nat.reduceAdd, ↓reduceIte]
     refine hK _ ?_
     refine bT ?_
     refine ⟨⟨k + 1, _⟩, ⟨by simp only; omega, hnx (by first | exact h | exact Decidable.not_not.1 h)⟩, by simp only; omega, bD ?_ rfl (Nat.le_refl _)⟩
     simp only [Int.natCast_add, Int.natCast_one]
   ·skip
    refine aI rfl ?_
    refine bF 0 rfl rfl ?_
    refine aY (aZ (bE ?_))
    refine aB ?_
    refine aA rfl ?_
    obtain rfl : k = a.length := by omega
    rw [List.take_length, hab, List.take_length] at he
    rw [decide_eq_true he]
    refine aC (Γ := aL) [4] (aD _ _) rfl rfl rfl (fun K hK => ?_)
    simp (disch := omega) only [Try.f19, go_sem, ↓reduceIte]
    refine hK _ ?_
    refine aB ?_
    refine aS rfl ?_
    simp (disch := omega) only [cN, bV, bK, bQ, Try.f19, go_sem, ↓reduceIte]
 ·cases hg
theorem ok19 : bX Try.prog GLh 19 (.pure true nameEG) := ⟨⟨_, Try.func19, rfl, rfl⟩, nameE_ok⟩
end Go.AX
namespace Go.AX
open Go Go.Proofs
def soaEG : List AV → Option AV
 | [.agg [.sl n0 xs0, .sl n1 xs1, .w32 u2, .w32 u3, .w32 u4, .w32 u5, .w32 u6], .agg [.sl m0 ys0, .sl m1 ys1, .w32 v2, .w32 v3, .w32 v4, .w32 v5, .w32 v6]] => aK (unS xs0) fun p0 => aK (unS ys0) fun q0 => aK (unS xs1) fun p1 => aK (unS ys1) fun q1 => aN (p0 = q0 ∧ p0.length = n0 ∧ q0.length = m0 ∧ n0 ≤ 1000000 ∧ p1 = q1 ∧ p1.length = n1 ∧ q1.length = m1 ∧ n1 ≤ 1000000 ∧ u2 = v2 ∧ u3 = v3 ∧ u4 = v4 ∧ u5 = v5 ∧ u6 = v6) (some (.b true))
 | _ => none
theorem soaEG_eq (n0 : Nat) (xs0 : List AV) (n1 : Nat) (xs1 : List AV) (u2 : BitVec 32) (u3 : BitVec 32) (u4 : BitVec 32) (u5 : BitVec 32) (u6 : BitVec 32) (m0 : Nat) (ys0 : List AV) (m1 : Nat) (ys1 : List AV) (v2 : BitVec 32) (v3 : BitVec 32) (v4 : BitVec 32) (v5 : BitVec 32) (v6 : BitVec 32) : soaEG [.agg [.sl n0 xs0, .sl n1 xs1, .w32 u2, .w32 u3, .w32 u4, .w32 u5, .w32 u6], .agg [.sl m0 ys0, .sl m1 ys1, .w32 v2, .w32 v3, .w32 v4, .w32 v5, .w32 v6]] = aK (unS xs0) fun p0 => aK (unS ys0) fun q0 => aK (unS xs1) fun p1 => aK (unS ys1) fun q1 => aN (p0 = q0 ∧ p0.length = n0 ∧ q0.length = m0 ∧ n0 ≤ 1000000 ∧ p1 = q1 ∧ p1.length = n1 ∧ q1.length = m1 ∧ n1 ≤ 1000000 ∧ u2 = v2 ∧ u3 = v3 ∧ u4 = v4 ∧ u5 = v5 ∧ u6 = v6) (some (.b true)) := (rfl)
attribute [go_sem] soaEG_eq
set_option maxHeartbeats 8000000 in
theorem soaE_ok : cL Try.prog GLh 21 soaEG := by
 refine cC Try.func21 (aT rfl) ?_
 intro args r hg
 unfold soaEG at hg
 split at hg
 ·rename_i n0 xs0 n1 xs1 u2 u3 u4 u5 u6 m0 ys0 m1 ys1 v2 v3 v4 v5 v6
  replace hg := aJ hg; obtain ⟨p0, hp0, hg⟩ := hg
  replace hg := aJ hg; obtain ⟨q0, hq0, hg⟩ := hg
  replace hg := aJ hg; obtain ⟨p1, hp1, hg⟩ := hg
  replace hg := aJ hg; obtain ⟨q1, hq1, hg⟩ := hg
  replace hg := aP hg; obtain ⟨⟨rfl, rfl, rfl, hn0, rfl, rfl, rfl, hn1, rfl, rfl, rfl, rfl, rfl⟩, hg⟩ := hg
  obtain rfl := Option.some.inj hg
  have := gT hp0; subst this
  have := gT hq0; subst this
  have := gT hp1; subst this
  have := gT hq1; subst this
  clear hg
  refine ⟨Nat.le_of_ble_eq_true rfl, fun nx => ?_⟩
  refine aA rfl ?_
  refine aC (Γ := aL) [2, 3] (aD _ _) rfl rfl rfl (fun K hK => ?_)
  simp (disch := omega) only [Try.f21, go_sem, Nat.reduceAdd, ↓reduceIte]
  refine hK _ ?_
  refine aB ?_
  refine aA rfl ?_
  refine aC (Γ := bC [(19, .pure true nameEG)]) [4] (aH ok19 aO) rfl rfl rfl (fun K hK => ?_)
  simp (maxSteps := 300000) (disch := omega) only [Try.f21, go_sem, Nat.reduceAdd, Nat.reduceLT, ↓reduceIte]
  refine hK _ ?_
  refine aB ?_
  refine aS rfl ?_
  simp (disch := omega) only [cN, bV, bK, bQ, Try.f21, go_sem, ↓reduceIte]
 ·cases hg
theorem ok21 : bX Try.prog GLh 21 (.pure true soaEG) := ⟨⟨_, Try.func21, rfl, rfl⟩, soaE_ok⟩
def sigEG : List AV → Option AV
 | [.agg [.w16 u0, .w8 u1, .w8 u2, .w32 u3, .w32 u4, .w32 u5, .w16 u6, .sl n7 xs7, .sl n8 xs8], .agg [.w16 v0, .w8 v1, .w8 v2, .w32 v3, .w32 v4, .w32 v5, .w16 v6, .sl m7 ys7, .sl m8 ys8]] => aK (unS xs7) fun p7 => aK (unS ys7) fun q7 => aK (cI xs8) fun p8 => aK (cI ys8) fun q8 => aN (u0 = v0 ∧ u1 = v1 ∧ u2 = v2 ∧ u3 = v3 ∧ u4 = v4 ∧ u5 = v5 ∧ u6 = v6 ∧ p7 = q7 ∧ p7.length = n7 ∧ q7.length = m7 ∧ n7 ≤ 1000000 ∧ p8 = q8 ∧ p8.length = n8 ∧ q8.length = m8 ∧ n8 ≤ 1000000) (some (.b true))
 | _ => none
theorem sigEG_eq (u0 : BitVec 16) (u1 : B8) (u2 : B8) (u3 : BitVec 32) (u4 : BitVec 32) (u5 : BitVec 32) (u6 : BitVec 16) (n7 : Nat) (xs7 : List AV) (n8 : Nat) (xs8 : List AV) (v0 : BitVec 16) (v1 : B8) (v2 : B8) (v3 : BitVec 32) (v4 : BitVec 32) (v5 : BitVec 32) (v6 : BitVec 16) (m7 : Nat) (ys7 : List AV) (m8 : Nat) (ys8 : List AV) : sigEG [.agg [.w16 u0, .w8 u1, .w8 u2, .w32 u3, .w32 u4, .w32 u5, .w16 u6, .sl n7 xs7, .sl n8 xs8], .agg [.w16 v0, .w8 v1, .w8 v2, .w32 v3, .w32 v4, .w32 v5, .w16 v6, .sl m7 ys7, .sl m8 ys8]] = aK (unS xs7) fun p7 => aK (unS ys7) fun q7 => aK (cI xs8) fun p8 => aK (cI ys8) fun q8 => aN (u0 = v0 ∧ u1 = v1 ∧ u2 = v2 ∧ u3 = v3 ∧ u4 = v4 ∧ u5 = v5 ∧ u6 = v6 ∧ p7 = q7 ∧ p7.length = n7 ∧ q7.length = m7 ∧ n7 ≤ 1000000 ∧ p8 = q8 ∧ p8.length = n8 ∧ q8.length = m8 ∧ n8 ≤ 1000000) (some (.b true)) := (rfl)
attribute [go_sem] sigEG_eq
set_option maxHeartbeats 8000000 in
theorem sigE_ok : cL Try.prog GLh 25 sigEG := by
 refine cC Try.func25 (aT rfl) ?_
 intro args r hg
 unfold sigEG at hg
 split at hg
 ·rename_i u0 u1 u2 u3 u4 u5 u6 n7 xs7 n8 xs8 v0 v1 v2 v3 v4 v5 v6 m7 ys7 m8 ys8
  replace hg := aJ hg; obtain ⟨p7, hp7, hg⟩ := hg
  replace hg := aJ hg; obtain ⟨q7, hq7, hg⟩ := hg
  replace hg := aJ hg; obtain ⟨p8, hp8, hg⟩ := hg
  replace hg := aJ hg; obtain ⟨q8, hq8, hg⟩ := hg
  replace hg := aP hg; obtain ⟨⟨rfl, rfl, rfl, rfl, rfl, rfl, rfl, rfl, rfl, rfl, hn7, rfl, rfl, rfl, hn8⟩, hg⟩ := hg
  obtain rfl := Option.some.inj hg
  have := gT hp7; subst this
  have := gT hq7; subst this
  have := bW hp8; subst this
  have := bW hq8; subst this
  clear hg
  refine ⟨Nat.le_of_ble_eq_true rfl, fun nx => ?_⟩
  refine aA rfl ?_
  refine aC (Γ := aL) [2, 3] (aD _ _) rfl rfl rfl (fun K hK => ?_)
  simp (disch := omega) only [Try.f25, go_sem, Nat.reduceAdd, ↓reduceIte]
  refine hK _ ?_
  refine aB ?_
  refine aA rfl ?_
  refine aC (Γ := bC [(19, .pure true nameEG)]) [4] (aH ok19 aO) rfl rfl rfl (fun K hK => ?_)
  simp (maxSteps := 300000) (disch := omega) only [Try.f25, go_sem, Nat.reduceAdd, Nat.reduceLT, ↓reduceIte]
  refine hK _ ?_
  refine aB ?_
  refine aS rfl ?_
  simp (disch := omega) only [cN, bV, bK, bQ, Try.f25, go_sem, ↓reduceIte]
 ·cases hg
theorem ok25 : bX Try.prog GLh 25 (.pure true sigEG) := ⟨⟨_, Try.func25, rfl, rfl⟩, sigE_ok⟩
def chnEG : List AV → Option AV
 | [.agg [.w8 u0, .w8 u1, .w16 u2, .sl n3 xs3, .sl n4 xs4, .sl n5 xs5], .agg [.w8 v0, .w8 v1, .w16 v2, .sl m3 ys3, .sl m4 ys4, .sl m5 ys5]] => aK (cI xs3) fun p3 => aK (cI ys3) fun q3 => aK (cI xs4) fun p4 => aK (cI ys4) fun q4 => aK (unA xs5) fun p5 => aK (unA ys5) fun q5 => aN (u0 = v0 ∧ u1 = v1 ∧ u2 = v2 ∧ p3 = q3 ∧ p3.length = n3 ∧ q3.length = m3 ∧ n3 ≤ 1000000 ∧ p4 = q4 ∧ p4.length = n4 ∧ q4.length = m4 ∧ n4 ≤ 1000000 ∧ p5 = q5 ∧ p5.length = n5 ∧ q5.length = m5 ∧ n5 ≤ 1000000) (some (.b true))
 | _ => none
theorem chnEG_eq (u0 : B8) (u1 : B8) (u2 : BitVec 16) (n3 : Nat) (xs3 : List AV) (n4 : Nat) (xs4 : List AV) (n5 : Nat) (xs5 : List AV) (v0 : B8) (v1 : B8) (v2 : BitVec 16) (m3 : Nat) (ys3 : List AV) (m4 : Nat) (ys4 : List AV) (m5 : Nat) (ys5 : List AV) : chnEG [.agg [.w8 u0, .w8 u1, .w16 u2, .sl n3 xs3, .sl n4 xs4, .sl n5 xs5], .agg [.w8 v0, .w8 v1, .w16 v2, .sl m3 ys3, .sl m4 ys4, .sl m5 ys5]] = aK (cI xs3) fun p3 => aK (cI ys3) fun q3 => aK (cI xs4) fun p4 => aK (cI ys4) fun q4 => aK (unA xs5) fun p5 => aK (unA ys5) fun q5 => aN (u0 = v0 ∧ u1 = v1 ∧ u2 = v2 ∧ p3 = q3 ∧ p3.length = n3 ∧ q3.length = m3 ∧ n3 ≤ 1000000 ∧ p4 = q4 ∧ p4.length = n4 ∧ q4.length = m4 ∧ n4 ≤ 1000000 ∧ p5 = q5 ∧ p5.length = n5 ∧ q5.length = m5 ∧ n5 ≤ 1000000) (some (.b true)) := (rfl)
attribute [go_sem] chnEG_eq
set_option maxHeartbeats 8000000 in
theorem chnE_ok : cL Try.prog GLh 29 chnEG := by
 refine cC Try.func29 (aT rfl) ?_
 intro args r hg
 unfold chnEG at hg
 split at hg
 ·rename_i u0 u1 u2 n3 xs3 n4 xs4 n5 xs5 v0 v1 v2 m3 ys3 m4 ys4 m5 ys5
  replace hg := aJ hg; obtain ⟨p3, hp3, hg⟩ := hg
  replace hg := aJ hg; obtain ⟨q3, hq3, hg⟩ := hg
  replace hg := aJ hg; obtain ⟨p4, hp4, hg⟩ := hg
  replace hg := aJ hg; obtain ⟨q4, hq4, hg⟩ := hg
  replace hg := aJ hg; obtain ⟨p5, hp5, hg⟩ := hg
  replace hg := aJ hg; obtain ⟨q5, hq5, hg⟩ := hg
  replace hg := aP hg; obtain ⟨⟨rfl, rfl, rfl, rfl, rfl, rfl, hn3, rfl, rfl, rfl, hn4, rfl, rfl, rfl, hn5⟩, hg⟩ := hg
  obtain rfl := Option.some.inj hg
  have := bW hp3; subst this
  have := bW hq3; subst this
  have := bW hp4; subst this
  have := bW hq4; subst this
  have := gU hp5; subst this
  have := gU hq5; subst this
  clear hg
  refine ⟨Nat.le_of_ble_eq_true rfl, fun nx => ?_⟩
  refine aA rfl ?_
  refine aC (Γ := aL) [2, 3] (aD _ _) rfl rfl rfl (fun K hK => ?_)
  simp (disch := omega) only [Try.f29, go_sem, Nat.reduceAdd, ↓reduceIte]
  refine hK _ ?_
  refine aB ?_
  refine aA rfl ?_
  refine aC (Γ := bC [(11, .pure true beqG), (63, .pure true typG)]) [4] (aH ok11 (aH ok63 aO)) rfl rfl rfl (fun K hK => ?_)
  simp (maxSteps := 300000) (disch := omega) only [Try.f29, go_sem, Nat.reduceAdd, Nat.reduceLT, ↓reduceIte, iA]
  refine hK _ ?_
  refine aB ?_
  refine aS rfl ?_
  simp (disch := omega) only [cN, bV, bK, bQ, Try.f29, go_sem, ↓reduceIte]
 ·cases hg
theorem ok29 : bX Try.prog GLh 29 (.pure true chnEG) := ⟨⟨_, Try.func29, rfl, rfl⟩, chnE_ok⟩
def keyEG : List AV → Option AV
 | [.agg [.w16 u0, .w8 u1, .w8 u2, .sl n3 xs3], .agg [.w16 v0, .w8 v1, .w8 v2, .sl m3 ys3]] => aK (cI xs3) fun p3 => aK (cI ys3) fun q3 => aN (u0 = v0 ∧ u1 = v1 ∧ u2 = v2 ∧ p3 = q3 ∧ p3.length = n3 ∧ q3.length = m3 ∧ n3 ≤ 1000000) (some (.b true))
 | _ => none
theorem keyEG_eq (u0 : BitVec 16) (u1 : B8) (u2 : B8) (n3 : Nat) (xs3 : List AV) (v0 : BitVec 16) (v1 : B8) (v2 : B8) (m3 : Nat) (ys3 : List AV) : keyEG [.agg [.w16 u0, .w8 u1, .w8 u2, .sl n3 xs3], .agg [.w16 v0, .w8 v1, .w8 v2, .sl m3 ys3]] = aK (cI xs3) fun p3 => aK (cI ys3) fun q3 => aN (u0 = v0 ∧ u1 = v1 ∧ u2 = v2 ∧ p3 = q3 ∧ p3.length = n3 ∧ q3.length = m3 ∧ n3 ≤ 1000000) (some (.b true)) := (rfl)
attribute [go_sem] keyEG_eq
set_option maxHeartbeats 8000000 in
theorem keyE_ok : cL Try.prog GLh 33 keyEG := by
 refine cC Try.func33 (aT rfl) ?_
 intro args r hg
 unfold keyEG at hg
 split at hg
 ·rename_i u0 u1 u2 n3 xs3 v0 v1 v2 m3 ys3
  replace hg := aJ hg; obtain ⟨p3, hp3, hg⟩ := hg
  replace hg := aJ hg; obtain ⟨q3, hq3, hg⟩ := hg
  replace hg := aP hg; obtain ⟨⟨rfl, rfl, rfl, rfl, rfl, rfl, hn3⟩, hg⟩ := hg
  obtain rfl := Option.some.inj hg
  have := bW hp3; subst this
  have := bW hq3; subst this
  clear hg
  refine ⟨Nat.le_of_ble_eq_true rfl, fun nx => ?_⟩
  refine aA rfl ?_
  refine aC (Γ := aL) [2, 3] (aD _ _) rfl rfl rfl (fun K hK => ?_)
  simp (disch := omega) only [Try.f33, go_sem, Nat.reduceAdd, ↓reduceIte]
  refine hK _ ?_
  refine aB ?_
  refine aA rfl ?_
  refine aC (Γ := bC [(11, .pure true beqG)]) [4] (aH ok11 aO) rfl rfl rfl (fun K hK => ?_)
  simp (disch := omega) only [Try.f33, go_sem, Nat.reduceAdd, Nat.reduceLT, ↓reduceIte, iA]
  refine hK _ ?_
  refine aB ?_
  refine aS rfl ?_
  simp (disch := omega) only [cN, bV, bK, bQ, Try.f33, go_sem, ↓reduceIte]
 ·cases hg
theorem ok33 : bX Try.prog GLh 33 (.pure true keyEG) := ⟨⟨_, Try.func33, rfl, rfl⟩, keyE_ok⟩
end Go.AX
namespace Go.AX
open Go Go.Proofs
def chnB (h f : B8) (it : BitVec 16) (salt next : List B8) (ty : List T16) : List B8 := [h, f] ++ b2 it ++ eF [salt, next] ++ bmL (eA ty)
def chnBG : List AV → Option (Nat × Nat × List AV)
 | [.agg [.w8 h, .w8 f, .w16 it, .sl n xs, .sl m ys, .sl k zs]] => aK (cI xs) fun salt => aK (cI ys) fun next => aK (unA zs) fun ty => aN (salt.length = n ∧ next.length = m ∧ ty.length = k ∧ n ≤ 100000 ∧ m ≤ 100000 ∧ k ≤ 100000 ∧ (bmL (eA ty)).length ≤ 1000000) (some ((chnB h f it salt next ty).length, 1, c8 (chnB h f it salt next ty)))
 | _ => none
theorem chnBG_eq (h f : B8) (it : BitVec 16) (n m k : Nat) (xs ys zs : List AV) : chnBG [.agg [.w8 h, .w8 f, .w16 it, .sl n xs, .sl m ys, .sl k zs]] = aK (cI xs) fun salt => aK (cI ys) fun next => aK (unA zs) fun ty => aN (salt.length = n ∧ next.length = m ∧ ty.length = k ∧ n ≤ 100000 ∧ m ≤ 100000 ∧ k ≤ 100000 ∧ (bmL (eA ty)).length ≤ 1000000) (some ((chnB h f it salt next ty).length, 1, c8 (chnB h f it salt next ty))) := (rfl)
attribute [go_sem] chnBG_eq
set_option maxHeartbeats 4000000 in
theorem chnB_ok : dH Try.prog GLh 30 chnBG := by
 refine cT Try.func30 (aT rfl) ?_
 intro args r hg
 unfold chnBG at hg
 split at hg
 ·rename_i h f it n xs m ys k zs
  replace hg := aJ hg; obtain ⟨salt, h1, hg⟩ := hg
  replace hg := aJ hg; obtain ⟨next, h2, hg⟩ := hg
  replace hg := aJ hg; obtain ⟨ty, h3, hg⟩ := hg
  replace hg := aP hg; obtain ⟨⟨rfl, rfl, rfl, l1, l2, l3, l4⟩, hg⟩ := hg
  obtain rfl := Option.some.inj hg
  have := bW h1; subst this
  have := bW h2; subst this
  have := gU h3; subst this
  clear hg h1 h2 h3
  refine ⟨Nat.le_of_ble_eq_true rfl, fun nx => ?_⟩
  obtain ⟨ps, hps⟩ : ∃ ps, ps = [salt, next] := ⟨_, rfl⟩
  have hpl : ps.length = 2 := by rw [hps]; rfl
  have hun : cI [AV.w8 h, .w8 f] = some [h, f] := rfl
  refine aA rfl ?_
  refine aC (Γ := aL) [1] (aD _ _) rfl rfl rfl (fun K hK => ?_)
  simp (disch := omega) only [Try.f30, go_sem, Nat.reduceAdd, ↓reduceIte]
  refine hK _ ?_
  refine aB ?_
  refine awp_rp 1 nx 0 rfl (by simp only [aV, if_true]; rfl) ?_
  refine aA rfl ?_
  refine aC (Γ := bC [(53, .heap putH)]) [1, 3] (aH ok53h aO) rfl rfl rfl (fun K hK => ?_)
  simp (disch := omega) only [Try.f30, go_sem, Nat.reduceAdd, Nat.reduceMul, Nat.reduceLeDiff, Nat.reduceLT, Int.reduceLE, Int.reduceToNat, ↓reduceIte, hun, tag2b, List.length_cons, List.length_nil]
  refine hK _ ?_
  refine aB ?_
  refine aA rfl ?_
  refine aA rfl ?_
  refine aC (Γ := aL) [1, 3, 19, 20, 21] (aD _ _) rfl rfl rfl (fun K hK => ?_)
  simp (disch := omega) only [Try.f30, go_sem, Nat.reduceAdd, Nat.reduceLeDiff, Nat.reduceLT, ↓reduceIte]
  refine hK _ ?_
  refine aB ?_
  refine awp_sl 19 (nx + 2 + 10 + 4 + 30 + 4 + 4) 0 2 1 rfl (by simp (disch := omega) only [aV, ↓reduceIte]; rfl) (Nat.le_of_ble_eq_true rfl) ?_
  refine fF [1, 3, 19, 20, 21] ?_
  simp only [iB, fU, eB, ↓reduceIte, Nat.reduceEqDiff]
  obtain ⟨B, hB⟩ : ∃ B, h :: f :: b2 it = B := ⟨_, rfl⟩
  have hBl : B.length = 4 := by rw [← hB]; rfl
  have hso : chnB h f it salt next ty = B ++ eF ps ++ bmL (eA ty) := by rw [← hB, hps]; rfl
  rw [hso, hB]
  refine awp_hp (hp' := upd (fun _ => none) (nx + 2 + 10 + 4 + 15 + 10) (.cells (c8 B) true)) (fun j o h => ?_) ?_
  ·skip
   exact bS (by simp (disch := omega) only [aV, bY, ↓reduceIte, eq_self]) (cB) j o h
  have hwm : ∀ k, (ps.getD k []).length ≤ (eF ps).length := fun k => wirB_mem ps k
  have hwl : (eF ps).length ≤ 200002 := by rw [hps, gX, gX, wirB_nil, List.length_nil]; omega
  refine aR 0 rfl rfl ?_
  refine bR (fun p : KIC => { fr := [(1, .rp [.w8 h, .w8 f, .w16 it, .sl salt.length (c8 salt), .sl next.length (c8 next), .sl ty.length (c16 ty)]), (3, .os p.id 0 (4 + (eF (ps.take p.k)).length) 1 true), (19, .sl ps.length (cP ps)), (20, .i ps.length), (21, .i p.k)], hp := upd (fun _ => none) p.id (.cells (c8 (B ++ eF (ps.take p.k))) true), nx := 0, cx := p.c }) (fun p => p.k ≤ ps.length ∧ p.id < p.c) (fun p => ps.length - p.k) rfl ⟨⟨0, nx + 2 + 10 + 4 + 15 + 10, _⟩, ⟨Nat.zero_le _, by simp only; omega⟩, bD (by rw [hps]; rfl) (by simp only [List.take_zero, wirB_nil, List.append_nil]) (Nat.le_refl _)⟩ ?_
  rintro ⟨k, id, c⟩ ⟨hk, hid⟩ n0
  simp only at hk hid ⊢
  refine aA rfl ?_
  refine aC (Γ := aL) [22, 1, 3, 19, 20, 21] (aD _ _) rfl rfl rfl (fun K hK => ?_)
  simp (disch := omega) only [Try.f30, go_sem, ↓reduceIte]
  refine hK _ ?_
  refine aB ?_
  refine aA rfl ?_
  refine aW (.tmp 22) rfl rfl rfl (fun h => ?_) (fun h => ?_)
  ·skip
   refine aI rfl ?_
   have hkl : k < ps.length := by omega
   have ht := wirB_tk ps k
   have hm := hwm k
   obtain ⟨l, hl⟩ : ∃ l, ps.getD k [] = l := ⟨_, rfl⟩
   have e6 : B ++ eF (ps.take (k + 1)) = B ++ eF (ps.take k) ++ [BitVec.ofInt 8 (l.length : Int)] ++ l := by rw [wirB_take ps k hkl, hl]; simp [labL]
   have e7 : (eF (ps.take (k + 1))).length = (eF (ps.take k)).length + 1 + l.length := by rw [wirB_take ps k hkl, hl]; simp [labL]; omega
   rw [hl] at hm
   obtain ⟨b, hb⟩ : ∃ b, eF (ps.take k) = b := ⟨_, rfl⟩
   rw [hb] at ht e6 e7 ⊢
   refine aQ rfl ?_
   refine aB ?_
   refine aA rfl ?_
   refine aR 1 rfl rfl ?_
   refine aA rfl ?_
   refine aC (Γ := aL) [1, 3, 5, 19, 20, 21] (aD _ _) rfl rfl rfl (fun K hK => ?_)
   simp (disch := omega) only [Try.f30, go_sem, Nat.reduceAdd, ↓reduceIte, hl]
   refine hK _ ?_
   refine aB ?_
   refine aC (Γ := aL) [1, 3, 19, 20, 21] (aD _ _) rfl rfl rfl (fun K hK => ?_)
   simp (disch := omega) only [Try.f30, go_sem, Nat.reduceAdd, Nat.reduceLeDiff, Nat.reduceLT, ↓reduceIte, hBl]
   refine hK _ ?_
   refine bU (aB ?_)
   refine aC (Γ := aL) [1, 3, 19, 20, 21] (aD _ _) rfl rfl rfl (fun K hK => ?_)
   simp (disch := omega) only [Try.f30, go_sem, Nat.reduceAdd, ↓reduceIte]
   refine hK _ ?_
   refine bT ?_
   refine ⟨⟨k + 1, c + 1 + 3 + 7, _⟩, ⟨by simp only; omega, by simp only; omega⟩, by simp only; omega, ⟨fun _ => .inr ?_, fun j o h => ?_, Nat.le_refl _⟩⟩
   ·simp only [e7, Int.natCast_add, Int.natCast_one, Nat.add_assoc]
   ·simp only at h
    exact bS (by simp (disch := omega) only [aV, ↓reduceIte, eq_self, e6]) (cB) j o h
  ·skip
   refine aI rfl ?_
   refine bF 0 rfl rfl ?_
   refine aY (aZ (bE ?_))
   refine aB ?_
   refine aA rfl ?_
   obtain rfl : k = ps.length := by omega
   have e8 : ps.take ps.length = ps := List.take_length
   have e9 : (B ++ eF ps ++ bmL (eA ty)).length = 4 + (eF ps).length + (bmL (eA ty)).length := by rw [List.length_append, List.length_append, hBl]
   have e10 : (B ++ eF ps).length = 4 + (eF ps).length := by rw [List.length_append, hBl]
   refine aC (Γ := bC [(64, .fresh true bmG)]) [2] (aH ok64 aO) rfl rfl rfl (fun K hK => ?_)
   simp (disch := omega) only [Try.f30, go_sem, Nat.reduceAdd, Nat.reduceLT, ↓reduceIte, e8, hBl]
   refine hK _ ?_
   refine aB ?_
   refine aS rfl ?_
   simp (disch := omega) only [fE, eO, bV, bK, bQ, Try.f30, go_sem, ↓reduceIte, fQ, e9]
 ·cases hg
theorem ok30 : bX Try.prog GLh 30 (.fresh true chnBG) := ⟨⟨_, Try.func30, rfl, rfl⟩, chnB_ok⟩
end Go.AX
